/- Joined texts: ModelA ModelB Plain Wq PV PT. -/
import Derived.Test.YtilaieogabgamaaGreatDoorU9
import Derived.Test.YtilaieogabgamaaGreatDoorU1
import Derived.Test.YtilaieogabgamaaGreatDoorU6
section
open _root_.Int renaming tdiv->ajo,tmod->ajL
open _root_.Go.IntKind renaming i64->ai3,u64->ajd
namespace Go.Proofs.YtilaieogabgamaaGreatDoor
open Go Go.RowKit
noncomputable section
set_option maxRecDepth 100000
set_option linter.unusedVariables false
def M.cH(N:Nat)(a0:aa.den)(a1:List af.den)(a2:eo.den):Option (af.den×Int):=
((M.eZ N a0).bind fun y2=>
(if(!y2)then
some true
else
(M.cV N a0.1).bind fun y3=>
some (!decide ((a1.length:Int)=y3))):Option Bool).bind fun j1=>
(if j1 then
some ((0,(0,0)),2)
else
(M.fh N a0 a2).bind fun y4=>
(if(!y4)then
some ((0,(0,0)),6)
else
((M.dS N a1).bind fun y6=>
(if(!y6)then
some true
else
(M.fZ N a0 a1 a2).bind fun y7=>
some (!y7)):Option Bool).bind fun j5=>
(if j5 then
some ((0,(0,0)),8)
else
(M.gf N a0 a1 a2).bind fun y8=>
(if(!decide (y8.2=0))then
some ((0,(0,0)),y8.2)
else
(M.dg N y8.1).bind fun y9=>
(if(!y9)then
some ((0,(0,0)),3)
else
some (y8.1,0))))))
def S93(N:Nat):bp:=⟨⟨[(0, .g aa),(1, .l (.slice af)),(2, .g eo)],[],[],0⟩,⟨[(0, .g af),(1, .l ae)],[],[],0⟩,fun(x:aa.den×(List af.den)×eo.den)=>M.cH N x.1 x.2.1 x.2.2⟩
theorem W93(N:Nat):aq Tryz.prog 93 (S93 N):=fw (en [ck (Nb N),ck (Zx N),ck (Zz N),ck (ZC N),ck (ZO N),ck (aaM N),ck (KH N)] false false) (N:=N) (.o (.two (.meet ⟨[(20, .l .bool)],[],[],64⟩ .nil .nil) (.o (.two (.meet ⟨[(36, .l .bool)],[],[],128⟩ .nil .nil) .nil)))) Tryz.func93 (by kernel_rfl) fun x=>by kernel_rfl
def M.eP(N:Nat)(a0:aa.den):Option (af.den×Bool):=
bJ (J:=Unit) (R:=af.den×Bool) ((if(decide (a0.1=1))then
some (.inr ((1,(0,a0.2)),true))
else
(if(decide (a0.1=2))then
some (.inr ((2,(0,a0.2)),true))
else
(if(decide (a0.1=3))then
some (.inr ((3,(0,a0.2)),true))
else
(if(decide (a0.1=4))then
some (.inr ((4,(0,a0.2)),true))
else
(if(decide (a0.1=5))then
some (.inr ((5,(0,a0.2)),true))
else
(if(decide (a0.1=6))then
((if(decide (0<=a0.2))then
some (decide (a0.2<128))
else
some false):Option Bool).bind fun j2=>
(if j2 then
some (.inr ((6,(ai3.wrap (ajo a0.2 16),ajL a0.2 16)),true))
else
some (.inl ()))
else
some (.inl ())))))))) fun j1=>
some ((0,(0,0)),false)
def aaN(N:Nat):bp:=⟨⟨[(0, .g aa)],[],[],0⟩,⟨[(0, .g af),(1, .l .bool)],[],[],0⟩,fun(x:aa.den)=>M.eP N x⟩
theorem aaO(N:Nat):aq Tryz.prog 235 (aaN N):=fw (en [] false false) (N:=N) (.o (.two (.o (.join ⟨[],[],[],80⟩ (.o (.o (.o (.o (.o (.o (.o (.o (.o (.o (.o (.two (.meet ⟨[(40, .l .bool)],[],[],272⟩ .nil .nil) .nil)))))))))))) .nil)) .nil)) Tryz.func235 (by kernel_rfl) fun x=>by kernel_rfl
def M.fF(N:Nat)(a0:af.den):Option (aa.den):=
(if(decide (a0.1=1))then
some (1,a0.2.2)
else
(if(decide (a0.1=2))then
some (2,a0.2.2)
else
(if(decide (a0.1=3))then
some (3,a0.2.2)
else
(if(decide (a0.1=4))then
some (4,a0.2.2)
else
(if(decide (a0.1=5))then
some (5,a0.2.2)
else
some (6,ai3.wrap ((ai3.wrap (16*a0.2.1))+a0.2.2)))))))
def aaP(N:Nat):bp:=⟨⟨[(0, .g af)],[],[],0⟩,⟨[(0, .g aa)],[],[],0⟩,fun(x:af.den)=>M.fF N x⟩
theorem aaQ(N:Nat):aq Tryz.prog 236 (aaP N):=fw (en [] false false) (N:=N) .nil Tryz.func236 (by kernel_rfl) fun x=>by kernel_rfl
def M.gr(N:Nat)(a0:List aa.den)(a1:Int):Option (aa.den×Int×Bool):=
(idx a0 a1).bind fun x1=>
(M.cT N x1.1).bind fun y2=>
(if y2 then
some ((0,0),0,false)
else
(M.cV N x1.1).bind fun y3=>
((if(decide (y3<1))then
some true
else
some (decide (a1<y3))):Option Bool).bind fun j4=>
(if j4 then
some ((0,0),0,false)
else
bJ (J:=List af.den) (R:=aa.den×Int×Bool) ((eR a0 (ai3.wrap (a1-y3)) a1).bind fun l6=>
Loop (S:=Int×List af.den) (X:=(List af.den)⊕(aa.den×Int×Bool)) (fun s7=>
(if(decide (s7.1<(l6.length:Int)))then
(idx l6 s7.1).bind fun x8=>
(M.eP N x8).bind fun y9=>
(if(!y9.2)then
some (.inr (.inr ((0,0),0,false)))
else
(bR s7.2 ([y9.1]:List af.den)).bind fun xj=>
some (.inl (ai3.wrap (s7.1+1),xj)))
else
some (.inr (.inl s7.2)))) N (0,([]:List af.den))) fun j5=>
bJ (J:=Unit) (R:=aa.den×Int×Bool) (Loop (S:=Int) (X:=Unit⊕(aa.den×Int×Bool)) (fun rG=>
(if(decide (rG<(a0.length:Int)))then
(idx a0 rG).bind fun pU=>
((M.cT N pU.1).bind fun BN=>
(if BN then
(if(decide ((ai3.wrap (a1-y3))<pU.2))then
some (decide (pU.2<=a1))
else
some false)
else
some false):Option Bool).bind fun FB=>
(if FB then
some (.inr (.inr ((0,0),0,false)))
else
some (.inl (ai3.wrap (rG+1))))
else
some (.inr (.inl ())))) N 0) fun CP=>
(M.cH N x1 j5 (0,(([]:List af.den),(([]:List af.den),(([]:List (List af.den)),(([]:List aa.den),([]:List ax.den))))))).bind fun IJ=>
(if(!decide (IJ.2=0))then
some ((0,0),0,false)
else
(M.fF N IJ.1).bind fun wL=>
some (wL,y3,true))))
def aaR(N:Nat):bp:=⟨⟨[(0, .l (.slice aa)),(1, .l ae)],[],[],0⟩,⟨[(0, .g aa),(1, .l ae),(2, .l .bool)],[],[],0⟩,fun(x:(List aa.den)×Int)=>M.gr N x.1 x.2⟩
theorem aaS(N:Nat):aq Tryz.prog 195 (aaR N):=fw (en [ck (Nb N),ck (W93 N),ck (KG N),ck (aaO N),ck (aaQ N)] false false) (N:=N) (.o (.o (.o (.o (.two (.meet ⟨[(35, .l .bool)],[],[],256⟩ .nil .nil) (.o (.join ⟨[(9, .val false (.own 272))],[(272, .own 67 af)],[],273⟩ (.o (.two (.loop ⟨[(9, .val false (.own 400)),(44, .l ae)],[(400, .own 67 af)],[],401⟩ .nil) .nil)) (.join ⟨[],[],[],273⟩ (.o (.two (.loop ⟨[(63, .l ae)],[],[],321⟩ (.o (.o (.two (.two (.o (.meet ⟨[(83, .l .bool)],[],[],401⟩ .nil .nil)) .nil) .nil)))) .nil)) .nil)))))))) Tryz.func195 (by kernel_rfl) fun x=>by kernel_rfl
def M.dG(N:Nat)(a0:List aa.den)(a1:Int)(a2:Int)(a3:aa.den):Option (List aa.den):=
(eR a0 0 (ai3.wrap (a1-a2))).bind fun l1=>
(bR ([]:List aa.den) l1).bind fun l2=>
(bR l2 ([a3]:List aa.den)).bind fun l3=>
(eR a0 (ai3.wrap (a1+1)) (a0.length:Int)).bind fun l4=>
(bR l3 l4).bind fun l5=>
Loop (S:=Int×List aa.den) (X:=List aa.den) (fun s6=>
(if(decide (s6.1<(l5.length:Int)))then
((idx s6.2 s6.1).bind fun x8=>
((M.cT N x8.1).bind fun ox=>
(if ox then
some (decide (a1<x8.2))
else
some false):Option Bool).bind fun j9=>
(if j9 then
(idx s6.2 s6.1).bind fun ow=>
(idx s6.2 s6.1).bind fun rF=>
some (aT s6.2 s6.1 (rF.1,ai3.wrap (ow.2-a2)))
else
some s6.2):Option (List aa.den)).bind fun j7=>
some (.inl (ai3.wrap (s6.1+1),j7))
else
some (.inr s6.2))) N (0,l5)
def aaT(N:Nat):bp:=⟨⟨[(0, .l (.slice aa)),(1, .l ae),(2, .l ae),(3, .g aa)],[],[],0⟩,⟨[(0, .val false (.own 0))],[(0, .own 55 aa)],[],1⟩,fun(x:(List aa.den)×Int×Int×aa.den)=>M.dG N x.1 x.2.1 x.2.2.1 x.2.2.2⟩
theorem aaU(N:Nat):aq Tryz.prog 196 (aaT N):=fw (en [ck (KG N)] false false) (N:=N) (.o (.o (.o (.o (.o (.two (.o (.two (.loop ⟨[(31, .l ae)],[(336, .own 55 aa)],[],417⟩ (.o (.o (.two (.meet ⟨[],[(336, .own 55 aa)],[],434⟩ (.o (.meet ⟨[(44, .l .bool)],[],[],529⟩ .nil .nil)) .nil) .nil)))) .nil)) .nil)))))) Tryz.func196 (by kernel_rfl) fun x=>by kernel_rfl
def M.dh(N:Nat)(a0:List aa.den):Option (List aa.den):=
bJ (J:=List aa.den) (R:=List aa.den) ((M.aj N a0).bind fun y1=>
(M.dR N a0).bind fun y2=>
(if(!y2)then
some (.inr y1)
else
some (.inl y1)):Option ((List aa.den)⊕(List aa.den))) fun s3=>
Loop (S:=List aa.den) (X:=List aa.den) (fun s4=>
bJ (J:=List aa.den) (R:=(List aa.den)⊕(List aa.den)) (Loop (S:=Int×List aa.den) (X:=(List aa.den)⊕((List aa.den)⊕(List aa.den))) (fun s6=>
(if(decide (s6.1<(s4.length:Int)))then
(M.gr N s6.2 s6.1).bind fun y7=>
(if y7.2.2 then
(M.dG N s6.2 s6.1 y7.2.1 y7.1).bind fun y8=>
some (.inr (.inr (.inl y8)))
else
some (.inl (ai3.wrap (s6.1+1),s6.2)))
else
some (.inr (.inl s6.2)))) N (0,s4)) fun j5=>
some (.inr j5)) N s3
def Ue(N:Nat):bp:=⟨⟨[(0, .l (.slice aa))],[],[],0⟩,⟨[(0, .val false (.own 0))],[(0, .own 55 aa)],[],1⟩,fun(x:List aa.den)=>M.dh N x⟩
theorem aaV(N:Nat):aq Tryz.prog 136 (Ue N):=KB (E:=(en [ck (Nc N),ck (QF N),ck (aaS N),ck (aaU N)] false false)) (N:=N) (l:=0) (L:=⟨[(3, .val false (.own 16))],[(16, .own 55 aa)],[],17⟩) (a0:= .nil) (a1:=(.o (.two .nil .nil))) (a2:=(.join ⟨[(3, .val false (.own 16))],[(16, .own 55 aa)],[],18⟩ (.o (.two (.loop ⟨[(3, .val false (.own 16)),(16, .l ae)],[(16, .own 55 aa)],[],66⟩ .nil) .nil)) .nil)) (sg:=Ue N) (c:=Tryz.f136.body.getD .skip) (rs:=Tryz.f136.results.toList) Tryz.func136 (by kernel_rfl) (by kernel_rfl) rfl rfl rfl rfl (fun x=>by kernel_rfl)
def M.gD(N:Nat)(a0:List aa.den):Option (List aa.den):=
(M.dh N a0).bind fun y1=>
(M.dL N y1).bind fun y2=>
(M.cG N y2).bind fun y3=>
some y3
def S70(N:Nat):bp:=⟨⟨[(0, .l (.slice aa))],[],[],0⟩,⟨[(0, .val false (.own 0))],[(0, .own 55 aa)],[],1⟩,fun(x:List aa.den)=>M.gD N x⟩
theorem W70(N:Nat):aq Tryz.prog 70 (S70 N):=fw (en [ck (Zt N),ck (Zv N),ck (aaV N)] false false) (N:=N) .nil Tryz.func70 (by kernel_rfl) fun x=>by kernel_rfl
def M.bB(N:Nat)(a0:List aa.den):Option (List aa.den):=
(if(decide ((a0.length:Int)=0))then
some ([]:List aa.den)
else
(M.iy N a0).bind fun y1=>
(M.gD N y1.2).bind fun y2=>
some y2)
def S39(N:Nat):bp:=⟨⟨[(0, .l (.slice aa))],[],[],0⟩,⟨[(0, .val false (.own 0))],[(0, .own 55 aa)],[],1⟩,fun(x:List aa.den)=>M.bB N x⟩
theorem W39(N:Nat):aq Tryz.prog 39 (S39 N):=fw (en [ck (W69 N),ck (W70 N)] false false) (N:=N) .nil Tryz.func39 (by kernel_rfl) fun x=>by kernel_rfl
def M.bV(N:Nat)(a0:cn.den)(a1:Int)(a2:Int):Option ((List aN.den)×(List Int)×(List (List aa.den))×List (List aa.den)):=
(idx a0.2.2 a1).bind fun x1=>
(M.cZ N x1).bind fun y2=>
(M.dl N a0 a2).bind fun y3=>
(idx y3.2.2 a1).bind fun x4=>
(Loop (S:=Int×(List aN.den)×(List Int)×(List (List aa.den))×List (List aa.den)) (X:=(List aN.den)×(List Int)×(List (List aa.den))×List (List aa.den)) (fun s6=>
(if(decide (s6.1<(x4.2.2.2.2.length:Int)))then
(idx x4.2.2.2.2 s6.1).bind fun x7=>
(M.bB N x7.2.2.2.2.2.1).bind fun y8=>
(bR s6.2.2.2.1 ([y8]:List (List aa.den))).bind fun l9=>
(M.bB N x7.2.2.2.2.2.2.1).bind fun ox=>
(bR s6.2.2.2.2 ([ox]:List (List aa.den))).bind fun HM=>
some (.inl (ai3.wrap (s6.1+1),s6.2.1,s6.2.2.1,l9,HM))
else
some (.inr (s6.2.1,s6.2.2.1,s6.2.2.2.1,s6.2.2.2.2)))) N (0,x4.2.2.2.2,y2.2,([]:List (List aa.den)),([]:List (List aa.den))):Option ((List aN.den)×(List Int)×(List (List aa.den))×List (List aa.den))).bind fun j5=>
some (j5.1,j5.2.1,j5.2.2.1,j5.2.2.2)
def S19(N:Nat):bp:=⟨⟨[(0, .g cn),(1, .l ae),(2, .l ae)],[],[],0⟩,⟨[(0, .val true (.pair (.own 0) (.pair (.leaf (.slice aN)) (.pair (.own 1) (.own 2)))))],[(0, .own 3 ae),(1, .own 56 (.slice aa)),(2, .own 56 (.slice aa))],[],3⟩,fun(x:cn.den×Int×Int)=>M.bV N x.1 x.2.1 x.2.2⟩
theorem W19(N:Nat):aq Tryz.prog 19 (S19 N):=fw (en [ck (W37 N),ck (W38 N),ck (W39 N)] false false) (N:=N) (.o (.o (.o (.o (.meet ⟨[],[(32, .box 34 (.pair (.own 128) (.pair (.leaf (.slice aN)) (.pair (.own 384) (.own 385))))),(128, .own 3 ae),(384, .own 56 (.slice aa)),(385, .own 56 (.slice aa))],[],388⟩ (.o (.two (.loop ⟨[(32, .l ae)],[(32, .box 34 (.pair (.own 128) (.pair (.leaf (.slice aN)) (.pair (.own 448) (.own 449))))),(128, .own 3 ae),(448, .own 56 (.slice aa)),(449, .own 56 (.slice aa))],[],452⟩ .nil) .nil)) .nil))))) Tryz.func19 (by kernel_rfl) fun x=>by kernel_rfl
def M.bL(N:Nat)(a0:cn.den)(a1:Int)(a2:Int):Option ((List aN.den)×Int×(List Int)×(List (List aa.den))×List (List aa.den)):=
(M.ix N a0).bind fun y1=>
(if(!decide (y1.1=0))then
some (([]:List aN.den),1,([]:List Int),([]:List (List aa.den)),([]:List (List aa.den)))
else
((if(decide (a1<0))then
some true
else
some (decide ((a0.2.2.length:Int)<=a1))):Option Bool).bind fun j2=>
(if j2 then
some (([]:List aN.den),6,([]:List Int),([]:List (List aa.den)),([]:List (List aa.den)))
else
((if(decide (a2<0))then
some true
else
some (decide (109572<a2))):Option Bool).bind fun j3=>
(if j3 then
some (([]:List aN.den),3,([]:List Int),([]:List (List aa.den)),([]:List (List aa.den)))
else
(M.bV N a0 a1 a2).bind fun y4=>
some (y4.1,0,y4.2.1,y4.2.2.1,y4.2.2.2))))
def S8(N:Nat):bp:=⟨⟨[(0, .g cn),(1, .l ae),(2, .l ae)],[],[],0⟩,⟨[(0, .val true (.pair (.own 0) (.pair (.leaf (.slice aN)) (.pair (.own 1) (.own 2))))),(1, .l ae)],[(0, .own 3 ae),(1, .own 56 (.slice aa)),(2, .own 56 (.slice aa))],[],3⟩,fun(x:cn.den×Int×Int)=>M.bL N x.1 x.2.1 x.2.2⟩
theorem W8(N:Nat):aq Tryz.prog 8 (S8 N):=fw (en [ck (W18 N),ck (W19 N)] false false) (N:=N) (.o (.o (.two (.meet ⟨[(23, .l .bool)],[],[],160⟩ .nil .nil) (.two (.meet ⟨[(30, .l .bool)],[],[],160⟩ .nil .nil) .nil)))) Tryz.func8 (by kernel_rfl) fun x=>by kernel_rfl
def M.lK(N:Nat)(a0:List aa.den):Option (List az.den):=
some ([((⟨#[104,111,117,115,101]⟩:ByteArray),((-1),(([((⟨#[97]⟩:ByteArray),(3,0))]:List aJ.den),(([((⟨#[100]⟩:ByteArray),(3,0))]:List aJ.den),([((⟨#[98,97,115,101]⟩:ByteArray),(0,((-1),(0,((0,109573),(([]:List aa.den),(a0,ByteArray.empty)))))))]:List aN.den)))))]:List az.den)
def S12(N:Nat):bp:=⟨⟨[(0, .l (.slice aa))],[],[],0⟩,⟨[(0, .val true (.pair .nil (.pair .nil (.own 0))))],[(0, .own 51 az)],[],1⟩,fun(x:List aa.den)=>M.lK N x⟩
theorem W12(N:Nat):aq Tryz.prog 12 (S12 N):=fw (en [] false false) (N:=N) .nil Tryz.func12 (by kernel_rfl) fun x=>by kernel_rfl
def M.jn(N:Nat)(a0:List aa.den)(a1:List aa.den):Option Bool:=
(if(!decide ((a0.length:Int)=(a1.length:Int)))then
some false
else
Loop (S:=Int) (X:=Bool) (fun s1=>
((if(decide (s1<(a0.length:Int)))then
some (decide (s1<(a1.length:Int)))
else
some false):Option Bool).bind fun j2=>
(if j2 then
(idx a0 s1).bind fun x3=>
(idx a1 s1).bind fun x4=>
(if(!(nh aa x3 x4))then
some (.inr false)
else
some (.inl (ai3.wrap (s1+1))))
else
some (.inr true))) N 0)
def S13(N:Nat):bp:=⟨⟨[(0, .l (.slice aa)),(1, .l (.slice aa))],[],[],0⟩,⟨[(0, .l .bool)],[],[],0⟩,fun(x:(List aa.den)×List aa.den)=>M.jn N x.1 x.2⟩
theorem W13(N:Nat):aq Tryz.prog 13 (S13 N):=fw (en [] false false) (N:=N) (.o (.o (.two (.o (.two (.loop ⟨[(5, .l ae)],[],[],112⟩ (.two (.meet ⟨[(20, .l .bool)],[],[],112⟩ .nil .nil) .nil)) .nil)) .nil))) Tryz.func13 (by kernel_rfl) fun x=>by kernel_rfl
def M.ig(N:Nat)(a0:cn.den)(a1:List af.den)(a2:List aJ.den):Option (Int×Int):=
(if(decide ((a1.length:Int)<(a2.length:Int)))then
some ((a1.length:Int),5)
else
(if(decide ((a2.length:Int)<(a1.length:Int)))then
some ((a2.length:Int),4)
else
Loop (S:=Int) (X:=Int×Int) (fun s1=>
(if(decide (s1<(a1.length:Int)))then
(idx a1 s1).bind fun x2=>
(idx a2 s1).bind fun x3=>
((if(!decide (x2.1=x3.2.1))then
some true
else
some (!decide (x2.2.1=x3.2.2))):Option Bool).bind fun j4=>
(if j4 then
some (.inr (s1,8))
else
(M.fe N x3.2 a0.1).bind fun y5=>
((if(decide (x2.2.2<y5.1))then
some true
else
some (decide (y5.2<x2.2.2))):Option Bool).bind fun j6=>
(if j6 then
some (.inr (s1,3))
else
some (.inl (ai3.wrap (s1+1)))))
else
some (.inr (0,0)))) N 0))
def S48(N:Nat):bp:=⟨⟨[(0, .g cn),(1, .l (.slice af)),(2, .l (.slice aJ))],[],[],0⟩,⟨[(0, .l ae),(1, .l ae)],[],[],0⟩,fun(x:cn.den×(List af.den)×List aJ.den)=>M.ig N x.1 x.2.1 x.2.2⟩
theorem W48(N:Nat):aq Tryz.prog 48 (S48 N):=fw (en [ck (XS N)] false false) (N:=N) (.o (.o (.o (.two (.o (.two (.loop ⟨[(29, .l ae)],[],[],256⟩ (.o (.o (.two (.two (.o (.o (.two (.meet ⟨[(50, .l .bool)],[],[],480⟩ .nil .nil) (.o (.meet ⟨[(68, .l .bool)],[],[],624⟩ .nil .nil))))) .nil) .nil)))) .nil)) .nil)))) Tryz.func48 (by kernel_rfl) fun x=>by kernel_rfl
def M.kG(N:Nat)(a0:cn.den)(a1:Int):Option ((List aJ.den)×Int):=
(idx a0.2.2 a1).bind fun x1=>
((if(decide (x1.2.1<0))then
some true
else
some (decide ((a0.2.2.length:Int)<=x1.2.1))):Option Bool).bind fun j2=>
(if j2 then
some (([]:List aJ.den),0)
else
(idx a0.2.2 x1.2.1).bind fun x3=>
some (x3.2.2.1,8))
def S49(N:Nat):bp:=⟨⟨[(0, .g cn),(1, .l ae)],[],[],0⟩,⟨[(0, .l (.slice aJ)),(1, .l ae)],[],[],0⟩,fun(x:cn.den×Int)=>M.kG N x.1 x.2⟩
theorem W49(N:Nat):aq Tryz.prog 49 (S49 N):=fw (en [] false false) (N:=N) (.o (.o (.two (.meet ⟨[(21, .l .bool)],[],[],160⟩ .nil .nil) .nil))) Tryz.func49 (by kernel_rfl) fun x=>by kernel_rfl
def M.mI(N:Nat)(a0:cn.den)(a1:Int)(a2:tN.den):Option (Int×Int×Int):=
((if(decide (a1<0))then
some true
else
some (decide ((a0.2.2.length:Int)<=a1))):Option Bool).bind fun j1=>
(if j1 then
some ((-1),(-1),6)
else
((if(decide (a2.1<0))then
some true
else
some (decide (109572<a2.1))):Option Bool).bind fun j2=>
(if j2 then
some ((-1),(-1),3)
else
(idx a0.2.2 a1).bind fun x3=>
(M.ig N a0 a2.2.1 x3.2.2.1).bind fun y4=>
(if(!decide (y4.2=0))then
some ((-1),y4.1,y4.2)
else
(M.kG N a0 a1).bind fun y5=>
(if(decide (y5.2<(a2.2.2.length:Int)))then
some (y5.2,(-1),4)
else
Loop (S:=Int) (X:=Int×Int×Int) (fun s6=>
(if(decide (s6<(a2.2.2.length:Int)))then
(idx a2.2.2 s6).bind fun x7=>
(M.ig N a0 x7 y5.1).bind fun y8=>
(if(!decide (y8.2=0))then
some (.inr (s6,y8.1,y8.2))
else
some (.inl (ai3.wrap (s6+1))))
else
some (.inr (0,0,0)))) N 0))))
def S27(N:Nat):bp:=⟨⟨[(0, .g cn),(1, .l ae),(2, .g tN)],[],[],0⟩,⟨[(0, .l ae),(1, .l ae),(2, .l ae)],[],[],0⟩,fun(x:cn.den×Int×tN.den)=>M.mI N x.1 x.2.1 x.2.2⟩
theorem W27(N:Nat):aq Tryz.prog 27 (S27 N):=fw (en [ck (W48 N),ck (W49 N)] false false) (N:=N) (.o (.two (.meet ⟨[(25, .l .bool)],[],[],80⟩ .nil .nil) (.two (.meet ⟨[(33, .l .bool)],[],[],80⟩ .nil .nil) (.o (.o (.o (.two (.o (.two (.loop ⟨[(66, .l ae)],[],[],624⟩ .nil) .nil)) .nil))))))) Tryz.func27 (by kernel_rfl) fun x=>by kernel_rfl
def M.jA(N:Nat)(a0:aN.den)(a1:Int)(a2:Int):Option (Bool×Int×Int):=
((if(decide (a0.2.1=a1))then
(M.bn N a0.2.2.2.2.1 a2).bind fun y2=>
some y2
else
some false):Option Bool).bind fun j1=>
some (j1,a1,a2)
def Uf(N:Nat):bp:=⟨⟨[(0, .g aN),(1, .ptr 0 [] 0),(2, .ptr 1 [] 0)],[(0, .box 3 (.leaf ae)),(1, .box 3 (.leaf ae))],[],2⟩,⟨[(0, .l .bool)],[(0, .box 3 (.leaf ae)),(1, .box 3 (.leaf ae))],[],4⟩,fun(x:aN.den×Int×Int)=>M.jA N x.1 x.2.1 x.2.2⟩
theorem Ug(N:Nat):aq Tryz.prog 85 (Uf N):=fw (en [ck (RZ N)] false false) (N:=N) (.o (.meet ⟨[(4, .l .bool)],[],[],34⟩ .nil .nil)) Tryz.func85 (by kernel_rfl) fun x=>by kernel_rfl
def M.kc(N:Nat)(a0:List aN.den)(a1:Int)(a2:Int):Option (Int×Int×(List Int)×List Int):=
(mV (a0.length:Int) 0).bind fun l1=>
Loop (S:=Int×Int×Int×(List Int)×(List Int)×List Int) (X:=Int×Int×(List Int)×List Int) (fun s2=>
(if(decide (s2.1<(a0.length:Int)))then
((idx a0 s2.1).bind fun x4=>
(((if(decide (0<=x4.2.2.1))then
some (decide (x4.2.2.1<s2.1))
else
some false):Option Bool).bind fun j6=>
(if j6 then
(idx s2.2.2.2.1 x4.2.2.1).bind fun x7=>
some x7
else
some (-1)):Option Int).bind fun j5=>
(idx s2.2.2.2.1 s2.1).bind fun x8=>
(M.jA N x4 s2.2.1 s2.2.2.1).bind fun y9=>
(if y9.1 then
(idx (aT s2.2.2.2.1 s2.1 j5) s2.1).bind fun tO=>
(bR s2.2.2.2.2.1 ([s2.1]:List Int)).bind fun HM=>
(bR s2.2.2.2.2.2 ([j5]:List Int)).bind fun FA=>
some (y9.2.1,y9.2.2,aT (aT s2.2.2.2.1 s2.1 j5) s2.1 (s2.2.2.2.2.1.length:Int),HM,FA)
else
some (y9.2.1,y9.2.2,aT s2.2.2.2.1 s2.1 j5,s2.2.2.2.2.1,s2.2.2.2.2.2)):Option (Int×Int×(List Int)×(List Int)×List Int)).bind fun j3=>
some (.inl (ai3.wrap (s2.1+1),j3.1,j3.2.1,j3.2.2.1,j3.2.2.2.1,j3.2.2.2.2))
else
some (.inr (s2.2.1,s2.2.2.1,s2.2.2.2.2.1,s2.2.2.2.2.2)))) N (0,a1,a2,l1,([]:List Int),([]:List Int))
def Uh(N:Nat):bp:=⟨⟨[(0, .l (.slice aN)),(1, .fn 85 [(0,[],0),(1,[],0)])],[(0, .box 3 (.leaf ae)),(1, .box 3 (.leaf ae))],[],2⟩,⟨[(0, .val false (.own 2)),(1, .val false (.own 3))],[(0, .box 3 (.leaf ae)),(1, .box 3 (.leaf ae)),(2, .own 3 ae),(3, .own 3 ae)],[],6⟩,fun(x:(List aN.den)×Int×Int)=>M.kc N x.1 x.2.1 x.2.2⟩
theorem Ui(N:Nat):aq Tryz.prog 84 (Uh N):=fw (en [ck (Ug N)] false false) (N:=N) (.o (.o (.o (.two (.o (.two (.loop ⟨[(6, .val false (.own 178)),(7, .val false (.own 179)),(17, .l ae)],[(0, .box 3 (.leaf ae)),(1, .box 3 (.leaf ae)),(98, .own 3 ae),(178, .own 3 ae),(179, .own 3 ae)],[],183⟩ (.o (.o (.two (.meet ⟨[(6, .val false (.own 199)),(7, .val false (.own 200))],[(0, .box 3 (.leaf ae)),(1, .box 3 (.leaf ae)),(98, .own 3 ae),(199, .own 3 ae),(200, .own 3 ae)],[178,179],204⟩ (.o (.o (.meet ⟨[(11, .l ae)],[],[],311⟩ (.meet ⟨[(30, .l .bool)],[],[],311⟩ .nil .nil) .nil))) .nil) .nil)))) .nil)) .nil)))) Tryz.func84 (by kernel_rfl) fun x=>by kernel_rfl
def M.mJ(N:Nat)(a0:az.den)(a1:Int)(a2:Int):Option (List Int):=
(M.kc N a0.2.2.2.2 a1 a2).bind fun y1=>
some y1.2.2.1
def S50(N:Nat):bp:=⟨⟨[(0, .g az),(1, .l ae),(2, .l ae)],[],[],0⟩,⟨[(0, .val false (.own 0))],[(0, .own 3 ae)],[],1⟩,fun(x:az.den×Int×Int)=>M.mJ N x.1 x.2.1 x.2.2⟩
theorem W50(N:Nat):aq Tryz.prog 50 (S50 N):=fw (en [ck (Ui N)] false false) (N:=N) .nil Tryz.func50 (by kernel_rfl) fun x=>by kernel_rfl
def M.dZ(N:Nat)(a0:cn.den)(a1:Int)(a2:Int):Option (bh.den):=
(idx a0.2.2 a1).bind fun x1=>
(M.bV N a0 a1 a2).bind fun y2=>
(Loop (S:=Int×(List Int)×(List (List aa.den))×(List (List aa.den))×az.den×(List aN.den)×List Int) (X:=(List Int)×(List (List aa.den))×(List (List aa.den))×az.den×(List aN.den)×List Int) (fun s4=>
(if(decide (s4.1<(x1.2.2.2.1.length:Int)))then
(M.mJ N s4.2.2.2.2.1 s4.1 a2).bind fun y5=>
(bR s4.2.2.2.2.2.2 y5).bind fun l6=>
some (.inl (ai3.wrap (s4.1+1),s4.2.1,s4.2.2.1,s4.2.2.2.1,s4.2.2.2.2.1,s4.2.2.2.2.2.1,l6))
else
some (.inr (s4.2.1,s4.2.2.1,s4.2.2.2.1,s4.2.2.2.2.1,s4.2.2.2.2.2.1,s4.2.2.2.2.2.2)))) N (0,y2.2.1,y2.2.2.1,y2.2.2.2,x1,y2.1,([]:List Int)):Option ((List Int)×(List (List aa.den))×(List (List aa.den))×az.den×(List aN.den)×List Int)).bind fun j3=>
(M.bM N j3.2.2.2.2.2).bind fun y7=>
some (j3.2.2.2.1,((j3.1,(j3.2.2.2.2.1,(j3.2.1,j3.2.2.1))),y7))
def S28(N:Nat):bp:=⟨⟨[(0, .g cn),(1, .l ae),(2, .l ae)],[],[],0⟩,⟨[(0, .at bh)],[],[],0⟩,fun(x:cn.den×Int×Int)=>M.dZ N x.1 x.2.1 x.2.2⟩
theorem W28(N:Nat):aq Tryz.prog 28 (S28 N):=fw (en [ck (W19 N),ck (Vm N),ck (W50 N)] false false) (N:=N) (.o (.o (.meet ⟨[],[(160, .own 3 ae),(161, .own 56 (.slice aa)),(162, .own 56 (.slice aa)),(192, .box 102 (.pair (.leaf az) (.pair (.pair (.own 160) (.pair (.leaf (.slice aN)) (.pair (.own 161) (.own 162)))) (.own 224)))),(224, .own 3 ae)],[],229⟩ (.o (.two (.loop ⟨[(26, .l ae)],[(160, .own 3 ae),(161, .own 56 (.slice aa)),(162, .own 56 (.slice aa)),(192, .box 102 (.pair (.leaf az) (.pair (.pair (.own 160) (.pair (.leaf (.slice aN)) (.pair (.own 161) (.own 162)))) (.own 336)))),(336, .own 3 ae)],[],341⟩ .nil) .nil)) .nil))) Tryz.func28 (by kernel_rfl) fun x=>by kernel_rfl
def M.nF(N:Nat)(a0:Int):Option Bool:=
((if(decide (a0=50))then
some true
else
(if(decide (a0=52))then
some true
else
some (decide (a0=53)))):Option Bool).bind fun j1=>
some j1
def S91(N:Nat):bp:=⟨⟨[(0, .l ae)],[],[],0⟩,⟨[(0, .l .bool)],[],[],0⟩,fun(x:Int)=>M.nF N x⟩
theorem W91(N:Nat):aq Tryz.prog 91 (S91 N):=fw (en [] false false) (N:=N) (.o (.meet ⟨[(2, .l .bool)],[],[],16⟩ .nil .nil)) Tryz.func91 (by kernel_rfl) fun x=>by kernel_rfl
def M.zE(N:Nat)(a0:List aa.den)(a1:eo.den):Option (af.den×Int×Int):=
(M.cJ N a0).bind fun y1=>
(if(!decide (y1.2=0))then
some ((0,(0,0)),0,1)
else
bJ (J:=Int×List af.den) (R:=af.den×Int×Int) (Loop (S:=Int×Int×List af.den) (X:=(Int×List af.den)⊕(af.den×Int×Int)) (fun s3=>
(if(decide (s3.2.1<(a0.length:Int)))then
bJ (J:=Int×Int×List af.den) (R:=(Int×Int×List af.den)⊕((Int×List af.den)⊕(af.den×Int×Int))) ((idx a0 s3.2.1).bind fun x5=>
(if(decide (x5.1=51))then
some (.inl (ai3.wrap (s3.1+1),x5.2,s3.2.2))
else
(M.nF N x5.1).bind fun y6=>
(if(!y6)then
(M.cV N x5.1).bind fun y7=>
(eR s3.2.2 (ai3.wrap ((s3.2.2.length:Int)-y7)) (s3.2.2.length:Int)).bind fun l8=>
(M.cH N x5 l8 a1).bind fun y9=>
(if(!decide (y9.2=0))then
some (.inr (.inr (.inr ((0,(0,0)),0,y9.2))))
else
(eR s3.2.2 0 (ai3.wrap ((s3.2.2.length:Int)-y7))).bind fun xj=>
(bR xj ([y9.1]:List af.den)).bind fun HM=>
some (.inl (ai3.wrap (s3.1+1),ai3.wrap (s3.2.1+1),HM)))
else
(idx s3.2.2 (ai3.wrap ((s3.2.2.length:Int)-1))).bind fun rF=>
((if(!decide (rF.1=1))then
some true
else
(if(!decide (rF.2.2=0))then
some (!decide (rF.2.2=1))
else
some false)):Option Bool).bind fun II=>
(if II then
some (.inr (.inr (.inr ((0,(0,0)),0,8))))
else
((if(decide ((decide (rF.2.2=1))=(decide (x5.1=53))))then
some x5.2
else
some (ai3.wrap (s3.2.1+1))):Option Int).bind fun FB=>
((if(!(decide ((decide (rF.2.2=1))=(decide (x5.1=53)))))then
some true
else
some (decide (x5.1=50))):Option Bool).bind fun OD=>
(if OD then
(eR s3.2.2 0 (ai3.wrap ((s3.2.2.length:Int)-1))).bind fun TH=>
some (.inl (ai3.wrap (s3.1+1),FB,TH))
else
some (.inl (ai3.wrap (s3.1+1),FB,s3.2.2))))))) fun j4=>
some (.inl (j4.1,j4.2.1,j4.2.2))
else
some (.inr (.inl (s3.1,s3.2.2))))) N (0,0,([]:List af.den))) fun j2=>
(idx j2.2 0).bind fun OE=>
some (OE,j2.1,0))
def S52(N:Nat):bp:=⟨⟨[(0, .l (.slice aa)),(1, .g eo)],[],[],0⟩,⟨[(0, .g af),(1, .l ae),(2, .l ae)],[],[],0⟩,fun(x:(List aa.den)×eo.den)=>M.zE N x.1 x.2⟩
theorem W52(N:Nat):aq Tryz.prog 52 (S52 N):=fw (en [ck (W90 N),ck (W91 N),ck (Nb N),ck (W93 N)] false false) (N:=N) (.o (.o (.o (.o (.join ⟨[(9, .val false (.own 240)),(10, .l ae)],[(240, .own 67 af)],[],241⟩ (.o (.two (.loop ⟨[(9, .val false (.own 256)),(10, .l ae),(11, .l ae)],[(256, .own 67 af)],[],257⟩ (.o (.join ⟨[(9, .val false (.own 321)),(10, .l ae),(11, .l ae)],[(321, .own 67 af)],[256],322⟩ (.o (.o (.o (.o (.o (.o (.two (.meet ⟨[(90, .l .bool)],[],[],753⟩ .nil .nil) (.o (.meet ⟨[(11, .l ae)],[],[],881⟩ .nil (.meet ⟨[(108, .l .bool)],[],[],881⟩ .nil .nil)))))))))) .nil))) .nil)) .nil))))) Tryz.func52 (by kernel_rfl) fun x=>by kernel_rfl
def M.ke(N:Nat)(a0:aN.den)(a1:Int)(a2:Int):Option (Bool×Int×Int):=
((if(decide (a0.2.1=a1))then
(M.bn N a0.2.2.2.2.1 a2).bind fun y2=>
some y2
else
some false):Option Bool).bind fun j1=>
some (j1,a1,a2)
def QS(N:Nat):bp:=⟨⟨[(0, .g aN),(1, .ptr 0 [] 0),(2, .ptr 1 [] 0)],[(0, .box 3 (.leaf ae)),(1, .box 3 (.leaf ae))],[],2⟩,⟨[(0, .l .bool)],[(0, .box 3 (.leaf ae)),(1, .box 3 (.leaf ae))],[],4⟩,fun(x:aN.den×Int×Int)=>M.ke N x.1 x.2.1 x.2.2⟩
theorem QT(N:Nat):aq Tryz.prog 154 (QS N):=fw (en [ck (RZ N)] false false) (N:=N) (.o (.meet ⟨[(4, .l .bool)],[],[],34⟩ .nil .nil)) Tryz.func154 (by kernel_rfl) fun x=>by kernel_rfl
def M.kf(N:Nat)(a0:List aN.den)(a1:Int)(a2:Int):Option (Int×Int×(List Int)×List Int):=
(mV (a0.length:Int) 0).bind fun l1=>
Loop (S:=Int×Int×Int×(List Int)×(List Int)×List Int) (X:=Int×Int×(List Int)×List Int) (fun s2=>
(if(decide (s2.1<(a0.length:Int)))then
((idx a0 s2.1).bind fun x4=>
(((if(decide (0<=x4.2.2.1))then
some (decide (x4.2.2.1<s2.1))
else
some false):Option Bool).bind fun j6=>
(if j6 then
(idx s2.2.2.2.1 x4.2.2.1).bind fun x7=>
some x7
else
some (-1)):Option Int).bind fun j5=>
(idx s2.2.2.2.1 s2.1).bind fun x8=>
(M.ke N x4 s2.2.1 s2.2.2.1).bind fun y9=>
(if y9.1 then
(idx (aT s2.2.2.2.1 s2.1 j5) s2.1).bind fun tO=>
(bR s2.2.2.2.2.1 ([s2.1]:List Int)).bind fun HM=>
(bR s2.2.2.2.2.2 ([j5]:List Int)).bind fun FA=>
some (y9.2.1,y9.2.2,aT (aT s2.2.2.2.1 s2.1 j5) s2.1 (s2.2.2.2.2.1.length:Int),HM,FA)
else
some (y9.2.1,y9.2.2,aT s2.2.2.2.1 s2.1 j5,s2.2.2.2.2.1,s2.2.2.2.2.2)):Option (Int×Int×(List Int)×(List Int)×List Int)).bind fun j3=>
some (.inl (ai3.wrap (s2.1+1),j3.1,j3.2.1,j3.2.2.1,j3.2.2.2.1,j3.2.2.2.2))
else
some (.inr (s2.2.1,s2.2.2.1,s2.2.2.2.2.1,s2.2.2.2.2.2)))) N (0,a1,a2,l1,([]:List Int),([]:List Int))
def Uj(N:Nat):bp:=⟨⟨[(0, .l (.slice aN)),(1, .fn 154 [(0,[],0),(1,[],0)])],[(0, .box 3 (.leaf ae)),(1, .box 3 (.leaf ae))],[],2⟩,⟨[(0, .val false (.own 2)),(1, .val false (.own 3))],[(0, .box 3 (.leaf ae)),(1, .box 3 (.leaf ae)),(2, .own 3 ae),(3, .own 3 ae)],[],6⟩,fun(x:(List aN.den)×Int×Int)=>M.kf N x.1 x.2.1 x.2.2⟩
theorem Uk(N:Nat):aq Tryz.prog 84 (Uj N):=fw (en [ck (QT N)] false false) (N:=N) (.o (.o (.o (.two (.o (.two (.loop ⟨[(6, .val false (.own 178)),(7, .val false (.own 179)),(17, .l ae)],[(0, .box 3 (.leaf ae)),(1, .box 3 (.leaf ae)),(98, .own 3 ae),(178, .own 3 ae),(179, .own 3 ae)],[],183⟩ (.o (.o (.two (.meet ⟨[(6, .val false (.own 199)),(7, .val false (.own 200))],[(0, .box 3 (.leaf ae)),(1, .box 3 (.leaf ae)),(98, .own 3 ae),(199, .own 3 ae),(200, .own 3 ae)],[178,179],204⟩ (.o (.o (.meet ⟨[(11, .l ae)],[],[],311⟩ (.meet ⟨[(30, .l .bool)],[],[],311⟩ .nil .nil) .nil))) .nil) .nil)))) .nil)) .nil)))) Tryz.func84 (by kernel_rfl) fun x=>by kernel_rfl
def M.nG(N:Nat)(a0:az.den)(a1:Int)(a2:Int):Option ((List Int)×(List Int)×List Int):=
(M.kf N a0.2.2.2.2 a1 a2).bind fun y1=>
(Loop (S:=Int×List Int) (X:=List Int) (fun s3=>
(if(decide (s3.1<(y1.2.2.1.length:Int)))then
(idx y1.2.2.1 s3.1).bind fun x4=>
(idx a0.2.2.2.2 x4).bind fun x5=>
(bR s3.2 ([x5.2.2.2.1]:List Int)).bind fun l6=>
some (.inl (ai3.wrap (s3.1+1),l6))
else
some (.inr s3.2))) N (0,([]:List Int)):Option (List Int)).bind fun j2=>
some (y1.2.2.1,y1.2.2.2,j2)
def S87(N:Nat):bp:=⟨⟨[(0, .g az),(1, .l ae),(2, .l ae)],[],[],0⟩,⟨[(0, .val false (.own 0)),(1, .val false (.own 1)),(2, .val false (.own 2))],[(0, .own 3 ae),(1, .own 3 ae),(2, .own 3 ae)],[],3⟩,fun(x:az.den×Int×Int)=>M.nG N x.1 x.2.1 x.2.2⟩
theorem W87(N:Nat):aq Tryz.prog 87 (S87 N):=fw (en [ck (Uk N)] false false) (N:=N) (.o (.o (.o (.meet ⟨[(11, .val false (.own 256))],[(256, .own 3 ae)],[],257⟩ (.o (.two (.loop ⟨[(11, .val false (.own 304)),(23, .l ae)],[(304, .own 3 ae)],[],305⟩ .nil) .nil)) .nil)))) Tryz.func87 (by kernel_rfl) fun x=>by kernel_rfl
def M.cmp_isNaN_int(N:Nat)(a0:Int):Option Bool:=
some (!decide (a0=a0))
def aaY(N:Nat):bp:=⟨⟨[(0, .l ae)],[],[],0⟩,⟨[(0, .l .bool)],[],[],0⟩,fun(x:Int)=>M.cmp_isNaN_int N x⟩
theorem aaZ(N:Nat):aq Tryz.prog 171 (aaY N):=fw (en [] false false) (N:=N) .nil Tryz.func171 (by kernel_rfl) fun x=>by kernel_rfl
def M.cmp_Less_int(N:Nat)(a0:Int)(a1:Int):Option Bool:=
((M.cmp_isNaN_int N a0).bind fun y2=>
(if y2 then
(M.cmp_isNaN_int N a1).bind fun y3=>
(if(!y3)then
some true
else
some (decide (a0<a1)))
else
some (decide (a0<a1))):Option Bool).bind fun j1=>
some j1
def aa0(N:Nat):bp:=⟨⟨[(0, .l ae),(1, .l ae)],[],[],0⟩,⟨[(0, .l .bool)],[],[],0⟩,fun(x:Int×Int)=>M.cmp_Less_int N x.1 x.2⟩
theorem aa1(N:Nat):aq Tryz.prog 100 (aa0 N):=fw (en [ck (aaZ N)] false false) (N:=N) (.o (.meet ⟨[(4, .l .bool)],[],[],16⟩ .nil .nil)) Tryz.func100 (by kernel_rfl) fun x=>by kernel_rfl
def M.kP(N:Nat)(a0:Int):Option Bool:=
some (!decide (a0=a0))
def aa2(N:Nat):bp:=⟨⟨[(0, .l ae)],[],[],0⟩,⟨[(0, .l .bool)],[],[],0⟩,fun(x:Int)=>M.kP N x⟩
theorem aa3(N:Nat):aq Tryz.prog 212 (aa2 N):=fw (en [] false false) (N:=N) .nil Tryz.func212 (by kernel_rfl) fun x=>by kernel_rfl
def M.gE(N:Nat)(a0:List Int)(a1:Int):Option (Int×Bool):=
(Loop (S:=Int×Int) (X:=Int) (fun s2=>
(if(decide (s2.1<s2.2))then
((idx a0 (ai3.wrap (fU .u64 (ajd.wrap (ai3.wrap (s2.1+s2.2))) 1))).bind fun x4=>
(M.cmp_Less_int N x4 a1).bind fun y5=>
(if y5 then
some (ai3.wrap ((ai3.wrap (fU .u64 (ajd.wrap (ai3.wrap (s2.1+s2.2))) 1))+1),s2.2)
else
some (s2.1,ai3.wrap (fU .u64 (ajd.wrap (ai3.wrap (s2.1+s2.2))) 1))):Option (Int×Int)).bind fun j3=>
some (.inl (j3.1,j3.2))
else
some (.inr s2.1))) N (0,(a0.length:Int)):Option Int).bind fun j1=>
((if(decide (j1<(a0.length:Int)))then
(idx a0 j1).bind fun x7=>
(if(decide (x7=a1))then
some (j1,true)
else
(idx a0 j1).bind fun x8=>
(M.kP N x8).bind fun y9=>
(if y9 then
(M.kP N a1).bind fun ox=>
some (j1,ox)
else
some (j1,false)))
else
some (j1,false)):Option (Int×Bool)).bind fun j6=>
some (j6.1,j6.2)
def aa4(N:Nat):bp:=⟨⟨[(0, .l (.slice ae)),(1, .l ae)],[],[],0⟩,⟨[(0, .l ae),(1, .l .bool)],[],[],0⟩,fun(x:(List Int)×Int)=>M.gE N x.1 x.2⟩
theorem aa5(N:Nat):aq Tryz.prog 155 (aa4 N):=fw (en [ck (aa1 N),ck (aa3 N)] false false) (N:=N) (.o (.o (.o (.meet ⟨[(7, .l ae)],[],[],128⟩ (.two (.loop ⟨[(7, .l ae),(8, .l ae)],[],[],128⟩ (.o (.meet ⟨[(7, .l ae),(8, .l ae)],[],[],176⟩ .nil .nil))) .nil) (.meet ⟨[(4, .l ae),(5, .l .bool)],[],[],128⟩ .nil .nil))))) Tryz.func155 (by kernel_rfl) fun x=>by kernel_rfl
def M.eW(N:Nat)(a0:bh.den)(a1:Int):Option Int:=
(M.gE N a0.2.2 a1).bind fun y1=>
some y1.1
def S88(N:Nat):bp:=⟨⟨[(0, .at bh),(1, .l ae)],[],[],0⟩,⟨[(0, .l ae)],[],[],0⟩,fun(x:bh.den×Int)=>M.eW N x.1 x.2⟩
theorem W88(N:Nat):aq Tryz.prog 88 (S88 N):=fw (en [ck (aa5 N)] false false) (N:=N) .nil Tryz.func88 (by kernel_rfl) fun x=>by kernel_rfl
def M.mK(N:Nat)(a0:List Int)(a1:List Int):Option Int:=
(if(!decide ((a0.length:Int)=(a1.length:Int)))then
some 2
else
(if(decide (8<(a0.length:Int)))then
some 4
else
Loop (S:=Int) (X:=Int) (fun s1=>
(if(decide (s1<(a0.length:Int)))then
(idx a0 s1).bind fun x2=>
((if(decide (x2<(-1)))then
some true
else
some (decide (s1<=x2))):Option Bool).bind fun j3=>
(if j3 then
some (.inr 9)
else
((idx a1 s1).bind fun x5=>
(if(decide (x5<0))then
some true
else
(idx a1 s1).bind fun x6=>
some (decide (9<x6))):Option Bool).bind fun j4=>
(if j4 then
some (.inr 3)
else
some (.inl (ai3.wrap (s1+1)))))
else
some (.inr 0))) N 0))
def aa6(N:Nat):bp:=⟨⟨[(0, .l (.slice ae)),(1, .l (.slice ae))],[],[],0⟩,⟨[(0, .l ae)],[],[],0⟩,fun(x:(List Int)×List Int)=>M.mK N x.1 x.2⟩
theorem aa7(N:Nat):aq Tryz.prog 156 (aa6 N):=fw (en [] false false) (N:=N) (.o (.o (.o (.two (.o (.two (.loop ⟨[(17, .l ae)],[],[],192⟩ (.o (.o (.two (.two (.o (.two (.meet ⟨[(28, .l .bool)],[],[],288⟩ .nil .nil) (.meet ⟨[(40, .l .bool)],[],[],288⟩ .nil .nil))) .nil) .nil)))) .nil)) .nil)))) Tryz.func156 (by kernel_rfl) fun x=>by kernel_rfl
def M.mL(N:Nat)(a0:List Int)(a1:Int):Option (List Int):=
Loop (S:=Int×List Int) (X:=List Int) (fun s1=>
(if(decide (s1.1<(a0.length:Int)))then
((idx a0 s1.1).bind fun x3=>
(if(decide (x3=a1))then
(bR s1.2 ([s1.1]:List Int)).bind fun l4=>
some l4
else
some s1.2):Option (List Int)).bind fun j2=>
some (.inl (ai3.wrap (s1.1+1),j2))
else
some (.inr s1.2))) N (0,([]:List Int))
def aa8(N:Nat):bp:=⟨⟨[(0, .l (.slice ae)),(1, .l ae)],[],[],0⟩,⟨[(0, .val false (.own 0))],[(0, .own 3 ae)],[],1⟩,fun(x:(List Int)×Int)=>M.mL N x.1 x.2⟩
theorem aa9(N:Nat):aq Tryz.prog 248 (aa8 N):=fw (en [] false false) (N:=N) (.o (.o (.two (.o (.two (.loop ⟨[(5, .val false (.own 80)),(10, .l ae)],[(80, .own 3 ae)],[],81⟩ (.o (.o (.two (.meet ⟨[(5, .val false (.own 97))],[(97, .own 3 ae)],[80],98⟩ .nil .nil) .nil)))) .nil)) .nil))) Tryz.func248 (by kernel_rfl) fun x=>by kernel_rfl
def M.mf(N:Nat)(a0:dK.den)(a1:Int):Option (List Int):=
(M.mL N a0.1 a1).bind fun y1=>
Loop (S:=Int×List Int) (X:=List Int) (fun s2=>
(if(decide (s2.1<(y1.length:Int)))then
((idx y1 s2.1).bind fun x4=>
(idx a0.2.2 x4).bind fun x5=>
(if(decide (x5=(-1)))then
some s2.2
else
(((if(decide (0<(s2.2.length:Int)))then
(idx a0.2.1 x4).bind fun x8=>
(idx s2.2 0).bind fun x9=>
(idx a0.2.1 x9).bind fun tO=>
some (decide (tO<x8))
else
some false):Option Bool).bind fun j7=>
(if j7 then
(eR s2.2 0 0).bind fun HM=>
some HM
else
some s2.2):Option (List Int)).bind fun j6=>
((if(decide ((j6.length:Int)=0))then
some true
else
(idx a0.2.1 x4).bind fun pU=>
(idx j6 0).bind fun r9=>
(idx a0.2.1 r9).bind fun D5=>
some (decide (pU=D5))):Option Bool).bind fun Aj=>
(if Aj then
(bR j6 ([x4]:List Int)).bind fun TH=>
some TH
else
some j6)):Option (List Int)).bind fun j3=>
some (.inl (ai3.wrap (s2.1+1),j3))
else
some (.inr s2.2))) N (0,([]:List Int))
def aba(N:Nat):bp:=⟨⟨[(0, .g dK),(1, .l ae)],[],[],0⟩,⟨[(0, .val false (.own 0))],[(0, .own 3 ae)],[],1⟩,fun(x:dK.den×Int)=>M.mf N x.1 x.2⟩
theorem abb(N:Nat):aq Tryz.prog 213 (aba N):=fw (en [ck (aa9 N)] false false) (N:=N) (.o (.o (.two (.o (.two (.loop ⟨[(5, .val false (.own 144)),(13, .l ae)],[(144, .own 3 ae)],[],145⟩ (.o (.o (.two (.meet ⟨[(5, .val false (.own 161))],[(161, .own 3 ae)],[144],162⟩ (.o (.o (.meet ⟨[(5, .val false (.own 305))],[(305, .own 3 ae)],[144],306⟩ (.meet ⟨[(40, .l .bool)],[],[],305⟩ .nil .nil) (.meet ⟨[(60, .l .bool)],[],[],306⟩ .nil .nil)))) .nil) .nil)))) .nil)) .nil))) Tryz.func213 (by kernel_rfl) fun x=>by kernel_rfl
def M.fy(N:Nat)(a0:dK.den)(a1:Int):Option Int:=
(M.mf N a0 a1).bind fun y1=>
(if(decide ((y1.length:Int)=0))then
some (-1)
else
(if(decide ((y1.length:Int)=1))then
(idx y1 0).bind fun x2=>
(idx a0.2.2 x2).bind fun x3=>
some x3
else
some (-2)))
def abc(N:Nat):bp:=⟨⟨[(0, .g dK),(1, .l ae)],[],[],0⟩,⟨[(0, .l ae)],[],[],0⟩,fun(x:dK.den×Int)=>M.fy N x.1 x.2⟩
theorem Ul(N:Nat):aq Tryz.prog 158 (abc N):=fw (en [ck (abb N)] false false) (N:=N) .nil Tryz.func158 (by kernel_rfl) fun x=>by kernel_rfl
def M.mM(N:Nat)(a0:List Int)(a1:List Int)(a2:List Bool):Option (List Int):=
(mV (a0.length:Int) 0).bind fun l1=>
Loop (S:=Int×List Int) (X:=List Int) (fun s2=>
(if(decide (0<=s2.1))then
((M.fy N (a0,(a1,s2.2)) s2.1).bind fun y4=>
(idx s2.2 s2.1).bind fun x5=>
((idx (aT s2.2 s2.1 y4) s2.1).bind fun x7=>
(if(decide (x7=(-1)))then
(idx a2 s2.1).bind fun x8=>
some x8
else
some false):Option Bool).bind fun j6=>
(if j6 then
(idx (aT s2.2 s2.1 y4) s2.1).bind fun x9=>
some (aT (aT s2.2 s2.1 y4) s2.1 s2.1)
else
some (aT s2.2 s2.1 y4)):Option (List Int)).bind fun j3=>
some (.inl (ai3.wrap (s2.1-1),j3))
else
some (.inr s2.2))) N (ai3.wrap ((a0.length:Int)-1),l1)
def abd(N:Nat):bp:=⟨⟨[(0, .l (.slice ae)),(1, .l (.slice ae)),(2, .l (.slice .bool))],[],[],0⟩,⟨[(0, .val false (.own 0))],[(0, .own 3 ae)],[],1⟩,fun(x:(List Int)×(List Int)×List Bool)=>M.mM N x.1 x.2.1 x.2.2⟩
theorem abe(N:Nat):aq Tryz.prog 157 (abd N):=fw (en [ck (Ul N)] false false) (N:=N) (.o (.o (.two (.o (.two (.loop ⟨[(8, .l ae)],[(80, .own 3 ae)],[],209⟩ (.o (.two (.meet ⟨[],[(80, .own 3 ae)],[],242⟩ (.o (.meet ⟨[(40, .l .bool)],[],[],369⟩ .nil .nil)) .nil) .nil))) .nil)) .nil))) Tryz.func157 (by kernel_rfl) fun x=>by kernel_rfl
def M.ot(N:Nat)(a0:List Int)(a1:List Int)(a2:List Bool):Option Int:=
((M.mK N a0 a1).bind fun y2=>
(if(!decide (y2=0))then
some true
else
some (!decide ((a2.length:Int)=(a0.length:Int)))):Option Bool).bind fun j1=>
(if j1 then
some (-1)
else
(M.mM N a0 a1 a2).bind fun y3=>
(M.fy N (a0,(a1,y3)) (-1)).bind fun y4=>
some y4)
def S89(N:Nat):bp:=⟨⟨[(0, .l (.slice ae)),(1, .l (.slice ae)),(2, .l (.slice .bool))],[],[],0⟩,⟨[(0, .l ae)],[],[],0⟩,fun(x:(List Int)×(List Int)×List Bool)=>M.ot N x.1 x.2.1 x.2.2⟩
theorem W89(N:Nat):aq Tryz.prog 89 (S89 N):=fw (en [ck (aa7 N),ck (abe N),ck (Ul N)] false false) (N:=N) (.o (.two (.meet ⟨[(17, .l .bool)],[],[],16⟩ .nil .nil) .nil)) Tryz.func89 (by kernel_rfl) fun x=>by kernel_rfl
def M.ef(N:Nat)(a0:bh.den)(a1:eo.den)(a2:Int)(a3:Int):Option (Int×aQ.den):=
(M.nG N a0.1 a3 a1.1).bind fun y1=>
(mV (y1.1.length:Int) false).bind fun l2=>
bJ (J:=List Bool) (R:=Int×aQ.den) (Loop (S:=Int×List Bool) (X:=(List Bool)⊕(Int×aQ.den)) (fun s4=>
(if(decide (s4.1<(y1.1.length:Int)))then
bJ (J:=List Bool) (R:=(Int×List Bool)⊕((List Bool)⊕(Int×aQ.den))) ((idx y1.1 s4.1).bind fun x6=>
(M.eW N a0 x6).bind fun y7=>
(idx a0.2.1.2.2.1 y7).bind fun x8=>
(if(decide ((x8.length:Int)=0))then
(idx s4.2 s4.1).bind fun x9=>
some (.inl (aT s4.2 s4.1 true))
else
(M.zE N x8 a1).bind fun ox=>
(if(!decide (ox.2.2=0))then
some (.inr (.inr (.inr (0,(ox.2.2,(a2,(a3,x6)))))))
else
(idx s4.2 s4.1).bind fun ow=>
some (.inl (aT s4.2 s4.1 (decide (ox.1.2.2=1))))))) fun j5=>
some (.inl (ai3.wrap (s4.1+1),j5))
else
some (.inr (.inl s4.2)))) N (0,l2)) fun j3=>
(M.ot N y1.2.1 y1.2.2 j3).bind fun pV=>
(if(decide (pV=(-1)))then
some (0,(10,(a2,(a3,(-1)))))
else
(if(decide (pV=(-2)))then
some (0,(11,(a2,(a3,(-1)))))
else
(idx y1.1 pV).bind fun pU=>
(M.eW N a0 pU).bind fun qV=>
some (qV,(0,(0,(0,0))))))
def S51(N:Nat):bp:=⟨⟨[(0, .at bh),(1, .g eo),(2, .l ae),(3, .l ae)],[],[],0⟩,⟨[(0, .l ae),(1, .g aQ)],[],[],0⟩,fun(x:bh.den×eo.den×Int×Int)=>M.ef N x.1 x.2.1 x.2.2.1 x.2.2.2⟩
theorem W51(N:Nat):aq Tryz.prog 51 (S51 N):=fw (en [ck (W52 N),ck (W87 N),ck (W88 N),ck (W89 N)] false false) (N:=N) (.o (.o (.o (.join ⟨[],[(320, .own 4 .bool)],[],353⟩ (.o (.two (.loop ⟨[(38, .l ae)],[(320, .own 4 .bool)],[],401⟩ (.o (.o (.two (.join ⟨[],[(320, .own 4 .bool)],[],418⟩ .nil .nil) .nil)))) .nil)) .nil)))) Tryz.func51 (by kernel_rfl) fun x=>by kernel_rfl
def M.jB(N:Nat)(a0:bh.den)(a1:Int)(a2:Int)(a3:List af.den)(a4:List ax.den):Option (aQ.den×Int×(List af.den)×(List ax.den)×(List Int)×List af.den):=
(mV (a0.1.2.2.2.1.length:Int) (0,(0,0))).bind fun l1=>
(mV (a0.1.2.2.2.1.length:Int) 0).bind fun l2=>
bJ (J:=(List af.den)×List Int) (R:=aQ.den×Int×(List af.den)×(List ax.den)×(List Int)×List af.den) (Loop (S:=Int×(List af.den)×List Int) (X:=((List af.den)×List Int)⊕(aQ.den×Int×(List af.den)×(List ax.den)×(List Int)×List af.den)) (fun s4=>
(if(decide (s4.1<(a0.2.1.1.length:Int)))then
(idx a0.2.1.1 s4.1).bind fun x5=>
(M.ef N a0 (a2,(a3,(s4.2.1,(([]:List (List af.den)),(([]:List aa.den),a4))))) a1 x5).bind fun y6=>
(if(!decide (y6.2.1=0))then
some (.inr (.inr (y6.2,a2,a3,a4,([]:List Int),s4.2.1)))
else
(idx a0.2.1.2.2.2 y6.1).bind fun x7=>
(M.zE N x7 (a2,(a3,(s4.2.1,(([]:List (List af.den)),(([]:List aa.den),a4)))))).bind fun y8=>
(if(!decide (y8.2.2=0))then
(idx a0.2.2 y6.1).bind fun x9=>
some (.inr (.inr ((y8.2.2,(a1,(x5,x9))),a2,a3,a4,([]:List Int),s4.2.1)))
else
(idx s4.2.1 x5).bind fun tO=>
(idx a0.2.2 y6.1).bind fun ow=>
(idx s4.2.2 x5).bind fun rF=>
some (.inl (ai3.wrap (s4.1+1),aT s4.2.1 x5 y8.1,aT s4.2.2 x5 ow))))
else
some (.inr (.inl (s4.2.1,s4.2.2))))) N (0,l1,l2)) fun j3=>
some ((0,(0,(0,0))),a2,a3,a4,j3.2,j3.1)
def Um(N:Nat):bp:=⟨⟨[(0, .at bh),(1, .ptr 0 [] 0),(2, .l ae)],[(0, .box 98 (.pair (.leaf ae) (.pair (.leaf (.slice af)) (.pair .nil (.pair .nil (.pair .nil (.leaf (.slice ax))))))))],[],1⟩,⟨[(0, .val false (.own 1)),(1, .g aQ)],[(0, .box 98 (.pair (.leaf ae) (.pair (.leaf (.slice af)) (.pair (.own 2) (.pair .nil (.pair .nil (.leaf (.slice ax)))))))),(1, .own 3 ae),(2, .own 67 af)],[],4⟩,fun(x:bh.den×Int×Int×(List af.den)×List ax.den)=>M.jB N x.1 x.2.1 x.2.2.1 x.2.2.2.1 x.2.2.2.2⟩
theorem Un(N:Nat):aq Tryz.prog 29 (Um N):=fw (en [ck (W51 N),ck (W52 N)] false false) (N:=N) (.o (.o (.o (.join ⟨[],[(145, .own 67 af),(305, .own 3 ae)],[],339⟩ (.o (.two (.loop ⟨[(39, .l ae)],[(145, .own 67 af),(305, .own 3 ae)],[],451⟩ .nil) .nil)) .nil)))) Tryz.func29 (by kernel_rfl) fun x=>by kernel_rfl
def M.jC(N:Nat)(a0:bh.den)(a1:Int)(a2:Int)(a3:List af.den)(a4:List ax.den)(a5:List (List af.den))(a6:List aa.den):Option (aQ.den×Int×(List af.den)×(List ax.den)×(List (List af.den))×(List aa.den)×(List Int)×List af.den):=
(mV (a0.1.2.2.2.1.length:Int) (0,(0,0))).bind fun l1=>
(mV (a0.1.2.2.2.1.length:Int) 0).bind fun l2=>
bJ (J:=(List af.den)×List Int) (R:=aQ.den×Int×(List af.den)×(List ax.den)×(List (List af.den))×(List aa.den)×(List Int)×List af.den) (Loop (S:=Int×(List af.den)×List Int) (X:=((List af.den)×List Int)⊕(aQ.den×Int×(List af.den)×(List ax.den)×(List (List af.den))×(List aa.den)×(List Int)×List af.den)) (fun s4=>
(if(decide (s4.1<(a0.2.1.1.length:Int)))then
(idx a0.2.1.1 s4.1).bind fun x5=>
(M.ef N a0 (a2,(a3,(s4.2.1,(a5,(a6,a4))))) a1 x5).bind fun y6=>
(if(!decide (y6.2.1=0))then
some (.inr (.inr (y6.2,a2,a3,a4,a5,a6,([]:List Int),s4.2.1)))
else
(idx a0.2.1.2.2.2 y6.1).bind fun x7=>
(M.zE N x7 (a2,(a3,(s4.2.1,(a5,(a6,a4)))))).bind fun y8=>
(if(!decide (y8.2.2=0))then
(idx a0.2.2 y6.1).bind fun x9=>
some (.inr (.inr ((y8.2.2,(a1,(x5,x9))),a2,a3,a4,a5,a6,([]:List Int),s4.2.1)))
else
(idx s4.2.1 x5).bind fun tO=>
(idx a0.2.2 y6.1).bind fun ow=>
(idx s4.2.2 x5).bind fun rF=>
some (.inl (ai3.wrap (s4.1+1),aT s4.2.1 x5 y8.1,aT s4.2.2 x5 ow))))
else
some (.inr (.inl (s4.2.1,s4.2.2))))) N (0,l1,l2)) fun j3=>
some ((0,(0,(0,0))),a2,a3,a4,a5,a6,j3.2,j3.1)
def Uo(N:Nat):bp:=⟨⟨[(0, .at bh),(1, .ptr 0 [] 0),(2, .l ae)],[(0, .box 98 (.pair (.leaf ae) (.pair (.leaf (.slice af)) (.pair .nil (.pair (.own 1) (.pair (.own 2) (.leaf (.slice ax)))))))),(1, .own 58 (.slice af)),(2, .own 45 aa)],[],3⟩,⟨[(0, .val false (.own 3)),(1, .g aQ)],[(0, .box 98 (.pair (.leaf ae) (.pair (.leaf (.slice af)) (.pair (.own 4) (.pair (.own 1) (.pair (.own 2) (.leaf (.slice ax)))))))),(1, .own 58 (.slice af)),(2, .own 45 aa),(3, .own 3 ae),(4, .own 67 af)],[],8⟩,fun(x:bh.den×Int×Int×(List af.den)×(List ax.den)×(List (List af.den))×List aa.den)=>M.jC N x.1 x.2.1 x.2.2.1 x.2.2.2.1 x.2.2.2.2.1 x.2.2.2.2.2.1 x.2.2.2.2.2.2⟩
theorem Uq(N:Nat):aq Tryz.prog 29 (Uo N):=fw (en [ck (W51 N),ck (W52 N)] false false) (N:=N) (.o (.o (.o (.join ⟨[],[(147, .own 67 af),(307, .own 3 ae)],[],341⟩ (.o (.two (.loop ⟨[(39, .l ae)],[(147, .own 67 af),(307, .own 3 ae)],[],453⟩ .nil) .nil)) .nil)))) Tryz.func29 (by kernel_rfl) fun x=>by kernel_rfl
def M.n7(N:Nat)(a0:cn.den)(a1:Int)(a2:tN.den):Option (aQ.den×(List af.den)×(List Int)×List bk.den):=
(M.ix N a0).bind fun y1=>
(if(!decide (y1.1=0))then
some ((1,((-1),((-1),(-1)))),([]:List af.den),([]:List Int),([]:List bk.den))
else
((if(decide (a1<0))then
some true
else
some (decide ((a0.2.2.length:Int)<=a1))):Option Bool).bind fun j2=>
(if j2 then
some ((6,((-1),((-1),(-1)))),([]:List af.den),([]:List Int),([]:List bk.den))
else
(M.mI N a0 a1 a2).bind fun y3=>
(if(!decide (y3.2.2=0))then
some ((y3.2.2,(y3.1,((-1),(-1)))),([]:List af.den),([]:List Int),([]:List bk.den))
else
bJ (J:=Int×(List af.den)×(List ax.den)×(List bk.den)×(List (List af.den))×List aa.den) (R:=aQ.den×(List af.den)×(List Int)×List bk.den) ((idx a0.2.2 a1).bind fun x5=>
(if(decide (0<=x5.2.1))then
(M.dZ N a0 x5.2.1 a2.1).bind fun y6=>
(Loop (S:=Int×Int×(List af.den)×(List ax.den)×List aa.den) (X:=Int×(List af.den)×(List ax.den)×List aa.den) (fun s8=>
(if(decide (s8.1<(y6.1.2.2.2.1.length:Int)))then
(idx y6.1.2.2.2.1 s8.1).bind fun x9=>
(bR s8.2.2.2.2 ([x9.2]:List aa.den)).bind fun xj=>
some (.inl (ai3.wrap (s8.1+1),s8.2.1,s8.2.2.1,s8.2.2.2.1,xj))
else
some (.inr (s8.2.1,s8.2.2.1,s8.2.2.2.1,s8.2.2.2.2)))) N (0,a2.1,a2.2.1,a0.2.1,([]:List aa.den)):Option (Int×(List af.den)×(List ax.den)×List aa.den)).bind fun j7=>
Loop (S:=Int×Int×(List af.den)×(List ax.den)×(List aa.den)×(List bk.den)×List (List af.den)) (X:=(Int×(List af.den)×(List ax.den)×(List bk.den)×(List (List af.den))×List aa.den)⊕(aQ.den×(List af.den)×(List Int)×List bk.den)) (fun qE=>
(if(decide (qE.1<(a2.2.2.length:Int)))then
(idx a2.2.2 qE.1).bind fun rF=>
(M.jB N y6 qE.1 a2.1 rF a0.2.1).bind fun BM=>
(if(!decide (BM.1.1=0))then
some (.inr (.inr (BM.1,([]:List af.den),([]:List Int),([]:List bk.den))))
else
(bR qE.2.2.2.2.2.2 ([BM.2.2.2.2.2]:List (List af.den))).bind fun l14=>
(bR qE.2.2.2.2.2.1 ([(BM.2.2.2.2.2,BM.2.2.2.2.1)]:List bk.den)).bind fun TW=>
some (.inl (ai3.wrap (qE.1+1),qE.2.1,qE.2.2.1,qE.2.2.2.1,qE.2.2.2.2.1,TW,l14)))
else
some (.inr (.inl (qE.2.1,qE.2.2.1,qE.2.2.2.1,qE.2.2.2.2.2.1,qE.2.2.2.2.2.2,qE.2.2.2.2.1))))) N (0,j7.1,j7.2.1,j7.2.2.1,j7.2.2.2,([]:List bk.den),([]:List (List af.den)))
else
some (.inl (a2.1,a2.2.1,a0.2.1,([]:List bk.den),([]:List (List af.den)),([]:List aa.den))))) fun j4=>
(M.dZ N a0 a1 a2.1).bind fun IJ=>
(M.jC N IJ (-1) j4.1 j4.2.1 j4.2.2.1 j4.2.2.2.2.1 j4.2.2.2.2.2).bind fun wL=>
(if(!decide (wL.1.1=0))then
some (wL.1,([]:List af.den),([]:List Int),([]:List bk.den))
else
some ((0,(0,(0,0))),wL.2.2.2.2.2.2.2,wL.2.2.2.2.2.2.1,j4.2.2.2.1)))))
def S14(N:Nat):bp:=⟨⟨[(0, .g cn),(1, .l ae),(2, .g tN)],[],[],0⟩,⟨[(0, .val true (.pair (.own 0) (.pair (.own 1) (.own 2)))),(1, .g aQ)],[(0, .own 67 af),(1, .own 3 ae),(2, .own 107 bk)],[],3⟩,fun(x:cn.den×Int×tN.den)=>M.n7 N x.1 x.2.1 x.2.2⟩
theorem W14(N:Nat):aq Tryz.prog 14 (S14 N):=fw (en [ck (W18 N),ck (W27 N),ck (W28 N),ck (Un N),ck (Uq N)] false false) (N:=N) (.o (.o (.two (.meet ⟨[(40, .l .bool)],[],[],176⟩ .nil .nil) (.o (.o (.o (.join ⟨[],[(384, .box 61 (.pair .nil (.pair .nil (.own 544)))),(512, .box 98 (.pair (.leaf ae) (.pair (.leaf (.slice af)) (.pair .nil (.pair (.own 545) (.pair (.own 546) (.leaf (.slice ax)))))))),(544, .own 107 bk),(545, .own 58 (.slice af)),(546, .own 45 aa)],[],549⟩ (.o (.o (.two (.o (.meet ⟨[],[(512, .box 98 (.pair (.leaf ae) (.pair (.leaf (.slice af)) (.pair .nil (.pair .nil (.pair (.own 784) (.leaf (.slice ax)))))))),(784, .own 45 aa)],[],786⟩ (.o (.two (.loop ⟨[(83, .l ae)],[(512, .box 98 (.pair (.leaf ae) (.pair (.leaf (.slice af)) (.pair .nil (.pair .nil (.pair (.own 896) (.leaf (.slice ax)))))))),(896, .own 45 aa)],[],898⟩ .nil) .nil)) (.o (.two (.loop ⟨[(98, .l ae)],[(384, .box 61 (.pair .nil (.pair .nil (.own 850)))),(512, .box 98 (.pair (.leaf ae) (.pair (.leaf (.slice af)) (.pair .nil (.pair (.own 851) (.pair (.own 784) (.leaf (.slice ax)))))))),(784, .own 45 aa),(850, .own 107 bk),(851, .own 58 (.slice af))],[],855⟩ .nil) .nil)))) .nil))) .nil))))))) Tryz.func14 (by kernel_rfl) fun x=>by kernel_rfl
def M.jD(N:Nat):Option Bool:=
(M.lK N ([(3,100),(3,200),(11,0)]:List aa.den)).bind fun y1=>
(M.bL N (([]:List bq.den),(([]:List ax.den),y1)) 0 0).bind fun y2=>
((if(!decide (y2.2.1=0))then
some true
else
(if(!decide ((y2.2.2.2.2.length:Int)=1))then
some true
else
(idx y2.2.2.2.2 0).bind fun x4=>
(M.jn N x4 ([(3,300)]:List aa.den)).bind fun y5=>
some (!y5))):Option Bool).bind fun j3=>
(if j3 then
some false
else
(M.n7 N (([]:List bq.den),(([]:List ax.den),y1)) 0 (0,(([(3,(0,0))]:List af.den),([]:List (List af.den))))).bind fun y6=>
((if(nh aQ y6.1 (0,(0,(0,0))))then
(if(decide ((y6.2.1.length:Int)=1))then
(idx y6.2.1 0).bind fun x8=>
some (nh af x8 (3,(0,300)))
else
some false)
else
some false):Option Bool).bind fun j7=>
some j7)
def S6(N:Nat):bp:=⟨⟨[],[],[],0⟩,⟨[(0, .l .bool)],[],[],0⟩,fun(x:Unit)=>M.jD N⟩
theorem W6(N:Nat):aq Tryz.prog 6 (S6 N):=fw (en [ck (W8 N),ck (W12 N),ck (W13 N),ck (W14 N)] false false) (N:=N) (.o (.o (.o (.two (.meet ⟨[(33, .l .bool)],[],[],256⟩ .nil .nil) (.o (.meet ⟨[(0, .l .bool)],[],[],448⟩ .nil .nil)))))) Tryz.func6 (by kernel_rfl) fun x=>by kernel_rfl
def M.fi(N:Nat)(a0:List aa.den):Option (List Int):=
(Loop (S:=Int×List Int) (X:=List Int) (fun s2=>
(if(decide (s2.1<(a0.length:Int)))then
((idx a0 s2.1).bind fun x4=>
(M.dc N x4).bind fun y5=>
(if y5 then
(bR s2.2 ([x4.1,x4.2]:List Int)).bind fun l6=>
some l6
else
some s2.2):Option (List Int)).bind fun j3=>
some (.inl (ai3.wrap (s2.1+1),j3))
else
some (.inr s2.2))) N (0,([]:List Int)):Option (List Int)).bind fun j1=>
(M.bM N j1).bind fun y7=>
(M.bF N y7).bind fun y8=>
some y8
def S16(N:Nat):bp:=⟨⟨[(0, .l (.slice aa))],[],[],0⟩,⟨[(0, .val false (.own 0))],[(0, .own 3 ae)],[],1⟩,fun(x:List aa.den)=>M.fi N x⟩
theorem W16(N:Nat):aq Tryz.prog 16 (S16 N):=fw (en [ck (W31 N),ck (Vm N),ck (YD N)] false false) (N:=N) (.o (.o (.meet ⟨[(3, .val false (.own 32))],[(32, .own 3 ae)],[],33⟩ (.o (.two (.loop ⟨[(3, .val false (.own 80)),(8, .l ae)],[(80, .own 3 ae)],[],81⟩ (.o (.o (.two (.meet ⟨[(3, .val false (.own 97))],[(97, .own 3 ae)],[80],98⟩ .nil .nil) .nil)))) .nil)) .nil))) Tryz.func16 (by kernel_rfl) fun x=>by kernel_rfl
def M.cU(N:Nat)(a0:List Int):Option (List Int):=pH tM a0
def Ur(N:Nat):bp:=⟨⟨[(0, .val false (.own 0)),(1, .fn 17 [])],[(0, .own 3 ae)],[],1⟩,⟨[(0, .val false (.own 1))],[(1, .own 3 ae)],[],2⟩,fun(x:List Int)=>M.cU N x⟩
theorem Us(N:Nat):aq Tryz.prog 15 (Ur N):=D4
def M.eQ(N:Nat)(a0:cn.den):Option (List Int):=
(Loop (S:=Int×List aa.den) (X:=List aa.den) (fun s2=>
(if(decide (s2.1<(a0.2.1.length:Int)))then
((idx a0.2.1 s2.1).bind fun x4=>
Loop (S:=Int×List aa.den) (X:=List aa.den) (fun s5=>
(if(decide (s5.1<(x4.2.2.2.length:Int)))then
(idx x4.2.2.2 s5.1).bind fun x6=>
(bR s5.2 ([x6.1]:List aa.den)).bind fun l7=>
some (.inl (ai3.wrap (s5.1+1),l7))
else
some (.inr s5.2))) N (0,s2.2):Option (List aa.den)).bind fun j3=>
some (.inl (ai3.wrap (s2.1+1),j3))
else
some (.inr s2.2))) N (0,([]:List aa.den)):Option (List aa.den)).bind fun j1=>
(Loop (S:=Int×List aa.den) (X:=List aa.den) (fun s9=>
(if(decide (s9.1<(a0.2.2.length:Int)))then
((idx a0.2.2 s9.1).bind fun ow=>
Loop (S:=Int×List aa.den) (X:=List aa.den) (fun rG=>
(if(decide (rG.1<(ow.2.2.2.2.length:Int)))then
(idx ow.2.2.2.2 rG.1).bind fun pU=>
(bR rG.2 ([pU.2.2.2.2.1]:List aa.den)).bind fun l14=>
some (.inl (ai3.wrap (rG.1+1),l14))
else
some (.inr rG.2))) N (0,s9.2):Option (List aa.den)).bind fun qg=>
some (.inl (ai3.wrap (s9.1+1),qg))
else
some (.inr s9.2))) N (0,j1):Option (List aa.den)).bind fun j8=>
(M.fi N j8).bind fun BN=>
(M.cU N BN).bind fun IJ=>
some IJ
def S7(N:Nat):bp:=⟨⟨[(0, .g cn)],[],[],0⟩,⟨[(0, .val false (.own 0))],[(0, .own 3 ae)],[],1⟩,fun(x:cn.den)=>M.eQ N x⟩
theorem W7(N:Nat):aq Tryz.prog 7 (S7 N):=fw (en [ck (Us N),ck (W16 N)] false false) (N:=N) (.o (.o (.meet ⟨[(3, .val false (.own 48))],[(48, .own 73 aa)],[],49⟩ (.o (.two (.loop ⟨[(3, .val false (.own 112)),(15, .l ae)],[(112, .own 73 aa)],[],113⟩ (.o (.o (.meet ⟨[(3, .val false (.own 129))],[(129, .own 73 aa)],[112],130⟩ (.two (.o (.o (.two (.loop ⟨[(3, .val false (.own 257)),(22, .l ae)],[(257, .own 73 aa)],[112],258⟩ .nil) .nil))) .nil) .nil)))) .nil)) (.meet ⟨[(3, .val false (.own 49))],[(49, .own 73 aa)],[48],50⟩ (.o (.two (.loop ⟨[(3, .val false (.own 113)),(36, .l ae)],[(113, .own 73 aa)],[48],114⟩ (.o (.o (.meet ⟨[(3, .val false (.own 130))],[(130, .own 73 aa)],[113],131⟩ (.two (.o (.o (.two (.loop ⟨[(3, .val false (.own 258)),(43, .l ae)],[(258, .own 73 aa)],[113],259⟩ .nil) .nil))) .nil) .nil)))) .nil)) .nil)))) Tryz.func7 (by kernel_rfl) fun x=>by kernel_rfl
def M.pJ(N:Nat)(a0:List Int)(a1:List Int):Option Bool:=
(if(!decide ((a0.length:Int)=(a1.length:Int)))then
some false
else
Loop (S:=Int) (X:=Bool) (fun s1=>
((if(decide (s1<(a0.length:Int)))then
some (decide (s1<(a1.length:Int)))
else
some false):Option Bool).bind fun j2=>
(if j2 then
(idx a0 s1).bind fun x3=>
(idx a1 s1).bind fun x4=>
(if(!decide (x3=x4))then
some (.inr false)
else
some (.inl (ai3.wrap (s1+1))))
else
some (.inr true))) N 0)
def S20(N:Nat):bp:=⟨⟨[(0, .l (.slice ae)),(1, .l (.slice ae))],[],[],0⟩,⟨[(0, .l .bool)],[],[],0⟩,fun(x:(List Int)×List Int)=>M.pJ N x.1 x.2⟩
theorem W20(N:Nat):aq Tryz.prog 20 (S20 N):=fw (en [] false false) (N:=N) (.o (.o (.two (.o (.two (.loop ⟨[(5, .l ae)],[],[],112⟩ (.two (.meet ⟨[(20, .l .bool)],[],[],112⟩ .nil .nil) .nil)) .nil)) .nil))) Tryz.func20 (by kernel_rfl) fun x=>by kernel_rfl
def M.pK(N:Nat)(a0:aN.den)(a1:aN.den):Option Bool:=
((if(decide (a0.1=a1.1))then
(if(decide (a0.2.1=a1.2.1))then
(if(decide (a0.2.2.1=a1.2.2.1))then
(if(decide (a0.2.2.2.1=a1.2.2.2.1))then
(if(nh aa a0.2.2.2.2.1 a1.2.2.2.2.1)then
(if(decide (a0.2.2.2.2.2.2.2=a1.2.2.2.2.2.2.2))then
(M.jn N a0.2.2.2.2.2.1 a1.2.2.2.2.2.1).bind fun y2=>
(if y2 then
(M.jn N a0.2.2.2.2.2.2.1 a1.2.2.2.2.2.2.1).bind fun y3=>
some y3
else
some false)
else
some false)
else
some false)
else
some false)
else
some false)
else
some false)
else
some false):Option Bool).bind fun j1=>
some j1
def S40(N:Nat):bp:=⟨⟨[(0, .g aN),(1, .g aN)],[],[],0⟩,⟨[(0, .l .bool)],[],[],0⟩,fun(x:aN.den×aN.den)=>M.pK N x.1 x.2⟩
theorem W40(N:Nat):aq Tryz.prog 40 (S40 N):=fw (en [ck (W13 N)] false false) (N:=N) (.o (.meet ⟨[(4, .l .bool)],[],[],48⟩ .nil .nil)) Tryz.func40 (by kernel_rfl) fun x=>by kernel_rfl
def M.n9(N:Nat)(a0:List aN.den)(a1:List aN.den):Option Bool:=
(if(!decide ((a0.length:Int)=(a1.length:Int)))then
some false
else
Loop (S:=Int) (X:=Bool) (fun s1=>
((if(decide (s1<(a0.length:Int)))then
some (decide (s1<(a1.length:Int)))
else
some false):Option Bool).bind fun j2=>
(if j2 then
(idx a0 s1).bind fun x3=>
(idx a1 s1).bind fun x4=>
(M.pK N x3 x4).bind fun y5=>
(if(!y5)then
some (.inr false)
else
some (.inl (ai3.wrap (s1+1))))
else
some (.inr true))) N 0)
def S21(N:Nat):bp:=⟨⟨[(0, .l (.slice aN)),(1, .l (.slice aN))],[],[],0⟩,⟨[(0, .l .bool)],[],[],0⟩,fun(x:(List aN.den)×List aN.den)=>M.n9 N x.1 x.2⟩
theorem W21(N:Nat):aq Tryz.prog 21 (S21 N):=fw (en [ck (W40 N)] false false) (N:=N) (.o (.o (.two (.o (.two (.loop ⟨[(5, .l ae)],[],[],112⟩ (.two (.meet ⟨[(20, .l .bool)],[],[],112⟩ .nil .nil) .nil)) .nil)) .nil))) Tryz.func21 (by kernel_rfl) fun x=>by kernel_rfl
def M.mg(N:Nat)(a0:List (List aa.den))(a1:List (List aa.den)):Option Bool:=
(if(!decide ((a0.length:Int)=(a1.length:Int)))then
some false
else
Loop (S:=Int) (X:=Bool) (fun s1=>
((if(decide (s1<(a0.length:Int)))then
some (decide (s1<(a1.length:Int)))
else
some false):Option Bool).bind fun j2=>
(if j2 then
(idx a0 s1).bind fun x3=>
(idx a1 s1).bind fun x4=>
(M.jn N x3 x4).bind fun y5=>
(if(!y5)then
some (.inr false)
else
some (.inl (ai3.wrap (s1+1))))
else
some (.inr true))) N 0)
def S22(N:Nat):bp:=⟨⟨[(0, .l (.slice (.slice aa))),(1, .l (.slice (.slice aa)))],[],[],0⟩,⟨[(0, .l .bool)],[],[],0⟩,fun(x:(List (List aa.den))×List (List aa.den))=>M.mg N x.1 x.2⟩
theorem W22(N:Nat):aq Tryz.prog 22 (S22 N):=fw (en [ck (W13 N)] false false) (N:=N) (.o (.o (.two (.o (.two (.loop ⟨[(5, .l ae)],[],[],112⟩ (.two (.meet ⟨[(20, .l .bool)],[],[],112⟩ .nil .nil) .nil)) .nil)) .nil))) Tryz.func22 (by kernel_rfl) fun x=>by kernel_rfl
def M.kg(N:Nat)(a0:jL.den)(a1:jL.den):Option Bool:=
((M.pJ N a0.1 a1.1).bind fun y2=>
(if y2 then
(M.n9 N a0.2.1 a1.2.1).bind fun y3=>
(if y3 then
(M.mg N a0.2.2.1 a1.2.2.1).bind fun y4=>
(if y4 then
(M.mg N a0.2.2.2 a1.2.2.2).bind fun y5=>
some y5
else
some false)
else
some false)
else
some false):Option Bool).bind fun j1=>
some j1
def S9(N:Nat):bp:=⟨⟨[(0, .g jL),(1, .g jL)],[],[],0⟩,⟨[(0, .l .bool)],[],[],0⟩,fun(x:jL.den×jL.den)=>M.kg N x.1 x.2⟩
theorem W9(N:Nat):aq Tryz.prog 9 (S9 N):=fw (en [ck (W20 N),ck (W21 N),ck (W22 N)] false false) (N:=N) (.o (.meet ⟨[(4, .l .bool)],[],[],48⟩ .nil .nil)) Tryz.func9 (by kernel_rfl) fun x=>by kernel_rfl
def M.ij(N:Nat)(a0:cn.den)(a1:Int)(a2:Int)(a3:Int):Option Bool:=
((M.kV N a0).bind fun y2=>
(if(!y2)then
some true
else
(if(decide (a2<0))then
some true
else
(if(decide (a3<a2))then
some true
else
some (decide (109572<a3))))):Option Bool).bind fun j1=>
(if j1 then
(M.jD N).bind fun y3=>
some y3
else
(M.eQ N a0).bind fun y4=>
bJ (J:=Unit) (R:=Bool) (Loop (S:=Int) (X:=Unit⊕Bool) (fun s6=>
(if(decide (s6<(y4.length:Int)))then
((idx y4 s6).bind fun x8=>
(if(decide (a2<x8))then
(idx y4 s6).bind fun x9=>
some (decide (x9<=a3))
else
some false):Option Bool).bind fun j7=>
(if j7 then
(M.jD N).bind fun ox=>
some (.inr (.inr ox))
else
some (.inl (ai3.wrap (s6+1))))
else
some (.inr (.inl ())))) N 0) fun j5=>
(M.bL N a0 a1 a2).bind fun qh=>
(M.bL N a0 a1 a3).bind fun pV=>
((M.kg N (qh.2.2.1,(qh.1,(qh.2.2.2.1,qh.2.2.2.2))) (pV.2.2.1,(pV.1,(pV.2.2.2.1,pV.2.2.2.2)))).bind fun qV=>
(if qV then
(if(decide (qh.2.1=pV.2.1))then
(M.jD N).bind fun BN=>
some BN
else
some false)
else
some false):Option Bool).bind fun II=>
some II)
def S3(N:Nat):bp:=⟨⟨[(0, .g cn),(1, .l ae),(2, .l ae),(3, .l ae)],[],[],0⟩,⟨[(0, .l .bool)],[],[],0⟩,fun(x:cn.den×Int×Int×Int)=>M.ij N x.1 x.2.1 x.2.2.1 x.2.2.2⟩
theorem W3(N:Nat):aq Tryz.prog 3 (S3 N):=fw (en [ck (W5 N),ck (W6 N),ck (W7 N),ck (W8 N),ck (W9 N)] false false) (N:=N) (.o (.two (.meet ⟨[(30, .l .bool)],[],[],32⟩ .nil .nil) (.o (.join ⟨[],[],[],80⟩ (.o (.two (.loop ⟨[(10, .l ae)],[],[],96⟩ (.o (.two (.two (.meet ⟨[(53, .l .bool)],[],[],160⟩ .nil .nil) .nil) .nil))) .nil)) (.o (.o (.meet ⟨[(8, .l .bool)],[],[],400⟩ .nil .nil))))))) Tryz.func3 (by kernel_rfl) fun x=>by kernel_rfl
def M.mN(N:Nat)(a0:Int):Option Bool:=
((if(decide (97<=a0))then
some (decide (a0<=122))
else
some false):Option Bool).bind fun j1=>
some j1
def M.oS(N:Nat)(a0:Int):Option Bool:=
((if(decide (48<=a0))then
some (decide (a0<=57))
else
some false):Option Bool).bind fun j1=>
some j1
def M.qF(N:Nat)(a0:Int):Option Bool:=
((M.mN N a0).bind fun y2=>
(if y2 then
some true
else
(M.oS N a0).bind fun y3=>
(if y3 then
some true
else
some (decide (a0=95)))):Option Bool).bind fun j1=>
some j1
def M.mh(N:Nat):Option (List ByteArray):=
some ([(⟨#[105,102]⟩:ByteArray),(⟨#[116,104,101,110]⟩:ByteArray),(⟨#[101,108,115,101]⟩:ByteArray),(⟨#[111,114]⟩:ByteArray),(⟨#[97,110,100]⟩:ByteArray),(⟨#[110,111,116]⟩:ByteArray),(⟨#[116,114,117,101]⟩:ByteArray),(⟨#[102,97,108,115,101]⟩:ByteArray),(⟨#[116,111,100,97,121]⟩:ByteArray),(⟨#[115,104,97,114,101]⟩:ByteArray),(⟨#[100,105,118]⟩:ByteArray),(⟨#[114,111,117,110,100]⟩:ByteArray),(⟨#[109,105,110]⟩:ByteArray),(⟨#[109,97,120]⟩:ByteArray),(⟨#[112,108,117,115]⟩:ByteArray),(⟨#[109,111,110,116,104,115]⟩:ByteArray),(⟨#[100,97,121,115]⟩:ByteArray),(⟨#[121,101,97,114,115]⟩:ByteArray),(⟨#[121,101,97,114]⟩:ByteArray),(⟨#[109,111,110,116,104]⟩:ByteArray),(⟨#[116,97,98]⟩:ByteArray),(⟨#[98,97,110,100]⟩:ByteArray),(⟨#[99,111,117,110,116]⟩:ByteArray),(⟨#[115,117,109]⟩:ByteArray),(⟨#[97,108,108]⟩:ByteArray),(⟨#[97,110,121]⟩:ByteArray),(⟨#[109,111,115,116]⟩:ByteArray),(⟨#[101,110,117,109]⟩:ByteArray),(⟨#[116,97,98,108,101]⟩:ByteArray),(⟨#[114,111,119]⟩:ByteArray),(⟨#[115,99,111,112,101]⟩:ByteArray),(⟨#[109,101,109,98,101,114,115]⟩:ByteArray),(⟨#[105,110,112,117,116]⟩:ByteArray),(⟨#[100,101,102]⟩:ByteArray),(⟨#[114,117,108,101]⟩:ByteArray),(⟨#[111,102]⟩:ByteArray),(⟨#[111,118,101,114]⟩:ByteArray),(⟨#[112,114,105,111]⟩:ByteArray),(⟨#[102,114,111,109]⟩:ByteArray),(⟨#[116,111]⟩:ByteArray),(⟨#[101,110,100]⟩:ByteArray),(⟨#[119,104,101,110]⟩:ByteArray),(⟨#[105,115]⟩:ByteArray),(⟨#[115,114,99]⟩:ByteArray),(⟨#[98,111,111,108]⟩:ByteArray),(⟨#[105,110,116]⟩:ByteArray),(⟨#[109,111,110,101,121]⟩:ByteArray),(⟨#[114,97,116,101]⟩:ByteArray),(⟨#[100,97,116,101]⟩:ByteArray),(⟨#[100,111,119,110]⟩:ByteArray),(⟨#[117,112]⟩:ByteArray),(⟨#[122,101,114,111]⟩:ByteArray),(⟨#[97,119,97,121]⟩:ByteArray),(⟨#[104,97,108,102]⟩:ByteArray),(⟨#[101,118,101,110]⟩:ByteArray)]:List ByteArray)
def M.jo(N:Nat)(a0:ByteArray):Option Bool:=
((if(decide ((a0.size:Int)=0))then
some true
else
(if(decide (16<(a0.size:Int)))then
some true
else
(kF a0 0).bind fun x2=>
(M.mN N x2).bind fun y3=>
some (!y3))):Option Bool).bind fun j1=>
(if j1 then
some false
else
bJ (J:=Unit) (R:=Bool) (Loop (S:=Int) (X:=Unit⊕Bool) (fun s5=>
(if(decide (s5<(a0.size:Int)))then
(kF a0 s5).bind fun x6=>
(M.qF N x6).bind fun y7=>
(if(!y7)then
some (.inr (.inr false))
else
some (.inl (ai3.wrap (s5+1))))
else
some (.inr (.inl ())))) N 0) fun j4=>
(M.mh N).bind fun y8=>
Loop (S:=Int) (X:=Bool) (fun s9=>
(if(decide (s9<(y8.length:Int)))then
(idx y8 s9).bind fun tO=>
(if(decide (tO=a0))then
some (.inr false)
else
some (.inl (ai3.wrap (s9+1))))
else
some (.inr true))) N 0)
def M.fa(N:Nat)(a0:aa.den)(a1:List bq.den):Option Bool:=
(if(decide (a0.1=6))then
((if(decide (0<=a0.2))then
some (decide (a0.2<(a1.length:Int)))
else
some false):Option Bool).bind fun j1=>
some j1
else
((if(decide (1<=a0.1))then
(if(decide (a0.1<=5))then
some (decide (a0.2=0))
else
some false)
else
some false):Option Bool).bind fun j2=>
some j2)
def M.oa(N:Nat)(a0:aa.den)(a1:List bq.den):Option (Int×Int):=
(M.fa N a0 a1).bind fun y1=>
(if(!y1)then
some (0,(-1))
else
(if(decide (a0.1=1))then
some (0,1)
else
(if(decide (a0.1=2))then
some ((-1000000000000),1000000000000)
else
(if(decide (a0.1=3))then
some ((-1000000000000000),1000000000000000)
else
(if(decide (a0.1=4))then
some ((-1000000000),1000000000)
else
(if(decide (a0.1=5))then
some (0,109572)
else
(idx a1 a0.2).bind fun x2=>
some (0,ai3.wrap ((x2.2.length:Int)-1))))))))
def M.fM(N:Nat)(a0:List aJ.den):Option (List aa.den):=
Loop (S:=Int×List aa.den) (X:=List aa.den) (fun s1=>
(if(decide (s1.1<(a0.length:Int)))then
(idx a0 s1.1).bind fun x2=>
(bR s1.2 ([x2.2]:List aa.den)).bind fun l3=>
some (.inl (ai3.wrap (s1.1+1),l3))
else
some (.inr s1.2))) N (0,([]:List aa.den))
def M.lv(N:Nat)(a0:cn.den)(a1:Int):Option ((List bq.den)×(List ax.den)×Bool×(List aa.den)×(List aa.den)×List aa.den):=
((if(decide (a1<0))then
some true
else
some (decide ((a0.2.2.length:Int)<=a1))):Option Bool).bind fun j1=>
(if j1 then
some (([]:List bq.den),([]:List ax.den),false,([]:List aa.den),([]:List aa.den),([]:List aa.den))
else
(idx a0.2.2 a1).bind fun x2=>
(M.fM N x2.2.2.1).bind fun y3=>
(M.fM N x2.2.2.2.1).bind fun y4=>
(((if(decide (0<=x2.2.1))then
some (decide (x2.2.1<(a0.2.2.length:Int)))
else
some false):Option Bool).bind fun j6=>
(if j6 then
(idx a0.2.2 x2.2.1).bind fun x7=>
(M.fM N x7.2.2.2.1).bind fun y8=>
some (y3,y4,a0.1,a0.2.1,true,y8)
else
some (y3,y4,a0.1,a0.2.1,false,([]:List aa.den))):Option ((List aa.den)×(List aa.den)×(List bq.den)×(List ax.den)×Bool×List aa.den)).bind fun j5=>
some (j5.2.2.1,j5.2.2.2.1,j5.2.2.2.2.1,j5.1,j5.2.1,j5.2.2.2.2.2))
def M.mX(N:Nat)(a0:Int):Option Bool:=
((if(decide (1<=a0))then
(if(decide (a0<=8))then
some true
else
(if(decide (36<=a0))then
some (decide (a0<=39))
else
some false))
else
(if(decide (36<=a0))then
some (decide (a0<=39))
else
some false)):Option Bool).bind fun j1=>
(if j1 then
some true
else
((if(decide (a0=14))then
some true
else
(if(decide (a0=15))then
some true
else
(if(decide (a0=16))then
some true
else
(if(decide (a0=33))then
some true
else
some (decide (a0=34)))))):Option Bool).bind fun j2=>
some j2)
def M.cX(N:Nat)(a0:Int):Option (aa.den):=
some (a0,0)
def M.iA(N:Nat)(a0:aa.den)(a1:aP.den):Option Bool:=
((if(decide (a0.1=1))then
some (decide (a0.1=1))
else
(if(decide (a0.1=2))then
some (decide (a0.1=2))
else
(if(decide (a0.1=3))then
some (decide (a0.1=3))
else
(if(decide (a0.1=4))then
some (decide (a0.1=4))
else
some (decide (a0.1=5)))))):Option Bool).bind fun j1=>
(if j1 then
(M.cX N a0.1).bind fun y2=>
(M.oa N y2 a1.1).bind fun y3=>
((if(decide (y3.1<=a0.2))then
some (decide (a0.2<=y3.2))
else
some false):Option Bool).bind fun j4=>
some j4
else
((if(decide (a0.1=14))then
some (decide (a0.1=14))
else
(if(decide (a0.1=15))then
some (decide (a0.1=15))
else
some (decide (a0.1=16)))):Option Bool).bind fun j5=>
(if j5 then
((if(decide (0<=a0.2))then
some (decide (a0.2<=5))
else
some false):Option Bool).bind fun j6=>
some j6
else
(if(decide (a0.1=34))then
((if(decide (0<=a0.2))then
some (decide ((ajL a0.2 8)<=5))
else
some false):Option Bool).bind fun j7=>
some j7
else
(if(decide (a0.1=6))then
some (decide (0<=a0.2))
else
some true))))
def M.ba(N:Nat)(a0:aa.den)(a1:aP.den):Option Bool:=
(if(decide (a0.1=6))then
((if(decide ((ai3.wrap (ajo a0.2 16))<(a1.1.length:Int)))then
(idx a1.1 (ai3.wrap (ajo a0.2 16))).bind fun x2=>
some (decide ((ajL a0.2 16)<(x2.2.length:Int)))
else
some false):Option Bool).bind fun j1=>
some j1
else
(if(decide (a0.1=7))then
((if(decide (0<=a0.2))then
some (decide (a0.2<(a1.2.2.1.length:Int)))
else
some false):Option Bool).bind fun j3=>
some j3
else
(if(decide (a0.1=8))then
((if(decide (0<=a0.2))then
some (decide (a0.2<(a1.2.2.2.1.length:Int)))
else
some false):Option Bool).bind fun j4=>
some j4
else
(if(decide (a0.1=33))then
((if(decide (0<=a0.2))then
some (decide (a0.2<(a1.2.1.length:Int)))
else
some false):Option Bool).bind fun j5=>
some j5
else
(if(decide (a0.1=34))then
some (decide ((ai3.wrap (ajo a0.2 8))<(a1.2.1.length:Int)))
else
(if(decide (a0.1=35))then
some a1.2.2.2.2.2
else
((if(decide (a0.1=36))then
some (decide (a0.1=36))
else
(if(decide (a0.1=37))then
some (decide (a0.1=37))
else
(if(decide (a0.1=38))then
some (decide (a0.1=38))
else
some (decide (a0.1=39))))):Option Bool).bind fun j6=>
(if j6 then
((if a1.2.2.2.2.2 then
(if(decide (0<=a0.2))then
some (decide (a0.2<(a1.2.2.2.2.1.length:Int)))
else
some false)
else
some false):Option Bool).bind fun j7=>
some j7
else
some true)))))))
def M.kh(N:Nat)(a0:Int):Option Bool:=
((if(decide (a0=2))then
some true
else
(if(decide (a0=3))then
some true
else
some (decide (a0=4)))):Option Bool).bind fun j1=>
some j1
def M.gu(N:Nat)(a0:Int):Option Bool:=
((M.kh N a0).bind fun y2=>
(if y2 then
some true
else
some (decide (a0=5))):Option Bool).bind fun j1=>
some j1
def M.bO(N:Nat)(a0:aa.den)(a1:aP.den):Option (aa.den×Bool):=
((if(decide (a0.1=6))then
some (6,ai3.wrap (ajo a0.2 16))
else
(if(decide (a0.1=7))then
(idx a1.2.2.1 a0.2).bind fun x2=>
some x2
else
(if(decide (a0.1=8))then
(idx a1.2.2.2.1 a0.2).bind fun x3=>
some x3
else
(if(decide (a0.1=9))then
(M.cX N 5).bind fun y4=>
some y4
else
(if(decide (a0.1=35))then
(M.cX N 2).bind fun y5=>
some y5
else
((if(decide (a0.1=36))then
some (decide (a0.1=36))
else
(if(decide (a0.1=37))then
some (decide (a0.1=37))
else
(if(decide (a0.1=38))then
some (decide (a0.1=38))
else
some (decide (a0.1=39))))):Option Bool).bind fun j6=>
(if j6 then
(idx a1.2.2.2.2.1 a0.2).bind fun x7=>
some x7
else
(M.cX N a0.1).bind fun y8=>
some y8)))))):Option (aa.den)).bind fun j1=>
(M.fa N j1 a1.1).bind fun y9=>
((if(decide (a0.1=36))then
(if y9 then
(if(decide (j1.1=2))then
some true
else
some (decide (j1.1=3)))
else
some false)
else
((if(decide (a0.1=37))then
some (decide (a0.1=37))
else
some (decide (a0.1=38))):Option Bool).bind fun CP=>
(if CP then
(if y9 then
some (decide (j1.1=1))
else
some false)
else
(if(decide (a0.1=39))then
(if y9 then
(M.gu N j1.1).bind fun pV=>
some pV
else
some false)
else
some y9))):Option Bool).bind fun qg=>
some (j1,qg)
def M.cf(N:Nat)(a0:aa.den)(a1:aa.den)(a2:aP.den):Option (aa.den×Bool):=
(if(decide (a0.1=10))then
(M.kh N a1.1).bind fun y1=>
some (a1,y1)
else
(if(decide (a0.1=25))then
some (a1,decide (a1.1=1))
else
((if(decide (a0.1=31))then
some (decide (a0.1=31))
else
some (decide (a0.1=32))):Option Bool).bind fun j2=>
(if j2 then
(M.cX N 2).bind fun y3=>
some (y3,decide (a1.1=5))
else
(if(decide (a0.1=33))then
(idx a2.2.1 a0.2).bind fun x4=>
((M.fa N x4.2.1 a2.1).bind fun y6=>
(if y6 then
(M.fa N x4.2.2.1 a2.1).bind fun y7=>
(if y7 then
some ((nh aa a1 x4.2.1),x4.2.2.1)
else
some (false,x4.2.2.1))
else
some (false,x4.2.2.1)):Option (Bool×aa.den)).bind fun j5=>
some (j5.2,j5.1)
else
(idx a2.2.1 (ai3.wrap (ajo a0.2 8))).bind fun x8=>
((if(decide (a1.1=3))then
(M.cX N 3).bind fun ox=>
(if(nh aa x8.2.1 ox)then
(M.cX N 4).bind fun qh=>
some ((nh aa x8.2.2.1 qh),a1)
else
some (false,a1))
else
some (false,a1)):Option (Bool×aa.den)).bind fun j9=>
some (j9.2,j9.1)))))
def M.kj(N:Nat)(a0:Int)(a1:Int)(a2:Int):Option (aa.den×Bool):=
(if(decide (a0=13))then
((M.cX N a1).bind fun y2=>
(if(decide (a2=2))then
(if(decide (a1=2))then
some (true,y2)
else
some (decide (a1=3),y2))
else
some (false,y2)):Option (Bool×aa.den)).bind fun j1=>
some (j1.2,j1.1)
else
(if(decide (a0=14))then
((M.cX N a1).bind fun y4=>
(if(decide (a2=4))then
(if(decide (a1=3))then
some (true,y4)
else
some (decide (a1=4),y4))
else
some (false,y4)):Option (Bool×aa.den)).bind fun j3=>
some (j3.2,j3.1)
else
((if(decide (a1=3))then
some (decide (a2=3))
else
some false):Option Bool).bind fun j5=>
(if j5 then
(M.cX N 4).bind fun y6=>
some (y6,true)
else
((M.cX N a1).bind fun y8=>
(if(decide (a2=2))then
(if(decide (a1=2))then
some (true,y8)
else
some (decide (a1=3),y8))
else
some (false,y8)):Option (Bool×aa.den)).bind fun j7=>
some (j7.2,j7.1))))
def M.gh(N:Nat)(a0:Int)(a1:aa.den)(a2:aa.den):Option (aa.den×Bool):=
((if(decide (a0=11))then
some (decide (a0=11))
else
some (decide (a0=12))):Option Bool).bind fun j1=>
(if j1 then
((if(nh aa a1 a2)then
(M.kh N a1.1).bind fun y3=>
some (y3,a1)
else
some (false,a1)):Option (Bool×aa.den)).bind fun j2=>
some (j2.2,j2.1)
else
((if(decide (a0=13))then
some (decide (a0=13))
else
(if(decide (a0=14))then
some (decide (a0=14))
else
some (decide (a0=15)))):Option Bool).bind fun j4=>
(if j4 then
(M.kj N a0 a1.1 a2.1).bind fun y5=>
some (y5.1,y5.2)
else
(if(decide (a0=16))then
((if(decide (a1.1=3))then
some (decide (a2.1=3),a1)
else
some (false,a1)):Option (Bool×aa.den)).bind fun j6=>
some (j6.2,j6.1)
else
((if(decide (a0=17))then
some (decide (a0=17))
else
some (decide (a0=18))):Option Bool).bind fun j7=>
(if j7 then
((if(nh aa a1 a2)then
(M.gu N a1.1).bind fun y9=>
some (y9,a1)
else
some (false,a1)):Option (Bool×aa.den)).bind fun j8=>
some (j8.2,j8.1)
else
((if(decide (a0=19))then
some (decide (a0=19))
else
some (decide (a0=20))):Option Bool).bind fun qg=>
(if qg then
(M.cX N 1).bind fun qh=>
some (qh,(nh aa a1 a2))
else
((if(decide (a0=21))then
some (decide (a0=21))
else
some (decide (a0=22))):Option Bool).bind fun Aj=>
(if Aj then
((M.cX N 1).bind fun qV=>
(if(nh aa a1 a2)then
(M.gu N a1.1).bind fun BN=>
some (BN,qV)
else
some (false,qV)):Option (Bool×aa.den)).bind fun II=>
some (II.2,II.1)
else
((if(decide (a0=23))then
some (decide (a0=23))
else
some (decide (a0=24))):Option Bool).bind fun Qd=>
(if Qd then
((if(decide (a1.1=1))then
some (decide (a2.1=1),a1)
else
some (false,a1)):Option (Bool×aa.den)).bind fun R0=>
some (R0.2,R0.1)
else
((if(decide (a0=27))then
some (decide (a0=27))
else
some (decide (a0=28))):Option Bool).bind fun ZK=>
(if ZK then
((if(decide (a1.1=5))then
some (decide (a2.1=2),a1)
else
some (false,a1)):Option (Bool×aa.den)).bind fun RV=>
some (RV.2,RV.1)
else
((M.cX N 2).bind fun RU=>
(if(decide (a1.1=5))then
some (decide (a2.1=5),RU)
else
some (false,RU)):Option (Bool×aa.den)).bind fun OF=>
some (OF.2,OF.1)))))))))
def M.aB(N:Nat)(a0:aa.den)(a1:List aa.den)(a2:aP.den):Option (aa.den×Int):=
((if(!decide (a0.2=0))then
(M.mX N a0.1).bind fun y2=>
some (!y2)
else
some false):Option Bool).bind fun j1=>
(if j1 then
some ((0,0),2)
else
(M.iA N a0 a2).bind fun y3=>
(if(!y3)then
some ((0,0),3)
else
(M.ba N a0 a2).bind fun y4=>
(if(!y4)then
some ((0,0),6)
else
((if(decide ((a1.length:Int)=0))then
(M.bO N a0 a2).bind fun y6=>
some (y6.2,y6.1)
else
(if(decide ((a1.length:Int)=1))then
(idx a1 0).bind fun x7=>
(M.cf N a0 x7 a2).bind fun y8=>
some (y8.2,y8.1)
else
(if(decide ((a1.length:Int)=2))then
(idx a1 0).bind fun x9=>
(idx a1 1).bind fun tO=>
(M.gh N a0.1 x9 tO).bind fun qh=>
some (qh.2,qh.1)
else
(idx a1 1).bind fun rF=>
(idx a1 0).bind fun pU=>
(if(decide (pU.1=1))then
(idx a1 1).bind fun r9=>
(idx a1 2).bind fun D5=>
some ((nh aa r9 D5),rF)
else
some (false,rF))))):Option (Bool×aa.den)).bind fun j5=>
(if(!j5.1)then
some ((0,0),8)
else
some (j5.2,0)))))
end
end Go.Proofs.YtilaieogabgamaaGreatDoor
end
section
namespace Go.Proofs.YtilaieogabgamaaGreatDoor
open Go Go.RowKit
set_option maxRecDepth 100000
set_option linter.unusedVariables false
end Go.Proofs.YtilaieogabgamaaGreatDoor
end
section
open _root_.Go.IntKind renaming i64->ai3
namespace Go.Proofs.YtilaieogabgamaaGreatDoor
open Go Go.RowKit
theorem aV{n:Int}(h0: -9223372036854775808<=n)(h1:n<=9223372036854775807):ai3.wrap n=n:=by
 simp[IntKind.wrap,IntKind.bits,IntKind.signed];omega
theorem ag{α:Type}{l:List α}{k:Nat}(h:k<l.length):idx l (k:Int)=some l[k]:=by
 unfold idx;rw[if_pos (by omega)];simp[h]
theorem bD{α:Type}{l m:List α}(h:l.length+m.length<=4294967296):bR l m=some (l++m):=if_pos h
theorem yg{S X:Type}{body:S->Option (S⊕X)}(I:S->Prop)(μ:S->Nat)(Q:X->Prop)
 (step:∀s,I s->(∃s',body s=some (.inl s')/\I s'/\μ s'<μ s)\/∃x,body s=some (.inr x)/\Q x):
 ∀N s,I s->μ s<N->∃x,Loop body N s=some x/\Q x
 |0,_,_,h=>absurd h (by omega)
 |N+1,s,hi,al=>by
  rcases step s hi with⟨s',hb,gv,hm⟩|⟨x,hb,hq⟩
  .obtain⟨x,hx,hq⟩:=yg I μ Q step N s' gv (by omega);exact⟨x,by unfold Loop;rw[hb];exact hx,hq⟩
  .exact⟨x,by unfold Loop;rw[hb],hq⟩
theorem D7{S X:Type}{body:S->Option (S⊕X)}(st:Nat->S){x:X}(m:Nat)(hs:∀i,i<m->body (st i)=some (.inl (st (i+1))))(he:body (st m)=some (.inr x)){N:Nat}(hN:m<N):Loop body N (st 0)=some x:=by
 have:∀k i N,i+k=m->k<N->Loop body N (st i)=some x:=by
  intro k
  induction k with
  |zero=>rintro i (_|N) hi hN;.omega
         obtain rfl:i=m:=by omega
         unfold Loop;rw[he]
  |succ k ih=>
   rintro i (_|N) hi hN
   .omega
   .unfold Loop;rw[hs i (by omega)];exact ih (i+1) N (by omega) (by omega)
 exact this m 0 N (by omega) hN
theorem zF{S X:Type}{body:S->Option (S⊕X)}{N:Nat}{s0:S}(st:Nat->S)(m:Nat)(x:X)(h0:s0=st 0)(hs:∀i,i<m->body (st i)=some (.inl (st (i+1))))(he:body (st m)=some (.inr x))(hN:m<N):Loop body N s0=some x:=by
 rw[h0];exact D7 st m hs he hN
def aC:Nat:=18446744073709551616
section
variable {α:Type}
end
end Go.Proofs.YtilaieogabgamaaGreatDoor
end
section
open _root_.Bool renaming false_eq_true->ajb
open _root_.Classical renaming not_not->aj8
open _root_.Go.IntKind renaming i64->ai3
open _root_.List renaming getElem?_eq_getElem->ai5,replicate->ai9,take_length->aju
open _root_.Nat renaming lt_succ_iff_lt_or_eq->ajY,zero_le->ajt
open _root_.Option renaming bind_some->ai2,some->akP
namespace Go.Proofs.YtilaieogabgamaaGreatDoor
open Go Go.RowKit
def Wp{α:Type}(m:Option α)(Q:α->Prop):Prop:=∃x,m=some x/\Q x
theorem Wp.some{α:Type}{x:α}{Q:α->Prop}(h:Q x):Wp (some x) Q:=⟨x,rfl,h⟩
theorem Wp.of{α:Type}{m:Option α}{x:α}{Q:α->Prop}(e:m=akP x)(h:Q x):Wp m Q:=⟨x,e,h⟩
theorem Wp.eq{α:Type}{m:Option α}{x:α}(h:Wp m (· =x)):m=akP x:=by obtain⟨y,e,rfl⟩:=h;exact e
theorem Wp.mono{α:Type}{m:Option α}{Q Q':α->Prop}(h:Wp m Q)(hq:∀x,Q x->Q' x):Wp m Q':=by obtain⟨x,e,h⟩:=h;exact⟨x,e,hq x h⟩
theorem Wp.bind{α β:Type}{m:Option α}{k:α->Option β}{Q:β->Prop}(h:Wp m fun x=>Wp (k x) Q):Wp (m.bind k) Q:=by
 obtain⟨x,e,h⟩:=h;rw[e];exact h
theorem Wp.seq{α β:Type}{m:Option α}{k:α->Option β}{Q:β->Prop}(A:α->Prop)(h:Wp m A)(hk:∀x,A x->Wp (k x) Q):Wp (m.bind k) Q:= .bind (h.mono hk)
theorem Wp.map{α β:Type}{m:Option α}{f:α->β}{Q:β->Prop}(h:Wp m fun x=>Q (f x)):Wp (m.map f) Q:=by
 obtain⟨x,e,h⟩:=h;rw[e];exact⟨_,rfl,h⟩
theorem Wp.ite{α:Type}{c:Prop}[Decidable c]{a b:Option α}{Q:α->Prop}(ha:c->Wp a Q)(hb:¬c->Wp b Q):Wp (if c then a else b) Q:=by
 split
 .exact ha ‹_›
 .exact hb ‹_›
theorem Wp.dec{α:Type}{c:Prop}[Decidable c]{a b:Option α}{Q:α->Prop}(ha:c->Wp a Q)(hb:¬c->Wp b Q):Wp (if decide c=true then a else b) Q:=by
 by_cases h:c
 .rw[if_pos (decide_eq_true h)];exact ha h
 .rw[if_neg (by simpa using h)];exact hb h
theorem Wp.mY{α:Type}{c:Prop}[Decidable c]{a b:Option α}{Q:α->Prop}(ha:¬c->Wp a Q)(hb:c->Wp b Q):Wp (if(!decide c)=true then a else b) Q:=by
 by_cases h:c
 .rw[if_neg (by simp[h])];exact hb h
 .rw[if_pos (by simp[h])];exact ha h
def tP{J R:Type}(k:J->Option R)(Q:R->Prop):J⊕R->Prop
 | .inl j=>Wp (k j) Q
 | .inr r=>Q r
theorem Wp.join{J R:Type}{m:Option (J⊕R)}{k:J->Option R}{Q:R->Prop}(h:Wp m (tP k Q)):Wp (bJ m k) Q:=by
 obtain⟨x,e,h⟩:=h;unfold bJ;rw[e]
 cases x with
 |inl j=>exact h
 |inr r=>exact⟨r,rfl,h⟩
def BP{S X:Type}(I:S->Prop)(μ:S->Nat)(s:S)(Q:X->Prop):S⊕X->Prop
 | .inl s'=>I s'/\μ s'<μ s
 | .inr x=>Q x
theorem Wp.loop{S X:Type}{body:S->Option (S⊕X)}{N:Nat}{s0:S}{Q:X->Prop}(I:S->Prop)(μ:S->Nat)(h0:I s0)(hN:μ s0<N)(step:∀s,I s->Wp (body s) (BP I μ s Q)):Wp (Loop body N s0) Q:=
 yg I μ Q (fun s hs=>by
  obtain⟨x,e,h⟩:=step s hs
  cases x with
  |inl s'=>exact .inl ⟨s',e,h⟩
  |inr x=>exact .inr ⟨x,e,h⟩) N s0 h0 hN
theorem Wp.idx{α:Type}{l:List α}{i:Int}{Q:α->Prop}(k:Nat)(hi:i=k)(hk:k<l.length)(h:Q l[k]):Wp (idx l i) Q:=by
 subst hi;exact⟨_,ag hk,h⟩
theorem Wp.HN{α:Type}{l m:List α}{Q:List α->Prop}(hl:l.length+m.length<=4294967296)(h:Q (l++m)):Wp (bR l m) Q:=⟨_,bD hl,h⟩
theorem pL{α:Type}{l:List α}{i j:Int}(a b:Nat)(hi:i=a)(hj:j=b)(h:a<=b)(hb:b<=l.length):eR l i j=akP ((l.take b).drop a):=by
 subst hi;subst hj;unfold eR;rw[if_pos (by omega)];simp
theorem Wp.cut{α:Type}{l:List α}{i j:Int}{Q:List α->Prop}(a b:Nat)(hi:i=a)(hj:j=b)(h:a<=b)(hb:b<=l.length)(hq:Q ((l.take b).drop a)):Wp (eR l i j) Q:=⟨_,pL a b hi hj h hb,hq⟩
theorem kQ{α:Type}{l:List α}{b:Nat}(hb:b<=l.length):eR l 0 (b:Int)=akP (l.take b):=by
 have:=pL (l:=l) 0 b rfl rfl (ajt _) hb;simpa using this
theorem aK{k:Nat}(h:k<9223372036854775807):ai3.wrap ((k:Int)+1)=((k+1:Nat):Int):=by rw[aV]<;>omega
theorem BQ{k:Nat}(h:k<=9223372036854775807):ai3.wrap (k:Int)=(k:Int):=by rw[aV]<;>omega
end Go.Proofs.YtilaieogabgamaaGreatDoor
namespace Go.Proofs.YtilaieogabgamaaGreatDoor
open Go Go.RowKit
section
variable {α β:Type}
theorem iZ{x:α}{Q:α->Prop}:Wp (some x) Q↔Q x:=⟨fun⟨y,e,h⟩=>by cases e;exact h,fun h=>⟨x,rfl,h⟩⟩
theorem rI{Q:α->Prop}:Wp (none:Option α) Q↔False:=⟨fun⟨y,e,h⟩=>(by cases e),False.elim⟩
theorem wp_bind{m:Option α}{k:α->Option β}{Q:β->Prop}:Wp (m.bind k) Q↔Wp m fun x=>Wp (k x) Q:=by
 cases m with
 |none=>simp only[Option.bind_none,rI]
 |some x=>simp only[ai2,iZ]
theorem KI{c:Prop}[Decidable c]{a b:Option α}{Q:α->Prop}:Wp (if c then a else b) Q↔(c->Wp a Q)/\(¬c->Wp b Q):=by
 split<;>simp[*]
theorem KJ{c:Prop}[Decidable c]{a b:Option α}{Q:α->Prop}:Wp (if decide c=true then a else b) Q↔(c->Wp a Q)/\(¬c->Wp b Q):=by
 by_cases h:c<;>simp[*]
theorem FD{c:Prop}[Decidable c]{a b:Option α}{Q:α->Prop}:Wp (if(!decide c)=true then a else b) Q↔(¬c->Wp a Q)/\(c->Wp b Q):=by
 by_cases h:c<;>simp[*]
theorem KK{c:Bool}{a b:Option α}{Q:α->Prop}:Wp (if(!c)=true then a else b) Q↔(c=false->Wp a Q)/\(c=true->Wp b Q):=by
 cases c<;>simp
theorem wp_map{m:Option α}{f:α->β}{Q:β->Prop}:Wp (m.map f) Q↔Wp m fun x=>Q (f x):=by
 cases m with
 |none=>simp only[Option.map_none,rI]
 |some x=>simp only[Option.map_some,iZ]
theorem zG{J R:Type}{m:Option (J⊕R)}{k:J->Option R}{Q:R->Prop}:Wp (bJ m k) Q↔Wp m (tP k Q):=by
 cases m with
 |none=>exact⟨fun⟨_,e,_⟩=>(by cases e),fun⟨_,e,_⟩=>(by cases e)⟩
 |some s=>cases s with
  |inl j=>rw[iZ];exact Iff.rfl
  |inr r=>exact(iZ (x:=r)).trans (iZ (x:=Sum.inr r) (Q:=tP k Q)).symm
theorem yh{J R:Type}{k:J->Option R}{Q:R->Prop}{j:J}:tP k Q (.inl j)=Wp (k j) Q:=rfl
theorem yi{J R:Type}{k:J->Option R}{Q:R->Prop}{r:R}:tP k Q (.inr r)=Q r:=rfl
theorem dB{l:List α}{i:Int}{Q:α->Prop}:Wp (idx l i) Q↔∃h:0<=i/\i<(l.length:Int),Q (l[i.toNat]'(by omega)):=by
 by_cases h:0<=i/\i<(l.length:Int)
 .unfold idx;rw[if_pos h.1,ai5 (by omega),iZ];exact⟨fun g=>⟨h,g⟩,fun g=>g.2⟩
 .refine⟨fun⟨y,e,_⟩=>?_,fun g=>absurd g.1 h⟩;obtain⟨k,rfl,hk,_⟩:=fG e;omega
theorem rJ{s:ByteArray}{i:Int}{Q:Int->Prop}:Wp (kF s i) Q↔∃h:0<=i/\i<(s.size:Int),Q ((s[i.toNat]'(by omega)).toNat:Int):=by
 unfold kF;rw[wp_map];by_cases h:0<=i/\i<(s.size:Int)
 .rw[if_pos h.1,getElem?_pos s i.toNat (by omega),iZ];exact⟨fun g=>⟨h,g⟩,fun g=>g.2⟩
 .refine⟨fun⟨y,e,_⟩=>?_,fun g=>absurd g.1 h⟩;split at e
  .rw[getElem?_neg s i.toNat (by omega)]at e;cases e
  .cases e
theorem mZ{l m:List α}{Q:List α->Prop}:Wp (bR l m) Q↔l.length+m.length<=4294967296/\Q (l++m):=by
 unfold bR;split
 .rw[iZ];simp[*]
 .rw[rI];simp[*]
theorem wp_cut{l:List α}{i j:Int}{Q:List α->Prop}:Wp (eR l i j) Q↔(0<=i/\i<=j/\j<=l.length)/\Q ((l.take j.toNat).drop i.toNat):=by
 unfold eR;split
 .rw[iZ];simp[*]
 .rw[rI];simp[*]
theorem vN{m:Int}{z:α}{Q:List α->Prop}:Wp (mV m z) Q↔(0<=m/\m<=4294967296)/\Q (ai9 m.toNat z):=by
 unfold mV;split
 .rw[iZ];simp[*]
 .rw[rI];simp[*]
theorem OH{m:Option α}{x:α}:Wp m (· =x)↔m=some x:=⟨fun⟨_,e,h⟩=>h▸e,fun e=>⟨x,e,rfl⟩⟩
theorem Wp.and{m:Option α}{P Q:α->Prop}(h:Wp m P)(g:Wp m Q):Wp m fun x=>P x/\Q x:=by
 obtain⟨x,e,h⟩:=h;obtain⟨y,e',g⟩:=g;rw[e]at e';cases e';exact⟨x,e,h,g⟩
theorem Wp.getD{m:Option α}{Q:α->Prop}(h:Wp m Q)(d:α):m=akP (m.getD d)/\Q (m.getD d):=by
 obtain⟨x,e,h⟩:=h;rw[e];exact⟨rfl,h⟩
end
def D8{S X:Type}(qG:S->Int)(m k:Nat)(J:Nat->S->Prop)(Q:X->Prop):S⊕X->Prop
 | .inl s=>k<m/\qG s=((k+1:Nat):Int)/\J (k+1) s
 | .inr x=>Q x
theorem aY{S X:Type}{qG:S->Int}{m k:Nat}{J:Nat->S->Prop}{Q:X->Prop}{s:S}:D8 qG m k J Q (.inl s)=(k<m/\qG s=((k+1:Nat):Int)/\J (k+1) s):=rfl
theorem aO{S X:Type}{qG:S->Int}{m k:Nat}{J:Nat->S->Prop}{Q:X->Prop}{x:X}:D8 qG m k J Q (.inr x)=Q x:=rfl
theorem Wp.count{S X:Type}{body:S->Option (S⊕X)}{s0:S}{Q:X->Prop}(qG:S->Int)(m:Nat)(J:Nat->S->Prop)(hm:m<=9223372036854775807)(h0:qG s0=0)(hJ:J 0 s0)
 (step:∀k s,k<=m->qG s=(k:Int)->J k s->Wp (body s) (D8 qG m k J Q)):Wp (Loop body aC s0) Q:=by
 refine Wp.loop (fun s=>∃k:Nat,qG s=k/\k<=m/\J k s) (fun s=>m-(qG s).toNat) ⟨0,h0,ajt _,hJ⟩ (by unfold aC;omega) fun s hs=>?_
 obtain⟨k,hi,hk,hj⟩:=hs
 refine(step k s hk hi hj).mono fun r hr=>?_
 cases r with
 |inl s'=>
  obtain⟨h1,h2,h3⟩:=hr;exact⟨⟨k+1,h2,h1,h3⟩,by show m-(qG s').toNat<m-(qG s).toNat;rw[h2,hi];omega⟩
 |inr x=>exact hr
theorem cu{k:Nat}{m:Nat}(hm:m<=9223372036854775807)(h:k<m):ai3.wrap ((k:Int)+1)=((k+1:Nat):Int):=aK (by omega)
theorem ja{k m:Nat}(h:k<m):decide ((k:Int)<(m:Int))=true:=decide_eq_true (by omega)
theorem D9{k m:Nat}(h:k<m):((k:Int)<(m:Int))=True:=eq_true (by omega)
theorem eL{m:Nat}:((m:Int)<(m:Int))=False:=eq_false (by omega)
def b9{α:Type}(f:Nat->Option α):Nat->Option α
 |0=>none
 |m+1=>(b9 f m).or (f m)
theorem bC{α:Type}{f:Nat->Option α}:∀{m:Nat},b9 f m=none↔∀k,k<m->f k=none
 |0=>by simp[b9]
 |m+1=>by
  rw[b9,Option.or_eq_none_iff,bC];exact⟨fun h k hk=>by rcases ajY.1 hk with h1|rfl<;>first|exact h.1 k h1|exact h.2,fun h=>⟨fun k hk=>h k (by omega),h m (by omega)⟩⟩
theorem fj{α:Type}{f:Nat->Option α}{x:α}:∀{m:Nat},b9 f m=some x->∃k,k<m/\f k=some x/\∀j,j<k->f j=none
 |0,h=>by cases h
 |m+1,h=>by
  rw[b9]at h
  cases e:b9 f m with
  |none=>rw[e]at h;exact⟨m,by omega,h,bC.1 e⟩
  |some y=>
   rw[e]at h;cases h;obtain⟨k,hk,h1,h2⟩:=fj e;exact⟨k,by omega,h1,h2⟩
theorem ey{α:Type}{f:Nat->Option α}{x:α}{k:Nat}(hx:f k=some x)(hn:∀j,j<k->f j=none):∀{m:Nat},k<m->b9 f m=some x
 |0,h=>by omega
 |m+1,h=>by
  rw[b9]
  rcases ajY.1 h with h1|rfl
  .rw[ey hx hn h1];rfl
  .rw[bC.2 hn];exact hx
theorem Wp.first{S X Y:Type}{body:S->Option (S⊕X)}{s0:S}{Q:X->Prop}(qG:S->Int)(m:Nat)(f:Nat->Option Y)(hm:m<=9223372036854775807)(h0:qG s0=0)
 (h1:∀k s,k<m->qG s=(k:Int)->(∀j,j<k->f j=none)->Wp (body s) fun r=>(f k=none/\∃s',r= .inl s'/\qG s'=((k+1:Nat):Int))\/∃x y,r= .inr x/\f k=akP y/\(b9 f m=akP y->Q x))
 (he:∀s,qG s=(m:Int)->(b9 f m=none)->Wp (body s) fun r=>∃x,r= .inr x/\Q x):Wp (Loop body aC s0) Q:=by
 refine Wp.count qG m (fun k _=>∀j,j<k->f j=none) hm h0 (fun j h=>by omega) fun k s hk hs hJ=>?_
 rcases Nat.lt_or_ge k m with al|hge
 .refine(h1 k s al hs hJ).mono fun r hr=>?_
  rcases hr with⟨hn,s',rfl,h2⟩|⟨x,y,rfl,h2,h3⟩
  .exact⟨al,h2,fun j hj=>by rcases ajY.1 hj with h|rfl<;>first|exact hJ j h|exact hn⟩
  .exact h3 (ey h2 hJ al)
 .obtain rfl:k=m:=by omega
  exact(he s hs (bC.2 hJ)).mono fun r hr=>by obtain⟨x,rfl,h⟩:=hr;exact h
def OI{S X C:Type}(qG:S->Int)(acc:S->C)(k:Nat)(c:C)(I:Nat->C->Prop):S⊕X->Prop
 | .inl s=>qG s=((k+1:Nat):Int)/\acc s=c/\I (k+1) c
 | .inr _=>False
def OJ{S X:Type}(Q:X->Prop):S⊕X->Prop
 | .inl _=>False
 | .inr x=>Q x
theorem HO{S X C:Type}{qG:S->Int}{acc:S->C}{k:Nat}{c:C}{I:Nat->C->Prop}{s:S}:OI (X:=X) qG acc k c I (.inl s)=(qG s=((k+1:Nat):Int)/\acc s=c/\I (k+1) c):=rfl
theorem HP{S X:Type}{Q:X->Prop}{x:X}:OJ (S:=S) Q (.inr x)=Q x:=rfl
theorem Wp.fold{S X C α:Type}{body:S->Option (S⊕X)}{s0:S}{Q:X->Prop}(qG:S->Int)(acc:S->C)(l:List α)(F:C->α->C)(c0:C)(I:Nat->C->Prop)(hm:l.length<=9223372036854775807)(h0:qG s0=0)(hc:acc s0=c0)(hI:I 0 c0)
 (step:∀k s(h:k<l.length),qG s=(k:Int)->I k (acc s)->Wp (body s) (OI qG acc k (F (acc s) l[k]) I))
 (fin:∀s,qG s=(l.length:Int)->acc s=l.foldl F c0->I l.length (acc s)->Wp (body s) (OJ Q)):Wp (Loop body aC s0) Q:=by
 refine Wp.count qG l.length (fun k s=>acc s=(l.take k).foldl F c0/\I k (acc s)) hm h0 ⟨by rw[hc];rfl,hc▸hI⟩ fun k s hk hs hJ=>?_
 rcases Nat.lt_or_ge k l.length with al|hge
 .refine(step k s al hs hJ.2).mono fun r hr=>?_
  cases r with
  |inl s'=>
   obtain⟨h1,h2,h3⟩:=hr;refine⟨al,h1,?_,h2▸h3⟩;rw[h2,hJ.1,<-List.take_append_getElem al,List.foldl_append];rfl
  |inr x=>exact hr.elim
 .obtain rfl:k=l.length:=by omega
  rw[aju]at hJ
  refine(fin s hs hJ.1 hJ.2).mono fun r hr=>?_
  cases r with
  |inl s'=>exact hr.elim
  |inr x=>exact hr
theorem W_:type_of% @aj8/\type_of% @iZ/\type_of% @wp_bind/\type_of% @KJ/\type_of% @FD/\type_of% @KK/\type_of% @KI/\type_of% @zG/\type_of% @yh/\type_of% @yi/\type_of% @if_true.{1}/\type_of% @if_false.{1}/\type_of% @ite_true.{1}/\type_of% @ite_false.{1}/\type_of% @ajb/\type_of% @Bool.true_eq_false/\type_of% @decide_true/\type_of% @decide_false/\type_of% @decide_eq_decide/\type_of% @true_eq_decide_iff/\type_of% @false_eq_decide_iff/\type_of% @decide_eq_true_eq/\type_of% @decide_eq_false_iff_not/\type_of% @true_implies/\type_of% @false_implies/\type_of% @and_true/\type_of% @true_and/\type_of% @and_false/\type_of% @false_and/\type_of% @or_true/\type_of% @true_or/\type_of% @or_false/\type_of% @false_or/\type_of% @not_true_eq_false/\type_of% @not_false_eq_true/\type_of% @Bool.not_true/\type_of% @Bool.not_false/\type_of% @Bool.not_eq_true/\type_of% @Bool.not_eq_false/\type_of% @Bool.not_eq_eq_eq_not:=
 ⟨@aj8,@iZ,@wp_bind,@KJ,@FD,@KK,@KI,@zG,@yh,@yi,@if_true.{1},@if_false.{1},@ite_true.{1},@ite_false.{1},@ajb,@Bool.true_eq_false,@decide_true,@decide_false,@decide_eq_decide,@true_eq_decide_iff,@false_eq_decide_iff,@decide_eq_true_eq,@decide_eq_false_iff_not,@true_implies,@false_implies,@and_true,@true_and,@and_false,@false_and,@or_true,@true_or,@or_false,@false_or,@not_true_eq_false,@not_false_eq_true,@Bool.not_true,@Bool.not_false,@Bool.not_eq_true,@Bool.not_eq_false,@Bool.not_eq_eq_eq_not⟩
end Go.Proofs.YtilaieogabgamaaGreatDoor
end
section
open _root_.Bool renaming eq_iff_iff->ake,false_eq_true->ajb
open _root_.Go.IntKind renaming i64->ai3
open _root_.List renaming drop_eq_getElem_cons->ajK,getElem?_eq_getElem->ai5
open _root_.Nat renaming zero_le->ajt
open _root_.Option renaming bind_some->ai2
namespace Go.Proofs.YtilaieogabgamaaGreatDoor
open Go Go.RowKit
namespace L.P
abbrev Vl:Type:=af.den
abbrev Ty:Type:=aa.den
theorem aL{α:Type}{c:Prop}[Decidable c]{a b:α}:(if c then some a else some b)=some (if c then a else b):=by split<;>rfl
theorem oT(a b:Bool):(if a=true then true else b)=(a||b):=by cases a<;>rfl
theorem nI(a b:Bool):(if a=true then b else false)=(a&&b):=by cases a<;>rfl
def du(k e n:Int):Prop:=
 (k=1/\e=0/\0<=n/\n<=1)\/(k=2/\e=0/\-1000000000000<=n/\n<=1000000000000)\/(k=3/\e=0/\-1000000000000000<=n/\n<=1000000000000000)\/
 (k=4/\e=0/\-1000000000<=n/\n<=1000000000)\/(k=5/\e=0/\0<=n/\n<=109572)\/(k=6/\0<=e/\e<=7/\0<=n/\n<=15)
instance(k e n:Int):Decidable (du k e n):=by unfold du;infer_instance
theorem fk(N:Nat)(v:Vl):M.dg N v=some (decide (du v.1 v.2.1 v.2.2)):=by
 revert v;rintro⟨(k:Int),(e:Int),(n:Int)⟩
 unfold M.dg;simp only[aL,ai2,oT,nI];refine congrArg some ?_;by_cases h1:k=1
 .subst h1;rw[ake];simp[du];try(dsimp only[ae,Row.den]at*;omega)
 by_cases h2:k=2
 .subst h2;rw[ake];simp[du];try(dsimp only[ae,Row.den]at*;omega)
 by_cases h3:k=3
 .subst h3;rw[ake];simp[du];try(dsimp only[ae,Row.den]at*;omega)
 by_cases h4:k=4
 .subst h4;rw[ake];simp[du];try(dsimp only[ae,Row.den]at*;omega)
 by_cases h5:k=5
 .subst h5;rw[ake];simp[du];try(dsimp only[ae,Row.den]at*;omega)
 by_cases h6:k=6
 .subst h6;rw[ake];simp[du];try(dsimp only[ae,Row.den]at*;omega)
 simp[du,h1,h2,h3,h4,h5,h6]
def BR(k e n a b:Int):Prop:=du k e n/\k=a/\e=b
instance(k e n a b:Int):Decidable (BR k e n a b):=by unfold BR;infer_instance
abbrev zH(v:Vl)(t:Ty):Prop:=BR v.1 v.2.1 v.2.2 t.1 t.2
theorem vO(N:Nat)(v:Vl)(t:Ty):M.jU N v t=some (decide (zH v t)):=by
 unfold M.jU;rw[fk];simp only[aL,ai2,nI];refine congrArg some ?_;rw[ake];simp[BR]
def BS(op k e:Int):Prop:=e=0/\(if op=36 then k=2\/k=3 else if op=39 then 2<=k/\k<=5 else k=1)
instance(op k e:Int):Decidable (BS op k e):=by unfold BS;infer_instance
abbrev Ut(op:Int)(t:Ty):Prop:=BS op t.1 t.2
theorem oU(N:Nat)(k:Int):M.fu N k=some (decide (2<=k/\k<=4)):=by
 unfold M.fu;simp only[aL,ai2,oT];refine congrArg some ?_;rw[ake];simp;omega
theorem sX(N:Nat)(op:Int)(t:Ty):M.fX N op t=some (decide (Ut op t)):=by
 unfold M.fX;rw[oU];simp only[aL,ai2,oT,nI];refine congrArg some ?_;obtain⟨(k:Int),(e:Int)⟩:=t;rw[ake]
 show _↔decide (BS op k e)=true
 unfold BS
 by_cases h0:e=0<;>by_cases h1:op=36<;>by_cases h2:op=39<;>simp[h0,h1,h2]<;>try(dsimp only[ae,Row.den]at*;omega)
def fold(op acc n:Int)(first:Bool):Int:=
 if op=36 then acc+n else if op=37 then acc*n else if op=38 then(if acc<n then n else acc)else(if first=true\/acc<n then n else acc)
def oV(op:Int)(t:Ty)(j:Nat):List (List Vl)->Bool->Int->Int⊕Int
 |[],_,acc=> .inl acc
 |l::ms,first,acc=>match l[j]? with
  |none=> .inr 6
  |some v=>if(v.1:Int)=0 then .inr 6 else if zH v t then
    (if du t.1 0 (fold op acc v.2.2 first)then oV op t j ms false (fold op acc v.2.2 first)else .inr 3)else .inr 8
def vP(op:Int):Int:=if op=37 then 1 else 0
def Ng(op:Int)(t:Ty)(j:Nat)(ms:List (List Vl)):Vl×Int:=
 if op=39/\ms=[]then((0,0,0),6)else match oV op t j ms true (vP op)with
  | .inl a=>((t.1,0,a),0)
  | .inr c=>((0,0,0),c)
def KM(op:Int)(t:Ty)(first:Bool)(acc:Int):Prop:=(op=39/\first=true/\acc=0)\/du t.1 0 acc
theorem Nh{op:Int}{t:Ty}(iK:op=36\/op=37\/op=38\/op=39)(ht:Ut op t):KM op t true (vP op):=by
 obtain⟨(k:Int),(e:Int)⟩:=t
 obtain⟨h0,h1⟩:=(show BS op k e from ht)
 show(op=39/\true=true/\vP op=0)\/du k 0 (vP op)
 unfold du vP
 rcases iK with rfl|rfl|rfl|rfl<;>simp at h1⊢<;>omega
theorem vQ{N:Nat}(hN:100001<=N){op:Int}(iK:op=36\/op=37\/op=38\/op=39){j:Nat}{env:eo.den}(hj:j<env.2.2.2.2.1.length)(hm:env.2.2.2.1.length<=100)(ht:Ut op env.2.2.2.2.1[j]):
 M.iz N (op,(j:Int)) env=some (Ng op env.2.2.2.2.1[j] j env.2.2.2.1):=by
 obtain⟨d,ip,df,ms,ts,tb⟩:=env;simp only at hj hm ht⊢;apply Wp.eq;unfold M.iz;simp only;rw[ag hj];simp only[ai2];generalize ts[j]=t at ht⊢;have LZ:(t.2:Int)=0:=(show BS op t.1 t.2 from ht).1
 have e1:(if decide (op=37)=true then some (t.1,t.2,(1:Int))else some (t.1,t.2,(0:Int)):Option Vl)=some (t.1,t.2,vP op):=by
  unfold vP;by_cases h:op=37<;>simp[h]
 rw[e1];simp only[ai2,aL,nI];unfold Ng
 refine Wp.ite (fun h=>?_) fun h=>?_
 .have:op=39/\ms=[]:=by simpa using h
  rw[if_pos this];exact .some rfl
 .have h39:¬(op=39/\ms=[]):=by simpa using h
  rw[if_neg h39]
  refine Wp.join (Wp.loop (fun s:Int×Vl=>∃k:Nat,∃acc:Int,s=((k:Int),(t.1,t.2,acc))/\k<=ms.length/\KM op t (decide (k=0)) acc/\oV op t j (ms.drop k) (decide (k=0)) acc=oV op t j ms true (vP op)) (fun s=>(ms.length-s.1).toNat)
   ⟨0,vP op,rfl,ajt _,Nh iK ht,rfl⟩ (by simp only;omega) ?_)
  rintro _ ⟨k,acc,rfl,hk,Ni,hf⟩
  simp only
  refine Wp.dec (fun h=>?_) fun h=> .some (.some ?_)
  case refine_2=>
   have hd:ms.drop k=[]:=List.drop_of_length_le (by omega);rw[hd]at hf;rw[<-hf];simp only[oV];rw[LZ]
  have dO:k<ms.length:=by omega
  have hd:ms.drop k=ms[k]::ms.drop (k+1):=ajK dO;rw[hd]at hf;rw[ag dO];simp only[ai2];rw[oV]at hf;by_cases hl:j<ms[k].length
  .rw[ai5 hl]at hf;simp only at hf;rw[ag hl];simp only[ai2,aL,oT,vO,fk];generalize ms[k][j]=v at hf⊢;by_cases hv:(v.1:Int)=0
   .rw[if_pos hv]at hf;rw[if_pos (by simp[hv])];refine .some ?_
    show _=_
    rw[<-hf]
   .rw[if_neg hv]at hf;rw[if_neg (by simp[hv];omega)];by_cases hh:zH v t
    .rw[if_pos hh]at hf;rw[if_neg (by simp[hh])]
     obtain⟨hp,Hj,CY⟩:=(show BR _ _ _ _ _ from hh)
     refine Wp.join ?_
     have key:∀a,fold op acc v.2.2 (decide (k=0))=a->du t.1 0 a->BP (fun s:Int×Vl=>∃k:Nat,∃acc:Int,s=((k:Int),(t.1,t.2,acc))/\k<=ms.length/\KM op t (decide (k=0)) acc/\oV op t j (ms.drop k) (decide (k=0)) acc=oV op t j ms true (vP op)) (fun s=>(ms.length-s.1).toNat) ((k:Int),(t.1,t.2,acc)) (tP (fun j4=>some (j4,(0:Int))) fun x=>x=match oV op t j ms true (vP op)with
      | .inl a=>((t.1,0,a),0)
      | .inr c=>((0,0,0),c)) (.inl (ai3.wrap ((k:Int)+1),(t.1,t.2,a))):=by
      intro a ha hpa;subst ha;rw[if_pos hpa]at hf;rw[aK (by omega)];refine⟨⟨k+1,_,rfl,dO, .inr hpa,?_⟩,by simp only;omega⟩;rw[show decide (k+1=0)=false by simp];exact hf
     rcases iK with rfl|rfl|rfl|rfl
     all_goals simp only[decide_true,decide_false,if_true,if_false,Int.reduceEq,ajb,Bool.not_true,Bool.not_false]
     .have Uu:du t.1 0 acc:=by
       rcases Ni with h|h
       .exact absurd h.1 (by decide)
       .exact h
      have L3:fold 36 acc v.2.2 (decide (k=0))=acc+v.2.2:=by simp[fold]
      have hw:ai3.wrap (acc+v.2.2)=acc+v.2.2:=by
       revert Uu hp;generalize(v.2.2:Int)=n;generalize(v.1:Int)=vk;generalize(v.2.1:Int)=ve;generalize(t.1:Int)=tk;intro h1 h2;unfold du at h1 h2;dsimp only[ae,Row.den]at*;exact aV (by omega) (by omega)
      rw[hw];rw[L3]at hf;by_cases rc:du t.1 0 (acc+v.2.2)
      .rw[if_neg (by rw[LZ];simp[rc])];exact .some (.some (key _ L3 rc))
      .rw[if_pos (by rw[LZ];simp[rc])];rw[if_neg rc]at hf;refine .some ?_
       show _=_
       rw[<-hf]
     .have hb:(0<=(v.2.2:Int)/\(v.2.2:Int)<=1)/\0<=acc/\acc<=1/\(t.1:Int)=1:=by
       have h1:=(show BS 37 t.1 t.2 from ht).2
       have h2:du t.1 0 acc:=by
        rcases Ni with h|h
        .exact absurd h.1 (by decide)
        .exact h
       rw[Hj]at hp;revert h1 h2 hp;generalize(v.2.2:Int)=n;generalize(v.2.1:Int)=ve;generalize(t.1:Int)=tk;intro h3 h1 h2;unfold du at h2 h3;simp at h1;dsimp only[ae,Row.den]at*;omega
      obtain⟨⟨b1,b2⟩,b3,b4,b5⟩:=hb
      have L3:fold 37 acc v.2.2 (decide (k=0))=(if v.2.2<acc then v.2.2 else acc:Int):=by
       have b2':(v.2.2:Int)=0\/(v.2.2:Int)=1:=by revert b1 b2;generalize(v.2.2:Int)=n;intro b1 b2;dsimp only[ae,Row.den]at*;omega
       have b4':acc=0\/acc=1:=by omega
       rcases b2' with e1|e1<;>rcases b4' with e2|e2<;>simp[fold,e1,e2]
      refine .some (.some (key _ L3 ?_));refine .inl ⟨b5,rfl,?_⟩;revert b1 b2;generalize(v.2.2:Int)=n;intro b1 b2;dsimp only[ae,Row.den]at*
      split<;>omega
     .have L3:fold 38 acc v.2.2 (decide (k=0))=(if acc<v.2.2 then v.2.2 else acc:Int):=by simp[fold]
      have h2:du t.1 0 acc:=by
       rcases Ni with h|h
       .exact absurd h.1 (by decide)
       .exact h
      refine .some (.some (key _ L3 ?_));rw[Hj,CY,LZ]at hp;split
      .exact hp
      .exact h2
     .have h3:du t.1 0 v.2.2:=by rw[Hj,CY,LZ]at hp;exact hp
      by_cases hc:((k:Int)=0)\/acc<v.2.2
      .have L3:fold 39 acc v.2.2 (decide (k=0))=v.2.2:=by
        have:k=0\/acc<v.2.2:=hc.imp (fun h=>by omega) id;simp[fold,this]
       rw[if_pos (by simpa using hc)]
       have hv3:v=(t.1,t.2,v.2.2):=by rw[<-Hj,<-CY]
       rw[hv3];exact .some (.some (key _ L3 h3))
      .have L3:fold 39 acc v.2.2 (decide (k=0))=acc:=by
        have:¬(k=0\/acc<v.2.2):=fun h=>hc (h.imp (fun h=>by omega) id)
        simp[fold,this]
       rw[if_neg (by simpa using hc)];refine .some (.some (key _ L3 ?_))
       rcases Ni with h|h
       .exact absurd h.2.1 (by simp;omega)
       .exact h
    .rw[if_neg hh]at hf;rw[if_pos (by simp[hh])];refine .some ?_
     show _=_
     rw[<-hf]
  .rw[List.getElem?_eq_none (by omega)]at hf;rw[if_pos (by simp;omega)];refine .some ?_
   show _=_
   rw[<-hf]
end L.P
end Go.Proofs.YtilaieogabgamaaGreatDoor
end
section
open _root_.Bool renaming and_eq_true->akm,false_eq_true->ajb
open _root_.Int renaming fdiv_eq_ediv_of_nonneg->akQ,tdiv->ajo,toNat_of_nonneg->akg
open _root_.Go.IntKind renaming i64->ai3,u64->ajd
open _root_.Nat renaming beq->aje,div_div_eq_div_mul->akL,mul_le_mul_right->ajw,pow_add->akR
open _root_.Option renaming bind_some->ai2
namespace Go.Proofs.YtilaieogabgamaaGreatDoor
open Go Go.RowKit
set_option maxRecDepth 100000
namespace L.P
theorem vR{n:Int}(h0:0<=n)(h1:n<18446744073709551616):ajd.wrap n=n:=by
 simp[IntKind.wrap,IntKind.bits,IntKind.signed];omega
theorem zI(n:Int):ajd.wrap n=n%18446744073709551616:=by
 simp[IntKind.wrap,IntKind.bits,IntKind.signed]
theorem k7(n:Int):0<=ajd.wrap n/\ajd.wrap n<18446744073709551616:=by rw[zI];omega
theorem OK(a:Int):fU .u64 a 32=a/4294967296:=by
 unfold fU;rw[show min (32:Int).toNat ajd.bits=32 from rfl];exact akQ _ (by decide)
theorem Uv(a:Int):fU .u64 a 16=a/65536:=by
 unfold fU;rw[show min (16:Int).toNat ajd.bits=16 from rfl];exact akQ _ (by decide)
theorem abg(a:Int):fU .u64 a 8=a/256:=by
 unfold fU;rw[show min (8:Int).toNat ajd.bits=8 from rfl];exact akQ _ (by decide)
def zJ:ByteArray:=(⟨#[0,1,2,2,3,3,3,3,4,4,4,4,4,4,4,4,5,5,5,5,5,5,5,5,5,5,5,5,5,5,5,5,6,6,6,6,6,6,6,6,6,6,6,6,6,6,6,6,6,6,6,6,6,6,6,6,6,6,6,6,6,6,6,6,7,7,7,7,7,7,7,7,7,7,7,7,7,7,7,7,7,7,7,7,7,7,7,7,7,7,7,7,7,7,7,7,7,7,7,7,7,7,7,7,7,7,7,7,7,7,7,7,7,7,7,7,7,7,7,7,7,7,7,7,7,7,7,7,8,8,8,8,8,8,8,8,8,8,8,8,8,8,8,8,8,8,8,8,8,8,8,8,8,8,8,8,8,8,8,8,8,8,8,8,8,8,8,8,8,8,8,8,8,8,8,8,8,8,8,8,8,8,8,8,8,8,8,8,8,8,8,8,8,8,8,8,8,8,8,8,8,8,8,8,8,8,8,8,8,8,8,8,8,8,8,8,8,8,8,8,8,8,8,8,8,8,8,8,8,8,8,8,8,8,8,8,8,8,8,8,8,8,8,8,8,8,8,8,8,8,8,8,8,8,8,8]⟩:ByteArray)
def OL(n:Nat):Bool:=match kF zJ n with
 |some k=>decide (0<=k)&&decide (k<=8)&&decide (n<2 ^ k.toNat)&&(aje n 0||(decide (1<=k)&&decide (2 ^ (k.toNat-1)<=n)))
 |none=>false
theorem Nj:(List.range 256).all OL=true:=by kernel_rfl
theorem zA{n:Nat}(h:n<256):∃k:Nat,kF zJ n=some (k:Int)/\k<=8/\n<2 ^ k/\(n≠0->1<=k/\2 ^ (k-1)<=n):=by
 have:=List.all_eq_true.1 Nj n (List.mem_range.2 h);unfold OL at this;split at this
 case h_2=>cases this
 rename_i k hk;simp only[akm,Bool.or_eq_true,decide_eq_true_eq,Nat.beq_eq]at this;obtain⟨⟨⟨h1,h2⟩,h3⟩,h4⟩:=this;refine⟨k.toNat,by rw[hk,akg h1],by omega,h3,fun hn=>?_⟩
 rcases h4 with h4|h4
 .exact absurd h4 hn
 .exact⟨by omega,h4.2⟩
theorem QU{m b k:Nat}(h:m/2 ^ b<2 ^ k):m<2 ^ (b+k):=by
 rw[Nat.div_lt_iff_lt_mul (Nat.two_pow_pos b)]at h;rw[akR,Nat.mul_comm];exact h
theorem QV{m b k:Nat}(hk:1<=k)(h:2 ^ (k-1)<=m/2 ^ b):2 ^ (b+k-1)<=m:=by
 rw[Nat.le_div_iff_mul_le (Nat.two_pow_pos b)]at h;rw[show b+k-1=k-1+b by omega,akR];exact h
theorem KN{N m:Nat}(hm:m<18446744073709551616):∃L:Nat,M.iY N m=some (L:Int)/\L<=64/\m<2 ^ L/\(m≠0->1<=L/\2 ^ (L-1)<=m):=by
 have fin:∀(b q:Nat)(w:Int),q=m/2 ^ b->w=b->b<=56->q<256->(m≠0->q≠0)->∃L:Nat,((kF zJ (IntKind.u8.wrap (q:Int))).bind fun x4=>some (ai3.wrap (w+ai3.wrap x4)))=some (L:Int)/\L<=64/\m<2 ^ L/\(m≠0->1<=L/\2 ^ (L-1)<=m):=by
  intro b q w hq hw hb h1 h2;subst hq;subst hw;obtain⟨k,g1,g2,g3,g4⟩:=zA h1
  have hu:IntKind.u8.wrap ((m/2 ^ b:Nat):Int)=((m/2 ^ b:Nat):Int):=by
   simp only[IntKind.wrap,IntKind.bits,IntKind.signed];generalize m/2 ^ b=q at h1⊢;simp;omega
  refine⟨b+k,?_,by omega,QU g3,fun bN=>?_⟩
  .rw[hu,g1,ai2,BQ (by omega),<-Int.natCast_add,BQ (by omega)]
  .obtain⟨g5,g6⟩:=g4 (h2 bN);exact⟨by omega,QV g5 g6⟩
 have e32:((m:Int)/4294967296)=((m/2 ^ 32:Nat):Int):=by rw[show(2 ^ 32:Nat)=4294967296 from rfl];omega
 have d48:m/2 ^ 32/2 ^ 16=m/2 ^ 48:=by rw[akL,<-akR]
 have d40:m/2 ^ 32/2 ^ 8=m/2 ^ 40:=by rw[akL,<-akR]
 have d56:m/2 ^ 48/2 ^ 8=m/2 ^ 56:=by rw[akL,<-akR]
 have d24:m/2 ^ 16/2 ^ 8=m/2 ^ 24:=by rw[akL,<-akR]
 have c16:∀q:Nat,((q:Int)/65536)=((q/2 ^ 16:Nat):Int):=fun q=>by rw[show(2 ^ 16:Nat)=65536 from rfl];omega
 have c8:∀q:Nat,((q:Int)/256)=((q/2 ^ 8:Nat):Int):=fun q=>by rw[show(2 ^ 8:Nat)=256 from rfl];omega
 unfold M.iY;rw[show(⟨#[0,1,2,2,3,3,3,3,4,4,4,4,4,4,4,4,5,5,5,5,5,5,5,5,5,5,5,5,5,5,5,5,6,6,6,6,6,6,6,6,6,6,6,6,6,6,6,6,6,6,6,6,6,6,6,6,6,6,6,6,6,6,6,6,7,7,7,7,7,7,7,7,7,7,7,7,7,7,7,7,7,7,7,7,7,7,7,7,7,7,7,7,7,7,7,7,7,7,7,7,7,7,7,7,7,7,7,7,7,7,7,7,7,7,7,7,7,7,7,7,7,7,7,7,7,7,7,7,8,8,8,8,8,8,8,8,8,8,8,8,8,8,8,8,8,8,8,8,8,8,8,8,8,8,8,8,8,8,8,8,8,8,8,8,8,8,8,8,8,8,8,8,8,8,8,8,8,8,8,8,8,8,8,8,8,8,8,8,8,8,8,8,8,8,8,8,8,8,8,8,8,8,8,8,8,8,8,8,8,8,8,8,8,8,8,8,8,8,8,8,8,8,8,8,8,8,8,8,8,8,8,8,8,8,8,8,8,8,8,8,8,8,8,8,8,8,8,8,8,8,8,8,8,8,8,8]⟩:ByteArray)=zJ from rfl];simp only[OK,Uv,abg,e32,c16,c8];by_cases h1:4294967296<=m
 .have a1:decide ((4294967296:Int)<=(m:Int))=true:=by simp;omega
  simp only[a1,if_true,ai2,c16,d48];by_cases h2:65536<=m/2 ^ 32
  .have a2:decide ((65536:Int)<=((m/2 ^ 32:Nat):Int))=true:=by simp;omega
   simp only[a2,if_true,ai2,c8,d56];by_cases h3:256<=m/2 ^ 48
   .have a3:decide ((256:Int)<=((m/2 ^ 48:Nat):Int))=true:=by simp;omega
    simp only[a3,if_true,ai2];exact fin 56 _ _ rfl (by kernel_rfl) (by omega) (by omega) (by omega)
   .have a3:decide ((256:Int)<=((m/2 ^ 48:Nat):Int))=false:=by simp;omega
    simp only[a3,ajb,if_false,ai2];exact fin 48 _ _ rfl (by kernel_rfl) (by omega) (by omega) (by omega)
  .have a2:decide ((65536:Int)<=((m/2 ^ 32:Nat):Int))=false:=by simp;omega
   simp only[a2,ajb,if_false,ai2,c8,d40];by_cases h3:256<=m/2 ^ 32
   .have a3:decide ((256:Int)<=((m/2 ^ 32:Nat):Int))=true:=by simp;omega
    simp only[a3,if_true,ai2];exact fin 40 _ _ rfl (by kernel_rfl) (by omega) (by omega) (by omega)
   .have a3:decide ((256:Int)<=((m/2 ^ 32:Nat):Int))=false:=by simp;omega
    simp only[a3,ajb,if_false,ai2];exact fin 32 _ _ rfl (by kernel_rfl) (by omega) (by omega) (by omega)
 .have a1:decide ((4294967296:Int)<=(m:Int))=false:=by simp;omega
  simp only[a1,ajb,if_false,ai2,c16];by_cases h2:65536<=m
  .have a2:decide ((65536:Int)<=(m:Int))=true:=by simp;omega
   simp only[a2,if_true,ai2,c8,d24];by_cases h3:256<=m/2 ^ 16
   .have a3:decide ((256:Int)<=((m/2 ^ 16:Nat):Int))=true:=by simp;omega
    simp only[a3,if_true,ai2];exact fin 24 _ _ rfl (by kernel_rfl) (by omega) (by omega) (by omega)
   .have a3:decide ((256:Int)<=((m/2 ^ 16:Nat):Int))=false:=by simp;omega
    simp only[a3,ajb,if_false,ai2];exact fin 16 _ _ rfl (by kernel_rfl) (by omega) (by omega) (by omega)
  .have a2:decide ((65536:Int)<=(m:Int))=false:=by simp;omega
   simp only[a2,ajb,if_false,ai2,c8];by_cases h3:256<=m
   .have a3:decide ((256:Int)<=(m:Int))=true:=by simp;omega
    simp only[a3,if_true,ai2];exact fin 8 _ _ rfl (by kernel_rfl) (by omega) (by omega) (by omega)
   .have a3:decide ((256:Int)<=(m:Int))=false:=by simp;omega
    simp only[a3,ajb,if_false,ai2];exact fin 0 m _ (by simp) (by kernel_rfl) (by omega) (by omega) (fun h=>h)
theorem Uw(rh:Int)(h:0<=rh):(if rh<4294967296 then(4294967296-rh).toNat else 4294967297)<aC:=by
 unfold aC
 split<;>omega
theorem HQ{hi lo y:Int}(h0:0<=hi)(h1:hi<y)(h2:y<18446744073709551616):∃r,M.dm aC hi lo y=some r:=by
 have key:Wp (M.dm aC hi lo y) fun _=>True:=by
  unfold M.dm;rw[if_neg (by simp;omega),if_neg (by simp;omega)]
  refine Wp.dec (fun _=>?_) fun bN=>?_
  .unfold yF GG;rw[if_neg (by omega),if_neg (by omega)];exact .some trivial
  .obtain⟨m,rfl⟩:∃m:Nat,y=m:=⟨y.toNat,by omega⟩
   obtain⟨L,g1,g2,g3,g4⟩:=KN (N:=aC) (m:=m) (by omega);obtain⟨g4,g5⟩:=g4 (by omega);unfold M.fx;rw[g1]
   have hL:ajd.wrap (ai3.wrap ((64:Int)-(L:Int)))=((64-L:Nat):Int):=by
    rw[aV (by omega) (by omega),vR (by omega) (by omega)];omega
   have hL2:ajd.wrap ((64:Int)-((64-L:Nat):Int))=(L:Int):=by rw[vR (by omega) (by omega)];omega
   simp only[ai2,hL,hL2]
   have fO:∀a:Int,GD .u64 a ((64-L:Nat):Int)=some (yE .u64 a ((64-L:Nat):Int)):=fun a=>if_neg (by omega)
   have QW:∀a:Int,GF .u64 a (L:Int)=some (fU .u64 a (L:Int)):=fun a=>if_neg (by omega)
   have abi:∀a:Int,GF .u64 a ((64-L:Nat):Int)=some (fU .u64 a ((64-L:Nat):Int)):=fun a=>if_neg (by omega)
   simp only[fO,QW,abi,ai2,OK]
   have hy:9223372036854775808<=yE .u64 (m:Int) ((64-L:Nat):Int)/\yE .u64 (m:Int) ((64-L:Nat):Int)<18446744073709551616:=by
    unfold yE;rw[show min (((64-L:Nat):Int).toNat) ajd.bits=64-L by simp[IntKind.bits]]
    have e1:m*2 ^ (64-L)<2 ^ 64:=by
     calc m*2 ^ (64-L)<2 ^ L*2 ^ (64-L):=Nat.mul_lt_mul_of_pos_right g3 (Nat.two_pow_pos _)
      _=2 ^ 64:=by rw[<-akR];congr 1;omega
    have e2:2 ^ 63<=m*2 ^ (64-L):=by
     calc 2 ^ 63=2 ^ (L-1)*2 ^ (64-L):=by rw[<-akR];congr 1;omega
      _<=m*2 ^ (64-L):=ajw _ g5
    have e3:((m:Int)*2 ^ (64-L))=((m*2 ^ (64-L):Nat):Int):=by simp
    rw[e3,vR (by omega) (by omega)];omega
   generalize yE .u64 (m:Int) ((64-L:Nat):Int)=x4 at hy⊢
   have hyn:0<x4/4294967296/\x4/4294967296<4294967296:=by omega
   generalize x4/4294967296=yn at hyn⊢
   have quo:∀a:Int,yF a yn=some (ajo a yn):=fun a=>if_neg (by omega)
   simp only[quo,ai2]
   have inv:∀rh:Int,0<=rh->rh<18446744073709551616->¬4294967296<=ajd.wrap (rh+yn)->(if ajd.wrap (rh+yn)<4294967296 then(4294967296-ajd.wrap (rh+yn)).toNat else 4294967297)<(if rh<4294967296 then(4294967296-rh).toNat else 4294967297):=by
    intro rh i1 i2 hc;rw[if_pos (by omega)];by_cases hr:rh<4294967296
    .rw[if_pos hr];have:ajd.wrap (rh+yn)=rh+yn:=vR (by omega) (by omega);rw[this]at hc⊢;omega
    .rw[if_neg hr];have:=k7 (rh+yn);omega
   simp only[aL,oT,ai2]
   refine Wp.seq (fun _=>True) (Wp.seq (fun _=>True) (Wp.loop (fun s:Int×Int=>0<=s.2/\s.2<18446744073709551616) (fun s=>if s.2<4294967296 then(4294967296-s.2).toNat else 4294967297) (k7 _) (Uw _ (k7 _).1) ?_) fun _ _=> .some trivial) fun j9 _=>?_
   .rintro⟨q,rh⟩ ⟨i1,i2⟩
    refine .some ?_;split
    .split
     .trivial
     .rename_i hc;exact⟨k7 _,inv rh i1 i2 (by simpa using hc)⟩
    .trivial
   refine Wp.seq (fun _=>True) (Wp.seq (fun _=>True) (Wp.loop (fun s:Int×Int=>0<=s.1/\s.1<18446744073709551616) (fun s=>if s.1<4294967296 then(4294967296-s.1).toNat else 4294967297) (k7 _) (Uw _ (k7 _).1) ?_) fun _ _=> .some trivial) fun FB _=> .some trivial
   .rintro⟨rh,q⟩ ⟨i1,i2⟩
    refine .some ?_;split
    .split
     .trivial
     .rename_i hc;exact⟨k7 _,inv rh i1 i2 (by simpa using hc)⟩
    .trivial
 obtain⟨x,hx,_⟩:=key;exact⟨x,hx⟩
theorem lL(N:Nat)(m:Int):M.e8 N m=some (decide (0<=m)&&decide (m<=5)):=by
 unfold M.e8;simp only[aL,ai2,nI]
theorem pM(N:Nat)(n l:Int):M.dF N n l=some (decide (l<n)||decide (n<ai3.wrap (0-l))):=by
 unfold M.dF;simp only[aL,ai2,oT]
theorem kl(N:Nat){n:Int}(h: -4611686018427387904<=n/\n<=4611686018427387904):M.dp N n=some (if n<0 then-n else n):=by
 unfold M.dp;simp only[aL];refine congrArg some ?_;by_cases hn:n<0
 .rw[if_pos (by simpa using hn),if_pos hn,zI n,zI];omega
 .rw[if_neg (by simpa using hn),if_neg hn,vR (by omega) (by omega)]
end L.P
end Go.Proofs.YtilaieogabgamaaGreatDoor
end
