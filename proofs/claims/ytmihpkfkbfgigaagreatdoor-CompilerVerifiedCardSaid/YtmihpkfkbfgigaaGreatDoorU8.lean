/- Joined texts: ModelA ModelZ Plain Wq PV PT PT2. -/
import Derived.Test.YtmihpkfkbfgigaaGreatDoorU7
import Derived.Test.YtmihpkfkbfgigaaGreatDoorU1
import Derived.Test.YtmihpkfkbfgigaaGreatDoorU6
section
open _root_.Int renaming tdiv->ajE,tmod->ajY
open _root_.Go.IntKind renaming i64->ajj,u64->ajt
namespace Go.Proofs.YtmihpkfkbfgigaaGreatDoor
open Go Go.RowKit
noncomputable section
set_option maxRecDepth 100000
set_option linter.unusedVariables false
def M.bB(N:Nat)(a0:aa.den)(a1:List af.den)(a2:cE.den):Option (af.den×Int):=
((if(decide (a0.1=1))then
some (decide (a0.1=1))
else
(if(decide (a0.1=2))then
some (decide (a0.1=2))
else
(if(decide (a0.1=3))then
some (decide (a0.1=3))
else
(if(decide (a0.1=4))then
some (decide (a0.1=4))
else
some (decide (a0.1=5)))))):Option Bool).bind fun j1=>
(if j1 then
some ((a0.1,(0,a0.2)),0)
else
(if(decide (a0.1=6))then
some ((6,(ajj.wrap (ajE a0.2 16),ajY a0.2 16)),0)
else
(if(decide (a0.1=7))then
(idx a2.2.1 a0.2).bind fun x2=>
some (x2,0)
else
(if(decide (a0.1=8))then
(idx a2.2.2.1 a0.2).bind fun x3=>
some (x3,0)
else
(if(decide (a0.1=9))then
some ((5,(0,a2.1)),0)
else
(if(decide (a0.1=35))then
some ((2,(0,(a2.2.2.2.1.length:Int))),0)
else
((if(decide (a0.1=36))then
some (decide (a0.1=36))
else
(if(decide (a0.1=37))then
some (decide (a0.1=37))
else
(if(decide (a0.1=38))then
some (decide (a0.1=38))
else
some (decide (a0.1=39))))):Option Bool).bind fun j4=>
(if j4 then
(M.iM N a0 a2).bind fun y5=>
some (y5.1,y5.2)
else
(if(decide (a0.1=33))then
(idx a2.2.2.2.2.2 a0.2).bind fun x6=>
(idx a1 0).bind fun x7=>
(M.km N x6 a2.1 x7.2.2).bind fun y8=>
(if(!y8.2)then
some ((0,(0,0)),6)
else
(idx x6.2.2.2 y8.1).bind fun x9=>
some ((x6.2.2.1.1,(x6.2.2.1.2,x9.2.2.2)),0))
else
(if(decide (a0.1=34))then
(idx a2.2.2.2.2.2 (ajj.wrap (ajE a0.2 8))).bind fun r9=>
(idx a1 0).bind fun oE=>
(M.iy N r9 a2.1 oE.2.2 (ajY a0.2 8)).bind fun qj=>
some ((3,(0,qj.1)),qj.2)
else
(if(decide ((a1.length:Int)=1))then
(idx a1 0).bind fun oX=>
(M.jA N a0.1 oX).bind fun qk=>
some (qk,0)
else
(if(decide ((a1.length:Int)=2))then
(idx a1 0).bind fun Ea=>
(idx a1 1).bind fun KP=>
(M.fA N a0 Ea KP).bind fun wS=>
some (wS.1,wS.2)
else
(idx a1 0).bind fun CX=>
(if(decide (CX.2.2=1))then
(idx a1 1).bind fun Ql=>
some (Ql,0)
else
(idx a1 2).bind fun Tu=>
some (Tu,0)))))))))))))
def aaF(N:Nat):br:=⟨⟨[(0, .g aa),(1, .l (.slice af)),(2, .g cE)],[],[],0⟩,⟨[(0, .g af),(1, .l ae)],[],[],0⟩,fun(x:aa.den×(List af.den)×cE.den)=>M.bB N x.1 x.2.1 x.2.2⟩
theorem aaG(N:Nat):av Tryz.prog 127 (aaF N):=fw (en [ck (ZK N),ck (ZM N),ck (Z4 N),ck (aaf N),ck (aaE N)] false false) (N:=N) (.o (.two (.o (.two (.meet ⟨[(15, .l .bool)],[],[],96⟩ .nil (.o (.o (.o (.o (.o (.o (.o (.o (.o (.o (.o (.meet ⟨[(62, .l .bool)],[],[],256⟩ .nil .nil))))))))))))) .nil)) .nil)) Tryz.func127 (by kernel_rfl) fun x=>by kernel_rfl
def M.bI(N:Nat)(a0:aa.den)(a1:List af.den)(a2:cE.den):Option (af.den×Int):=
((M.cM N a0).bind fun y2=>
(if(!y2)then
some true
else
(M.dh N a0.1).bind fun y3=>
some (!decide ((a1.length:Int)=y3))):Option Bool).bind fun j1=>
(if j1 then
some ((0,(0,0)),2)
else
(M.dD N a0 a2).bind fun y4=>
(if(!y4)then
some ((0,(0,0)),6)
else
((M.cZ N a1).bind fun y6=>
(if(!y6)then
some true
else
(M.bt N a0 a1 a2).bind fun y7=>
some (!y7)):Option Bool).bind fun j5=>
(if j5 then
some ((0,(0,0)),8)
else
(M.bB N a0 a1 a2).bind fun y8=>
(if(!decide (y8.2=0))then
some ((0,(0,0)),y8.2)
else
(M.cv N y8.1).bind fun y9=>
(if(!y9)then
some ((0,(0,0)),3)
else
some (y8.1,0))))))
def S71(N:Nat):br:=⟨⟨[(0, .g aa),(1, .l (.slice af)),(2, .g cE)],[],[],0⟩,⟨[(0, .g af),(1, .l ae)],[],[],0⟩,fun(x:aa.den×(List af.den)×cE.den)=>M.bI N x.1 x.2.1 x.2.2⟩
theorem W71(N:Nat):av Tryz.prog 71 (S71 N):=fw (en [ck (Nw N),ck (Zr N),ck (Zt N),ck (Zw N),ck (ZI N),ck (aaG N),ck (KR N)] false false) (N:=N) (.o (.two (.meet ⟨[(20, .l .bool)],[],[],64⟩ .nil .nil) (.o (.two (.meet ⟨[(36, .l .bool)],[],[],128⟩ .nil .nil) .nil)))) Tryz.func71 (by kernel_rfl) fun x=>by kernel_rfl
def M.eZ(N:Nat)(a0:aa.den):Option (af.den×Bool):=
bM (J:=Unit) (R:=af.den×Bool) ((if(decide (a0.1=1))then
some (.inr ((1,(0,a0.2)),true))
else
(if(decide (a0.1=2))then
some (.inr ((2,(0,a0.2)),true))
else
(if(decide (a0.1=3))then
some (.inr ((3,(0,a0.2)),true))
else
(if(decide (a0.1=4))then
some (.inr ((4,(0,a0.2)),true))
else
(if(decide (a0.1=5))then
some (.inr ((5,(0,a0.2)),true))
else
(if(decide (a0.1=6))then
((if(decide (0<=a0.2))then
some (decide (a0.2<128))
else
some false):Option Bool).bind fun j2=>
(if j2 then
some (.inr ((6,(ajj.wrap (ajE a0.2 16),ajY a0.2 16)),true))
else
some (.inl ()))
else
some (.inl ())))))))) fun j1=>
some ((0,(0,0)),false)
def aaH(N:Nat):br:=⟨⟨[(0, .g aa)],[],[],0⟩,⟨[(0, .g af),(1, .l .bool)],[],[],0⟩,fun(x:aa.den)=>M.eZ N x⟩
theorem aaI(N:Nat):av Tryz.prog 184 (aaH N):=fw (en [] false false) (N:=N) (.o (.two (.o (.join ⟨[],[],[],80⟩ (.o (.o (.o (.o (.o (.o (.o (.o (.o (.o (.o (.two (.meet ⟨[(40, .l .bool)],[],[],272⟩ .nil .nil) .nil)))))))))))) .nil)) .nil)) Tryz.func184 (by kernel_rfl) fun x=>by kernel_rfl
def M.fO(N:Nat)(a0:af.den):Option (aa.den):=
(if(decide (a0.1=1))then
some (1,a0.2.2)
else
(if(decide (a0.1=2))then
some (2,a0.2.2)
else
(if(decide (a0.1=3))then
some (3,a0.2.2)
else
(if(decide (a0.1=4))then
some (4,a0.2.2)
else
(if(decide (a0.1=5))then
some (5,a0.2.2)
else
some (6,ajj.wrap ((ajj.wrap (16*a0.2.1))+a0.2.2)))))))
def aaJ(N:Nat):br:=⟨⟨[(0, .g af)],[],[],0⟩,⟨[(0, .g aa)],[],[],0⟩,fun(x:af.den)=>M.fO N x⟩
theorem aaK(N:Nat):av Tryz.prog 185 (aaJ N):=fw (en [] false false) (N:=N) .nil Tryz.func185 (by kernel_rfl) fun x=>by kernel_rfl
def M.gG(N:Nat)(a0:List aa.den)(a1:Int):Option (aa.den×Int×Bool):=
(idx a0 a1).bind fun x1=>
(M.dc N x1.1).bind fun y2=>
(if y2 then
some ((0,0),0,false)
else
(M.dh N x1.1).bind fun y3=>
((if(decide (y3<1))then
some true
else
some (decide (a1<y3))):Option Bool).bind fun j4=>
(if j4 then
some ((0,0),0,false)
else
bM (J:=List af.den) (R:=aa.den×Int×Bool) ((fa a0 (ajj.wrap (a1-y3)) a1).bind fun l6=>
Loop (S:=Int×List af.den) (X:=(List af.den)⊕(aa.den×Int×Bool)) (fun s7=>
(if(decide (s7.1<(l6.length:Int)))then
(idx l6 s7.1).bind fun x8=>
(M.eZ N x8).bind fun y9=>
(if(!y9.2)then
some (.inr (.inr ((0,0),0,false)))
else
(bZ s7.2 ([y9.1]:List af.den)).bind fun xk=>
some (.inl (ajj.wrap (s7.1+1),xk)))
else
some (.inr (.inl s7.2)))) N (0,([]:List af.den))) fun j5=>
bM (J:=Unit) (R:=aa.den×Int×Bool) (Loop (S:=Int) (X:=Unit⊕(aa.den×Int×Bool)) (fun vU=>
(if(decide (vU<(a0.length:Int)))then
(idx a0 vU).bind fun oX=>
((M.dc N oX.1).bind fun D9=>
(if D9 then
(if(decide ((ajj.wrap (a1-y3))<oX.2))then
some (decide (oX.2<=a1))
else
some false)
else
some false):Option Bool).bind fun FE=>
(if FE then
some (.inr (.inr ((0,0),0,false)))
else
some (.inl (ajj.wrap (vU+1))))
else
some (.inr (.inl ())))) N 0) fun CY=>
(M.bI N x1 j5 (0,(([]:List af.den),(([]:List af.den),(([]:List (List af.den)),(([]:List aa.den),([]:List ay.den))))))).bind fun IT=>
(if(!decide (IT.2=0))then
some ((0,0),0,false)
else
(M.fO N IT.1).bind fun wS=>
some (wS,y3,true))))
def aaL(N:Nat):br:=⟨⟨[(0, .l (.slice aa)),(1, .l ae)],[],[],0⟩,⟨[(0, .g aa),(1, .l ae),(2, .l .bool)],[],[],0⟩,fun(x:(List aa.den)×Int)=>M.gG N x.1 x.2⟩
theorem aaM(N:Nat):av Tryz.prog 154 (aaL N):=fw (en [ck (Nw N),ck (W71 N),ck (KQ N),ck (aaI N),ck (aaK N)] false false) (N:=N) (.o (.o (.o (.o (.two (.meet ⟨[(35, .l .bool)],[],[],256⟩ .nil .nil) (.o (.join ⟨[(9, .val false (.own 272))],[(272, .own 76 af)],[],273⟩ (.o (.two (.loop ⟨[(9, .val false (.own 400)),(44, .l ae)],[(400, .own 76 af)],[],401⟩ .nil) .nil)) (.join ⟨[],[],[],273⟩ (.o (.two (.loop ⟨[(63, .l ae)],[],[],321⟩ (.o (.o (.two (.two (.o (.meet ⟨[(83, .l .bool)],[],[],401⟩ .nil .nil)) .nil) .nil)))) .nil)) .nil)))))))) Tryz.func154 (by kernel_rfl) fun x=>by kernel_rfl
def M.dQ(N:Nat)(a0:List aa.den)(a1:Int)(a2:Int)(a3:aa.den):Option (List aa.den):=
(fa a0 0 (ajj.wrap (a1-a2))).bind fun l1=>
(bZ ([]:List aa.den) l1).bind fun l2=>
(bZ l2 ([a3]:List aa.den)).bind fun l3=>
(fa a0 (ajj.wrap (a1+1)) (a0.length:Int)).bind fun l4=>
(bZ l3 l4).bind fun l5=>
Loop (S:=Int×List aa.den) (X:=List aa.den) (fun s6=>
(if(decide (s6.1<(l5.length:Int)))then
((idx s6.2 s6.1).bind fun x8=>
((M.dc N x8.1).bind fun oW=>
(if oW then
some (decide (a1<x8.2))
else
some false):Option Bool).bind fun j9=>
(if j9 then
(idx s6.2 s6.1).bind fun oE=>
(idx s6.2 s6.1).bind fun rH=>
some (aQ s6.2 s6.1 (rH.1,ajj.wrap (oE.2-a2)))
else
some s6.2):Option (List aa.den)).bind fun j7=>
some (.inl (ajj.wrap (s6.1+1),j7))
else
some (.inr s6.2))) N (0,l5)
def aaN(N:Nat):br:=⟨⟨[(0, .l (.slice aa)),(1, .l ae),(2, .l ae),(3, .g aa)],[],[],0⟩,⟨[(0, .val false (.own 0))],[(0, .own 73 aa)],[],1⟩,fun(x:(List aa.den)×Int×Int×aa.den)=>M.dQ N x.1 x.2.1 x.2.2.1 x.2.2.2⟩
theorem aaO(N:Nat):av Tryz.prog 155 (aaN N):=fw (en [ck (KQ N)] false false) (N:=N) (.o (.o (.o (.o (.o (.two (.o (.two (.loop ⟨[(31, .l ae)],[(336, .own 73 aa)],[],417⟩ (.o (.o (.two (.meet ⟨[],[(336, .own 73 aa)],[],434⟩ (.o (.meet ⟨[(44, .l .bool)],[],[],529⟩ .nil .nil)) .nil) .nil)))) .nil)) .nil)))))) Tryz.func155 (by kernel_rfl) fun x=>by kernel_rfl
def M.dy(N:Nat)(a0:List aa.den):Option (List aa.den):=
bM (J:=List aa.den) (R:=List aa.den) ((M.ak N a0).bind fun y1=>
(M.ed N a0).bind fun y2=>
(if(!y2)then
some (.inr y1)
else
some (.inl y1)):Option ((List aa.den)⊕(List aa.den))) fun s3=>
Loop (S:=List aa.den) (X:=List aa.den) (fun s4=>
bM (J:=List aa.den) (R:=(List aa.den)⊕(List aa.den)) (Loop (S:=Int×List aa.den) (X:=(List aa.den)⊕((List aa.den)⊕(List aa.den))) (fun s6=>
(if(decide (s6.1<(s4.length:Int)))then
(M.gG N s6.2 s6.1).bind fun y7=>
(if y7.2.2 then
(M.dQ N s6.2 s6.1 y7.2.1 y7.1).bind fun y8=>
some (.inr (.inr (.inl y8)))
else
some (.inl (ajj.wrap (s6.1+1),s6.2)))
else
some (.inr (.inl s6.2)))) N (0,s4)) fun j5=>
some (.inr j5)) N s3
def UC(N:Nat):br:=⟨⟨[(0, .l (.slice aa))],[],[],0⟩,⟨[(0, .val false (.own 0))],[(0, .own 73 aa)],[],1⟩,fun(x:List aa.den)=>M.dy N x⟩
theorem aaP(N:Nat):av Tryz.prog 106 (UC N):=KK (E:=(en [ck (Nx N),ck (QE N),ck (aaM N),ck (aaO N)] false false)) (N:=N) (l:=0) (L:=⟨[(3, .val false (.own 16))],[(16, .own 73 aa)],[],17⟩) (a0:= .nil) (a1:=(.o (.two .nil .nil))) (a2:=(.join ⟨[(3, .val false (.own 16))],[(16, .own 73 aa)],[],18⟩ (.o (.two (.loop ⟨[(3, .val false (.own 16)),(16, .l ae)],[(16, .own 73 aa)],[],66⟩ .nil) .nil)) .nil)) (sg:=UC N) (c:=Tryz.f106.body.getD .skip) (rs:=Tryz.f106.results.toList) Tryz.func106 (by kernel_rfl) (by kernel_rfl) rfl rfl rfl rfl (fun x=>by kernel_rfl)
def M.gP(N:Nat)(a0:List aa.den):Option (List aa.den):=
(M.dy N a0).bind fun y1=>
(M.dV N y1).bind fun y2=>
(M.cJ N y2).bind fun y3=>
some y3
def S60(N:Nat):br:=⟨⟨[(0, .l (.slice aa))],[],[],0⟩,⟨[(0, .val false (.own 0))],[(0, .own 73 aa)],[],1⟩,fun(x:List aa.den)=>M.gP N x⟩
theorem W60(N:Nat):av Tryz.prog 60 (S60 N):=fw (en [ck (Zn N),ck (Zp N),ck (aaP N)] false false) (N:=N) .nil Tryz.func60 (by kernel_rfl) fun x=>by kernel_rfl
def M.bD(N:Nat)(a0:List aa.den):Option (List aa.den):=
(if(decide ((a0.length:Int)=0))then
some ([]:List aa.den)
else
(M.iL N a0).bind fun y1=>
(M.gP N y1.2).bind fun y2=>
some y2)
def S33(N:Nat):br:=⟨⟨[(0, .l (.slice aa))],[],[],0⟩,⟨[(0, .val false (.own 0))],[(0, .own 73 aa)],[],1⟩,fun(x:List aa.den)=>M.bD N x⟩
theorem W33(N:Nat):av Tryz.prog 33 (S33 N):=fw (en [ck (W59 N),ck (W60 N)] false false) (N:=N) .nil Tryz.func33 (by kernel_rfl) fun x=>by kernel_rfl
def M.cA(N:Nat)(a0:cF.den)(a1:Int)(a2:Int):Option ((List aZ.den)×(List Int)×(List (List aa.den))×List (List aa.den)):=
(idx a0.2.2 a1).bind fun x1=>
(M.dl N x1).bind fun y2=>
(M.gA N a0 a2).bind fun y3=>
(idx y3.2.2 a1).bind fun x4=>
(Loop (S:=Int×(List aZ.den)×(List Int)×(List (List aa.den))×List (List aa.den)) (X:=(List aZ.den)×(List Int)×(List (List aa.den))×List (List aa.den)) (fun s6=>
(if(decide (s6.1<(x4.2.2.2.2.length:Int)))then
(idx x4.2.2.2.2 s6.1).bind fun x7=>
(M.bD N x7.2.2.2.2.2.1).bind fun y8=>
(bZ s6.2.2.2.1 ([y8]:List (List aa.den))).bind fun l9=>
(M.bD N x7.2.2.2.2.2.2.1).bind fun oW=>
(bZ s6.2.2.2.2 ([oW]:List (List aa.den))).bind fun HU=>
some (.inl (ajj.wrap (s6.1+1),s6.2.1,s6.2.2.1,l9,HU))
else
some (.inr (s6.2.1,s6.2.2.1,s6.2.2.2.1,s6.2.2.2.2)))) N (0,x4.2.2.2.2,y2.2,([]:List (List aa.den)),([]:List (List aa.den))):Option ((List aZ.den)×(List Int)×(List (List aa.den))×List (List aa.den))).bind fun j5=>
some (j5.1,j5.2.1,j5.2.2.1,j5.2.2.2)
def S17(N:Nat):br:=⟨⟨[(0, .g cF),(1, .l ae),(2, .l ae)],[],[],0⟩,⟨[(0, .val true (.pair (.own 0) (.pair (.leaf (.slice aZ)) (.pair (.own 1) (.own 2)))))],[(0, .own 3 ae),(1, .own 39 (.slice aa)),(2, .own 39 (.slice aa))],[],3⟩,fun(x:cF.den×Int×Int)=>M.cA N x.1 x.2.1 x.2.2⟩
theorem W17(N:Nat):av Tryz.prog 17 (S17 N):=fw (en [ck (W31 N),ck (W32 N),ck (W33 N)] false false) (N:=N) (.o (.o (.o (.o (.meet ⟨[],[(32, .box 33 (.pair (.own 128) (.pair (.leaf (.slice aZ)) (.pair (.own 384) (.own 385))))),(128, .own 3 ae),(384, .own 39 (.slice aa)),(385, .own 39 (.slice aa))],[],388⟩ (.o (.two (.loop ⟨[(32, .l ae)],[(32, .box 33 (.pair (.own 128) (.pair (.leaf (.slice aZ)) (.pair (.own 448) (.own 449))))),(128, .own 3 ae),(448, .own 39 (.slice aa)),(449, .own 39 (.slice aa))],[],452⟩ .nil) .nil)) .nil))))) Tryz.func17 (by kernel_rfl) fun x=>by kernel_rfl
def M.eI(N:Nat)(a0:cF.den)(a1:Int)(a2:Int):Option ((List aZ.den)×Int×(List Int)×(List (List aa.den))×List (List aa.den)):=
(M.iK N a0).bind fun y1=>
(if(!decide (y1.1=0))then
some (([]:List aZ.den),1,([]:List Int),([]:List (List aa.den)),([]:List (List aa.den)))
else
((if(decide (a1<0))then
some true
else
some (decide ((a0.2.2.length:Int)<=a1))):Option Bool).bind fun j2=>
(if j2 then
some (([]:List aZ.den),6,([]:List Int),([]:List (List aa.den)),([]:List (List aa.den)))
else
((if(decide (a2<0))then
some true
else
some (decide (109572<a2))):Option Bool).bind fun j3=>
(if j3 then
some (([]:List aZ.den),3,([]:List Int),([]:List (List aa.den)),([]:List (List aa.den)))
else
(M.cA N a0 a1 a2).bind fun y4=>
some (y4.1,0,y4.2.1,y4.2.2.1,y4.2.2.2))))
def S7(N:Nat):br:=⟨⟨[(0, .g cF),(1, .l ae),(2, .l ae)],[],[],0⟩,⟨[(0, .val true (.pair (.own 0) (.pair (.leaf (.slice aZ)) (.pair (.own 1) (.own 2))))),(1, .l ae)],[(0, .own 3 ae),(1, .own 39 (.slice aa)),(2, .own 39 (.slice aa))],[],3⟩,fun(x:cF.den×Int×Int)=>M.eI N x.1 x.2.1 x.2.2⟩
theorem W7(N:Nat):av Tryz.prog 7 (S7 N):=fw (en [ck (W16 N),ck (W17 N)] false false) (N:=N) (.o (.o (.two (.meet ⟨[(23, .l .bool)],[],[],160⟩ .nil .nil) (.two (.meet ⟨[(30, .l .bool)],[],[],160⟩ .nil .nil) .nil)))) Tryz.func7 (by kernel_rfl) fun x=>by kernel_rfl
def M.iB(N:Nat)(a0:cF.den)(a1:List af.den)(a2:List aN.den):Option (Int×Int):=
(if(decide ((a1.length:Int)<(a2.length:Int)))then
some ((a1.length:Int),5)
else
(if(decide ((a2.length:Int)<(a1.length:Int)))then
some ((a2.length:Int),4)
else
Loop (S:=Int) (X:=Int×Int) (fun s1=>
(if(decide (s1<(a1.length:Int)))then
(idx a1 s1).bind fun x2=>
(idx a2 s1).bind fun x3=>
((if(!decide (x2.1=x3.2.1))then
some true
else
some (!decide (x2.2.1=x3.2.2))):Option Bool).bind fun j4=>
(if j4 then
some (.inr (s1,8))
else
(M.fo N x3.2 a0.1).bind fun y5=>
((if(decide (x2.2.2<y5.1))then
some true
else
some (decide (y5.2<x2.2.2))):Option Bool).bind fun j6=>
(if j6 then
some (.inr (s1,3))
else
some (.inl (ajj.wrap (s1+1)))))
else
some (.inr (0,0)))) N 0))
def S38(N:Nat):br:=⟨⟨[(0, .g cF),(1, .l (.slice af)),(2, .l (.slice aN))],[],[],0⟩,⟨[(0, .l ae),(1, .l ae)],[],[],0⟩,fun(x:cF.den×(List af.den)×List aN.den)=>M.iB N x.1 x.2.1 x.2.2⟩
theorem W38(N:Nat):av Tryz.prog 38 (S38 N):=fw (en [ck (X2 N)] false false) (N:=N) (.o (.o (.o (.two (.o (.two (.loop ⟨[(29, .l ae)],[],[],256⟩ (.o (.o (.two (.two (.o (.o (.two (.meet ⟨[(50, .l .bool)],[],[],480⟩ .nil .nil) (.o (.meet ⟨[(68, .l .bool)],[],[],624⟩ .nil .nil))))) .nil) .nil)))) .nil)) .nil)))) Tryz.func38 (by kernel_rfl) fun x=>by kernel_rfl
def M.kU(N:Nat)(a0:cF.den)(a1:Int):Option ((List aN.den)×Int):=
(idx a0.2.2 a1).bind fun x1=>
((if(decide (x1.2.1<0))then
some true
else
some (decide ((a0.2.2.length:Int)<=x1.2.1))):Option Bool).bind fun j2=>
(if j2 then
some (([]:List aN.den),0)
else
(idx a0.2.2 x1.2.1).bind fun x3=>
some (x3.2.2.1,8))
def S39(N:Nat):br:=⟨⟨[(0, .g cF),(1, .l ae)],[],[],0⟩,⟨[(0, .l (.slice aN)),(1, .l ae)],[],[],0⟩,fun(x:cF.den×Int)=>M.kU N x.1 x.2⟩
theorem W39(N:Nat):av Tryz.prog 39 (S39 N):=fw (en [] false false) (N:=N) (.o (.o (.two (.meet ⟨[(21, .l .bool)],[],[],160⟩ .nil .nil) .nil))) Tryz.func39 (by kernel_rfl) fun x=>by kernel_rfl
def M.mT(N:Nat)(a0:cF.den)(a1:Int)(a2:tO.den):Option (Int×Int×Int):=
((if(decide (a1<0))then
some true
else
some (decide ((a0.2.2.length:Int)<=a1))):Option Bool).bind fun j1=>
(if j1 then
some ((-1),(-1),6)
else
((if(decide (a2.1<0))then
some true
else
some (decide (109572<a2.1))):Option Bool).bind fun j2=>
(if j2 then
some ((-1),(-1),3)
else
(idx a0.2.2 a1).bind fun x3=>
(M.iB N a0 a2.2.1 x3.2.2.1).bind fun y4=>
(if(!decide (y4.2=0))then
some ((-1),y4.1,y4.2)
else
(M.kU N a0 a1).bind fun y5=>
(if(decide (y5.2<(a2.2.2.length:Int)))then
some (y5.2,(-1),4)
else
Loop (S:=Int) (X:=Int×Int×Int) (fun s6=>
(if(decide (s6<(a2.2.2.length:Int)))then
(idx a2.2.2 s6).bind fun x7=>
(M.iB N a0 x7 y5.1).bind fun y8=>
(if(!decide (y8.2=0))then
some (.inr (s6,y8.1,y8.2))
else
some (.inl (ajj.wrap (s6+1))))
else
some (.inr (0,0,0)))) N 0))))
def S19(N:Nat):br:=⟨⟨[(0, .g cF),(1, .l ae),(2, .g tO)],[],[],0⟩,⟨[(0, .l ae),(1, .l ae),(2, .l ae)],[],[],0⟩,fun(x:cF.den×Int×tO.den)=>M.mT N x.1 x.2.1 x.2.2⟩
theorem W19(N:Nat):av Tryz.prog 19 (S19 N):=fw (en [ck (W38 N),ck (W39 N)] false false) (N:=N) (.o (.two (.meet ⟨[(25, .l .bool)],[],[],80⟩ .nil .nil) (.two (.meet ⟨[(33, .l .bool)],[],[],80⟩ .nil .nil) (.o (.o (.o (.two (.o (.two (.loop ⟨[(66, .l ae)],[],[],624⟩ .nil) .nil)) .nil))))))) Tryz.func19 (by kernel_rfl) fun x=>by kernel_rfl
def M.jL(N:Nat)(a0:aZ.den)(a1:Int)(a2:Int):Option (Bool×Int×Int):=
((if(decide (a0.2.1=a1))then
(M.bG N a0.2.2.2.2.1 a2).bind fun y2=>
some y2
else
some false):Option Bool).bind fun j1=>
some (j1,a1,a2)
def UD(N:Nat):br:=⟨⟨[(0, .g aZ),(1, .ptr 0 [] 0),(2, .ptr 1 [] 0)],[(0, .box 3 (.leaf ae)),(1, .box 3 (.leaf ae))],[],2⟩,⟨[(0, .l .bool)],[(0, .box 3 (.leaf ae)),(1, .box 3 (.leaf ae))],[],4⟩,fun(x:aZ.den×Int×Int)=>M.jL N x.1 x.2.1 x.2.2⟩
theorem UE(N:Nat):av Tryz.prog 63 (UD N):=fw (en [ck (RR N)] false false) (N:=N) (.o (.meet ⟨[(4, .l .bool)],[],[],34⟩ .nil .nil)) Tryz.func63 (by kernel_rfl) fun x=>by kernel_rfl
def M.kw(N:Nat)(a0:List aZ.den)(a1:Int)(a2:Int):Option (Int×Int×(List Int)×List Int):=
(mI (a0.length:Int) 0).bind fun l1=>
Loop (S:=Int×Int×Int×(List Int)×(List Int)×List Int) (X:=Int×Int×(List Int)×List Int) (fun s2=>
(if(decide (s2.1<(a0.length:Int)))then
((idx a0 s2.1).bind fun x4=>
(((if(decide (0<=x4.2.2.1))then
some (decide (x4.2.2.1<s2.1))
else
some false):Option Bool).bind fun j6=>
(if j6 then
(idx s2.2.2.2.1 x4.2.2.1).bind fun x7=>
some x7
else
some (-1)):Option Int).bind fun j5=>
(idx s2.2.2.2.1 s2.1).bind fun x8=>
(M.jL N x4 s2.2.1 s2.2.2.1).bind fun y9=>
(if y9.1 then
(idx (aQ s2.2.2.2.1 s2.1 j5) s2.1).bind fun r9=>
(bZ s2.2.2.2.2.1 ([s2.1]:List Int)).bind fun HU=>
(bZ s2.2.2.2.2.2 ([j5]:List Int)).bind fun FD=>
some (y9.2.1,y9.2.2,aQ (aQ s2.2.2.2.1 s2.1 j5) s2.1 (s2.2.2.2.2.1.length:Int),HU,FD)
else
some (y9.2.1,y9.2.2,aQ s2.2.2.2.1 s2.1 j5,s2.2.2.2.2.1,s2.2.2.2.2.2)):Option (Int×Int×(List Int)×(List Int)×List Int)).bind fun j3=>
some (.inl (ajj.wrap (s2.1+1),j3.1,j3.2.1,j3.2.2.1,j3.2.2.2.1,j3.2.2.2.2))
else
some (.inr (s2.2.1,s2.2.2.1,s2.2.2.2.2.1,s2.2.2.2.2.2)))) N (0,a1,a2,l1,([]:List Int),([]:List Int))
def UF(N:Nat):br:=⟨⟨[(0, .l (.slice aZ)),(1, .fn 63 [(0,[],0),(1,[],0)])],[(0, .box 3 (.leaf ae)),(1, .box 3 (.leaf ae))],[],2⟩,⟨[(0, .val false (.own 2)),(1, .val false (.own 3))],[(0, .box 3 (.leaf ae)),(1, .box 3 (.leaf ae)),(2, .own 3 ae),(3, .own 3 ae)],[],6⟩,fun(x:(List aZ.den)×Int×Int)=>M.kw N x.1 x.2.1 x.2.2⟩
theorem UG(N:Nat):av Tryz.prog 62 (UF N):=fw (en [ck (UE N)] false false) (N:=N) (.o (.o (.o (.two (.o (.two (.loop ⟨[(6, .val false (.own 178)),(7, .val false (.own 179)),(17, .l ae)],[(0, .box 3 (.leaf ae)),(1, .box 3 (.leaf ae)),(98, .own 3 ae),(178, .own 3 ae),(179, .own 3 ae)],[],183⟩ (.o (.o (.two (.meet ⟨[(6, .val false (.own 199)),(7, .val false (.own 200))],[(0, .box 3 (.leaf ae)),(1, .box 3 (.leaf ae)),(98, .own 3 ae),(199, .own 3 ae),(200, .own 3 ae)],[178,179],204⟩ (.o (.o (.meet ⟨[(11, .l ae)],[],[],311⟩ (.meet ⟨[(30, .l .bool)],[],[],311⟩ .nil .nil) .nil))) .nil) .nil)))) .nil)) .nil)))) Tryz.func62 (by kernel_rfl) fun x=>by kernel_rfl
def M.mU(N:Nat)(a0:aB.den)(a1:Int)(a2:Int):Option (List Int):=
(M.kw N a0.2.2.2.2 a1 a2).bind fun y1=>
some y1.2.2.1
def S40(N:Nat):br:=⟨⟨[(0, .g aB),(1, .l ae),(2, .l ae)],[],[],0⟩,⟨[(0, .val false (.own 0))],[(0, .own 3 ae)],[],1⟩,fun(x:aB.den×Int×Int)=>M.mU N x.1 x.2.1 x.2.2⟩
theorem W40(N:Nat):av Tryz.prog 40 (S40 N):=fw (en [ck (UG N)] false false) (N:=N) .nil Tryz.func40 (by kernel_rfl) fun x=>by kernel_rfl
def M.eA(N:Nat)(a0:cF.den)(a1:Int)(a2:Int):Option (bi.den):=
(idx a0.2.2 a1).bind fun x1=>
(M.cA N a0 a1 a2).bind fun y2=>
(Loop (S:=Int×(List Int)×(List (List aa.den))×(List (List aa.den))×aB.den×(List aZ.den)×List Int) (X:=(List Int)×(List (List aa.den))×(List (List aa.den))×aB.den×(List aZ.den)×List Int) (fun s4=>
(if(decide (s4.1<(x1.2.2.2.1.length:Int)))then
(M.mU N s4.2.2.2.2.1 s4.1 a2).bind fun y5=>
(bZ s4.2.2.2.2.2.2 y5).bind fun l6=>
some (.inl (ajj.wrap (s4.1+1),s4.2.1,s4.2.2.1,s4.2.2.2.1,s4.2.2.2.2.1,s4.2.2.2.2.2.1,l6))
else
some (.inr (s4.2.1,s4.2.2.1,s4.2.2.2.1,s4.2.2.2.2.1,s4.2.2.2.2.2.1,s4.2.2.2.2.2.2)))) N (0,y2.2.1,y2.2.2.1,y2.2.2.2,x1,y2.1,([]:List Int)):Option ((List Int)×(List (List aa.den))×(List (List aa.den))×aB.den×(List aZ.den)×List Int)).bind fun j3=>
(M.cX N j3.2.2.2.2.2).bind fun y7=>
some (j3.2.2.2.1,((j3.1,(j3.2.2.2.2.1,(j3.2.1,j3.2.2.1))),y7))
def S20(N:Nat):br:=⟨⟨[(0, .g cF),(1, .l ae),(2, .l ae)],[],[],0⟩,⟨[(0, .at bi)],[],[],0⟩,fun(x:cF.den×Int×Int)=>M.eA N x.1 x.2.1 x.2.2⟩
theorem W20(N:Nat):av Tryz.prog 20 (S20 N):=fw (en [ck (W17 N),ck (W40 N),ck (YH N)] false false) (N:=N) (.o (.o (.meet ⟨[],[(160, .own 3 ae),(161, .own 39 (.slice aa)),(162, .own 39 (.slice aa)),(192, .box 93 (.pair (.leaf aB) (.pair (.pair (.own 160) (.pair (.leaf (.slice aZ)) (.pair (.own 161) (.own 162)))) (.own 224)))),(224, .own 3 ae)],[],229⟩ (.o (.two (.loop ⟨[(26, .l ae)],[(160, .own 3 ae),(161, .own 39 (.slice aa)),(162, .own 39 (.slice aa)),(192, .box 93 (.pair (.leaf aB) (.pair (.pair (.own 160) (.pair (.leaf (.slice aZ)) (.pair (.own 161) (.own 162)))) (.own 336)))),(336, .own 3 ae)],[],341⟩ .nil) .nil)) .nil))) Tryz.func20 (by kernel_rfl) fun x=>by kernel_rfl
def M.eJ(N:Nat)(a0:Int):Option Bool:=
((if(decide (a0=50))then
some true
else
(if(decide (a0=52))then
some true
else
some (decide (a0=53)))):Option Bool).bind fun j1=>
some j1
def S70(N:Nat):br:=⟨⟨[(0, .l ae)],[],[],0⟩,⟨[(0, .l .bool)],[],[],0⟩,fun(x:Int)=>M.eJ N x⟩
theorem W70(N:Nat):av Tryz.prog 70 (S70 N):=fw (en [] false false) (N:=N) (.o (.meet ⟨[(2, .l .bool)],[],[],16⟩ .nil .nil)) Tryz.func70 (by kernel_rfl) fun x=>by kernel_rfl
def M.n8(N:Nat)(a0:List aa.den)(a1:cE.den):Option (af.den×Int×Int):=
(M.bH N a0).bind fun y1=>
(if(!decide (y1.2=0))then
some ((0,(0,0)),0,1)
else
bM (J:=Int×List af.den) (R:=af.den×Int×Int) (Loop (S:=Int×Int×List af.den) (X:=(Int×List af.den)⊕(af.den×Int×Int)) (fun s3=>
(if(decide (s3.2.1<(a0.length:Int)))then
bM (J:=Int×Int×List af.den) (R:=(Int×Int×List af.den)⊕((Int×List af.den)⊕(af.den×Int×Int))) ((idx a0 s3.2.1).bind fun x5=>
(if(decide (x5.1=51))then
some (.inl (ajj.wrap (s3.1+1),x5.2,s3.2.2))
else
(M.eJ N x5.1).bind fun y6=>
(if(!y6)then
(M.dh N x5.1).bind fun y7=>
(fa s3.2.2 (ajj.wrap ((s3.2.2.length:Int)-y7)) (s3.2.2.length:Int)).bind fun l8=>
(M.bI N x5 l8 a1).bind fun y9=>
(if(!decide (y9.2=0))then
some (.inr (.inr (.inr ((0,(0,0)),0,y9.2))))
else
(fa s3.2.2 0 (ajj.wrap ((s3.2.2.length:Int)-y7))).bind fun xk=>
(bZ xk ([y9.1]:List af.den)).bind fun HU=>
some (.inl (ajj.wrap (s3.1+1),ajj.wrap (s3.2.1+1),HU)))
else
(idx s3.2.2 (ajj.wrap ((s3.2.2.length:Int)-1))).bind fun rH=>
((if(!decide (rH.1=1))then
some true
else
(if(!decide (rH.2.2=0))then
some (!decide (rH.2.2=1))
else
some false)):Option Bool).bind fun Mj=>
(if Mj then
some (.inr (.inr (.inr ((0,(0,0)),0,8))))
else
((if(decide ((decide (rH.2.2=1))=(decide (x5.1=53))))then
some x5.2
else
some (ajj.wrap (s3.2.1+1))):Option Int).bind fun FE=>
((if(!(decide ((decide (rH.2.2=1))=(decide (x5.1=53)))))then
some true
else
some (decide (x5.1=50))):Option Bool).bind fun OX=>
(if OX then
(fa s3.2.2 0 (ajj.wrap ((s3.2.2.length:Int)-1))).bind fun TU=>
some (.inl (ajj.wrap (s3.1+1),FE,TU))
else
some (.inl (ajj.wrap (s3.1+1),FE,s3.2.2))))))) fun j4=>
some (.inl (j4.1,j4.2.1,j4.2.2))
else
some (.inr (.inl (s3.1,s3.2.2))))) N (0,0,([]:List af.den))) fun j2=>
(idx j2.2 0).bind fun IS=>
some (IS,j2.1,0))
def S43(N:Nat):br:=⟨⟨[(0, .l (.slice aa)),(1, .g cE)],[],[],0⟩,⟨[(0, .g af),(1, .l ae),(2, .l ae)],[],[],0⟩,fun(x:(List aa.den)×cE.den)=>M.n8 N x.1 x.2⟩
theorem W43(N:Nat):av Tryz.prog 43 (S43 N):=fw (en [ck (W8 N),ck (Nw N),ck (W70 N),ck (W71 N)] false false) (N:=N) (.o (.o (.o (.o (.join ⟨[(9, .val false (.own 240)),(10, .l ae)],[(240, .own 76 af)],[],241⟩ (.o (.two (.loop ⟨[(9, .val false (.own 256)),(10, .l ae),(11, .l ae)],[(256, .own 76 af)],[],257⟩ (.o (.join ⟨[(9, .val false (.own 321)),(10, .l ae),(11, .l ae)],[(321, .own 76 af)],[256],322⟩ (.o (.o (.o (.o (.o (.o (.two (.meet ⟨[(90, .l .bool)],[],[],753⟩ .nil .nil) (.o (.meet ⟨[(11, .l ae)],[],[],881⟩ .nil (.meet ⟨[(108, .l .bool)],[],[],881⟩ .nil .nil)))))))))) .nil))) .nil)) .nil))))) Tryz.func43 (by kernel_rfl) fun x=>by kernel_rfl
def M.kz(N:Nat)(a0:aZ.den)(a1:Int)(a2:Int):Option (Bool×Int×Int):=
((if(decide (a0.2.1=a1))then
(M.bG N a0.2.2.2.2.1 a2).bind fun y2=>
some y2
else
some false):Option Bool).bind fun j1=>
some (j1,a1,a2)
def QO(N:Nat):br:=⟨⟨[(0, .g aZ),(1, .ptr 0 [] 0),(2, .ptr 1 [] 0)],[(0, .box 3 (.leaf ae)),(1, .box 3 (.leaf ae))],[],2⟩,⟨[(0, .l .bool)],[(0, .box 3 (.leaf ae)),(1, .box 3 (.leaf ae))],[],4⟩,fun(x:aZ.den×Int×Int)=>M.kz N x.1 x.2.1 x.2.2⟩
theorem QP(N:Nat):av Tryz.prog 118 (QO N):=fw (en [ck (RR N)] false false) (N:=N) (.o (.meet ⟨[(4, .l .bool)],[],[],34⟩ .nil .nil)) Tryz.func118 (by kernel_rfl) fun x=>by kernel_rfl
def M.kA(N:Nat)(a0:List aZ.den)(a1:Int)(a2:Int):Option (Int×Int×(List Int)×List Int):=
(mI (a0.length:Int) 0).bind fun l1=>
Loop (S:=Int×Int×Int×(List Int)×(List Int)×List Int) (X:=Int×Int×(List Int)×List Int) (fun s2=>
(if(decide (s2.1<(a0.length:Int)))then
((idx a0 s2.1).bind fun x4=>
(((if(decide (0<=x4.2.2.1))then
some (decide (x4.2.2.1<s2.1))
else
some false):Option Bool).bind fun j6=>
(if j6 then
(idx s2.2.2.2.1 x4.2.2.1).bind fun x7=>
some x7
else
some (-1)):Option Int).bind fun j5=>
(idx s2.2.2.2.1 s2.1).bind fun x8=>
(M.kz N x4 s2.2.1 s2.2.2.1).bind fun y9=>
(if y9.1 then
(idx (aQ s2.2.2.2.1 s2.1 j5) s2.1).bind fun r9=>
(bZ s2.2.2.2.2.1 ([s2.1]:List Int)).bind fun HU=>
(bZ s2.2.2.2.2.2 ([j5]:List Int)).bind fun FD=>
some (y9.2.1,y9.2.2,aQ (aQ s2.2.2.2.1 s2.1 j5) s2.1 (s2.2.2.2.2.1.length:Int),HU,FD)
else
some (y9.2.1,y9.2.2,aQ s2.2.2.2.1 s2.1 j5,s2.2.2.2.2.1,s2.2.2.2.2.2)):Option (Int×Int×(List Int)×(List Int)×List Int)).bind fun j3=>
some (.inl (ajj.wrap (s2.1+1),j3.1,j3.2.1,j3.2.2.1,j3.2.2.2.1,j3.2.2.2.2))
else
some (.inr (s2.2.1,s2.2.2.1,s2.2.2.2.2.1,s2.2.2.2.2.2)))) N (0,a1,a2,l1,([]:List Int),([]:List Int))
def UH(N:Nat):br:=⟨⟨[(0, .l (.slice aZ)),(1, .fn 118 [(0,[],0),(1,[],0)])],[(0, .box 3 (.leaf ae)),(1, .box 3 (.leaf ae))],[],2⟩,⟨[(0, .val false (.own 2)),(1, .val false (.own 3))],[(0, .box 3 (.leaf ae)),(1, .box 3 (.leaf ae)),(2, .own 3 ae),(3, .own 3 ae)],[],6⟩,fun(x:(List aZ.den)×Int×Int)=>M.kA N x.1 x.2.1 x.2.2⟩
theorem UI(N:Nat):av Tryz.prog 62 (UH N):=fw (en [ck (QP N)] false false) (N:=N) (.o (.o (.o (.two (.o (.two (.loop ⟨[(6, .val false (.own 178)),(7, .val false (.own 179)),(17, .l ae)],[(0, .box 3 (.leaf ae)),(1, .box 3 (.leaf ae)),(98, .own 3 ae),(178, .own 3 ae),(179, .own 3 ae)],[],183⟩ (.o (.o (.two (.meet ⟨[(6, .val false (.own 199)),(7, .val false (.own 200))],[(0, .box 3 (.leaf ae)),(1, .box 3 (.leaf ae)),(98, .own 3 ae),(199, .own 3 ae),(200, .own 3 ae)],[178,179],204⟩ (.o (.o (.meet ⟨[(11, .l ae)],[],[],311⟩ (.meet ⟨[(30, .l .bool)],[],[],311⟩ .nil .nil) .nil))) .nil) .nil)))) .nil)) .nil)))) Tryz.func62 (by kernel_rfl) fun x=>by kernel_rfl
def M.nK(N:Nat)(a0:aB.den)(a1:Int)(a2:Int):Option ((List Int)×(List Int)×List Int):=
(M.kA N a0.2.2.2.2 a1 a2).bind fun y1=>
(Loop (S:=Int×List Int) (X:=List Int) (fun s3=>
(if(decide (s3.1<(y1.2.2.1.length:Int)))then
(idx y1.2.2.1 s3.1).bind fun x4=>
(idx a0.2.2.2.2 x4).bind fun x5=>
(bZ s3.2 ([x5.2.2.2.1]:List Int)).bind fun l6=>
some (.inl (ajj.wrap (s3.1+1),l6))
else
some (.inr s3.2))) N (0,([]:List Int)):Option (List Int)).bind fun j2=>
some (y1.2.2.1,y1.2.2.2,j2)
def S67(N:Nat):br:=⟨⟨[(0, .g aB),(1, .l ae),(2, .l ae)],[],[],0⟩,⟨[(0, .val false (.own 0)),(1, .val false (.own 1)),(2, .val false (.own 2))],[(0, .own 3 ae),(1, .own 3 ae),(2, .own 3 ae)],[],3⟩,fun(x:aB.den×Int×Int)=>M.nK N x.1 x.2.1 x.2.2⟩
theorem W67(N:Nat):av Tryz.prog 67 (S67 N):=fw (en [ck (UI N)] false false) (N:=N) (.o (.o (.o (.meet ⟨[(11, .val false (.own 256))],[(256, .own 3 ae)],[],257⟩ (.o (.two (.loop ⟨[(11, .val false (.own 304)),(23, .l ae)],[(304, .own 3 ae)],[],305⟩ .nil) .nil)) .nil)))) Tryz.func67 (by kernel_rfl) fun x=>by kernel_rfl
def M.cmp_isNaN_int(N:Nat)(a0:Int):Option Bool:=
some (!decide (a0=a0))
def aaR(N:Nat):br:=⟨⟨[(0, .l ae)],[],[],0⟩,⟨[(0, .l .bool)],[],[],0⟩,fun(x:Int)=>M.cmp_isNaN_int N x⟩
theorem aaS(N:Nat):av Tryz.prog 161 (aaR N):=fw (en [] false false) (N:=N) .nil Tryz.func161 (by kernel_rfl) fun x=>by kernel_rfl
def M.cmp_Less_int(N:Nat)(a0:Int)(a1:Int):Option Bool:=
((M.cmp_isNaN_int N a0).bind fun y2=>
(if y2 then
(M.cmp_isNaN_int N a1).bind fun y3=>
(if(!y3)then
some true
else
some (decide (a0<a1)))
else
some (decide (a0<a1))):Option Bool).bind fun j1=>
some j1
def aaT(N:Nat):br:=⟨⟨[(0, .l ae),(1, .l ae)],[],[],0⟩,⟨[(0, .l .bool)],[],[],0⟩,fun(x:Int×Int)=>M.cmp_Less_int N x.1 x.2⟩
theorem aaU(N:Nat):av Tryz.prog 113 (aaT N):=fw (en [ck (aaS N)] false false) (N:=N) (.o (.meet ⟨[(4, .l .bool)],[],[],16⟩ .nil .nil)) Tryz.func113 (by kernel_rfl) fun x=>by kernel_rfl
def M.k7(N:Nat)(a0:Int):Option Bool:=
some (!decide (a0=a0))
def aaV(N:Nat):br:=⟨⟨[(0, .l ae)],[],[],0⟩,⟨[(0, .l .bool)],[],[],0⟩,fun(x:Int)=>M.k7 N x⟩
theorem aaW(N:Nat):av Tryz.prog 162 (aaV N):=fw (en [] false false) (N:=N) .nil Tryz.func162 (by kernel_rfl) fun x=>by kernel_rfl
def M.gQ(N:Nat)(a0:List Int)(a1:Int):Option (Int×Bool):=
(Loop (S:=Int×Int) (X:=Int) (fun s2=>
(if(decide (s2.1<s2.2))then
((idx a0 (ajj.wrap (gm .u64 (ajt.wrap (ajj.wrap (s2.1+s2.2))) 1))).bind fun x4=>
(M.cmp_Less_int N x4 a1).bind fun y5=>
(if y5 then
some (ajj.wrap ((ajj.wrap (gm .u64 (ajt.wrap (ajj.wrap (s2.1+s2.2))) 1))+1),s2.2)
else
some (s2.1,ajj.wrap (gm .u64 (ajt.wrap (ajj.wrap (s2.1+s2.2))) 1))):Option (Int×Int)).bind fun j3=>
some (.inl (j3.1,j3.2))
else
some (.inr s2.1))) N (0,(a0.length:Int)):Option Int).bind fun j1=>
((if(decide (j1<(a0.length:Int)))then
(idx a0 j1).bind fun x7=>
(if(decide (x7=a1))then
some (j1,true)
else
(idx a0 j1).bind fun x8=>
(M.k7 N x8).bind fun y9=>
(if y9 then
(M.k7 N a1).bind fun oW=>
some (j1,oW)
else
some (j1,false)))
else
some (j1,false)):Option (Int×Bool)).bind fun j6=>
some (j6.1,j6.2)
def aaX(N:Nat):br:=⟨⟨[(0, .l (.slice ae)),(1, .l ae)],[],[],0⟩,⟨[(0, .l ae),(1, .l .bool)],[],[],0⟩,fun(x:(List Int)×Int)=>M.gQ N x.1 x.2⟩
theorem aaY(N:Nat):av Tryz.prog 119 (aaX N):=fw (en [ck (aaU N),ck (aaW N)] false false) (N:=N) (.o (.o (.o (.meet ⟨[(7, .l ae)],[],[],128⟩ (.two (.loop ⟨[(7, .l ae),(8, .l ae)],[],[],128⟩ (.o (.meet ⟨[(7, .l ae),(8, .l ae)],[],[],176⟩ .nil .nil))) .nil) (.meet ⟨[(4, .l ae),(5, .l .bool)],[],[],128⟩ .nil .nil))))) Tryz.func119 (by kernel_rfl) fun x=>by kernel_rfl
def M.fg(N:Nat)(a0:bi.den)(a1:Int):Option Int:=
(M.gQ N a0.2.2 a1).bind fun y1=>
some y1.1
def S68(N:Nat):br:=⟨⟨[(0, .at bi),(1, .l ae)],[],[],0⟩,⟨[(0, .l ae)],[],[],0⟩,fun(x:bi.den×Int)=>M.fg N x.1 x.2⟩
theorem W68(N:Nat):av Tryz.prog 68 (S68 N):=fw (en [ck (aaY N)] false false) (N:=N) .nil Tryz.func68 (by kernel_rfl) fun x=>by kernel_rfl
def M.mV(N:Nat)(a0:List Int)(a1:List Int):Option Int:=
(if(!decide ((a0.length:Int)=(a1.length:Int)))then
some 2
else
(if(decide (8<(a0.length:Int)))then
some 4
else
Loop (S:=Int) (X:=Int) (fun s1=>
(if(decide (s1<(a0.length:Int)))then
(idx a0 s1).bind fun x2=>
((if(decide (x2<(-1)))then
some true
else
some (decide (s1<=x2))):Option Bool).bind fun j3=>
(if j3 then
some (.inr 9)
else
((idx a1 s1).bind fun x5=>
(if(decide (x5<0))then
some true
else
(idx a1 s1).bind fun x6=>
some (decide (9<x6))):Option Bool).bind fun j4=>
(if j4 then
some (.inr 3)
else
some (.inl (ajj.wrap (s1+1)))))
else
some (.inr 0))) N 0))
def aaZ(N:Nat):br:=⟨⟨[(0, .l (.slice ae)),(1, .l (.slice ae))],[],[],0⟩,⟨[(0, .l ae)],[],[],0⟩,fun(x:(List Int)×List Int)=>M.mV N x.1 x.2⟩
theorem aa0(N:Nat):av Tryz.prog 120 (aaZ N):=fw (en [] false false) (N:=N) (.o (.o (.o (.two (.o (.two (.loop ⟨[(17, .l ae)],[],[],192⟩ (.o (.o (.two (.two (.o (.two (.meet ⟨[(28, .l .bool)],[],[],288⟩ .nil .nil) (.meet ⟨[(40, .l .bool)],[],[],288⟩ .nil .nil))) .nil) .nil)))) .nil)) .nil)))) Tryz.func120 (by kernel_rfl) fun x=>by kernel_rfl
def M.mW(N:Nat)(a0:List Int)(a1:Int):Option (List Int):=
Loop (S:=Int×List Int) (X:=List Int) (fun s1=>
(if(decide (s1.1<(a0.length:Int)))then
((idx a0 s1.1).bind fun x3=>
(if(decide (x3=a1))then
(bZ s1.2 ([s1.1]:List Int)).bind fun l4=>
some l4
else
some s1.2):Option (List Int)).bind fun j2=>
some (.inl (ajj.wrap (s1.1+1),j2))
else
some (.inr s1.2))) N (0,([]:List Int))
def aa1(N:Nat):br:=⟨⟨[(0, .l (.slice ae)),(1, .l ae)],[],[],0⟩,⟨[(0, .val false (.own 0))],[(0, .own 3 ae)],[],1⟩,fun(x:(List Int)×Int)=>M.mW N x.1 x.2⟩
theorem aa2(N:Nat):av Tryz.prog 187 (aa1 N):=fw (en [] false false) (N:=N) (.o (.o (.two (.o (.two (.loop ⟨[(5, .val false (.own 80)),(10, .l ae)],[(80, .own 3 ae)],[],81⟩ (.o (.o (.two (.meet ⟨[(5, .val false (.own 97))],[(97, .own 3 ae)],[80],98⟩ .nil .nil) .nil)))) .nil)) .nil))) Tryz.func187 (by kernel_rfl) fun x=>by kernel_rfl
def M.mA(N:Nat)(a0:dU.den)(a1:Int):Option (List Int):=
(M.mW N a0.1 a1).bind fun y1=>
Loop (S:=Int×List Int) (X:=List Int) (fun s2=>
(if(decide (s2.1<(y1.length:Int)))then
((idx y1 s2.1).bind fun x4=>
(idx a0.2.2 x4).bind fun x5=>
(if(decide (x5=(-1)))then
some s2.2
else
(((if(decide (0<(s2.2.length:Int)))then
(idx a0.2.1 x4).bind fun x8=>
(idx s2.2 0).bind fun x9=>
(idx a0.2.1 x9).bind fun r9=>
some (decide (r9<x8))
else
some false):Option Bool).bind fun j7=>
(if j7 then
(fa s2.2 0 0).bind fun HU=>
some HU
else
some s2.2):Option (List Int)).bind fun j6=>
((if(decide ((j6.length:Int)=0))then
some true
else
(idx a0.2.1 x4).bind fun oX=>
(idx j6 0).bind fun sa=>
(idx a0.2.1 sa).bind fun Ea=>
some (decide (oX=Ea))):Option Bool).bind fun Al=>
(if Al then
(bZ j6 ([x4]:List Int)).bind fun TU=>
some TU
else
some j6)):Option (List Int)).bind fun j3=>
some (.inl (ajj.wrap (s2.1+1),j3))
else
some (.inr s2.2))) N (0,([]:List Int))
def aa3(N:Nat):br:=⟨⟨[(0, .g dU),(1, .l ae)],[],[],0⟩,⟨[(0, .val false (.own 0))],[(0, .own 3 ae)],[],1⟩,fun(x:dU.den×Int)=>M.mA N x.1 x.2⟩
theorem aa4(N:Nat):av Tryz.prog 163 (aa3 N):=fw (en [ck (aa2 N)] false false) (N:=N) (.o (.o (.two (.o (.two (.loop ⟨[(5, .val false (.own 144)),(13, .l ae)],[(144, .own 3 ae)],[],145⟩ (.o (.o (.two (.meet ⟨[(5, .val false (.own 161))],[(161, .own 3 ae)],[144],162⟩ (.o (.o (.meet ⟨[(5, .val false (.own 305))],[(305, .own 3 ae)],[144],306⟩ (.meet ⟨[(40, .l .bool)],[],[],305⟩ .nil .nil) (.meet ⟨[(60, .l .bool)],[],[],306⟩ .nil .nil)))) .nil) .nil)))) .nil)) .nil))) Tryz.func163 (by kernel_rfl) fun x=>by kernel_rfl
def M.fH(N:Nat)(a0:dU.den)(a1:Int):Option Int:=
(M.mA N a0 a1).bind fun y1=>
(if(decide ((y1.length:Int)=0))then
some (-1)
else
(if(decide ((y1.length:Int)=1))then
(idx y1 0).bind fun x2=>
(idx a0.2.2 x2).bind fun x3=>
some x3
else
some (-2)))
def aa5(N:Nat):br:=⟨⟨[(0, .g dU),(1, .l ae)],[],[],0⟩,⟨[(0, .l ae)],[],[],0⟩,fun(x:dU.den×Int)=>M.fH N x.1 x.2⟩
theorem UJ(N:Nat):av Tryz.prog 122 (aa5 N):=fw (en [ck (aa4 N)] false false) (N:=N) .nil Tryz.func122 (by kernel_rfl) fun x=>by kernel_rfl
def M.mX(N:Nat)(a0:List Int)(a1:List Int)(a2:List Bool):Option (List Int):=
(mI (a0.length:Int) 0).bind fun l1=>
Loop (S:=Int×List Int) (X:=List Int) (fun s2=>
(if(decide (0<=s2.1))then
((M.fH N (a0,(a1,s2.2)) s2.1).bind fun y4=>
(idx s2.2 s2.1).bind fun x5=>
((idx (aQ s2.2 s2.1 y4) s2.1).bind fun x7=>
(if(decide (x7=(-1)))then
(idx a2 s2.1).bind fun x8=>
some x8
else
some false):Option Bool).bind fun j6=>
(if j6 then
(idx (aQ s2.2 s2.1 y4) s2.1).bind fun x9=>
some (aQ (aQ s2.2 s2.1 y4) s2.1 s2.1)
else
some (aQ s2.2 s2.1 y4)):Option (List Int)).bind fun j3=>
some (.inl (ajj.wrap (s2.1-1),j3))
else
some (.inr s2.2))) N (ajj.wrap ((a0.length:Int)-1),l1)
def aa6(N:Nat):br:=⟨⟨[(0, .l (.slice ae)),(1, .l (.slice ae)),(2, .l (.slice .bool))],[],[],0⟩,⟨[(0, .val false (.own 0))],[(0, .own 3 ae)],[],1⟩,fun(x:(List Int)×(List Int)×List Bool)=>M.mX N x.1 x.2.1 x.2.2⟩
theorem aa7(N:Nat):av Tryz.prog 121 (aa6 N):=fw (en [ck (UJ N)] false false) (N:=N) (.o (.o (.two (.o (.two (.loop ⟨[(8, .l ae)],[(80, .own 3 ae)],[],209⟩ (.o (.two (.meet ⟨[],[(80, .own 3 ae)],[],242⟩ (.o (.meet ⟨[(40, .l .bool)],[],[],369⟩ .nil .nil)) .nil) .nil))) .nil)) .nil))) Tryz.func121 (by kernel_rfl) fun x=>by kernel_rfl
def M.ot(N:Nat)(a0:List Int)(a1:List Int)(a2:List Bool):Option Int:=
((M.mV N a0 a1).bind fun y2=>
(if(!decide (y2=0))then
some true
else
some (!decide ((a2.length:Int)=(a0.length:Int)))):Option Bool).bind fun j1=>
(if j1 then
some (-1)
else
(M.mX N a0 a1 a2).bind fun y3=>
(M.fH N (a0,(a1,y3)) (-1)).bind fun y4=>
some y4)
def S69(N:Nat):br:=⟨⟨[(0, .l (.slice ae)),(1, .l (.slice ae)),(2, .l (.slice .bool))],[],[],0⟩,⟨[(0, .l ae)],[],[],0⟩,fun(x:(List Int)×(List Int)×List Bool)=>M.ot N x.1 x.2.1 x.2.2⟩
theorem W69(N:Nat):av Tryz.prog 69 (S69 N):=fw (en [ck (aa0 N),ck (aa7 N),ck (UJ N)] false false) (N:=N) (.o (.two (.meet ⟨[(17, .l .bool)],[],[],16⟩ .nil .nil) .nil)) Tryz.func69 (by kernel_rfl) fun x=>by kernel_rfl
def M.eF(N:Nat)(a0:bi.den)(a1:cE.den)(a2:Int)(a3:Int):Option (Int×aS.den):=
(M.nK N a0.1 a3 a1.1).bind fun y1=>
(mI (y1.1.length:Int) false).bind fun l2=>
bM (J:=List Bool) (R:=Int×aS.den) (Loop (S:=Int×List Bool) (X:=(List Bool)⊕(Int×aS.den)) (fun s4=>
(if(decide (s4.1<(y1.1.length:Int)))then
bM (J:=List Bool) (R:=(Int×List Bool)⊕((List Bool)⊕(Int×aS.den))) ((idx y1.1 s4.1).bind fun x6=>
(M.fg N a0 x6).bind fun y7=>
(idx a0.2.1.2.2.1 y7).bind fun x8=>
(if(decide ((x8.length:Int)=0))then
(idx s4.2 s4.1).bind fun x9=>
some (.inl (aQ s4.2 s4.1 true))
else
(M.n8 N x8 a1).bind fun oW=>
(if(!decide (oW.2.2=0))then
some (.inr (.inr (.inr (0,(oW.2.2,(a2,(a3,x6)))))))
else
(idx s4.2 s4.1).bind fun oE=>
some (.inl (aQ s4.2 s4.1 (decide (oW.1.2.2=1))))))) fun j5=>
some (.inl (ajj.wrap (s4.1+1),j5))
else
some (.inr (.inl s4.2)))) N (0,l2)) fun j3=>
(M.ot N y1.2.1 y1.2.2 j3).bind fun qj=>
(if(decide (qj=(-1)))then
some (0,(10,(a2,(a3,(-1)))))
else
(if(decide (qj=(-2)))then
some (0,(11,(a2,(a3,(-1)))))
else
(idx y1.1 qj).bind fun oX=>
(M.fg N a0 oX).bind fun qk=>
some (qk,(0,(0,(0,0))))))
def S42(N:Nat):br:=⟨⟨[(0, .at bi),(1, .g cE),(2, .l ae),(3, .l ae)],[],[],0⟩,⟨[(0, .l ae),(1, .g aS)],[],[],0⟩,fun(x:bi.den×cE.den×Int×Int)=>M.eF N x.1 x.2.1 x.2.2.1 x.2.2.2⟩
theorem W42(N:Nat):av Tryz.prog 42 (S42 N):=fw (en [ck (W43 N),ck (W67 N),ck (W68 N),ck (W69 N)] false false) (N:=N) (.o (.o (.o (.join ⟨[],[(320, .own 4 .bool)],[],353⟩ (.o (.two (.loop ⟨[(38, .l ae)],[(320, .own 4 .bool)],[],401⟩ (.o (.o (.two (.join ⟨[],[(320, .own 4 .bool)],[],418⟩ .nil .nil) .nil)))) .nil)) .nil)))) Tryz.func42 (by kernel_rfl) fun x=>by kernel_rfl
def M.jM(N:Nat)(a0:bi.den)(a1:Int)(a2:Int)(a3:List af.den)(a4:List ay.den):Option (aS.den×Int×(List af.den)×(List ay.den)×(List Int)×List af.den):=
(mI (a0.1.2.2.2.1.length:Int) (0,(0,0))).bind fun l1=>
(mI (a0.1.2.2.2.1.length:Int) 0).bind fun l2=>
bM (J:=(List af.den)×List Int) (R:=aS.den×Int×(List af.den)×(List ay.den)×(List Int)×List af.den) (Loop (S:=Int×(List af.den)×List Int) (X:=((List af.den)×List Int)⊕(aS.den×Int×(List af.den)×(List ay.den)×(List Int)×List af.den)) (fun s4=>
(if(decide (s4.1<(a0.2.1.1.length:Int)))then
(idx a0.2.1.1 s4.1).bind fun x5=>
(M.eF N a0 (a2,(a3,(s4.2.1,(([]:List (List af.den)),(([]:List aa.den),a4))))) a1 x5).bind fun y6=>
(if(!decide (y6.2.1=0))then
some (.inr (.inr (y6.2,a2,a3,a4,([]:List Int),s4.2.1)))
else
(idx a0.2.1.2.2.2 y6.1).bind fun x7=>
(M.n8 N x7 (a2,(a3,(s4.2.1,(([]:List (List af.den)),(([]:List aa.den),a4)))))).bind fun y8=>
(if(!decide (y8.2.2=0))then
(idx a0.2.2 y6.1).bind fun x9=>
some (.inr (.inr ((y8.2.2,(a1,(x5,x9))),a2,a3,a4,([]:List Int),s4.2.1)))
else
(idx s4.2.1 x5).bind fun r9=>
(idx a0.2.2 y6.1).bind fun oE=>
(idx s4.2.2 x5).bind fun rH=>
some (.inl (ajj.wrap (s4.1+1),aQ s4.2.1 x5 y8.1,aQ s4.2.2 x5 oE))))
else
some (.inr (.inl (s4.2.1,s4.2.2))))) N (0,l1,l2)) fun j3=>
some ((0,(0,(0,0))),a2,a3,a4,j3.2,j3.1)
def UK(N:Nat):br:=⟨⟨[(0, .at bi),(1, .ptr 0 [] 0),(2, .l ae)],[(0, .box 89 (.pair (.leaf ae) (.pair (.leaf (.slice af)) (.pair .nil (.pair .nil (.pair .nil (.leaf (.slice ay))))))))],[],1⟩,⟨[(0, .val false (.own 1)),(1, .g aS)],[(0, .box 89 (.pair (.leaf ae) (.pair (.leaf (.slice af)) (.pair (.own 2) (.pair .nil (.pair .nil (.leaf (.slice ay)))))))),(1, .own 3 ae),(2, .own 76 af)],[],4⟩,fun(x:bi.den×Int×Int×(List af.den)×List ay.den)=>M.jM N x.1 x.2.1 x.2.2.1 x.2.2.2.1 x.2.2.2.2⟩
theorem UL(N:Nat):av Tryz.prog 21 (UK N):=fw (en [ck (W42 N),ck (W43 N)] false false) (N:=N) (.o (.o (.o (.join ⟨[],[(145, .own 76 af),(305, .own 3 ae)],[],339⟩ (.o (.two (.loop ⟨[(39, .l ae)],[(145, .own 76 af),(305, .own 3 ae)],[],451⟩ .nil) .nil)) .nil)))) Tryz.func21 (by kernel_rfl) fun x=>by kernel_rfl
def M.jN(N:Nat)(a0:bi.den)(a1:Int)(a2:Int)(a3:List af.den)(a4:List ay.den)(a5:List (List af.den))(a6:List aa.den):Option (aS.den×Int×(List af.den)×(List ay.den)×(List (List af.den))×(List aa.den)×(List Int)×List af.den):=
(mI (a0.1.2.2.2.1.length:Int) (0,(0,0))).bind fun l1=>
(mI (a0.1.2.2.2.1.length:Int) 0).bind fun l2=>
bM (J:=(List af.den)×List Int) (R:=aS.den×Int×(List af.den)×(List ay.den)×(List (List af.den))×(List aa.den)×(List Int)×List af.den) (Loop (S:=Int×(List af.den)×List Int) (X:=((List af.den)×List Int)⊕(aS.den×Int×(List af.den)×(List ay.den)×(List (List af.den))×(List aa.den)×(List Int)×List af.den)) (fun s4=>
(if(decide (s4.1<(a0.2.1.1.length:Int)))then
(idx a0.2.1.1 s4.1).bind fun x5=>
(M.eF N a0 (a2,(a3,(s4.2.1,(a5,(a6,a4))))) a1 x5).bind fun y6=>
(if(!decide (y6.2.1=0))then
some (.inr (.inr (y6.2,a2,a3,a4,a5,a6,([]:List Int),s4.2.1)))
else
(idx a0.2.1.2.2.2 y6.1).bind fun x7=>
(M.n8 N x7 (a2,(a3,(s4.2.1,(a5,(a6,a4)))))).bind fun y8=>
(if(!decide (y8.2.2=0))then
(idx a0.2.2 y6.1).bind fun x9=>
some (.inr (.inr ((y8.2.2,(a1,(x5,x9))),a2,a3,a4,a5,a6,([]:List Int),s4.2.1)))
else
(idx s4.2.1 x5).bind fun r9=>
(idx a0.2.2 y6.1).bind fun oE=>
(idx s4.2.2 x5).bind fun rH=>
some (.inl (ajj.wrap (s4.1+1),aQ s4.2.1 x5 y8.1,aQ s4.2.2 x5 oE))))
else
some (.inr (.inl (s4.2.1,s4.2.2))))) N (0,l1,l2)) fun j3=>
some ((0,(0,(0,0))),a2,a3,a4,a5,a6,j3.2,j3.1)
def UM(N:Nat):br:=⟨⟨[(0, .at bi),(1, .ptr 0 [] 0),(2, .l ae)],[(0, .box 89 (.pair (.leaf ae) (.pair (.leaf (.slice af)) (.pair .nil (.pair (.own 1) (.pair (.own 2) (.leaf (.slice ay)))))))),(1, .own 45 (.slice af)),(2, .own 63 aa)],[],3⟩,⟨[(0, .val false (.own 3)),(1, .g aS)],[(0, .box 89 (.pair (.leaf ae) (.pair (.leaf (.slice af)) (.pair (.own 4) (.pair (.own 1) (.pair (.own 2) (.leaf (.slice ay)))))))),(1, .own 45 (.slice af)),(2, .own 63 aa),(3, .own 3 ae),(4, .own 76 af)],[],8⟩,fun(x:bi.den×Int×Int×(List af.den)×(List ay.den)×(List (List af.den))×List aa.den)=>M.jN N x.1 x.2.1 x.2.2.1 x.2.2.2.1 x.2.2.2.2.1 x.2.2.2.2.2.1 x.2.2.2.2.2.2⟩
theorem UN(N:Nat):av Tryz.prog 21 (UM N):=fw (en [ck (W42 N),ck (W43 N)] false false) (N:=N) (.o (.o (.o (.join ⟨[],[(147, .own 76 af),(307, .own 3 ae)],[],341⟩ (.o (.two (.loop ⟨[(39, .l ae)],[(147, .own 76 af),(307, .own 3 ae)],[],453⟩ .nil) .nil)) .nil)))) Tryz.func21 (by kernel_rfl) fun x=>by kernel_rfl
def M.n9(N:Nat)(a0:cF.den)(a1:Int)(a2:tO.den):Option (aS.den×(List af.den)×(List Int)×List bm.den):=
(M.iK N a0).bind fun y1=>
(if(!decide (y1.1=0))then
some ((1,((-1),((-1),(-1)))),([]:List af.den),([]:List Int),([]:List bm.den))
else
((if(decide (a1<0))then
some true
else
some (decide ((a0.2.2.length:Int)<=a1))):Option Bool).bind fun j2=>
(if j2 then
some ((6,((-1),((-1),(-1)))),([]:List af.den),([]:List Int),([]:List bm.den))
else
(M.mT N a0 a1 a2).bind fun y3=>
(if(!decide (y3.2.2=0))then
some ((y3.2.2,(y3.1,((-1),(-1)))),([]:List af.den),([]:List Int),([]:List bm.den))
else
bM (J:=Int×(List af.den)×(List ay.den)×(List bm.den)×(List (List af.den))×List aa.den) (R:=aS.den×(List af.den)×(List Int)×List bm.den) ((idx a0.2.2 a1).bind fun x5=>
(if(decide (0<=x5.2.1))then
(M.eA N a0 x5.2.1 a2.1).bind fun y6=>
(Loop (S:=Int×Int×(List af.den)×(List ay.den)×List aa.den) (X:=Int×(List af.den)×(List ay.den)×List aa.den) (fun s8=>
(if(decide (s8.1<(y6.1.2.2.2.1.length:Int)))then
(idx y6.1.2.2.2.1 s8.1).bind fun x9=>
(bZ s8.2.2.2.2 ([x9.2]:List aa.den)).bind fun xk=>
some (.inl (ajj.wrap (s8.1+1),s8.2.1,s8.2.2.1,s8.2.2.2.1,xk))
else
some (.inr (s8.2.1,s8.2.2.1,s8.2.2.2.1,s8.2.2.2.2)))) N (0,a2.1,a2.2.1,a0.2.1,([]:List aa.den)):Option (Int×(List af.den)×(List ay.den)×List aa.den)).bind fun j7=>
Loop (S:=Int×Int×(List af.den)×(List ay.den)×(List aa.den)×(List bm.den)×List (List af.den)) (X:=(Int×(List af.den)×(List ay.den)×(List bm.den)×(List (List af.den))×List aa.den)⊕(aS.den×(List af.den)×(List Int)×List bm.den)) (fun qH=>
(if(decide (qH.1<(a2.2.2.length:Int)))then
(idx a2.2.2 qH.1).bind fun rH=>
(M.jM N y6 qH.1 a2.1 rH a0.2.1).bind fun BP=>
(if(!decide (BP.1.1=0))then
some (.inr (.inr (BP.1,([]:List af.den),([]:List Int),([]:List bm.den))))
else
(bZ qH.2.2.2.2.2.2 ([BP.2.2.2.2.2]:List (List af.den))).bind fun l14=>
(bZ qH.2.2.2.2.2.1 ([(BP.2.2.2.2.2,BP.2.2.2.2.1)]:List bm.den)).bind fun Um=>
some (.inl (ajj.wrap (qH.1+1),qH.2.1,qH.2.2.1,qH.2.2.2.1,qH.2.2.2.2.1,Um,l14)))
else
some (.inr (.inl (qH.2.1,qH.2.2.1,qH.2.2.2.1,qH.2.2.2.2.2.1,qH.2.2.2.2.2.2,qH.2.2.2.2.1))))) N (0,j7.1,j7.2.1,j7.2.2.1,j7.2.2.2,([]:List bm.den),([]:List (List af.den)))
else
some (.inl (a2.1,a2.2.1,a0.2.1,([]:List bm.den),([]:List (List af.den)),([]:List aa.den))))) fun j4=>
(M.eA N a0 a1 a2.1).bind fun IT=>
(M.jN N IT (-1) j4.1 j4.2.1 j4.2.2.1 j4.2.2.2.2.1 j4.2.2.2.2.2).bind fun wS=>
(if(!decide (wS.1.1=0))then
some (wS.1,([]:List af.den),([]:List Int),([]:List bm.den))
else
some ((0,(0,(0,0))),wS.2.2.2.2.2.2.2,wS.2.2.2.2.2.2.1,j4.2.2.2.1)))))
def S10(N:Nat):br:=⟨⟨[(0, .g cF),(1, .l ae),(2, .g tO)],[],[],0⟩,⟨[(0, .val true (.pair (.own 0) (.pair (.own 1) (.own 2)))),(1, .g aS)],[(0, .own 76 af),(1, .own 3 ae),(2, .own 100 bm)],[],3⟩,fun(x:cF.den×Int×tO.den)=>M.n9 N x.1 x.2.1 x.2.2⟩
theorem W10(N:Nat):av Tryz.prog 10 (S10 N):=fw (en [ck (W16 N),ck (W19 N),ck (W20 N),ck (UL N),ck (UN N)] false false) (N:=N) (.o (.o (.two (.meet ⟨[(40, .l .bool)],[],[],176⟩ .nil .nil) (.o (.o (.o (.join ⟨[],[(384, .box 52 (.pair .nil (.pair .nil (.own 544)))),(512, .box 89 (.pair (.leaf ae) (.pair (.leaf (.slice af)) (.pair .nil (.pair (.own 545) (.pair (.own 546) (.leaf (.slice ay)))))))),(544, .own 100 bm),(545, .own 45 (.slice af)),(546, .own 63 aa)],[],549⟩ (.o (.o (.two (.o (.meet ⟨[],[(512, .box 89 (.pair (.leaf ae) (.pair (.leaf (.slice af)) (.pair .nil (.pair .nil (.pair (.own 784) (.leaf (.slice ay)))))))),(784, .own 63 aa)],[],786⟩ (.o (.two (.loop ⟨[(83, .l ae)],[(512, .box 89 (.pair (.leaf ae) (.pair (.leaf (.slice af)) (.pair .nil (.pair .nil (.pair (.own 896) (.leaf (.slice ay)))))))),(896, .own 63 aa)],[],898⟩ .nil) .nil)) (.o (.two (.loop ⟨[(98, .l ae)],[(384, .box 52 (.pair .nil (.pair .nil (.own 850)))),(512, .box 89 (.pair (.leaf ae) (.pair (.leaf (.slice af)) (.pair .nil (.pair (.own 851) (.pair (.own 784) (.leaf (.slice ay)))))))),(784, .own 63 aa),(850, .own 100 bm),(851, .own 45 (.slice af))],[],855⟩ .nil) .nil)))) .nil))) .nil))))))) Tryz.func10 (by kernel_rfl) fun x=>by kernel_rfl
def M.lX(N:Nat)(a0:List aa.den):Option (List aB.den):=
some ([((⟨#[104,111,117,115,101]⟩:ByteArray),((-1),(([((⟨#[97]⟩:ByteArray),(3,0))]:List aN.den),(([((⟨#[100]⟩:ByteArray),(3,0))]:List aN.den),([((⟨#[98,97,115,101]⟩:ByteArray),(0,((-1),(0,((0,109573),(([]:List aa.den),(a0,ByteArray.empty)))))))]:List aZ.den)))))]:List aB.den)
def S14(N:Nat):br:=⟨⟨[(0, .l (.slice aa))],[],[],0⟩,⟨[(0, .val true (.pair .nil (.pair .nil (.own 0))))],[(0, .own 69 aB)],[],1⟩,fun(x:List aa.den)=>M.lX N x⟩
theorem W14(N:Nat):av Tryz.prog 14 (S14 N):=fw (en [] false false) (N:=N) .nil Tryz.func14 (by kernel_rfl) fun x=>by kernel_rfl
def M.vW(N:Nat)(a0:List aa.den)(a1:List aa.den):Option Bool:=
(if(!decide ((a0.length:Int)=(a1.length:Int)))then
some false
else
Loop (S:=Int) (X:=Bool) (fun s1=>
((if(decide (s1<(a0.length:Int)))then
some (decide (s1<(a1.length:Int)))
else
some false):Option Bool).bind fun j2=>
(if j2 then
(idx a0 s1).bind fun x3=>
(idx a1 s1).bind fun x4=>
(if(!(oD aa x3 x4))then
some (.inr false)
else
some (.inl (ajj.wrap (s1+1))))
else
some (.inr true))) N 0)
def S15(N:Nat):br:=⟨⟨[(0, .l (.slice aa)),(1, .l (.slice aa))],[],[],0⟩,⟨[(0, .l .bool)],[],[],0⟩,fun(x:(List aa.den)×List aa.den)=>M.vW N x.1 x.2⟩
theorem W15(N:Nat):av Tryz.prog 15 (S15 N):=fw (en [] false false) (N:=N) (.o (.o (.two (.o (.two (.loop ⟨[(5, .l ae)],[],[],112⟩ (.two (.meet ⟨[(20, .l .bool)],[],[],112⟩ .nil .nil) .nil)) .nil)) .nil))) Tryz.func15 (by kernel_rfl) fun x=>by kernel_rfl
def M.jO(N:Nat):Option Bool:=
(M.lX N ([(3,100),(3,200),(11,0)]:List aa.den)).bind fun y1=>
(M.eI N (([]:List bp.den),(([]:List ay.den),y1)) 0 0).bind fun y2=>
((if(!decide (y2.2.1=0))then
some true
else
(if(!decide ((y2.2.2.2.2.length:Int)=1))then
some true
else
(idx y2.2.2.2.2 0).bind fun x4=>
(M.vW N x4 ([(3,300)]:List aa.den)).bind fun y5=>
some (!y5))):Option Bool).bind fun j3=>
(if j3 then
some false
else
(M.n9 N (([]:List bp.den),(([]:List ay.den),y1)) 0 (0,(([(3,(0,0))]:List af.den),([]:List (List af.den))))).bind fun y6=>
((if(oD aS y6.1 (0,(0,(0,0))))then
(if(decide ((y6.2.1.length:Int)=1))then
(idx y6.2.1 0).bind fun x8=>
some (oD af x8 (3,(0,300)))
else
some false)
else
some false):Option Bool).bind fun j7=>
some j7)
def S6(N:Nat):br:=⟨⟨[],[],[],0⟩,⟨[(0, .l .bool)],[],[],0⟩,fun(x:Unit)=>M.jO N⟩
theorem W6(N:Nat):av Tryz.prog 6 (S6 N):=fw (en [ck (W7 N),ck (W10 N),ck (W14 N),ck (W15 N)] false false) (N:=N) (.o (.o (.o (.two (.meet ⟨[(33, .l .bool)],[],[],256⟩ .nil .nil) (.o (.meet ⟨[(0, .l .bool)],[],[],448⟩ .nil .nil)))))) Tryz.func6 (by kernel_rfl) fun x=>by kernel_rfl
def M.gu(N:Nat)(a0:cF.den)(a1:Int)(a2:Int):Option Bool:=
(M.ld N a0).bind fun y1=>
(if(!y1)then
(M.jO N).bind fun y2=>
some y2
else
(M.eI N a0 a1 a2).bind fun y3=>
(if(!decide (y3.2.1=0))then
((if(decide ((y3.1.length:Int)=0))then
(M.jO N).bind fun y5=>
some y5
else
some false):Option Bool).bind fun j4=>
some j4
else
((if(!decide ((y3.2.2.2.1.length:Int)=(y3.1.length:Int)))then
some true
else
some (!decide ((y3.2.2.2.2.length:Int)=(y3.1.length:Int)))):Option Bool).bind fun j6=>
(if j6 then
some false
else
bM (J:=Unit) (R:=Bool) (Loop (S:=Int) (X:=Unit⊕Bool) (fun s8=>
(if(decide (s8<(y3.1.length:Int)))then
bM (J:=Unit) (R:=Int⊕(Unit⊕Bool)) ((idx y3.1 s8).bind fun r9=>
(if(decide (0<(r9.2.2.2.2.2.1.length:Int)))then
(idx y3.2.2.2.1 s8).bind fun oE=>
(M.bH N oE).bind fun qj=>
(if(!decide (qj.2=0))then
some (.inr (.inr (.inr false)))
else
some (.inl ()))
else
some (.inl ()))) fun j9=>
(idx y3.2.2.2.2 s8).bind fun oX=>
(M.bH N oX).bind fun qk=>
(if(!decide (qk.2=0))then
some (.inr (.inr false))
else
some (.inl (ajj.wrap (s8+1))))
else
some (.inr (.inl ())))) N 0) fun j7=>
(M.jO N).bind fun D9=>
some D9)))
def S3(N:Nat):br:=⟨⟨[(0, .g cF),(1, .l ae),(2, .l ae)],[],[],0⟩,⟨[(0, .l .bool)],[],[],0⟩,fun(x:cF.den×Int×Int)=>M.gu N x.1 x.2.1 x.2.2⟩
theorem W3(N:Nat):av Tryz.prog 3 (S3 N):=fw (en [ck (W5 N),ck (W6 N),ck (W7 N),ck (W8 N)] false false) (N:=N) (.o (.o (.o (.two (.o (.two (.meet ⟨[(6, .l .bool)],[],[],272⟩ .nil .nil) .nil)) (.two (.meet ⟨[(49, .l .bool)],[],[],272⟩ .nil .nil) (.join ⟨[],[],[],272⟩ (.o (.two (.loop ⟨[(9, .l ae)],[],[],288⟩ (.o (.two (.two (.join ⟨[],[],[],368⟩ .nil .nil) .nil) .nil))) .nil)) .nil)))))) Tryz.func3 (by kernel_rfl) fun x=>by kernel_rfl
def M.fU(N:Nat)(a0:dB.den)(a1:Int):Option (List Int):=
(idx a0.1 a1).bind fun x1=>
(M.dh N x1.1).bind fun y2=>
(mI y2 0).bind fun l3=>
Loop (S:=Int×Int×List Int) (X:=List Int) (fun s4=>
(if(decide (0<=s4.2.1))then
(idx s4.2.2 s4.2.1).bind fun x5=>
(idx a0.2.1 s4.1).bind fun x6=>
some (.inl (ajj.wrap (x6-1),ajj.wrap (s4.2.1-1),aQ s4.2.2 s4.2.1 s4.1))
else
some (.inr s4.2.2))) N (ajj.wrap (a1-1),ajj.wrap ((l3.length:Int)-1),l3)
mutual
def M.bR(B:Nat):Nat->dB.den->Int->Option (af.den×Int)
 |0,_,_=>none
 |N+1,a0,a1=>
  (idx a0.1 a1).bind fun x2=>
  (M.fU B a0 a1).bind fun y4=>
  ((if(decide (x2.1=23))then
  some (decide (x2.1=23))
  else
  (if(decide (x2.1=24))then
  some (decide (x2.1=24))
  else
  some (decide (x2.1=26)))):Option Bool).bind fun qh=>
  (if qh then
  (M.kV B N a0 x2 y4).bind fun qi=>
  some (qi.1,qi.2)
  else
  (mI (y4.length:Int) (0,(0,0))).bind fun TS=>
  bM (J:=List af.den) (R:=af.den×Int) (Loop (S:=Int×List af.den) (X:=(List af.den)⊕(af.den×Int)) (fun O2=>
  (if(decide (O2.1<(y4.length:Int)))then
  (idx y4 O2.1).bind fun Yw=>
  (M.bR B N a0 Yw).bind fun y47=>
  (if(!decide (y47.2=0))then
  some (.inr (.inr ((0,(0,0)),y47.2)))
  else
  (idx O2.2 O2.1).bind fun x48=>
  some (.inl (ajj.wrap (O2.1+1),aQ O2.2 O2.1 y47.1)))
  else
  some (.inr (.inl O2.2)))) B (0,TS)) fun j44=>
  (M.bI B x2 j44 a0.2.2).bind fun y50=>
  some (y50.1,y50.2))
def M.kV(B:Nat):Nat->dB.den->aa.den->(List Int)->Option (af.den×Int)
 |0,_,_,_=>none
 |N+1,a0,a1,a2=>
  (if(!decide (a1.2=0))then
  some ((0,(0,0)),2)
  else
  (idx a2 0).bind fun x3=>
  (M.dR B N a0 x3).bind fun y4=>
  (if(!decide (y4.2=0))then
  some ((0,(0,0)),y4.2)
  else
  ((if(decide (a1.1=26))then
  some (decide (y4.1.2.2=1))
  else
  some false):Option Bool).bind fun OY=>
  (if OY then
  (idx a2 1).bind fun Tu=>
  (M.bR B N a0 Tu).bind fun Nv=>
  some (Nv.1,Nv.2)
  else
  (if(decide (a1.1=26))then
  (idx a2 2).bind fun Qn=>
  (M.bR B N a0 Qn).bind fun TZ=>
  some (TZ.1,TZ.2)
  else
  (if(decide ((decide (a1.1=23))=(decide (y4.1.2.2=0))))then
  some (y4.1,0)
  else
  (idx a2 1).bind fun x26=>
  (M.dR B N a0 x26).bind fun y27=>
  some (y27.1,y27.2))))))
def M.dR(B:Nat):Nat->dB.den->Int->Option (af.den×Int)
 |0,_,_=>none
 |N+1,a0,a1=>
  (M.bR B N a0 a1).bind fun y2=>
  (if(!decide (y2.2=0))then
  some ((0,(0,0)),y2.2)
  else
  ((if(!decide (y2.1.1=1))then
  some true
  else
  (M.cv B y2.1).bind fun y7=>
  some (!y7)):Option Bool).bind fun j6=>
  (if j6 then
  some ((0,(0,0)),8)
  else
  some (y2.1,0)))
end
def M.lO(N:Nat)(a0:dB.den)(a1:Int):Option (af.den×Int):=M.bR N N a0 a1
def M.sX(N:Nat)(a0:List aa.den)(a1:cE.den):Option (af.den×Int):=
(M.gi N a0).bind fun y1=>
(if(!decide (y1.1=0))then
some ((0,(0,0)),y1.1)
else
(M.lO N (a0,(y1.2,a1)) (ajj.wrap ((a0.length:Int)-1))).bind fun y2=>
some (y2.1,y2.2))
end
end Go.Proofs.YtmihpkfkbfgigaaGreatDoor
end
section
open _root_.Int renaming tdiv->ajE,tmod->ajY
open _root_.Go.IntKind renaming i64->ajj
namespace Go.Proofs.YtmihpkfkbfgigaaGreatDoor
open Go Go.RowKit
noncomputable section
set_option maxRecDepth 100000
set_option linter.unusedVariables false
def M.mY(N:Nat)(a0:Int):Option Bool:=
((if(decide (97<=a0))then
some (decide (a0<=122))
else
some false):Option Bool).bind fun j1=>
some j1
def M.oZ(N:Nat)(a0:Int):Option Bool:=
((if(decide (48<=a0))then
some (decide (a0<=57))
else
some false):Option Bool).bind fun j1=>
some j1
def M.qI(N:Nat)(a0:Int):Option Bool:=
((M.mY N a0).bind fun y2=>
(if y2 then
some true
else
(M.oZ N a0).bind fun y3=>
(if y3 then
some true
else
some (decide (a0=95)))):Option Bool).bind fun j1=>
some j1
def M.mB(N:Nat):Option (List ByteArray):=
some ([(⟨#[105,102]⟩:ByteArray),(⟨#[116,104,101,110]⟩:ByteArray),(⟨#[101,108,115,101]⟩:ByteArray),(⟨#[111,114]⟩:ByteArray),(⟨#[97,110,100]⟩:ByteArray),(⟨#[110,111,116]⟩:ByteArray),(⟨#[116,114,117,101]⟩:ByteArray),(⟨#[102,97,108,115,101]⟩:ByteArray),(⟨#[116,111,100,97,121]⟩:ByteArray),(⟨#[115,104,97,114,101]⟩:ByteArray),(⟨#[100,105,118]⟩:ByteArray),(⟨#[114,111,117,110,100]⟩:ByteArray),(⟨#[109,105,110]⟩:ByteArray),(⟨#[109,97,120]⟩:ByteArray),(⟨#[112,108,117,115]⟩:ByteArray),(⟨#[109,111,110,116,104,115]⟩:ByteArray),(⟨#[100,97,121,115]⟩:ByteArray),(⟨#[121,101,97,114,115]⟩:ByteArray),(⟨#[121,101,97,114]⟩:ByteArray),(⟨#[109,111,110,116,104]⟩:ByteArray),(⟨#[116,97,98]⟩:ByteArray),(⟨#[98,97,110,100]⟩:ByteArray),(⟨#[99,111,117,110,116]⟩:ByteArray),(⟨#[115,117,109]⟩:ByteArray),(⟨#[97,108,108]⟩:ByteArray),(⟨#[97,110,121]⟩:ByteArray),(⟨#[109,111,115,116]⟩:ByteArray),(⟨#[101,110,117,109]⟩:ByteArray),(⟨#[116,97,98,108,101]⟩:ByteArray),(⟨#[114,111,119]⟩:ByteArray),(⟨#[115,99,111,112,101]⟩:ByteArray),(⟨#[109,101,109,98,101,114,115]⟩:ByteArray),(⟨#[105,110,112,117,116]⟩:ByteArray),(⟨#[100,101,102]⟩:ByteArray),(⟨#[114,117,108,101]⟩:ByteArray),(⟨#[111,102]⟩:ByteArray),(⟨#[111,118,101,114]⟩:ByteArray),(⟨#[112,114,105,111]⟩:ByteArray),(⟨#[102,114,111,109]⟩:ByteArray),(⟨#[116,111]⟩:ByteArray),(⟨#[101,110,100]⟩:ByteArray),(⟨#[119,104,101,110]⟩:ByteArray),(⟨#[105,115]⟩:ByteArray),(⟨#[115,114,99]⟩:ByteArray),(⟨#[98,111,111,108]⟩:ByteArray),(⟨#[105,110,116]⟩:ByteArray),(⟨#[109,111,110,101,121]⟩:ByteArray),(⟨#[114,97,116,101]⟩:ByteArray),(⟨#[100,97,116,101]⟩:ByteArray),(⟨#[100,111,119,110]⟩:ByteArray),(⟨#[117,112]⟩:ByteArray),(⟨#[122,101,114,111]⟩:ByteArray),(⟨#[97,119,97,121]⟩:ByteArray),(⟨#[104,97,108,102]⟩:ByteArray),(⟨#[101,118,101,110]⟩:ByteArray)]:List ByteArray)
def M.jB(N:Nat)(a0:ByteArray):Option Bool:=
((if(decide ((a0.size:Int)=0))then
some true
else
(if(decide (16<(a0.size:Int)))then
some true
else
(kT a0 0).bind fun x2=>
(M.mY N x2).bind fun y3=>
some (!y3))):Option Bool).bind fun j1=>
(if j1 then
some false
else
bM (J:=Unit) (R:=Bool) (Loop (S:=Int) (X:=Unit⊕Bool) (fun s5=>
(if(decide (s5<(a0.size:Int)))then
(kT a0 s5).bind fun x6=>
(M.qI N x6).bind fun y7=>
(if(!y7)then
some (.inr (.inr false))
else
some (.inl (ajj.wrap (s5+1))))
else
some (.inr (.inl ())))) N 0) fun j4=>
(M.mB N).bind fun y8=>
Loop (S:=Int) (X:=Bool) (fun s9=>
(if(decide (s9<(y8.length:Int)))then
(idx y8 s9).bind fun r9=>
(if(decide (r9=a0))then
some (.inr false)
else
some (.inl (ajj.wrap (s9+1))))
else
some (.inr true))) N 0)
def M.fj(N:Nat)(a0:aa.den)(a1:List bp.den):Option Bool:=
(if(decide (a0.1=6))then
((if(decide (0<=a0.2))then
some (decide (a0.2<(a1.length:Int)))
else
some false):Option Bool).bind fun j1=>
some j1
else
((if(decide (1<=a0.1))then
(if(decide (a0.1<=5))then
some (decide (a0.2=0))
else
some false)
else
some false):Option Bool).bind fun j2=>
some j2)
def M.oa(N:Nat)(a0:aa.den)(a1:List bp.den):Option (Int×Int):=
(M.fj N a0 a1).bind fun y1=>
(if(!y1)then
some (0,(-1))
else
(if(decide (a0.1=1))then
some (0,1)
else
(if(decide (a0.1=2))then
some ((-1000000000000),1000000000000)
else
(if(decide (a0.1=3))then
some ((-1000000000000000),1000000000000000)
else
(if(decide (a0.1=4))then
some ((-1000000000),1000000000)
else
(if(decide (a0.1=5))then
some (0,109572)
else
(idx a1 a0.2).bind fun x2=>
some (0,ajj.wrap ((x2.2.length:Int)-1))))))))
def M.fV(N:Nat)(a0:List aN.den):Option (List aa.den):=
Loop (S:=Int×List aa.den) (X:=List aa.den) (fun s1=>
(if(decide (s1.1<(a0.length:Int)))then
(idx a0 s1.1).bind fun x2=>
(bZ s1.2 ([x2.2]:List aa.den)).bind fun l3=>
some (.inl (ajj.wrap (s1.1+1),l3))
else
some (.inr s1.2))) N (0,([]:List aa.den))
def M.lI(N:Nat)(a0:cF.den)(a1:Int):Option ((List bp.den)×(List ay.den)×Bool×(List aa.den)×(List aa.den)×List aa.den):=
((if(decide (a1<0))then
some true
else
some (decide ((a0.2.2.length:Int)<=a1))):Option Bool).bind fun j1=>
(if j1 then
some (([]:List bp.den),([]:List ay.den),false,([]:List aa.den),([]:List aa.den),([]:List aa.den))
else
(idx a0.2.2 a1).bind fun x2=>
(M.fV N x2.2.2.1).bind fun y3=>
(M.fV N x2.2.2.2.1).bind fun y4=>
(((if(decide (0<=x2.2.1))then
some (decide (x2.2.1<(a0.2.2.length:Int)))
else
some false):Option Bool).bind fun j6=>
(if j6 then
(idx a0.2.2 x2.2.1).bind fun x7=>
(M.fV N x7.2.2.2.1).bind fun y8=>
some (y3,y4,a0.1,a0.2.1,true,y8)
else
some (y3,y4,a0.1,a0.2.1,false,([]:List aa.den))):Option ((List aa.den)×(List aa.den)×(List bp.den)×(List ay.den)×Bool×List aa.den)).bind fun j5=>
some (j5.2.2.1,j5.2.2.2.1,j5.2.2.2.2.1,j5.1,j5.2.1,j5.2.2.2.2.2))
def M.nc(N:Nat)(a0:Int):Option Bool:=
((if(decide (1<=a0))then
(if(decide (a0<=8))then
some true
else
(if(decide (36<=a0))then
some (decide (a0<=39))
else
some false))
else
(if(decide (36<=a0))then
some (decide (a0<=39))
else
some false)):Option Bool).bind fun j1=>
(if j1 then
some true
else
((if(decide (a0=14))then
some true
else
(if(decide (a0=15))then
some true
else
(if(decide (a0=16))then
some true
else
(if(decide (a0=33))then
some true
else
some (decide (a0=34)))))):Option Bool).bind fun j2=>
some j2)
def M.dj(N:Nat)(a0:Int):Option (aa.den):=
some (a0,0)
def M.iN(N:Nat)(a0:aa.den)(a1:aR.den):Option Bool:=
((if(decide (a0.1=1))then
some (decide (a0.1=1))
else
(if(decide (a0.1=2))then
some (decide (a0.1=2))
else
(if(decide (a0.1=3))then
some (decide (a0.1=3))
else
(if(decide (a0.1=4))then
some (decide (a0.1=4))
else
some (decide (a0.1=5)))))):Option Bool).bind fun j1=>
(if j1 then
(M.dj N a0.1).bind fun y2=>
(M.oa N y2 a1.1).bind fun y3=>
((if(decide (y3.1<=a0.2))then
some (decide (a0.2<=y3.2))
else
some false):Option Bool).bind fun j4=>
some j4
else
((if(decide (a0.1=14))then
some (decide (a0.1=14))
else
(if(decide (a0.1=15))then
some (decide (a0.1=15))
else
some (decide (a0.1=16)))):Option Bool).bind fun j5=>
(if j5 then
((if(decide (0<=a0.2))then
some (decide (a0.2<=5))
else
some false):Option Bool).bind fun j6=>
some j6
else
(if(decide (a0.1=34))then
((if(decide (0<=a0.2))then
some (decide ((ajY a0.2 8)<=5))
else
some false):Option Bool).bind fun j7=>
some j7
else
(if(decide (a0.1=6))then
some (decide (0<=a0.2))
else
some true))))
def M.bc(N:Nat)(a0:aa.den)(a1:aR.den):Option Bool:=
(if(decide (a0.1=6))then
((if(decide ((ajj.wrap (ajE a0.2 16))<(a1.1.length:Int)))then
(idx a1.1 (ajj.wrap (ajE a0.2 16))).bind fun x2=>
some (decide ((ajY a0.2 16)<(x2.2.length:Int)))
else
some false):Option Bool).bind fun j1=>
some j1
else
(if(decide (a0.1=7))then
((if(decide (0<=a0.2))then
some (decide (a0.2<(a1.2.2.1.length:Int)))
else
some false):Option Bool).bind fun j3=>
some j3
else
(if(decide (a0.1=8))then
((if(decide (0<=a0.2))then
some (decide (a0.2<(a1.2.2.2.1.length:Int)))
else
some false):Option Bool).bind fun j4=>
some j4
else
(if(decide (a0.1=33))then
((if(decide (0<=a0.2))then
some (decide (a0.2<(a1.2.1.length:Int)))
else
some false):Option Bool).bind fun j5=>
some j5
else
(if(decide (a0.1=34))then
some (decide ((ajj.wrap (ajE a0.2 8))<(a1.2.1.length:Int)))
else
(if(decide (a0.1=35))then
some a1.2.2.2.2.2
else
((if(decide (a0.1=36))then
some (decide (a0.1=36))
else
(if(decide (a0.1=37))then
some (decide (a0.1=37))
else
(if(decide (a0.1=38))then
some (decide (a0.1=38))
else
some (decide (a0.1=39))))):Option Bool).bind fun j6=>
(if j6 then
((if a1.2.2.2.2.2 then
(if(decide (0<=a0.2))then
some (decide (a0.2<(a1.2.2.2.2.1.length:Int)))
else
some false)
else
some false):Option Bool).bind fun j7=>
some j7
else
some true)))))))
def M.kB(N:Nat)(a0:Int):Option Bool:=
((if(decide (a0=2))then
some true
else
(if(decide (a0=3))then
some true
else
some (decide (a0=4)))):Option Bool).bind fun j1=>
some j1
def M.gH(N:Nat)(a0:Int):Option Bool:=
((M.kB N a0).bind fun y2=>
(if y2 then
some true
else
some (decide (a0=5))):Option Bool).bind fun j1=>
some j1
def M.bS(N:Nat)(a0:aa.den)(a1:aR.den):Option (aa.den×Bool):=
((if(decide (a0.1=6))then
some (6,ajj.wrap (ajE a0.2 16))
else
(if(decide (a0.1=7))then
(idx a1.2.2.1 a0.2).bind fun x2=>
some x2
else
(if(decide (a0.1=8))then
(idx a1.2.2.2.1 a0.2).bind fun x3=>
some x3
else
(if(decide (a0.1=9))then
(M.dj N 5).bind fun y4=>
some y4
else
(if(decide (a0.1=35))then
(M.dj N 2).bind fun y5=>
some y5
else
((if(decide (a0.1=36))then
some (decide (a0.1=36))
else
(if(decide (a0.1=37))then
some (decide (a0.1=37))
else
(if(decide (a0.1=38))then
some (decide (a0.1=38))
else
some (decide (a0.1=39))))):Option Bool).bind fun j6=>
(if j6 then
(idx a1.2.2.2.2.1 a0.2).bind fun x7=>
some x7
else
(M.dj N a0.1).bind fun y8=>
some y8)))))):Option (aa.den)).bind fun j1=>
(M.fj N j1 a1.1).bind fun y9=>
((if(decide (a0.1=36))then
(if y9 then
(if(decide (j1.1=2))then
some true
else
some (decide (j1.1=3)))
else
some false)
else
((if(decide (a0.1=37))then
some (decide (a0.1=37))
else
some (decide (a0.1=38))):Option Bool).bind fun CY=>
(if CY then
(if y9 then
some (decide (j1.1=1))
else
some false)
else
(if(decide (a0.1=39))then
(if y9 then
(M.gH N j1.1).bind fun qj=>
some qj
else
some false)
else
some y9))):Option Bool).bind fun qh=>
some (j1,qh)
def M.cf(N:Nat)(a0:aa.den)(a1:aa.den)(a2:aR.den):Option (aa.den×Bool):=
(if(decide (a0.1=10))then
(M.kB N a1.1).bind fun y1=>
some (a1,y1)
else
(if(decide (a0.1=25))then
some (a1,decide (a1.1=1))
else
((if(decide (a0.1=31))then
some (decide (a0.1=31))
else
some (decide (a0.1=32))):Option Bool).bind fun j2=>
(if j2 then
(M.dj N 2).bind fun y3=>
some (y3,decide (a1.1=5))
else
(if(decide (a0.1=33))then
(idx a2.2.1 a0.2).bind fun x4=>
((M.fj N x4.2.1 a2.1).bind fun y6=>
(if y6 then
(M.fj N x4.2.2.1 a2.1).bind fun y7=>
(if y7 then
some ((oD aa a1 x4.2.1),x4.2.2.1)
else
some (false,x4.2.2.1))
else
some (false,x4.2.2.1)):Option (Bool×aa.den)).bind fun j5=>
some (j5.2,j5.1)
else
(idx a2.2.1 (ajj.wrap (ajE a0.2 8))).bind fun x8=>
((if(decide (a1.1=3))then
(M.dj N 3).bind fun oW=>
(if(oD aa x8.2.1 oW)then
(M.dj N 4).bind fun qi=>
some ((oD aa x8.2.2.1 qi),a1)
else
some (false,a1))
else
some (false,a1)):Option (Bool×aa.den)).bind fun j9=>
some (j9.2,j9.1)))))
def M.kC(N:Nat)(a0:Int)(a1:Int)(a2:Int):Option (aa.den×Bool):=
(if(decide (a0=13))then
((M.dj N a1).bind fun y2=>
(if(decide (a2=2))then
(if(decide (a1=2))then
some (true,y2)
else
some (decide (a1=3),y2))
else
some (false,y2)):Option (Bool×aa.den)).bind fun j1=>
some (j1.2,j1.1)
else
(if(decide (a0=14))then
((M.dj N a1).bind fun y4=>
(if(decide (a2=4))then
(if(decide (a1=3))then
some (true,y4)
else
some (decide (a1=4),y4))
else
some (false,y4)):Option (Bool×aa.den)).bind fun j3=>
some (j3.2,j3.1)
else
((if(decide (a1=3))then
some (decide (a2=3))
else
some false):Option Bool).bind fun j5=>
(if j5 then
(M.dj N 4).bind fun y6=>
some (y6,true)
else
((M.dj N a1).bind fun y8=>
(if(decide (a2=2))then
(if(decide (a1=2))then
some (true,y8)
else
some (decide (a1=3),y8))
else
some (false,y8)):Option (Bool×aa.den)).bind fun j7=>
some (j7.2,j7.1))))
def M.gv(N:Nat)(a0:Int)(a1:aa.den)(a2:aa.den):Option (aa.den×Bool):=
((if(decide (a0=11))then
some (decide (a0=11))
else
some (decide (a0=12))):Option Bool).bind fun j1=>
(if j1 then
((if(oD aa a1 a2)then
(M.kB N a1.1).bind fun y3=>
some (y3,a1)
else
some (false,a1)):Option (Bool×aa.den)).bind fun j2=>
some (j2.2,j2.1)
else
((if(decide (a0=13))then
some (decide (a0=13))
else
(if(decide (a0=14))then
some (decide (a0=14))
else
some (decide (a0=15)))):Option Bool).bind fun j4=>
(if j4 then
(M.kC N a0 a1.1 a2.1).bind fun y5=>
some (y5.1,y5.2)
else
(if(decide (a0=16))then
((if(decide (a1.1=3))then
some (decide (a2.1=3),a1)
else
some (false,a1)):Option (Bool×aa.den)).bind fun j6=>
some (j6.2,j6.1)
else
((if(decide (a0=17))then
some (decide (a0=17))
else
some (decide (a0=18))):Option Bool).bind fun j7=>
(if j7 then
((if(oD aa a1 a2)then
(M.gH N a1.1).bind fun y9=>
some (y9,a1)
else
some (false,a1)):Option (Bool×aa.den)).bind fun j8=>
some (j8.2,j8.1)
else
((if(decide (a0=19))then
some (decide (a0=19))
else
some (decide (a0=20))):Option Bool).bind fun qh=>
(if qh then
(M.dj N 1).bind fun qi=>
some (qi,(oD aa a1 a2))
else
((if(decide (a0=21))then
some (decide (a0=21))
else
some (decide (a0=22))):Option Bool).bind fun Al=>
(if Al then
((M.dj N 1).bind fun qk=>
(if(oD aa a1 a2)then
(M.gH N a1.1).bind fun D9=>
some (D9,qk)
else
some (false,qk)):Option (Bool×aa.den)).bind fun Mj=>
some (Mj.2,Mj.1)
else
((if(decide (a0=23))then
some (decide (a0=23))
else
some (decide (a0=24))):Option Bool).bind fun Qm=>
(if Qm then
((if(decide (a1.1=1))then
some (decide (a2.1=1),a1)
else
some (false,a1)):Option (Bool×aa.den)).bind fun RS=>
some (RS.2,RS.1)
else
((if(decide (a0=27))then
some (decide (a0=27))
else
some (decide (a0=28))):Option Bool).bind fun ZE=>
(if ZE then
((if(decide (a1.1=5))then
some (decide (a2.1=2),a1)
else
some (false,a1)):Option (Bool×aa.den)).bind fun OY=>
some (OY.2,OY.1)
else
((M.dj N 2).bind fun Nv=>
(if(decide (a1.1=5))then
some (decide (a2.1=5),Nv)
else
some (false,Nv)):Option (Bool×aa.den)).bind fun OZ=>
some (OZ.2,OZ.1)))))))))
def M.aF(N:Nat)(a0:aa.den)(a1:List aa.den)(a2:aR.den):Option (aa.den×Int):=
((if(!decide (a0.2=0))then
(M.nc N a0.1).bind fun y2=>
some (!y2)
else
some false):Option Bool).bind fun j1=>
(if j1 then
some ((0,0),2)
else
(M.iN N a0 a2).bind fun y3=>
(if(!y3)then
some ((0,0),3)
else
(M.bc N a0 a2).bind fun y4=>
(if(!y4)then
some ((0,0),6)
else
((if(decide ((a1.length:Int)=0))then
(M.bS N a0 a2).bind fun y6=>
some (y6.2,y6.1)
else
(if(decide ((a1.length:Int)=1))then
(idx a1 0).bind fun x7=>
(M.cf N a0 x7 a2).bind fun y8=>
some (y8.2,y8.1)
else
(if(decide ((a1.length:Int)=2))then
(idx a1 0).bind fun x9=>
(idx a1 1).bind fun r9=>
(M.gv N a0.1 x9 r9).bind fun qi=>
some (qi.2,qi.1)
else
(idx a1 1).bind fun rH=>
(idx a1 0).bind fun oX=>
(if(decide (oX.1=1))then
(idx a1 1).bind fun sa=>
(idx a1 2).bind fun Ea=>
some ((oD aa sa Ea),rH)
else
some (false,rH))))):Option (Bool×aa.den)).bind fun j5=>
(if(!j5.1)then
some ((0,0),8)
else
some (j5.2,0)))))
end
end Go.Proofs.YtmihpkfkbfgigaaGreatDoor
end
section
open _root_.Go.IntKind renaming i64->ajj
namespace Go.Proofs.YtmihpkfkbfgigaaGreatDoor
open Go Go.RowKit
theorem aM{n:Int}(h0: -9223372036854775808<=n)(h1:n<=9223372036854775807):ajj.wrap n=n:=by
 simp[IntKind.wrap,IntKind.bits,IntKind.signed];omega
theorem ah{α:Type}{l:List α}{k:Nat}(h:k<l.length):idx l (k:Int)=some l[k]:=by
 unfold idx;rw[if_pos (by omega)];simp[h]
theorem bL{α:Type}{l m:List α}(h:l.length+m.length<=4294967296):bZ l m=some (l++m):=if_pos h
theorem yh{S X:Type}{body:S->Option (S⊕X)}(I:S->Prop)(μ:S->Nat)(Q:X->Prop)
 (step:∀s,I s->(∃s',body s=some (.inl s')/\I s'/\μ s'<μ s)\/∃x,body s=some (.inr x)/\Q x):
 ∀N s,I s->μ s<N->∃x,Loop body N s=some x/\Q x
 |0,_,_,h=>absurd h (by omega)
 |N+1,s,hi,ao=>by
  rcases step s hi with⟨s',hb,gj,hm⟩|⟨x,hb,hq⟩
  .obtain⟨x,hx,hq⟩:=yh I μ Q step N s' gj (by omega);exact⟨x,by unfold Loop;rw[hb];exact hx,hq⟩
  .exact⟨x,by unfold Loop;rw[hb],hq⟩
theorem Ec{S X:Type}{body:S->Option (S⊕X)}(st:Nat->S){x:X}(m:Nat)(hs:∀i,i<m->body (st i)=some (.inl (st (i+1))))(he:body (st m)=some (.inr x)){N:Nat}(hN:m<N):Loop body N (st 0)=some x:=by
 have:∀k i N,i+k=m->k<N->Loop body N (st i)=some x:=by
  intro k
  induction k with
  |zero=>rintro i (_|N) hi hN;.omega
         obtain rfl:i=m:=by omega
         unfold Loop;rw[he]
  |succ k ih=>
   rintro i (_|N) hi hN
   .omega
   .unfold Loop;rw[hs i (by omega)];exact ih (i+1) N (by omega) (by omega)
 exact this m 0 N (by omega) hN
theorem zI{S X:Type}{body:S->Option (S⊕X)}{N:Nat}{s0:S}(st:Nat->S)(m:Nat)(x:X)(h0:s0=st 0)(hs:∀i,i<m->body (st i)=some (.inl (st (i+1))))(he:body (st m)=some (.inr x))(hN:m<N):Loop body N s0=some x:=by
 rw[h0];exact Ec st m hs he hN
def aE:Nat:=18446744073709551616
section
variable {α:Type}
end
end Go.Proofs.YtmihpkfkbfgigaaGreatDoor
end
section
open _root_.Bool renaming false_eq_true->ajp,not_true->akr
open _root_.Classical renaming not_not->akp
open _root_.Go.IntKind renaming i64->ajj
open _root_.List renaming getElem?_eq_getElem->ajl,replicate->ajq,take_length->ajD
open _root_.Nat renaming lt_succ_iff_lt_or_eq->akg,zero_le->ajI
open _root_.Option renaming bind_some->aji,some->ak6
namespace Go.Proofs.YtmihpkfkbfgigaaGreatDoor
open Go Go.RowKit
def Wp{α:Type}(m:Option α)(Q:α->Prop):Prop:=∃x,m=some x/\Q x
theorem Wp.some{α:Type}{x:α}{Q:α->Prop}(h:Q x):Wp (some x) Q:=⟨x,rfl,h⟩
theorem Wp.of{α:Type}{m:Option α}{x:α}{Q:α->Prop}(e:m=ak6 x)(h:Q x):Wp m Q:=⟨x,e,h⟩
theorem Wp.eq{α:Type}{m:Option α}{x:α}(h:Wp m (· =x)):m=ak6 x:=by obtain⟨y,e,rfl⟩:=h;exact e
theorem Wp.mono{α:Type}{m:Option α}{Q Q':α->Prop}(h:Wp m Q)(hq:∀x,Q x->Q' x):Wp m Q':=by obtain⟨x,e,h⟩:=h;exact⟨x,e,hq x h⟩
theorem Wp.bind{α β:Type}{m:Option α}{k:α->Option β}{Q:β->Prop}(h:Wp m fun x=>Wp (k x) Q):Wp (m.bind k) Q:=by
 obtain⟨x,e,h⟩:=h;rw[e];exact h
theorem Wp.seq{α β:Type}{m:Option α}{k:α->Option β}{Q:β->Prop}(A:α->Prop)(h:Wp m A)(hk:∀x,A x->Wp (k x) Q):Wp (m.bind k) Q:= .bind (h.mono hk)
theorem Wp.map{α β:Type}{m:Option α}{f:α->β}{Q:β->Prop}(h:Wp m fun x=>Q (f x)):Wp (m.map f) Q:=by
 obtain⟨x,e,h⟩:=h;rw[e];exact⟨_,rfl,h⟩
theorem Wp.ite{α:Type}{c:Prop}[Decidable c]{a b:Option α}{Q:α->Prop}(ha:c->Wp a Q)(hb:¬c->Wp b Q):Wp (if c then a else b) Q:=by
 split
 .exact ha ‹_›
 .exact hb ‹_›
theorem Wp.dec{α:Type}{c:Prop}[Decidable c]{a b:Option α}{Q:α->Prop}(ha:c->Wp a Q)(hb:¬c->Wp b Q):Wp (if decide c=true then a else b) Q:=by
 by_cases h:c
 .rw[if_pos (decide_eq_true h)];exact ha h
 .rw[if_neg (by simpa using h)];exact hb h
theorem Wp.jV{α:Type}{c:Prop}[Decidable c]{a b:Option α}{Q:α->Prop}(ha:¬c->Wp a Q)(hb:c->Wp b Q):Wp (if(!decide c)=true then a else b) Q:=by
 by_cases h:c
 .rw[if_neg (by simp[h])];exact hb h
 .rw[if_pos (by simp[h])];exact ha h
def o6{J R:Type}(k:J->Option R)(Q:R->Prop):J⊕R->Prop
 | .inl j=>Wp (k j) Q
 | .inr r=>Q r
theorem Wp.join{J R:Type}{m:Option (J⊕R)}{k:J->Option R}{Q:R->Prop}(h:Wp m (o6 k Q)):Wp (bM m k) Q:=by
 obtain⟨x,e,h⟩:=h;unfold bM;rw[e]
 cases x with
 |inl j=>exact h
 |inr r=>exact⟨r,rfl,h⟩
def vX{S X:Type}(I:S->Prop)(μ:S->Nat)(s:S)(Q:X->Prop):S⊕X->Prop
 | .inl s'=>I s'/\μ s'<μ s
 | .inr x=>Q x
theorem Wp.loop{S X:Type}{body:S->Option (S⊕X)}{N:Nat}{s0:S}{Q:X->Prop}(I:S->Prop)(μ:S->Nat)(h0:I s0)(hN:μ s0<N)(step:∀s,I s->Wp (body s) (vX I μ s Q)):Wp (Loop body N s0) Q:=
 yh I μ Q (fun s hs=>by
  obtain⟨x,e,h⟩:=step s hs
  cases x with
  |inl s'=>exact .inl ⟨s',e,h⟩
  |inr x=>exact .inr ⟨x,e,h⟩) N s0 h0 hN
theorem Wp.idx{α:Type}{l:List α}{i:Int}{Q:α->Prop}(k:Nat)(hi:i=k)(hk:k<l.length)(h:Q l[k]):Wp (idx l i) Q:=by
 subst hi;exact⟨_,ah hk,h⟩
theorem Wp.HV{α:Type}{l m:List α}{Q:List α->Prop}(hl:l.length+m.length<=4294967296)(h:Q (l++m)):Wp (bZ l m) Q:=⟨_,bL hl,h⟩
theorem lm{α:Type}{l:List α}{i j:Int}(a b:Nat)(hi:i=a)(hj:j=b)(h:a<=b)(hb:b<=l.length):fa l i j=ak6 ((l.take b).drop a):=by
 subst hi;subst hj;unfold fa;rw[if_pos (by omega)];simp
theorem Wp.cut{α:Type}{l:List α}{i j:Int}{Q:List α->Prop}(a b:Nat)(hi:i=a)(hj:j=b)(h:a<=b)(hb:b<=l.length)(hq:Q ((l.take b).drop a)):Wp (fa l i j) Q:=⟨_,lm a b hi hj h hb,hq⟩
theorem fW{α:Type}{l:List α}{b:Nat}(hb:b<=l.length):fa l 0 (b:Int)=ak6 (l.take b):=by
 have:=lm (l:=l) 0 b rfl rfl (ajI _) hb;simpa using this
theorem az{k:Nat}(h:k<9223372036854775807):ajj.wrap ((k:Int)+1)=((k+1:Nat):Int):=by rw[aM]<;>omega
theorem BR{k:Nat}(h:k<=9223372036854775807):ajj.wrap (k:Int)=(k:Int):=by rw[aM]<;>omega
end Go.Proofs.YtmihpkfkbfgigaaGreatDoor
namespace Go.Proofs.YtmihpkfkbfgigaaGreatDoor
open Go Go.RowKit
section
variable {α β:Type}
theorem jm{x:α}{Q:α->Prop}:Wp (some x) Q↔Q x:=⟨fun⟨y,e,h⟩=>by cases e;exact h,fun h=>⟨x,rfl,h⟩⟩
theorem rJ{Q:α->Prop}:Wp (none:Option α) Q↔False:=⟨fun⟨y,e,h⟩=>(by cases e),False.elim⟩
theorem wp_bind{m:Option α}{k:α->Option β}{Q:β->Prop}:Wp (m.bind k) Q↔Wp m fun x=>Wp (k x) Q:=by
 cases m with
 |none=>simp only[Option.bind_none,rJ]
 |some x=>simp only[aji,jm]
theorem KS{c:Prop}[Decidable c]{a b:Option α}{Q:α->Prop}:Wp (if c then a else b) Q↔(c->Wp a Q)/\(¬c->Wp b Q):=by
 split<;>simp[*]
theorem KT{c:Prop}[Decidable c]{a b:Option α}{Q:α->Prop}:Wp (if decide c=true then a else b) Q↔(c->Wp a Q)/\(¬c->Wp b Q):=by
 by_cases h:c<;>simp[*]
theorem FG{c:Prop}[Decidable c]{a b:Option α}{Q:α->Prop}:Wp (if(!decide c)=true then a else b) Q↔(¬c->Wp a Q)/\(c->Wp b Q):=by
 by_cases h:c<;>simp[*]
theorem KU{c:Bool}{a b:Option α}{Q:α->Prop}:Wp (if(!c)=true then a else b) Q↔(c=false->Wp a Q)/\(c=true->Wp b Q):=by
 cases c<;>simp
theorem wp_map{m:Option α}{f:α->β}{Q:β->Prop}:Wp (m.map f) Q↔Wp m fun x=>Q (f x):=by
 cases m with
 |none=>simp only[Option.map_none,rJ]
 |some x=>simp only[Option.map_some,jm]
theorem uJ{J R:Type}{m:Option (J⊕R)}{k:J->Option R}{Q:R->Prop}:Wp (bM m k) Q↔Wp m (o6 k Q):=by
 cases m with
 |none=>exact⟨fun⟨_,e,_⟩=>(by cases e),fun⟨_,e,_⟩=>(by cases e)⟩
 |some s=>cases s with
  |inl j=>rw[jm];exact Iff.rfl
  |inr r=>exact(jm (x:=r)).trans (jm (x:=Sum.inr r) (Q:=o6 k Q)).symm
theorem yi{J R:Type}{k:J->Option R}{Q:R->Prop}{j:J}:o6 k Q (.inl j)=Wp (k j) Q:=rfl
theorem yj{J R:Type}{k:J->Option R}{Q:R->Prop}{r:R}:o6 k Q (.inr r)=Q r:=rfl
theorem dX{l:List α}{i:Int}{Q:α->Prop}:Wp (idx l i) Q↔∃h:0<=i/\i<(l.length:Int),Q (l[i.toNat]'(by omega)):=by
 by_cases h:0<=i/\i<(l.length:Int)
 .unfold idx;rw[if_pos h.1,ajl (by omega),jm];exact⟨fun g=>⟨h,g⟩,fun g=>g.2⟩
 .refine⟨fun⟨y,e,_⟩=>?_,fun g=>absurd g.1 h⟩;obtain⟨k,rfl,hk,_⟩:=fP e;omega
theorem rK{s:ByteArray}{i:Int}{Q:Int->Prop}:Wp (kT s i) Q↔∃h:0<=i/\i<(s.size:Int),Q ((s[i.toNat]'(by omega)).toNat:Int):=by
 unfold kT;rw[wp_map];by_cases h:0<=i/\i<(s.size:Int)
 .rw[if_pos h.1,getElem?_pos s i.toNat (by omega),jm];exact⟨fun g=>⟨h,g⟩,fun g=>g.2⟩
 .refine⟨fun⟨y,e,_⟩=>?_,fun g=>absurd g.1 h⟩;split at e
  .rw[getElem?_neg s i.toNat (by omega)]at e;cases e
  .cases e
theorem nf{l m:List α}{Q:List α->Prop}:Wp (bZ l m) Q↔l.length+m.length<=4294967296/\Q (l++m):=by
 unfold bZ;split
 .rw[jm];simp[*]
 .rw[rJ];simp[*]
theorem wp_cut{l:List α}{i j:Int}{Q:List α->Prop}:Wp (fa l i j) Q↔(0<=i/\i<=j/\j<=l.length)/\Q ((l.take j.toNat).drop i.toNat):=by
 unfold fa;split
 .rw[jm];simp[*]
 .rw[rJ];simp[*]
theorem vY{m:Int}{z:α}{Q:List α->Prop}:Wp (mI m z) Q↔(0<=m/\m<=4294967296)/\Q (ajq m.toNat z):=by
 unfold mI;split
 .rw[jm];simp[*]
 .rw[rJ];simp[*]
theorem O4{m:Option α}{x:α}:Wp m (· =x)↔m=some x:=⟨fun⟨_,e,h⟩=>h▸e,fun e=>⟨x,e,rfl⟩⟩
theorem Wp.and{m:Option α}{P Q:α->Prop}(h:Wp m P)(g:Wp m Q):Wp m fun x=>P x/\Q x:=by
 obtain⟨x,e,h⟩:=h;obtain⟨y,e',g⟩:=g;rw[e]at e';cases e';exact⟨x,e,h,g⟩
theorem Wp.getD{m:Option α}{Q:α->Prop}(h:Wp m Q)(d:α):m=ak6 (m.getD d)/\Q (m.getD d):=by
 obtain⟨x,e,h⟩:=h;rw[e];exact⟨rfl,h⟩
end
def zJ{S X:Type}(qJ:S->Int)(m k:Nat)(J:Nat->S->Prop)(Q:X->Prop):S⊕X->Prop
 | .inl s=>k<m/\qJ s=((k+1:Nat):Int)/\J (k+1) s
 | .inr x=>Q x
theorem aY{S X:Type}{qJ:S->Int}{m k:Nat}{J:Nat->S->Prop}{Q:X->Prop}{s:S}:zJ qJ m k J Q (.inl s)=(k<m/\qJ s=((k+1:Nat):Int)/\J (k+1) s):=rfl
theorem aP{S X:Type}{qJ:S->Int}{m k:Nat}{J:Nat->S->Prop}{Q:X->Prop}{x:X}:zJ qJ m k J Q (.inr x)=Q x:=rfl
theorem Wp.count{S X:Type}{body:S->Option (S⊕X)}{s0:S}{Q:X->Prop}(qJ:S->Int)(m:Nat)(J:Nat->S->Prop)(hm:m<=9223372036854775807)(h0:qJ s0=0)(hJ:J 0 s0)
 (step:∀k s,k<=m->qJ s=(k:Int)->J k s->Wp (body s) (zJ qJ m k J Q)):Wp (Loop body aE s0) Q:=by
 refine Wp.loop (fun s=>∃k:Nat,qJ s=k/\k<=m/\J k s) (fun s=>m-(qJ s).toNat) ⟨0,h0,ajI _,hJ⟩ (by unfold aE;omega) fun s hs=>?_
 obtain⟨k,hi,hk,hj⟩:=hs
 refine(step k s hk hi hj).mono fun r hr=>?_
 cases r with
 |inl s'=>
  obtain⟨h1,h2,h3⟩:=hr;exact⟨⟨k+1,h2,h1,h3⟩,by show m-(qJ s').toNat<m-(qJ s).toNat;rw[h2,hi];omega⟩
 |inr x=>exact hr
theorem de{k:Nat}{m:Nat}(hm:m<=9223372036854775807)(h:k<m):ajj.wrap ((k:Int)+1)=((k+1:Nat):Int):=az (by omega)
theorem jn{k m:Nat}(h:k<m):decide ((k:Int)<(m:Int))=true:=decide_eq_true (by omega)
theorem Ed{k m:Nat}(h:k<m):((k:Int)<(m:Int))=True:=eq_true (by omega)
theorem eX{m:Nat}:((m:Int)<(m:Int))=False:=eq_false (by omega)
def cc{α:Type}(f:Nat->Option α):Nat->Option α
 |0=>none
 |m+1=>(cc f m).or (f m)
theorem bE{α:Type}{f:Nat->Option α}:∀{m:Nat},cc f m=none↔∀k,k<m->f k=none
 |0=>by simp[cc]
 |m+1=>by
  rw[cc,Option.or_eq_none_iff,bE];exact⟨fun h k hk=>by rcases akg.1 hk with h1|rfl<;>first|exact h.1 k h1|exact h.2,fun h=>⟨fun k hk=>h k (by omega),h m (by omega)⟩⟩
theorem fB{α:Type}{f:Nat->Option α}{x:α}:∀{m:Nat},cc f m=some x->∃k,k<m/\f k=some x/\∀j,j<k->f j=none
 |0,h=>by cases h
 |m+1,h=>by
  rw[cc]at h
  cases e:cc f m with
  |none=>rw[e]at h;exact⟨m,by omega,h,bE.1 e⟩
  |some y=>
   rw[e]at h;cases h;obtain⟨k,hk,h1,h2⟩:=fB e;exact⟨k,by omega,h1,h2⟩
theorem eK{α:Type}{f:Nat->Option α}{x:α}{k:Nat}(hx:f k=some x)(hn:∀j,j<k->f j=none):∀{m:Nat},k<m->cc f m=some x
 |0,h=>by omega
 |m+1,h=>by
  rw[cc]
  rcases akg.1 h with h1|rfl
  .rw[eK hx hn h1];rfl
  .rw[bE.2 hn];exact hx
theorem Wp.first{S X Y:Type}{body:S->Option (S⊕X)}{s0:S}{Q:X->Prop}(qJ:S->Int)(m:Nat)(f:Nat->Option Y)(hm:m<=9223372036854775807)(h0:qJ s0=0)
 (h1:∀k s,k<m->qJ s=(k:Int)->(∀j,j<k->f j=none)->Wp (body s) fun r=>(f k=none/\∃s',r= .inl s'/\qJ s'=((k+1:Nat):Int))\/∃x y,r= .inr x/\f k=ak6 y/\(cc f m=ak6 y->Q x))
 (he:∀s,qJ s=(m:Int)->(cc f m=none)->Wp (body s) fun r=>∃x,r= .inr x/\Q x):Wp (Loop body aE s0) Q:=by
 refine Wp.count qJ m (fun k _=>∀j,j<k->f j=none) hm h0 (fun j h=>by omega) fun k s hk hs hJ=>?_
 rcases Nat.lt_or_ge k m with ao|hge
 .refine(h1 k s ao hs hJ).mono fun r hr=>?_
  rcases hr with⟨hn,s',rfl,h2⟩|⟨x,y,rfl,h2,h3⟩
  .exact⟨ao,h2,fun j hj=>by rcases akg.1 hj with h|rfl<;>first|exact hJ j h|exact hn⟩
  .exact h3 (eK h2 hJ ao)
 .obtain rfl:k=m:=by omega
  exact(he s hs (bE.2 hJ)).mono fun r hr=>by obtain⟨x,rfl,h⟩:=hr;exact h
def O5{S X C:Type}(qJ:S->Int)(acc:S->C)(k:Nat)(c:C)(I:Nat->C->Prop):S⊕X->Prop
 | .inl s=>qJ s=((k+1:Nat):Int)/\acc s=c/\I (k+1) c
 | .inr _=>False
def O6{S X:Type}(Q:X->Prop):S⊕X->Prop
 | .inl _=>False
 | .inr x=>Q x
theorem HW{S X C:Type}{qJ:S->Int}{acc:S->C}{k:Nat}{c:C}{I:Nat->C->Prop}{s:S}:O5 (X:=X) qJ acc k c I (.inl s)=(qJ s=((k+1:Nat):Int)/\acc s=c/\I (k+1) c):=rfl
theorem HX{S X:Type}{Q:X->Prop}{x:X}:O6 (S:=S) Q (.inr x)=Q x:=rfl
theorem Wp.fold{S X C α:Type}{body:S->Option (S⊕X)}{s0:S}{Q:X->Prop}(qJ:S->Int)(acc:S->C)(l:List α)(F:C->α->C)(c0:C)(I:Nat->C->Prop)(hm:l.length<=9223372036854775807)(h0:qJ s0=0)(hc:acc s0=c0)(hI:I 0 c0)
 (step:∀k s(h:k<l.length),qJ s=(k:Int)->I k (acc s)->Wp (body s) (O5 qJ acc k (F (acc s) l[k]) I))
 (fin:∀s,qJ s=(l.length:Int)->acc s=l.foldl F c0->I l.length (acc s)->Wp (body s) (O6 Q)):Wp (Loop body aE s0) Q:=by
 refine Wp.count qJ l.length (fun k s=>acc s=(l.take k).foldl F c0/\I k (acc s)) hm h0 ⟨by rw[hc];rfl,hc▸hI⟩ fun k s hk hs hJ=>?_
 rcases Nat.lt_or_ge k l.length with ao|hge
 .refine(step k s ao hs hJ.2).mono fun r hr=>?_
  cases r with
  |inl s'=>
   obtain⟨h1,h2,h3⟩:=hr;refine⟨ao,h1,?_,h2▸h3⟩;rw[h2,hJ.1,<-List.take_append_getElem ao,List.foldl_append];rfl
  |inr x=>exact hr.elim
 .obtain rfl:k=l.length:=by omega
  rw[ajD]at hJ
  refine(fin s hs hJ.1 hJ.2).mono fun r hr=>?_
  cases r with
  |inl s'=>exact hr.elim
  |inr x=>exact hr
theorem W_:type_of% @akp/\type_of% @jm/\type_of% @wp_bind/\type_of% @KT/\type_of% @FG/\type_of% @KU/\type_of% @KS/\type_of% @uJ/\type_of% @yi/\type_of% @yj/\type_of% @if_true.{1}/\type_of% @if_false.{1}/\type_of% @ite_true.{1}/\type_of% @ite_false.{1}/\type_of% @ajp/\type_of% @Bool.true_eq_false/\type_of% @decide_true/\type_of% @decide_false/\type_of% @decide_eq_decide/\type_of% @true_eq_decide_iff/\type_of% @false_eq_decide_iff/\type_of% @decide_eq_true_eq/\type_of% @decide_eq_false_iff_not/\type_of% @true_implies/\type_of% @false_implies/\type_of% @and_true/\type_of% @true_and/\type_of% @and_false/\type_of% @false_and/\type_of% @or_true/\type_of% @true_or/\type_of% @or_false/\type_of% @false_or/\type_of% @not_true_eq_false/\type_of% @not_false_eq_true/\type_of% @akr/\type_of% @Bool.not_false/\type_of% @Bool.not_eq_true/\type_of% @Bool.not_eq_false/\type_of% @Bool.not_eq_eq_eq_not:=
 ⟨@akp,@jm,@wp_bind,@KT,@FG,@KU,@KS,@uJ,@yi,@yj,@if_true.{1},@if_false.{1},@ite_true.{1},@ite_false.{1},@ajp,@Bool.true_eq_false,@decide_true,@decide_false,@decide_eq_decide,@true_eq_decide_iff,@false_eq_decide_iff,@decide_eq_true_eq,@decide_eq_false_iff_not,@true_implies,@false_implies,@and_true,@true_and,@and_false,@false_and,@or_true,@true_or,@or_false,@false_or,@not_true_eq_false,@not_false_eq_true,@akr,@Bool.not_false,@Bool.not_eq_true,@Bool.not_eq_false,@Bool.not_eq_eq_eq_not⟩
end Go.Proofs.YtmihpkfkbfgigaaGreatDoor
end
section
open _root_.Bool renaming eq_iff_iff->akC,false_eq_true->ajp,not_true->akr
open _root_.Go.IntKind renaming i64->ajj
open _root_.List renaming drop_eq_getElem_cons->ajX,drop_of_length_le->aj1,getElem?_eq_getElem->ajl
open _root_.Nat renaming zero_le->ajI
open _root_.Option renaming bind_some->aji
namespace Go.Proofs.YtmihpkfkbfgigaaGreatDoor
open Go Go.RowKit
namespace L.P
abbrev Vl:Type:=af.den
abbrev Ty:Type:=aa.den
theorem aC{α:Type}{c:Prop}[Decidable c]{a b:α}:(if c then some a else some b)=some (if c then a else b):=by split<;>rfl
theorem o7(a b:Bool):(if a=true then true else b)=(a||b):=by cases a<;>rfl
theorem lP(a b:Bool):(if a=true then b else false)=(a&&b):=by cases a<;>rfl
def da(k e n:Int):Prop:=
 (k=1/\e=0/\0<=n/\n<=1)\/(k=2/\e=0/\-1000000000000<=n/\n<=1000000000000)\/(k=3/\e=0/\-1000000000000000<=n/\n<=1000000000000000)\/
 (k=4/\e=0/\-1000000000<=n/\n<=1000000000)\/(k=5/\e=0/\0<=n/\n<=109572)\/(k=6/\0<=e/\e<=7/\0<=n/\n<=15)
instance(k e n:Int):Decidable (da k e n):=by unfold da;infer_instance
theorem cR(N:Nat)(v:Vl):M.cv N v=some (decide (da v.1 v.2.1 v.2.2)):=by
 revert v;rintro⟨(k:Int),(e:Int),(n:Int)⟩
 unfold M.cv;simp only[aC,aji,o7,lP];refine congrArg some ?_;by_cases h1:k=1
 .subst h1;rw[akC];simp[da];try(dsimp only[ae,Row.den]at*;omega)
 by_cases h2:k=2
 .subst h2;rw[akC];simp[da];try(dsimp only[ae,Row.den]at*;omega)
 by_cases h3:k=3
 .subst h3;rw[akC];simp[da];try(dsimp only[ae,Row.den]at*;omega)
 by_cases h4:k=4
 .subst h4;rw[akC];simp[da];try(dsimp only[ae,Row.den]at*;omega)
 by_cases h5:k=5
 .subst h5;rw[akC];simp[da];try(dsimp only[ae,Row.den]at*;omega)
 by_cases h6:k=6
 .subst h6;rw[akC];simp[da];try(dsimp only[ae,Row.den]at*;omega)
 simp[da,h1,h2,h3,h4,h5,h6]
def BS(k e n a b:Int):Prop:=da k e n/\k=a/\e=b
instance(k e n a b:Int):Decidable (BS k e n a b):=by unfold BS;infer_instance
abbrev lY(v:Vl)(t:Ty):Prop:=BS v.1 v.2.1 v.2.2 t.1 t.2
theorem qK(N:Nat)(v:Vl)(t:Ty):M.kl N v t=some (decide (lY v t)):=by
 unfold M.kl;rw[cR];simp only[aC,aji,lP];refine congrArg some ?_;rw[akC];simp[BS]
def BT(op k e:Int):Prop:=e=0/\(if op=36 then k=2\/k=3 else if op=39 then 2<=k/\k<=5 else k=1)
instance(op k e:Int):Decidable (BT op k e):=by unfold BT;infer_instance
abbrev RU(op:Int)(t:Ty):Prop:=BT op t.1 t.2
theorem lv(N:Nat)(k:Int):M.fF N k=some (decide (2<=k/\k<=4)):=by
 unfold M.fF;simp only[aC,aji,o7];refine congrArg some ?_;rw[akC];simp;omega
theorem nL(N:Nat)(op:Int)(t:Ty):M.gq N op t=some (decide (RU op t)):=by
 unfold M.gq;rw[lv];simp only[aC,aji,o7,lP];refine congrArg some ?_;obtain⟨(k:Int),(e:Int)⟩:=t;rw[akC]
 show _↔decide (BT op k e)=true
 unfold BT
 by_cases h0:e=0<;>by_cases h1:op=36<;>by_cases h2:op=39<;>simp[h0,h1,h2]<;>try(dsimp only[ae,Row.den]at*;omega)
def fold(op acc n:Int)(first:Bool):Int:=
 if op=36 then acc+n else if op=37 then acc*n else if op=38 then(if acc<n then n else acc)else(if first=true\/acc<n then n else acc)
def nM(op:Int)(t:Ty)(j:Nat):List (List Vl)->Bool->Int->Int⊕Int
 |[],_,acc=> .inl acc
 |l::ms,first,acc=>match l[j]? with
  |none=> .inr 6
  |some v=>if(v.1:Int)=0 then .inr 6 else if lY v t then
    (if da t.1 0 (fold op acc v.2.2 first)then nM op t j ms false (fold op acc v.2.2 first)else .inr 3)else .inr 8
def vZ(op:Int):Int:=if op=37 then 1 else 0
def HY(op:Int)(t:Ty)(j:Nat)(ms:List (List Vl)):Vl×Int:=
 if op=39/\ms=[]then((0,0,0),6)else match nM op t j ms true (vZ op)with
  | .inl a=>((t.1,0,a),0)
  | .inr c=>((0,0,0),c)
def KV(op:Int)(t:Ty)(first:Bool)(acc:Int):Prop:=(op=39/\first=true/\acc=0)\/da t.1 0 acc
theorem NA{op:Int}{t:Ty}(fM:op=36\/op=37\/op=38\/op=39)(ht:RU op t):KV op t true (vZ op):=by
 obtain⟨(k:Int),(e:Int)⟩:=t
 obtain⟨h0,h1⟩:=(show BT op k e from ht)
 show(op=39/\true=true/\vZ op=0)\/da k 0 (vZ op)
 unfold da vZ
 rcases fM with rfl|rfl|rfl|rfl<;>simp at h1⊢<;>omega
theorem o8{N:Nat}(hN:100001<=N){op:Int}(fM:op=36\/op=37\/op=38\/op=39){j:Nat}{env:cE.den}(hj:j<env.2.2.2.2.1.length)(hm:env.2.2.2.1.length<=100)(ht:RU op env.2.2.2.2.1[j]):
 M.iM N (op,(j:Int)) env=some (HY op env.2.2.2.2.1[j] j env.2.2.2.1):=by
 obtain⟨d,ip,df,ms,ts,tb⟩:=env;simp only at hj hm ht⊢;apply Wp.eq;unfold M.iM;simp only;rw[ah hj];simp only[aji];generalize ts[j]=t at ht⊢;have Me:(t.2:Int)=0:=(show BT op t.1 t.2 from ht).1
 have e1:(if decide (op=37)=true then some (t.1,t.2,(1:Int))else some (t.1,t.2,(0:Int)):Option Vl)=some (t.1,t.2,vZ op):=by
  unfold vZ;by_cases h:op=37<;>simp[h]
 rw[e1];simp only[aji,aC,lP];unfold HY
 refine Wp.ite (fun h=>?_) fun h=>?_
 .have:op=39/\ms=[]:=by simpa using h
  rw[if_pos this];exact .some rfl
 .have h39:¬(op=39/\ms=[]):=by simpa using h
  rw[if_neg h39]
  refine Wp.join (Wp.loop (fun s:Int×Vl=>∃k:Nat,∃acc:Int,s=((k:Int),(t.1,t.2,acc))/\k<=ms.length/\KV op t (decide (k=0)) acc/\nM op t j (ms.drop k) (decide (k=0)) acc=nM op t j ms true (vZ op)) (fun s=>(ms.length-s.1).toNat)
   ⟨0,vZ op,rfl,ajI _,NA fM ht,rfl⟩ (by simp only;omega) ?_)
  rintro _ ⟨k,acc,rfl,hk,NB,hf⟩
  simp only
  refine Wp.dec (fun h=>?_) fun h=> .some (.some ?_)
  case refine_2=>
   have hd:ms.drop k=[]:=aj1 (by omega);rw[hd]at hf;rw[<-hf];simp only[nM];rw[Me]
  have dO:k<ms.length:=by omega
  have hd:ms.drop k=ms[k]::ms.drop (k+1):=ajX dO;rw[hd]at hf;rw[ah dO];simp only[aji];rw[nM]at hf;by_cases hl:j<ms[k].length
  .rw[ajl hl]at hf;simp only at hf;rw[ah hl];simp only[aji,aC,o7,qK,cR];generalize ms[k][j]=v at hf⊢;by_cases hv:(v.1:Int)=0
   .rw[if_pos hv]at hf;rw[if_pos (by simp[hv])];refine .some ?_
    show _=_
    rw[<-hf]
   .rw[if_neg hv]at hf;rw[if_neg (by simp[hv];omega)];by_cases hh:lY v t
    .rw[if_pos hh]at hf;rw[if_neg (by simp[hh])]
     obtain⟨hp,Fp,xv⟩:=(show BS _ _ _ _ _ from hh)
     refine Wp.join ?_
     have key:∀a,fold op acc v.2.2 (decide (k=0))=a->da t.1 0 a->vX (fun s:Int×Vl=>∃k:Nat,∃acc:Int,s=((k:Int),(t.1,t.2,acc))/\k<=ms.length/\KV op t (decide (k=0)) acc/\nM op t j (ms.drop k) (decide (k=0)) acc=nM op t j ms true (vZ op)) (fun s=>(ms.length-s.1).toNat) ((k:Int),(t.1,t.2,acc)) (o6 (fun j4=>some (j4,(0:Int))) fun x=>x=match nM op t j ms true (vZ op)with
      | .inl a=>((t.1,0,a),0)
      | .inr c=>((0,0,0),c)) (.inl (ajj.wrap ((k:Int)+1),(t.1,t.2,a))):=by
      intro a ha hpa;subst ha;rw[if_pos hpa]at hf;rw[az (by omega)];refine⟨⟨k+1,_,rfl,dO, .inr hpa,?_⟩,by simp only;omega⟩;rw[show decide (k+1=0)=false by simp];exact hf
     rcases fM with rfl|rfl|rfl|rfl
     all_goals simp only[decide_true,decide_false,if_true,if_false,Int.reduceEq,ajp,akr,Bool.not_false]
     .have UO:da t.1 0 acc:=by
       rcases NB with h|h
       .exact absurd h.1 (by decide)
       .exact h
      have Ml:fold 36 acc v.2.2 (decide (k=0))=acc+v.2.2:=by simp[fold]
      have hw:ajj.wrap (acc+v.2.2)=acc+v.2.2:=by
       revert UO hp;generalize(v.2.2:Int)=n;generalize(v.1:Int)=vk;generalize(v.2.1:Int)=ve;generalize(t.1:Int)=tk;intro h1 h2;unfold da at h1 h2;dsimp only[ae,Row.den]at*;exact aM (by omega) (by omega)
      rw[hw];rw[Ml]at hf;by_cases qy:da t.1 0 (acc+v.2.2)
      .rw[if_neg (by rw[Me];simp[qy])];exact .some (.some (key _ Ml qy))
      .rw[if_pos (by rw[Me];simp[qy])];rw[if_neg qy]at hf;refine .some ?_
       show _=_
       rw[<-hf]
     .have hb:(0<=(v.2.2:Int)/\(v.2.2:Int)<=1)/\0<=acc/\acc<=1/\(t.1:Int)=1:=by
       have h1:=(show BT 37 t.1 t.2 from ht).2
       have h2:da t.1 0 acc:=by
        rcases NB with h|h
        .exact absurd h.1 (by decide)
        .exact h
       rw[Fp]at hp;revert h1 h2 hp;generalize(v.2.2:Int)=n;generalize(v.2.1:Int)=ve;generalize(t.1:Int)=tk;intro h3 h1 h2;unfold da at h2 h3;simp at h1;dsimp only[ae,Row.den]at*;omega
      obtain⟨⟨b1,b2⟩,b3,b4,b5⟩:=hb
      have Ml:fold 37 acc v.2.2 (decide (k=0))=(if v.2.2<acc then v.2.2 else acc:Int):=by
       have b2':(v.2.2:Int)=0\/(v.2.2:Int)=1:=by revert b1 b2;generalize(v.2.2:Int)=n;intro b1 b2;dsimp only[ae,Row.den]at*;omega
       have b4':acc=0\/acc=1:=by omega
       rcases b2' with e1|e1<;>rcases b4' with e2|e2<;>simp[fold,e1,e2]
      refine .some (.some (key _ Ml ?_));refine .inl ⟨b5,rfl,?_⟩;revert b1 b2;generalize(v.2.2:Int)=n;intro b1 b2;dsimp only[ae,Row.den]at*
      split<;>omega
     .have Ml:fold 38 acc v.2.2 (decide (k=0))=(if acc<v.2.2 then v.2.2 else acc:Int):=by simp[fold]
      have h2:da t.1 0 acc:=by
       rcases NB with h|h
       .exact absurd h.1 (by decide)
       .exact h
      refine .some (.some (key _ Ml ?_));rw[Fp,xv,Me]at hp;split
      .exact hp
      .exact h2
     .have h3:da t.1 0 v.2.2:=by rw[Fp,xv,Me]at hp;exact hp
      by_cases hc:((k:Int)=0)\/acc<v.2.2
      .have Ml:fold 39 acc v.2.2 (decide (k=0))=v.2.2:=by
        have:k=0\/acc<v.2.2:=hc.imp (fun h=>by omega) id;simp[fold,this]
       rw[if_pos (by simpa using hc)]
       have hv3:v=(t.1,t.2,v.2.2):=by rw[<-Fp,<-xv]
       rw[hv3];exact .some (.some (key _ Ml h3))
      .have Ml:fold 39 acc v.2.2 (decide (k=0))=acc:=by
        have:¬(k=0\/acc<v.2.2):=fun h=>hc (h.imp (fun h=>by omega) id)
        simp[fold,this]
       rw[if_neg (by simpa using hc)];refine .some (.some (key _ Ml ?_))
       rcases NB with h|h
       .exact absurd h.2.1 (by simp;omega)
       .exact h
    .rw[if_neg hh]at hf;rw[if_pos (by simp[hh])];refine .some ?_
     show _=_
     rw[<-hf]
  .rw[List.getElem?_eq_none (by omega)]at hf;rw[if_pos (by simp;omega)];refine .some ?_
   show _=_
   rw[<-hf]
end L.P
end Go.Proofs.YtmihpkfkbfgigaaGreatDoor
end
section
open _root_.Bool renaming and_eq_true->akD,false_eq_true->ajp
open _root_.Int renaming fdiv_eq_ediv_of_nonneg->ak7,tdiv->ajE,toNat_of_nonneg->akw
open _root_.Go.IntKind renaming i64->ajj,u64->ajt
open _root_.Nat renaming beq->aju,div_div_eq_div_mul->ak2,mul_le_mul_right->ajS,pow_add->ak8
open _root_.Option renaming bind_some->aji
namespace Go.Proofs.YtmihpkfkbfgigaaGreatDoor
open Go Go.RowKit
set_option maxRecDepth 100000
namespace L.P
theorem wa{n:Int}(h0:0<=n)(h1:n<18446744073709551616):ajt.wrap n=n:=by
 simp[IntKind.wrap,IntKind.bits,IntKind.signed];omega
theorem zK(n:Int):ajt.wrap n=n%18446744073709551616:=by
 simp[IntKind.wrap,IntKind.bits,IntKind.signed]
theorem ln(n:Int):0<=ajt.wrap n/\ajt.wrap n<18446744073709551616:=by rw[zK];omega
theorem O7(a:Int):gm .u64 a 32=a/4294967296:=by
 unfold gm;rw[show min (32:Int).toNat ajt.bits=32 from rfl];exact ak7 _ (by decide)
theorem UP(a:Int):gm .u64 a 16=a/65536:=by
 unfold gm;rw[show min (16:Int).toNat ajt.bits=16 from rfl];exact ak7 _ (by decide)
theorem aa9(a:Int):gm .u64 a 8=a/256:=by
 unfold gm;rw[show min (8:Int).toNat ajt.bits=8 from rfl];exact ak7 _ (by decide)
def zL:ByteArray:=(⟨#[0,1,2,2,3,3,3,3,4,4,4,4,4,4,4,4,5,5,5,5,5,5,5,5,5,5,5,5,5,5,5,5,6,6,6,6,6,6,6,6,6,6,6,6,6,6,6,6,6,6,6,6,6,6,6,6,6,6,6,6,6,6,6,6,7,7,7,7,7,7,7,7,7,7,7,7,7,7,7,7,7,7,7,7,7,7,7,7,7,7,7,7,7,7,7,7,7,7,7,7,7,7,7,7,7,7,7,7,7,7,7,7,7,7,7,7,7,7,7,7,7,7,7,7,7,7,7,7,8,8,8,8,8,8,8,8,8,8,8,8,8,8,8,8,8,8,8,8,8,8,8,8,8,8,8,8,8,8,8,8,8,8,8,8,8,8,8,8,8,8,8,8,8,8,8,8,8,8,8,8,8,8,8,8,8,8,8,8,8,8,8,8,8,8,8,8,8,8,8,8,8,8,8,8,8,8,8,8,8,8,8,8,8,8,8,8,8,8,8,8,8,8,8,8,8,8,8,8,8,8,8,8,8,8,8,8,8,8,8,8,8,8,8,8,8,8,8,8,8,8,8,8,8,8,8,8]⟩:ByteArray)
def O8(n:Nat):Bool:=match kT zL n with
 |some k=>decide (0<=k)&&decide (k<=8)&&decide (n<2 ^ k.toNat)&&(aju n 0||(decide (1<=k)&&decide (2 ^ (k.toNat-1)<=n)))
 |none=>false
theorem NC:(List.range 256).all O8=true:=by kernel_rfl
theorem zG{n:Nat}(h:n<256):∃k:Nat,kT zL n=some (k:Int)/\k<=8/\n<2 ^ k/\(n≠0->1<=k/\2 ^ (k-1)<=n):=by
 have:=List.all_eq_true.1 NC n (List.mem_range.2 h);unfold O8 at this;split at this
 case h_2=>cases this
 rename_i k hk;simp only[akD,Bool.or_eq_true,decide_eq_true_eq,Nat.beq_eq]at this;obtain⟨⟨⟨h1,h2⟩,h3⟩,h4⟩:=this;refine⟨k.toNat,by rw[hk,akw h1],by omega,h3,fun hn=>?_⟩
 rcases h4 with h4|h4
 .exact absurd h4 hn
 .exact⟨by omega,h4.2⟩
theorem QR{m b k:Nat}(h:m/2 ^ b<2 ^ k):m<2 ^ (b+k):=by
 rw[Nat.div_lt_iff_lt_mul (Nat.two_pow_pos b)]at h;rw[ak8,Nat.mul_comm];exact h
theorem QS{m b k:Nat}(hk:1<=k)(h:2 ^ (k-1)<=m/2 ^ b):2 ^ (b+k-1)<=m:=by
 rw[Nat.le_div_iff_mul_le (Nat.two_pow_pos b)]at h;rw[show b+k-1=k-1+b by omega,ak8];exact h
theorem KW{N m:Nat}(hm:m<18446744073709551616):∃L:Nat,M.jl N m=some (L:Int)/\L<=64/\m<2 ^ L/\(m≠0->1<=L/\2 ^ (L-1)<=m):=by
 have fin:∀(b q:Nat)(w:Int),q=m/2 ^ b->w=b->b<=56->q<256->(m≠0->q≠0)->∃L:Nat,((kT zL (IntKind.u8.wrap (q:Int))).bind fun x4=>some (ajj.wrap (w+ajj.wrap x4)))=some (L:Int)/\L<=64/\m<2 ^ L/\(m≠0->1<=L/\2 ^ (L-1)<=m):=by
  intro b q w hq hw hb h1 h2;subst hq;subst hw;obtain⟨k,g1,g2,g3,g4⟩:=zG h1
  have hu:IntKind.u8.wrap ((m/2 ^ b:Nat):Int)=((m/2 ^ b:Nat):Int):=by
   simp only[IntKind.wrap,IntKind.bits,IntKind.signed];generalize m/2 ^ b=q at h1⊢;simp;omega
  refine⟨b+k,?_,by omega,QR g3,fun bP=>?_⟩
  .rw[hu,g1,aji,BR (by omega),<-Int.natCast_add,BR (by omega)]
  .obtain⟨g5,g6⟩:=g4 (h2 bP);exact⟨by omega,QS g5 g6⟩
 have e32:((m:Int)/4294967296)=((m/2 ^ 32:Nat):Int):=by rw[show(2 ^ 32:Nat)=4294967296 from rfl];omega
 have d48:m/2 ^ 32/2 ^ 16=m/2 ^ 48:=by rw[ak2,<-ak8]
 have d40:m/2 ^ 32/2 ^ 8=m/2 ^ 40:=by rw[ak2,<-ak8]
 have d56:m/2 ^ 48/2 ^ 8=m/2 ^ 56:=by rw[ak2,<-ak8]
 have d24:m/2 ^ 16/2 ^ 8=m/2 ^ 24:=by rw[ak2,<-ak8]
 have c16:∀q:Nat,((q:Int)/65536)=((q/2 ^ 16:Nat):Int):=fun q=>by rw[show(2 ^ 16:Nat)=65536 from rfl];omega
 have c8:∀q:Nat,((q:Int)/256)=((q/2 ^ 8:Nat):Int):=fun q=>by rw[show(2 ^ 8:Nat)=256 from rfl];omega
 unfold M.jl;rw[show(⟨#[0,1,2,2,3,3,3,3,4,4,4,4,4,4,4,4,5,5,5,5,5,5,5,5,5,5,5,5,5,5,5,5,6,6,6,6,6,6,6,6,6,6,6,6,6,6,6,6,6,6,6,6,6,6,6,6,6,6,6,6,6,6,6,6,7,7,7,7,7,7,7,7,7,7,7,7,7,7,7,7,7,7,7,7,7,7,7,7,7,7,7,7,7,7,7,7,7,7,7,7,7,7,7,7,7,7,7,7,7,7,7,7,7,7,7,7,7,7,7,7,7,7,7,7,7,7,7,7,8,8,8,8,8,8,8,8,8,8,8,8,8,8,8,8,8,8,8,8,8,8,8,8,8,8,8,8,8,8,8,8,8,8,8,8,8,8,8,8,8,8,8,8,8,8,8,8,8,8,8,8,8,8,8,8,8,8,8,8,8,8,8,8,8,8,8,8,8,8,8,8,8,8,8,8,8,8,8,8,8,8,8,8,8,8,8,8,8,8,8,8,8,8,8,8,8,8,8,8,8,8,8,8,8,8,8,8,8,8,8,8,8,8,8,8,8,8,8,8,8,8,8,8,8,8,8,8]⟩:ByteArray)=zL from rfl];simp only[O7,UP,aa9,e32,c16,c8];by_cases h1:4294967296<=m
 .have a1:decide ((4294967296:Int)<=(m:Int))=true:=by simp;omega
  simp only[a1,if_true,aji,c16,d48];by_cases h2:65536<=m/2 ^ 32
  .have a2:decide ((65536:Int)<=((m/2 ^ 32:Nat):Int))=true:=by simp;omega
   simp only[a2,if_true,aji,c8,d56];by_cases h3:256<=m/2 ^ 48
   .have a3:decide ((256:Int)<=((m/2 ^ 48:Nat):Int))=true:=by simp;omega
    simp only[a3,if_true,aji];exact fin 56 _ _ rfl (by kernel_rfl) (by omega) (by omega) (by omega)
   .have a3:decide ((256:Int)<=((m/2 ^ 48:Nat):Int))=false:=by simp;omega
    simp only[a3,ajp,if_false,aji];exact fin 48 _ _ rfl (by kernel_rfl) (by omega) (by omega) (by omega)
  .have a2:decide ((65536:Int)<=((m/2 ^ 32:Nat):Int))=false:=by simp;omega
   simp only[a2,ajp,if_false,aji,c8,d40];by_cases h3:256<=m/2 ^ 32
   .have a3:decide ((256:Int)<=((m/2 ^ 32:Nat):Int))=true:=by simp;omega
    simp only[a3,if_true,aji];exact fin 40 _ _ rfl (by kernel_rfl) (by omega) (by omega) (by omega)
   .have a3:decide ((256:Int)<=((m/2 ^ 32:Nat):Int))=false:=by simp;omega
    simp only[a3,ajp,if_false,aji];exact fin 32 _ _ rfl (by kernel_rfl) (by omega) (by omega) (by omega)
 .have a1:decide ((4294967296:Int)<=(m:Int))=false:=by simp;omega
  simp only[a1,ajp,if_false,aji,c16];by_cases h2:65536<=m
  .have a2:decide ((65536:Int)<=(m:Int))=true:=by simp;omega
   simp only[a2,if_true,aji,c8,d24];by_cases h3:256<=m/2 ^ 16
   .have a3:decide ((256:Int)<=((m/2 ^ 16:Nat):Int))=true:=by simp;omega
    simp only[a3,if_true,aji];exact fin 24 _ _ rfl (by kernel_rfl) (by omega) (by omega) (by omega)
   .have a3:decide ((256:Int)<=((m/2 ^ 16:Nat):Int))=false:=by simp;omega
    simp only[a3,ajp,if_false,aji];exact fin 16 _ _ rfl (by kernel_rfl) (by omega) (by omega) (by omega)
  .have a2:decide ((65536:Int)<=(m:Int))=false:=by simp;omega
   simp only[a2,ajp,if_false,aji,c8];by_cases h3:256<=m
   .have a3:decide ((256:Int)<=(m:Int))=true:=by simp;omega
    simp only[a3,if_true,aji];exact fin 8 _ _ rfl (by kernel_rfl) (by omega) (by omega) (by omega)
   .have a3:decide ((256:Int)<=(m:Int))=false:=by simp;omega
    simp only[a3,ajp,if_false,aji];exact fin 0 m _ (by simp) (by kernel_rfl) (by omega) (by omega) (fun h=>h)
theorem UQ(rh:Int)(h:0<=rh):(if rh<4294967296 then(4294967296-rh).toNat else 4294967297)<aE:=by
 unfold aE
 split<;>omega
theorem HZ{hi lo y:Int}(h0:0<=hi)(h1:hi<y)(h2:y<18446744073709551616):∃r,M.dE aE hi lo y=some r:=by
 have key:Wp (M.dE aE hi lo y) fun _=>True:=by
  unfold M.dE;rw[if_neg (by simp;omega),if_neg (by simp;omega)]
  refine Wp.dec (fun _=>?_) fun bP=>?_
  .unfold yK GR;rw[if_neg (by omega),if_neg (by omega)];exact .some trivial
  .obtain⟨m,rfl⟩:∃m:Nat,y=m:=⟨y.toNat,by omega⟩
   obtain⟨L,g1,g2,g3,g4⟩:=KW (N:=aE) (m:=m) (by omega);obtain⟨g4,g5⟩:=g4 (by omega);unfold M.fG;rw[g1]
   have hL:ajt.wrap (ajj.wrap ((64:Int)-(L:Int)))=((64-L:Nat):Int):=by
    rw[aM (by omega) (by omega),wa (by omega) (by omega)];omega
   have hL2:ajt.wrap ((64:Int)-((64-L:Nat):Int))=(L:Int):=by rw[wa (by omega) (by omega)];omega
   simp only[aji,hL,hL2]
   have fZ:∀a:Int,GP .u64 a ((64-L:Nat):Int)=some (yJ .u64 a ((64-L:Nat):Int)):=fun a=>if_neg (by omega)
   have QT:∀a:Int,GQ .u64 a (L:Int)=some (gm .u64 a (L:Int)):=fun a=>if_neg (by omega)
   have abb:∀a:Int,GQ .u64 a ((64-L:Nat):Int)=some (gm .u64 a ((64-L:Nat):Int)):=fun a=>if_neg (by omega)
   simp only[fZ,QT,abb,aji,O7]
   have hy:9223372036854775808<=yJ .u64 (m:Int) ((64-L:Nat):Int)/\yJ .u64 (m:Int) ((64-L:Nat):Int)<18446744073709551616:=by
    unfold yJ;rw[show min (((64-L:Nat):Int).toNat) ajt.bits=64-L by simp[IntKind.bits]]
    have e1:m*2 ^ (64-L)<2 ^ 64:=by
     calc m*2 ^ (64-L)<2 ^ L*2 ^ (64-L):=Nat.mul_lt_mul_of_pos_right g3 (Nat.two_pow_pos _)
      _=2 ^ 64:=by rw[<-ak8];congr 1;omega
    have e2:2 ^ 63<=m*2 ^ (64-L):=by
     calc 2 ^ 63=2 ^ (L-1)*2 ^ (64-L):=by rw[<-ak8];congr 1;omega
      _<=m*2 ^ (64-L):=ajS _ g5
    have e3:((m:Int)*2 ^ (64-L))=((m*2 ^ (64-L):Nat):Int):=by simp
    rw[e3,wa (by omega) (by omega)];omega
   generalize yJ .u64 (m:Int) ((64-L:Nat):Int)=x4 at hy⊢
   have hyn:0<x4/4294967296/\x4/4294967296<4294967296:=by omega
   generalize x4/4294967296=yn at hyn⊢
   have quo:∀a:Int,yK a yn=some (ajE a yn):=fun a=>if_neg (by omega)
   simp only[quo,aji]
   have inv:∀rh:Int,0<=rh->rh<18446744073709551616->¬4294967296<=ajt.wrap (rh+yn)->(if ajt.wrap (rh+yn)<4294967296 then(4294967296-ajt.wrap (rh+yn)).toNat else 4294967297)<(if rh<4294967296 then(4294967296-rh).toNat else 4294967297):=by
    intro rh i1 i2 hc;rw[if_pos (by omega)];by_cases hr:rh<4294967296
    .rw[if_pos hr];have:ajt.wrap (rh+yn)=rh+yn:=wa (by omega) (by omega);rw[this]at hc⊢;omega
    .rw[if_neg hr];have:=ln (rh+yn);omega
   simp only[aC,o7,aji]
   refine Wp.seq (fun _=>True) (Wp.seq (fun _=>True) (Wp.loop (fun s:Int×Int=>0<=s.2/\s.2<18446744073709551616) (fun s=>if s.2<4294967296 then(4294967296-s.2).toNat else 4294967297) (ln _) (UQ _ (ln _).1) ?_) fun _ _=> .some trivial) fun j9 _=>?_
   .rintro⟨q,rh⟩ ⟨i1,i2⟩
    refine .some ?_;split
    .split
     .trivial
     .rename_i hc;exact⟨ln _,inv rh i1 i2 (by simpa using hc)⟩
    .trivial
   refine Wp.seq (fun _=>True) (Wp.seq (fun _=>True) (Wp.loop (fun s:Int×Int=>0<=s.1/\s.1<18446744073709551616) (fun s=>if s.1<4294967296 then(4294967296-s.1).toNat else 4294967297) (ln _) (UQ _ (ln _).1) ?_) fun _ _=> .some trivial) fun FE _=> .some trivial
   .rintro⟨rh,q⟩ ⟨i1,i2⟩
    refine .some ?_;split
    .split
     .trivial
     .rename_i hc;exact⟨ln _,inv rh i1 i2 (by simpa using hc)⟩
    .trivial
 obtain⟨x,hx,_⟩:=key;exact⟨x,hx⟩
theorem lZ(N:Nat)(m:Int):M.fi N m=some (decide (0<=m)&&decide (m<=5)):=by
 unfold M.fi;simp only[aC,aji,lP]
theorem pR(N:Nat)(n l:Int):M.dP N n l=some (decide (l<n)||decide (n<ajj.wrap (0-l))):=by
 unfold M.dP;simp only[aC,aji,o7]
theorem kD(N:Nat){n:Int}(h: -4611686018427387904<=n/\n<=4611686018427387904):M.dF N n=some (if n<0 then-n else n):=by
 unfold M.dF;simp only[aC];refine congrArg some ?_;by_cases hn:n<0
 .rw[if_pos (by simpa using hn),if_pos hn,zK n,zK];omega
 .rw[if_neg (by simpa using hn),if_neg hn,wa (by omega) (by omega)]
end L.P
end Go.Proofs.YtmihpkfkbfgigaaGreatDoor
end
section
open _root_.Int renaming tdiv->ajE,tdiv_eq_ediv_of_nonneg->aki,tmod->ajY
open _root_.Go.IntKind renaming i64->ajj
open _root_.Nat renaming zero_le->ajI
open _root_.Option renaming bind_some->aji
namespace Go.Proofs.YtmihpkfkbfgigaaGreatDoor
open Go Go.RowKit
set_option maxRecDepth 100000
namespace L.P
def Cd(c:Int):Prop:=c=0\/c=3\/c=12
theorem zM{c:Prop}[Decidable c]{x y:Int×Int}(hx:Cd x.2)(hy:Cd y.2):Cd (if c then x else y).2:=by
 split
 .exact hx
 .exact hy
theorem yk(x:Int):Cd (x,(0:Int)).2:= .inl rfl
theorem Cd3(x:Int):Cd (x,(3:Int)).2:= .inr (.inl rfl)
theorem kE{n l:Int}(hl:0<=l/\l<=9000000000000000000)(h:¬(decide (l<n)||decide (n<ajj.wrap (0-l)))=true): -l<=n/\n<=l:=by
 rw[aM (by omega) (by omega)]at h;simp at h;omega
theorem Pa(N:Nat)(a b c:Int)(d:Bool)(e:Int):Wp (M.dW N a b c d e) fun _=>True:=by
 unfold M.dW;simp only[aC,aji];exact .some trivial
theorem yl(N:Nat)(a:Int)(b:Bool):Wp (M.ko N a b) fun _=>True:=by
 unfold M.ko;simp only[aC];exact .some trivial
theorem lz(N:Nat){a b m:Int}(hm:0<=m/\m<=5):Wp (M.eV N a b m) fun r=>Cd r.2:=by
 unfold M.eV;rw[lZ];simp only[aji,pR];rw[if_neg (by simp;omega)]
 refine Wp.dec (fun _=> .some (by simp[Cd])) fun hb=>?_
 simp only[aC,aji,o7]
 refine Wp.ite (fun _=> .some (by simp[Cd])) fun hc=>?_
 rw[Bool.or_eq_true,not_or]at hc;have ha:=kE (by omega) hc.1;have p5:=kE (by omega) hc.2;rw[kD N ha,kD N p5];simp only[aji]
 have bP:(if b<0 then-b else b)≠0:=by split<;>omega
 rw[show∀x,yK x (if b<0 then-b else b)=some (ajE x (if b<0 then-b else b))from fun x=>if_neg bP,show∀x,GR x (if b<0 then-b else b)=some (ajY x (if b<0 then-b else b))from fun x=>if_neg bP];simp only[aji]
 exact Wp.seq _ (Pa ..) fun x _=>Wp.seq _ (yl ..) fun y _=> .some (by simp[Cd])
theorem rL(N:Nat)(a b:Int):Wp (M.ei N a b) fun r=>(0<=r.1/\r.1<18446744073709551616)/\0<=r.2/\r.2<18446744073709551616:=by
 unfold M.ei;exact .some ⟨ln _,ln _⟩
theorem wb{hi lo y:Int}(h0:0<=hi)(h1:hi<y)(h2:y<18446744073709551616):Wp (M.dE aE hi lo y) fun _=>True:=by
 obtain⟨r,hr⟩:=HZ (lo:=lo) h0 h1 h2;exact⟨r,hr,trivial⟩
theorem Ia{a b c m:Int}(hm:0<=m/\m<=5):Wp (M.lV aE a b c m) fun r=>Cd r.2:=by
 unfold M.lV;rw[lZ];simp only[aji,pR];rw[if_neg (by simp;omega)]
 refine Wp.dec (fun _=> .some (by simp[Cd])) fun hb=>?_
 simp only[aC,aji,o7]
 refine Wp.ite (fun _=> .some (by simp[Cd])) fun hc=>?_
 simp only[Bool.or_eq_true,not_or]at hc;have ha:=kE (n:=a) (l:=1000000000000000) (by omega) (by simpa using hc.1);have p5:=kE (n:=b) (l:=1000000000) (by omega) (by simpa using hc.2.1);have VF:=kE (n:=c) (l:=1000000000) (by omega) (by simpa using hc.2.2);rw[kD _ (n:=a) (by omega),kD _ (n:=b) (by omega)];simp only[aji]
 refine Wp.seq _ (rL ..) fun r hr=>?_
 rw[kD _ (n:=c) (by omega)];simp only[aji]
 refine Wp.dec (fun _=> .some (by simp[Cd])) fun hd=>?_
 have ao:(if c<0 then-c else c)<18446744073709551616:=by split<;>omega
 refine Wp.seq _ (wb hr.1.1 (by omega) ao) fun q _=>?_
 refine Wp.dec (fun _=> .some (by simp[Cd])) fun _=>?_
 refine Wp.seq _ (Pa ..) fun x _=>?_
 refine Wp.dec (fun _=> .some (by simp[Cd])) fun _=>?_
 exact Wp.seq _ (yl ..) fun y _=> .some (by simp[Cd])
theorem wc{a b m:Int}(hm:0<=m/\m<=5):Wp (M.lk aE a b m) fun r=>Cd r.2:=by
 unfold M.lk;rw[lZ];simp only[aji,pR];rw[if_neg (by simp;omega)]
 refine Wp.dec (fun _=> .some (by simp[Cd])) fun hb=>?_
 simp only[aC,aji,o7]
 refine Wp.ite (fun _=> .some (by simp[Cd])) fun hc=>?_
 refine Wp.seq _ (lz _ hm) fun r hr=>?_
 refine .some ?_;split
 .exact hr
 .split<;>simp[Cd]
theorem ym(N:Nat)(m:Int):M.kr N m=some (decide (0<=m)&&decide (m<=5)):=lZ N m
theorem we(N:Nat)(n l:Int):M.iz N n l=some (decide (l<n)||decide (n<ajj.wrap (0-l))):=pR N n l
theorem FH{a b m:Int}(hm:0<=m/\m<=5):Wp (M.rI aE a b m) fun r=>Cd r.2:=by
 unfold M.rI;rw[ym];simp only[aji,we];rw[if_neg (by simp;omega)];simp only[aC,aji,o7]
 refine Wp.ite (fun _=> .some (by simp[Cd])) fun hc=>?_
 refine Wp.seq _ (lz _ hm) fun r hr=>?_
 refine .some ?_;split
 .exact hr
 .split<;>simp[Cd]
theorem yo{a b m:Int}(hm:0<=m/\m<=5):Wp (M.n7 aE a b m) fun r=>Cd r.2:=by
 unfold M.n7
 exact Wp.seq _ (Ia hm) fun r hr=> .some hr
theorem BU(N:Nat)(a b c:Int)(d:Bool)(e:Int):Wp (M.ll N a b c d e) fun _=>True:=by
 unfold M.ll;simp only[aC,aji];exact .some trivial
theorem rM{a b m:Int}(hm:0<=m/\m<=5):Wp (M.ku aE a b m) fun r=>Cd r.2:=by
 unfold M.ku;rw[ym];simp only[aji,we];rw[if_neg (by simp;omega)]
 refine Wp.dec (fun _=> .some (by simp[Cd])) fun hb=>?_
 simp only[aC,aji,o7]
 refine Wp.ite (fun _=> .some (by simp[Cd])) fun hc=>?_
 refine Wp.seq _ (rL ..) fun r hr=>?_
 refine Wp.dec (fun _=> .some (by simp[Cd])) fun hd=>?_
 refine Wp.seq _ (wb hr.1.1 (by omega) (ln _).2) fun q _=>?_
 refine Wp.dec (fun _=> .some (by simp[Cd])) fun _=>?_
 refine Wp.seq _ (Wp.bind (Wp.mono (BU ..) fun x _=>?_)) fun j7(_:True)=>?_
 .exact .some trivial
 .exact .some (by split<;>simp[Cd])
theorem tP(N:Nat)(r:aa.den)(d:Int):Wp (M.bG N r d) fun _=>True:=by
 unfold M.bG M.ef;simp only[aC,aji];exact .some trivial
theorem uj(a b:Int):Wp (M.gr aE a b) fun _=>True:=by
 unfold M.gr;simp only[aC,aji]
 refine Wp.seq _ (rL ..) fun r hr=>?_
 refine Wp.dec (fun _=> .some trivial) fun hd=>?_
 refine Wp.seq _ (wb hr.1.1 (by omega) (by omega)) fun q _=>?_
 exact .some trivial
theorem BV(N:Nat){a b m:Int}(hm:0<=m/\m<=5):Wp (M.ix N a b m) fun r=>Cd r.2:=by
 unfold M.ix;simp only[aC,aji]
 refine Wp.ite (fun _=> .some (by simp[Cd])) fun hc=>?_
 refine Wp.seq _ (lz _ hm) fun r hr=>?_
 exact .some (zM hr (zM (Cd3 _) (yk _)))
theorem tQ{t:ay.den}{d k m:Int}(hm:0<=m/\m<=5)(hk:t.2.1=((3,0):Int×Int))(hv:t.2.2.1=((4,0):Int×Int))(hl:t.2.2.2.length<=9223372036854775807):Wp (M.iy aE t d k m) fun r=>Cd r.2:=by
 unfold M.iy;simp only[aC,aji,o7];rw[if_neg (by simp;omega),if_neg (by rw[hk,hv];simp[oD])]
 refine Wp.ite (fun _=> .some (by simp[Cd])) fun hc=>?_
 refine Wp.join (Wp.loop (fun s:Int×Int×Int=>∃i:Nat,s.2.2=i/\i<=t.2.2.2.length) (fun s=>(t.2.2.2.length-s.2.2).toNat) ⟨0,rfl,ajI _⟩ (by simp only;unfold aE;omega) ?_)
 rintro⟨s1,s2,s3⟩ ⟨i,hi,Am⟩
 simp only at hi;subst hi
 refine Wp.dec (fun h=>?_) fun h=> .some ?_
 .have gj:i<t.2.2.2.length:=by simp only at h;omega
  refine Wp.join ?_;simp only;rw[ah gj];simp only[aji]
  refine Wp.seq (fun _=>True) ?_ fun j8 _=>?_
  .refine Wp.seq _ (tP ..) fun y _=>?_
   exact .some trivial
  have nxt:∀a b:Int,o6 (fun j6:Int×Int=>some (Sum.inl (j6.1,j6.2,ajj.wrap ((i:Int)+1)))) (vX (fun s:Int×Int×Int=>∃i:Nat,s.2.2=i/\i<=t.2.2.2.length) (fun s=>(t.2.2.2.length-s.2.2).toNat) (s1,s2,(i:Int)) (o6 (fun j4:Int×Int=>(M.ix aE j4.1 j4.2 m).bind fun qi=>some (qi.1,qi.2)) fun r:Int×Int=>Cd r.2)) (.inl (a,b)):=by
   intro a b;refine .some ?_;rw[az (by omega)];exact⟨⟨i+1,rfl,gj⟩,by simp only;omega⟩
  refine Wp.ite (fun _=> .some (nxt _ _)) fun _=>?_
  refine Wp.seq _ (uj ..) fun y _=>?_
  refine .some ?_;split
  .show Cd _
   simp[Cd]
  .exact nxt _ _
 .show Wp _ _
  exact Wp.seq _ (BV _ hm) fun r hr=> .some hr
theorem KX(l:List dJ.den)(a b:Int)(hl:l.length<=9223372036854775807):Wp (M.cQ aE l a b) fun r=>r.2.1=true->0<=r.1/\r.1<l.length:=by
 unfold M.cQ;refine Wp.loop (fun s:Int×Int×Int=>∃i:Nat,s.1=i/\i<=l.length) (fun s=>(l.length-s.1).toNat) ⟨0,rfl,ajI _⟩ (by simp only;unfold aE;omega) ?_
 rintro⟨s1,s2,s3⟩ ⟨i,hi,Am⟩
 simp only at hi;subst hi
 refine Wp.dec (fun h=>?_) fun h=> .some fun h=>by cases h
 have gj:i<l.length:=by simp only at h;omega
 simp only;rw[ah gj];simp only[aji]
 refine Wp.seq (fun _=>True) ?_ fun y _=>?_
 .unfold M.jx
  refine Wp.seq (fun _=>True) (Wp.seq _ (tP ..) fun y _=>?_) fun j _=> .some trivial
  simp only[aC];exact .some trivial
 .refine Wp.ite (fun _=> .some fun _=>⟨by simp only;omega,by simp only;omega⟩) fun _=> .some ?_
  rw[az (by omega)];exact⟨⟨i+1,rfl,gj⟩,by simp only;omega⟩
theorem yp(t:ay.den)(a b:Int)(hl:t.2.2.2.length<=9223372036854775807):Wp (M.km aE t a b) fun r=>r.2=true->0<=r.1/\r.1<t.2.2.2.length:=by
 unfold M.km
 exact Wp.seq _ (KX _ a b hl) fun r hr=> .some hr
theorem pS(N:Nat)(d:Int):M.jy N d=some (decide (0<=d)&&decide (d<=109572)):=by
 unfold M.jy;simp only[aC,aji,lP]
theorem kF(N:Nat)(y m:Int):Wp (M.dL N y m) fun r=>0<=r/\r<=31:=by
 unfold M.dL M.oY;simp only[aC,aji,o7,lP]
 refine Wp.ite (fun _=> .some (by omega)) fun hc=>?_
 refine Wp.ite (fun _=> .some (by omega)) fun _=>?_
 have hm:1<=m/\m<=12:=by simp at hc;omega
 rw[aM (by omega) (by omega)]
 have:m=1\/m=2\/m=3\/m=4\/m=5\/m=6\/m=7\/m=8\/m=9\/m=10\/m=11\/m=12:=by omega
 rcases this with rfl|rfl|rfl|rfl|rfl|rfl|rfl|rfl|rfl|rfl|rfl|rfl<;>exact⟨_,rfl,by decide⟩
theorem oc(N:Nat)(y:Int):Wp (M.eW N y) fun _=>True:=by
 unfold M.eW M.kq;simp only[aji];exact .some trivial
theorem o9(d:Int):Wp (M.jz aE d) fun _=>True:=by
 unfold M.jz;rw[pS];simp only[aji]
 refine Wp.ite (fun _=> .some trivial) fun hv=>?_
 have hd:0<=d/\d<=109572:=by simpa using hv
 have h0:ajE d 366=d/366:=aki hd.1;have hw:ajj.wrap (d/366)=d/366:=aM (by omega) (by omega);have hw2:ajj.wrap (1900+d/366)=1900+d/366:=aM (by omega) (by omega);rw[h0,hw,hw2]
 refine Wp.seq (fun _=>True) (Wp.loop (fun y:Int=>1900<=y/\y<=2199) (fun y=>(2199-y).toNat) (by omega) (by unfold aE;omega) ?_) fun y _=>?_
 .rintro y ⟨h1,h2⟩
  by_cases hy:y=2199
  .subst hy
   have e:M.eW aE (ajj.wrap ((2199:Int)+1))=some 109573:=by show(_:Option Int)=_;kernel_rfl
   rw[e];simp only[aji];rw[if_neg (by simp;omega)];exact .some trivial
  .refine Wp.seq _ (oc ..) fun z _=>?_
   refine Wp.dec (fun _=> .some ?_) fun _=> .some trivial
   rw[aM (by omega) (by omega)];exact⟨by omega,by simp only;omega⟩
 .refine Wp.seq _ (oc ..) fun z _=>?_
  refine Wp.loop (fun s:Int×Int=>∃i:Nat,s.2=i/\i<=12) (fun s=>(12-s.2).toNat) ⟨0,rfl,by omega⟩ (by simp only;unfold aE;omega) ?_
  rintro⟨a,b⟩ ⟨i,hi,Am⟩
  simp only at hi;subst hi
  refine Wp.dec (fun h=>?_) fun _=> .some trivial
  refine Wp.seq _ (kF ..) fun w _=>?_
  refine Wp.dec (fun _=> .some trivial) fun _=> .some ?_
  simp only at h⊢;rw[az (by omega)];exact⟨⟨i+1,rfl,by omega⟩,by simp only;omega⟩
theorem Ee(y m d:Int):Wp (M.lW aE y m d) fun r=>Cd r.2:=by
 unfold M.lW
 refine Wp.seq (fun j=>j=false->1<=m/\m<=12) ?_ fun j hj=>?_
 .refine Wp.dec (fun _=> .some (fun h=>by cases h)) fun _=>Wp.dec (fun _=> .some (fun h=>by cases h)) fun _=>Wp.dec (fun _=> .some (fun h=>by cases h)) fun h1=>Wp.dec (fun _=> .some (fun h=>by cases h)) fun h2=>Wp.dec (fun _=> .some (fun h=>by cases h)) fun _=>?_
  exact Wp.seq _ (kF ..) fun w _=> .some fun _=>⟨by omega,by omega⟩
 .refine Wp.ite (fun _=> .some (by simp[Cd])) fun hc=>?_
  have hm:=hj (by simpa using hc)
  refine Wp.seq _ (oc ..) fun z _=>?_
  refine Wp.seq (fun _=>True) (Wp.loop (fun s:Int×Int=>∃i:Nat,s.2=i/\i<=12) (fun s=>(13-s.2).toNat) ⟨0,rfl,by omega⟩ (by simp only;unfold aE;omega) ?_) fun w _=> .some (by simp[Cd])
  rintro⟨a,b⟩ ⟨i,hi,Am⟩
  simp only at hi;subst hi
  refine Wp.dec (fun h=>?_) fun _=> .some trivial
  refine Wp.seq _ (kF ..) fun w _=> .some ?_
  simp only at h⊢;rw[aM (n:=m-1) (by omega) (by omega)]at h;rw[az (by omega)];exact⟨⟨i+1,rfl,by omega⟩,by simp only;omega⟩
theorem od(d n:Int):Wp (M.iA aE d n) fun r=>Cd r.2:=by
 unfold M.iA;rw[pS];simp only[aC,aji,o7]
 refine Wp.ite (fun _=> .some (by simp[Cd])) fun hc=>?_
 refine Wp.seq _ (o9 ..) fun y _=>?_
 refine Wp.ite (fun _=> .some (by simp[Cd])) fun _=>?_
 refine Wp.seq _ (kF ..) fun w _=>?_
 exact Wp.seq _ (Ee ..) fun r hr=> .some hr
theorem ou(a b:Int):Wp (M.gO aE a b) fun _=>True:=by
 unfold M.gO;rw[pS,pS];simp only[aC,aji,o7]
 refine Wp.ite (fun _=> .some trivial) fun _=>?_
 refine Wp.seq _ (o9 ..) fun y _=>Wp.seq _ (o9 ..) fun z _=>?_
 refine Wp.seq (fun _=>True) (Wp.seq _ (od ..) fun r _=>?_) fun j _=> .some trivial
 exact .some trivial
end L.P
end Go.Proofs.YtmihpkfkbfgigaaGreatDoor
end
