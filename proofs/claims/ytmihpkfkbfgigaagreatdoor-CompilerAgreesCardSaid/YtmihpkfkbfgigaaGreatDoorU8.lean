/- Joined texts: ModelA ModelZ Plain Wq PV. -/
import Derived.Test.YtmihpkfkbfgigaaGreatDoorU7
import Derived.Test.YtmihpkfkbfgigaaGreatDoorU1
import Derived.Test.YtmihpkfkbfgigaaGreatDoorU6
section
open _root_.Int renaming tdiv->amh,tmod->amy
open _root_.Go.IntKind renaming i64->alT,u64->al3
namespace Go.Proofs.YtmihpkfkbfgigaaGreatDoor
open Go Go.RowKit
noncomputable section
set_option maxRecDepth 100000
set_option linter.unusedVariables false
def M.bD(N:Nat)(a0:aa.den)(a1:List af.den)(a2:cz.den):Option (af.den×Int):=
((if(decide (a0.1=1))then
some (decide (a0.1=1))
else
(if(decide (a0.1=2))then
some (decide (a0.1=2))
else
(if(decide (a0.1=3))then
some (decide (a0.1=3))
else
(if(decide (a0.1=4))then
some (decide (a0.1=4))
else
some (decide (a0.1=5)))))):Option Bool).bind fun j1=>
(if j1 then
some ((a0.1,(0,a0.2)),0)
else
(if(decide (a0.1=6))then
some ((6,(alT.wrap (amh a0.2 16),amy a0.2 16)),0)
else
(if(decide (a0.1=7))then
(idx a2.2.1 a0.2).bind fun x2=>
some (x2,0)
else
(if(decide (a0.1=8))then
(idx a2.2.2.1 a0.2).bind fun x3=>
some (x3,0)
else
(if(decide (a0.1=9))then
some ((5,(0,a2.1)),0)
else
(if(decide (a0.1=35))then
some ((2,(0,(a2.2.2.2.1.length:Int))),0)
else
((if(decide (a0.1=36))then
some (decide (a0.1=36))
else
(if(decide (a0.1=37))then
some (decide (a0.1=37))
else
(if(decide (a0.1=38))then
some (decide (a0.1=38))
else
some (decide (a0.1=39))))):Option Bool).bind fun j4=>
(if j4 then
(M.jw N a0 a2).bind fun y5=>
some (y5.1,y5.2)
else
(if(decide (a0.1=33))then
(idx a2.2.2.2.2.2 a0.2).bind fun x6=>
(idx a1 0).bind fun x7=>
(M.k9 N x6 a2.1 x7.2.2).bind fun y8=>
(if(!y8.2)then
some ((0,(0,0)),6)
else
(idx x6.2.2.2 y8.1).bind fun x9=>
some ((x6.2.2.1.1,(x6.2.2.1.2,x9.2.2.2)),0))
else
(if(decide (a0.1=34))then
(idx a2.2.2.2.2.2 (alT.wrap (amh a0.2 8))).bind fun qn=>
(idx a1 0).bind fun o8=>
(M.jh N qn a2.1 o8.2.2 (amy a0.2 8)).bind fun qs=>
some ((3,(0,qs.1)),qs.2)
else
(if(decide ((a1.length:Int)=1))then
(idx a1 0).bind fun pe=>
(M.kw N a0.1 pe).bind fun sX=>
some (sX,0)
else
(if(decide ((a1.length:Int)=2))then
(idx a1 0).bind fun E7=>
(idx a1 1).bind fun LX=>
(M.fX N a0 E7 LX).bind fun xO=>
some (xO.1,xO.2)
else
(idx a1 0).bind fun DV=>
(if(decide (DV.2.2=1))then
(idx a1 1).bind fun RR=>
some (RR,0)
else
(idx a1 2).bind fun Vb=>
some (Vb,0)))))))))))))
def acz(N:Nat):bp:=⟨⟨[(0, .g aa),(1, .l (.slice af)),(2, .g cz)],[],[],0⟩,⟨[(0, .g af),(1, .l ae)],[],[],0⟩,fun(x:aa.den×(List af.den)×cz.den)=>M.bD N x.1 x.2.1 x.2.2⟩
theorem acA(N:Nat):ax Tryz.prog 127 (acz N):=fw (en [ck (abB N),ck (abD N),ck (abV N),ck (ab6 N),ck (acy N)] false false) (N:=N) (.o (.two (.o (.two (.meet ⟨[(15, .l .bool)],[],[],96⟩ .nil (.o (.o (.o (.o (.o (.o (.o (.o (.o (.o (.o (.meet ⟨[(62, .l .bool)],[],[],256⟩ .nil .nil))))))))))))) .nil)) .nil)) Tryz.func127 (by kernel_rfl) fun x=>by kernel_rfl
def M.bL(N:Nat)(a0:aa.den)(a1:List af.den)(a2:cz.den):Option (af.den×Int):=
((M.cY N a0).bind fun y2=>
(if(!y2)then
some true
else
(M.dC N a0.1).bind fun y3=>
some (!decide ((a1.length:Int)=y3))):Option Bool).bind fun j1=>
(if j1 then
some ((0,(0,0)),2)
else
(M.dQ N a0 a2).bind fun y4=>
(if(!y4)then
some ((0,(0,0)),6)
else
((M.dm N a1).bind fun y6=>
(if(!y6)then
some true
else
(M.bx N a0 a1 a2).bind fun y7=>
some (!y7)):Option Bool).bind fun j5=>
(if j5 then
some ((0,(0,0)),8)
else
(M.bD N a0 a1 a2).bind fun y8=>
(if(!decide (y8.2=0))then
some ((0,(0,0)),y8.2)
else
(M.cI N y8.1).bind fun y9=>
(if(!y9)then
some ((0,(0,0)),3)
else
some (y8.1,0))))))
def S71(N:Nat):bp:=⟨⟨[(0, .g aa),(1, .l (.slice af)),(2, .g cz)],[],[],0⟩,⟨[(0, .g af),(1, .l ae)],[],[],0⟩,fun(x:aa.den×(List af.den)×cz.den)=>M.bL N x.1 x.2.1 x.2.2⟩
theorem W71(N:Nat):ax Tryz.prog 71 (S71 N):=fw (en [ck (Nz N),ck (abh N),ck (abj N),ck (abm N),ck (abz N),ck (acA N),ck (I4 N)] false false) (N:=N) (.o (.two (.meet ⟨[(20, .l .bool)],[],[],64⟩ .nil .nil) (.o (.two (.meet ⟨[(36, .l .bool)],[],[],128⟩ .nil .nil) .nil)))) Tryz.func71 (by kernel_rfl) fun x=>by kernel_rfl
def M.fF(N:Nat)(a0:aa.den):Option (af.den×Bool):=
bE (J:=Unit) (R:=af.den×Bool) ((if(decide (a0.1=1))then
some (.inr ((1,(0,a0.2)),true))
else
(if(decide (a0.1=2))then
some (.inr ((2,(0,a0.2)),true))
else
(if(decide (a0.1=3))then
some (.inr ((3,(0,a0.2)),true))
else
(if(decide (a0.1=4))then
some (.inr ((4,(0,a0.2)),true))
else
(if(decide (a0.1=5))then
some (.inr ((5,(0,a0.2)),true))
else
(if(decide (a0.1=6))then
((if(decide (0<=a0.2))then
some (decide (a0.2<128))
else
some false):Option Bool).bind fun j2=>
(if j2 then
some (.inr ((6,(alT.wrap (amh a0.2 16),amy a0.2 16)),true))
else
some (.inl ()))
else
some (.inl ())))))))) fun j1=>
some ((0,(0,0)),false)
def acC(N:Nat):bp:=⟨⟨[(0, .g aa)],[],[],0⟩,⟨[(0, .g af),(1, .l .bool)],[],[],0⟩,fun(x:aa.den)=>M.fF N x⟩
theorem acD(N:Nat):ax Tryz.prog 184 (acC N):=fw (en [] false false) (N:=N) (.o (.two (.o (.join ⟨[],[],[],80⟩ (.o (.o (.o (.o (.o (.o (.o (.o (.o (.o (.o (.two (.meet ⟨[(40, .l .bool)],[],[],272⟩ .nil .nil) .nil)))))))))))) .nil)) .nil)) Tryz.func184 (by kernel_rfl) fun x=>by kernel_rfl
def M.gv(N:Nat)(a0:af.den):Option (aa.den):=
(if(decide (a0.1=1))then
some (1,a0.2.2)
else
(if(decide (a0.1=2))then
some (2,a0.2.2)
else
(if(decide (a0.1=3))then
some (3,a0.2.2)
else
(if(decide (a0.1=4))then
some (4,a0.2.2)
else
(if(decide (a0.1=5))then
some (5,a0.2.2)
else
some (6,alT.wrap ((alT.wrap (16*a0.2.1))+a0.2.2)))))))
def acE(N:Nat):bp:=⟨⟨[(0, .g af)],[],[],0⟩,⟨[(0, .g aa)],[],[],0⟩,fun(x:af.den)=>M.gv N x⟩
theorem acF(N:Nat):ax Tryz.prog 185 (acE N):=fw (en [] false false) (N:=N) .nil Tryz.func185 (by kernel_rfl) fun x=>by kernel_rfl
def M.ix(N:Nat)(a0:List aa.den)(a1:Int):Option (aa.den×Int×Bool):=
(idx a0 a1).bind fun x1=>
(M.dA N x1.1).bind fun y2=>
(if y2 then
some ((0,0),0,false)
else
(M.dC N x1.1).bind fun y3=>
((if(decide (y3<1))then
some true
else
some (decide (a1<y3))):Option Bool).bind fun j4=>
(if j4 then
some ((0,0),0,false)
else
bE (J:=List af.den) (R:=aa.den×Int×Bool) ((fH a0 (alT.wrap (a1-y3)) a1).bind fun l6=>
Loop (S:=Int×List af.den) (X:=(List af.den)⊕(aa.den×Int×Bool)) (fun s7=>
(if(decide (s7.1<(l6.length:Int)))then
(idx l6 s7.1).bind fun x8=>
(M.fF N x8).bind fun y9=>
(if(!y9.2)then
some (.inr (.inr ((0,0),0,false)))
else
(bZ s7.2 ([y9.1]:List af.den)).bind fun u7=>
some (.inl (alT.wrap (s7.1+1),u7)))
else
some (.inr (.inl s7.2)))) N (0,([]:List af.den))) fun j5=>
bE (J:=Unit) (R:=aa.den×Int×Bool) (Loop (S:=Int) (X:=Unit⊕(aa.den×Int×Bool)) (fun wZ=>
(if(decide (wZ<(a0.length:Int)))then
(idx a0 wZ).bind fun pe=>
((M.dA N pe.1).bind fun I3=>
(if I3 then
(if(decide ((alT.wrap (a1-y3))<pe.2))then
some (decide (pe.2<=a1))
else
some false)
else
some false):Option Bool).bind fun GG=>
(if GG then
some (.inr (.inr ((0,0),0,false)))
else
some (.inl (alT.wrap (wZ+1))))
else
some (.inr (.inl ())))) N 0) fun DW=>
(M.bL N x1 j5 (0,(([]:List af.den),(([]:List af.den),(([]:List (List af.den)),(([]:List aa.den),([]:List av.den))))))).bind fun NC=>
(if(!decide (NC.2=0))then
some ((0,0),0,false)
else
(M.gv N NC.1).bind fun xO=>
some (xO,y3,true))))
def acG(N:Nat):bp:=⟨⟨[(0, .l (.slice aa)),(1, .l ae)],[],[],0⟩,⟨[(0, .g aa),(1, .l ae),(2, .l .bool)],[],[],0⟩,fun(x:(List aa.den)×Int)=>M.ix N x.1 x.2⟩
theorem acH(N:Nat):ax Tryz.prog 154 (acG N):=fw (en [ck (Nz N),ck (W71 N),ck (LY N),ck (acD N),ck (acF N)] false false) (N:=N) (.o (.o (.o (.o (.two (.meet ⟨[(35, .l .bool)],[],[],256⟩ .nil .nil) (.o (.join ⟨[(9, .val false (.own 272))],[(272, .own 76 af)],[],273⟩ (.o (.two (.loop ⟨[(9, .val false (.own 400)),(44, .l ae)],[(400, .own 76 af)],[],401⟩ .nil) .nil)) (.join ⟨[],[],[],273⟩ (.o (.two (.loop ⟨[(63, .l ae)],[],[],321⟩ (.o (.o (.two (.two (.o (.meet ⟨[(83, .l .bool)],[],[],401⟩ .nil .nil)) .nil) .nil)))) .nil)) .nil)))))))) Tryz.func154 (by kernel_rfl) fun x=>by kernel_rfl
def M.ee(N:Nat)(a0:List aa.den)(a1:Int)(a2:Int)(a3:aa.den):Option (List aa.den):=
(fH a0 0 (alT.wrap (a1-a2))).bind fun l1=>
(bZ ([]:List aa.den) l1).bind fun l2=>
(bZ l2 ([a3]:List aa.den)).bind fun l3=>
(fH a0 (alT.wrap (a1+1)) (a0.length:Int)).bind fun l4=>
(bZ l3 l4).bind fun l5=>
Loop (S:=Int×List aa.den) (X:=List aa.den) (fun s6=>
(if(decide (s6.1<(l5.length:Int)))then
((idx s6.2 s6.1).bind fun x8=>
((M.dA N x8.1).bind fun oI=>
(if oI then
some (decide (a1<x8.2))
else
some false):Option Bool).bind fun j9=>
(if j9 then
(idx s6.2 s6.1).bind fun o8=>
(idx s6.2 s6.1).bind fun qA=>
some (aH s6.2 s6.1 (qA.1,alT.wrap (o8.2-a2)))
else
some s6.2):Option (List aa.den)).bind fun j7=>
some (.inl (alT.wrap (s6.1+1),j7))
else
some (.inr s6.2))) N (0,l5)
def acI(N:Nat):bp:=⟨⟨[(0, .l (.slice aa)),(1, .l ae),(2, .l ae),(3, .g aa)],[],[],0⟩,⟨[(0, .val false (.own 0))],[(0, .own 73 aa)],[],1⟩,fun(x:(List aa.den)×Int×Int×aa.den)=>M.ee N x.1 x.2.1 x.2.2.1 x.2.2.2⟩
theorem acJ(N:Nat):ax Tryz.prog 155 (acI N):=fw (en [ck (LY N)] false false) (N:=N) (.o (.o (.o (.o (.o (.two (.o (.two (.loop ⟨[(31, .l ae)],[(336, .own 73 aa)],[],417⟩ (.o (.o (.two (.meet ⟨[],[(336, .own 73 aa)],[],434⟩ (.o (.meet ⟨[(44, .l .bool)],[],[],529⟩ .nil .nil)) .nil) .nil)))) .nil)) .nil)))))) Tryz.func155 (by kernel_rfl) fun x=>by kernel_rfl
def M.dL(N:Nat)(a0:List aa.den):Option (List aa.den):=
bE (J:=List aa.den) (R:=List aa.den) ((M.ao N a0).bind fun y1=>
(M.eH N a0).bind fun y2=>
(if(!y2)then
some (.inr y1)
else
some (.inl y1)):Option ((List aa.den)⊕(List aa.den))) fun s3=>
Loop (S:=List aa.den) (X:=List aa.den) (fun s4=>
bE (J:=List aa.den) (R:=(List aa.den)⊕(List aa.den)) (Loop (S:=Int×List aa.den) (X:=(List aa.den)⊕((List aa.den)⊕(List aa.den))) (fun s6=>
(if(decide (s6.1<(s4.length:Int)))then
(M.ix N s6.2 s6.1).bind fun y7=>
(if y7.2.2 then
(M.ee N s6.2 s6.1 y7.2.1 y7.1).bind fun y8=>
some (.inr (.inr (.inl y8)))
else
some (.inl (alT.wrap (s6.1+1),s6.2)))
else
some (.inr (.inl s6.2)))) N (0,s4)) fun j5=>
some (.inr j5)) N s3
def Wf(N:Nat):bp:=⟨⟨[(0, .l (.slice aa))],[],[],0⟩,⟨[(0, .val false (.own 0))],[(0, .own 73 aa)],[],1⟩,fun(x:List aa.den)=>M.dL N x⟩
theorem acK(N:Nat):ax Tryz.prog 106 (Wf N):=LS (E:=(en [ck (OQ N),ck (Sc N),ck (acH N),ck (acJ N)] false false)) (N:=N) (l:=0) (L:=⟨[(3, .val false (.own 16))],[(16, .own 73 aa)],[],17⟩) (a0:= .nil) (a1:=(.o (.two .nil .nil))) (a2:=(.join ⟨[(3, .val false (.own 16))],[(16, .own 73 aa)],[],18⟩ (.o (.two (.loop ⟨[(3, .val false (.own 16)),(16, .l ae)],[(16, .own 73 aa)],[],66⟩ .nil) .nil)) .nil)) (sg:=Wf N) (c:=Tryz.f106.body.getD .skip) (rs:=Tryz.f106.results.toList) Tryz.func106 (by kernel_rfl) (by kernel_rfl) rfl rfl rfl rfl (fun x=>by kernel_rfl)
def M.iI(N:Nat)(a0:List aa.den):Option (List aa.den):=
(M.dL N a0).bind fun y1=>
(M.ey N y1).bind fun y2=>
(M.cV N y2).bind fun y3=>
some y3
def S60(N:Nat):bp:=⟨⟨[(0, .l (.slice aa))],[],[],0⟩,⟨[(0, .val false (.own 0))],[(0, .own 73 aa)],[],1⟩,fun(x:List aa.den)=>M.iI N x⟩
theorem W60(N:Nat):ax Tryz.prog 60 (S60 N):=fw (en [ck (abd N),ck (abf N),ck (acK N)] false false) (N:=N) .nil Tryz.func60 (by kernel_rfl) fun x=>by kernel_rfl
def M.bG(N:Nat)(a0:List aa.den):Option (List aa.den):=
(if(decide ((a0.length:Int)=0))then
some ([]:List aa.den)
else
(M.jv N a0).bind fun y1=>
(M.iI N y1.2).bind fun y2=>
some y2)
def S33(N:Nat):bp:=⟨⟨[(0, .l (.slice aa))],[],[],0⟩,⟨[(0, .val false (.own 0))],[(0, .own 73 aa)],[],1⟩,fun(x:List aa.den)=>M.bG N x⟩
theorem W33(N:Nat):ax Tryz.prog 33 (S33 N):=fw (en [ck (W59 N),ck (W60 N)] false false) (N:=N) .nil Tryz.func33 (by kernel_rfl) fun x=>by kernel_rfl
def M.cN(N:Nat)(a0:bU.den)(a1:Int)(a2:Int):Option ((List aY.den)×(List Int)×(List (List aa.den))×List (List aa.den)):=
(idx a0.2.2 a1).bind fun x1=>
(M.cA N x1).bind fun y2=>
(M.ij N a0 a2).bind fun y3=>
(idx y3.2.2 a1).bind fun x4=>
(Loop (S:=Int×(List aY.den)×(List Int)×(List (List aa.den))×List (List aa.den)) (X:=(List aY.den)×(List Int)×(List (List aa.den))×List (List aa.den)) (fun s6=>
(if(decide (s6.1<(x4.2.2.2.2.length:Int)))then
(idx x4.2.2.2.2 s6.1).bind fun x7=>
(M.bG N x7.2.2.2.2.2.1).bind fun y8=>
(bZ s6.2.2.2.1 ([y8]:List (List aa.den))).bind fun l9=>
(M.bG N x7.2.2.2.2.2.2.1).bind fun oI=>
(bZ s6.2.2.2.2 ([oI]:List (List aa.den))).bind fun E6=>
some (.inl (alT.wrap (s6.1+1),s6.2.1,s6.2.2.1,l9,E6))
else
some (.inr (s6.2.1,s6.2.2.1,s6.2.2.2.1,s6.2.2.2.2)))) N (0,x4.2.2.2.2,y2.2,([]:List (List aa.den)),([]:List (List aa.den))):Option ((List aY.den)×(List Int)×(List (List aa.den))×List (List aa.den))).bind fun j5=>
some (j5.1,j5.2.1,j5.2.2.1,j5.2.2.2)
def S17(N:Nat):bp:=⟨⟨[(0, .g bU),(1, .l ae),(2, .l ae)],[],[],0⟩,⟨[(0, .val true (.pair (.own 0) (.pair (.leaf (.slice aY)) (.pair (.own 1) (.own 2)))))],[(0, .own 3 ae),(1, .own 39 (.slice aa)),(2, .own 39 (.slice aa))],[],3⟩,fun(x:bU.den×Int×Int)=>M.cN N x.1 x.2.1 x.2.2⟩
theorem W17(N:Nat):ax Tryz.prog 17 (S17 N):=fw (en [ck (W31 N),ck (W32 N),ck (W33 N)] false false) (N:=N) (.o (.o (.o (.o (.meet ⟨[],[(32, .box 33 (.pair (.own 128) (.pair (.leaf (.slice aY)) (.pair (.own 384) (.own 385))))),(128, .own 3 ae),(384, .own 39 (.slice aa)),(385, .own 39 (.slice aa))],[],388⟩ (.o (.two (.loop ⟨[(32, .l ae)],[(32, .box 33 (.pair (.own 128) (.pair (.leaf (.slice aY)) (.pair (.own 448) (.own 449))))),(128, .own 3 ae),(448, .own 39 (.slice aa)),(449, .own 39 (.slice aa))],[],452⟩ .nil) .nil)) .nil))))) Tryz.func17 (by kernel_rfl) fun x=>by kernel_rfl
def M.lP(N:Nat)(a0:bU.den)(a1:Int)(a2:Int):Option ((List aY.den)×Int×(List Int)×(List (List aa.den))×List (List aa.den)):=
(M.gP N a0).bind fun y1=>
(if(!decide (y1.1=0))then
some (([]:List aY.den),1,([]:List Int),([]:List (List aa.den)),([]:List (List aa.den)))
else
((if(decide (a1<0))then
some true
else
some (decide ((a0.2.2.length:Int)<=a1))):Option Bool).bind fun j2=>
(if j2 then
some (([]:List aY.den),6,([]:List Int),([]:List (List aa.den)),([]:List (List aa.den)))
else
((if(decide (a2<0))then
some true
else
some (decide (109572<a2))):Option Bool).bind fun j3=>
(if j3 then
some (([]:List aY.den),3,([]:List Int),([]:List (List aa.den)),([]:List (List aa.den)))
else
(M.cN N a0 a1 a2).bind fun y4=>
some (y4.1,0,y4.2.1,y4.2.2.1,y4.2.2.2))))
def S7(N:Nat):bp:=⟨⟨[(0, .g bU),(1, .l ae),(2, .l ae)],[],[],0⟩,⟨[(0, .val true (.pair (.own 0) (.pair (.leaf (.slice aY)) (.pair (.own 1) (.own 2))))),(1, .l ae)],[(0, .own 3 ae),(1, .own 39 (.slice aa)),(2, .own 39 (.slice aa))],[],3⟩,fun(x:bU.den×Int×Int)=>M.lP N x.1 x.2.1 x.2.2⟩
theorem W7(N:Nat):ax Tryz.prog 7 (S7 N):=fw (en [ck (W16 N),ck (W17 N)] false false) (N:=N) (.o (.o (.two (.meet ⟨[(23, .l .bool)],[],[],160⟩ .nil .nil) (.two (.meet ⟨[(30, .l .bool)],[],[],160⟩ .nil .nil) .nil)))) Tryz.func7 (by kernel_rfl) fun x=>by kernel_rfl
def M.eB(N:Nat)(a0:bU.den)(a1:List af.den)(a2:List aL.den):Option (Int×Int):=
(if(decide ((a1.length:Int)<(a2.length:Int)))then
some ((a1.length:Int),5)
else
(if(decide ((a2.length:Int)<(a1.length:Int)))then
some ((a2.length:Int),4)
else
Loop (S:=Int) (X:=Int×Int) (fun s1=>
(if(decide (s1<(a1.length:Int)))then
(idx a1 s1).bind fun x2=>
(idx a2 s1).bind fun x3=>
((if(!decide (x2.1=x3.2.1))then
some true
else
some (!decide (x2.2.1=x3.2.2))):Option Bool).bind fun j4=>
(if j4 then
some (.inr (s1,8))
else
(M.fR N x3.2 a0.1).bind fun y5=>
((if(decide (x2.2.2<y5.1))then
some true
else
some (decide (y5.2<x2.2.2))):Option Bool).bind fun j6=>
(if j6 then
some (.inr (s1,3))
else
some (.inl (alT.wrap (s1+1)))))
else
some (.inr (0,0)))) N 0))
def S38(N:Nat):bp:=⟨⟨[(0, .g bU),(1, .l (.slice af)),(2, .l (.slice aL))],[],[],0⟩,⟨[(0, .l ae),(1, .l ae)],[],[],0⟩,fun(x:bU.den×(List af.den)×List aL.den)=>M.eB N x.1 x.2.1 x.2.2⟩
theorem W38(N:Nat):ax Tryz.prog 38 (S38 N):=fw (en [ck (ZQ N)] false false) (N:=N) (.o (.o (.o (.two (.o (.two (.loop ⟨[(29, .l ae)],[],[],256⟩ (.o (.o (.two (.two (.o (.o (.two (.meet ⟨[(50, .l .bool)],[],[],480⟩ .nil .nil) (.o (.meet ⟨[(68, .l .bool)],[],[],624⟩ .nil .nil))))) .nil) .nil)))) .nil)) .nil)))) Tryz.func38 (by kernel_rfl) fun x=>by kernel_rfl
def M.fG(N:Nat)(a0:bU.den)(a1:Int):Option ((List aL.den)×Int):=
(idx a0.2.2 a1).bind fun x1=>
((if(decide (x1.2.1<0))then
some true
else
some (decide ((a0.2.2.length:Int)<=x1.2.1))):Option Bool).bind fun j2=>
(if j2 then
some (([]:List aL.den),0)
else
(idx a0.2.2 x1.2.1).bind fun x3=>
some (x3.2.2.1,8))
def S39(N:Nat):bp:=⟨⟨[(0, .g bU),(1, .l ae)],[],[],0⟩,⟨[(0, .l (.slice aL)),(1, .l ae)],[],[],0⟩,fun(x:bU.den×Int)=>M.fG N x.1 x.2⟩
theorem W39(N:Nat):ax Tryz.prog 39 (S39 N):=fw (en [] false false) (N:=N) (.o (.o (.two (.meet ⟨[(21, .l .bool)],[],[],160⟩ .nil .nil) .nil))) Tryz.func39 (by kernel_rfl) fun x=>by kernel_rfl
def M.eI(N:Nat)(a0:bU.den)(a1:Int)(a2:eY.den):Option (Int×Int×Int):=
((if(decide (a1<0))then
some true
else
some (decide ((a0.2.2.length:Int)<=a1))):Option Bool).bind fun j1=>
(if j1 then
some ((-1),(-1),6)
else
((if(decide (a2.1<0))then
some true
else
some (decide (109572<a2.1))):Option Bool).bind fun j2=>
(if j2 then
some ((-1),(-1),3)
else
(idx a0.2.2 a1).bind fun x3=>
(M.eB N a0 a2.2.1 x3.2.2.1).bind fun y4=>
(if(!decide (y4.2=0))then
some ((-1),y4.1,y4.2)
else
(M.fG N a0 a1).bind fun y5=>
(if(decide (y5.2<(a2.2.2.length:Int)))then
some (y5.2,(-1),4)
else
Loop (S:=Int) (X:=Int×Int×Int) (fun s6=>
(if(decide (s6<(a2.2.2.length:Int)))then
(idx a2.2.2 s6).bind fun x7=>
(M.eB N a0 x7 y5.1).bind fun y8=>
(if(!decide (y8.2=0))then
some (.inr (s6,y8.1,y8.2))
else
some (.inl (alT.wrap (s6+1))))
else
some (.inr (0,0,0)))) N 0))))
def S19(N:Nat):bp:=⟨⟨[(0, .g bU),(1, .l ae),(2, .g eY)],[],[],0⟩,⟨[(0, .l ae),(1, .l ae),(2, .l ae)],[],[],0⟩,fun(x:bU.den×Int×eY.den)=>M.eI N x.1 x.2.1 x.2.2⟩
theorem W19(N:Nat):ax Tryz.prog 19 (S19 N):=fw (en [ck (W38 N),ck (W39 N)] false false) (N:=N) (.o (.two (.meet ⟨[(25, .l .bool)],[],[],80⟩ .nil .nil) (.two (.meet ⟨[(33, .l .bool)],[],[],80⟩ .nil .nil) (.o (.o (.o (.two (.o (.two (.loop ⟨[(66, .l ae)],[],[],624⟩ .nil) .nil)) .nil))))))) Tryz.func19 (by kernel_rfl) fun x=>by kernel_rfl
def M.eJ(N:Nat)(a0:aY.den)(a1:Int)(a2:Int):Option (Bool×Int×Int):=
((if(decide (a0.2.1=a1))then
(M.bK N a0.2.2.2.2.1 a2).bind fun y2=>
some y2
else
some false):Option Bool).bind fun j1=>
some (j1,a1,a2)
def Wg(N:Nat):bp:=⟨⟨[(0, .g aY),(1, .ptr 0 [] 0),(2, .ptr 1 [] 0)],[(0, .box 3 (.leaf ae)),(1, .box 3 (.leaf ae))],[],2⟩,⟨[(0, .l .bool)],[(0, .box 3 (.leaf ae)),(1, .box 3 (.leaf ae))],[],4⟩,fun(x:aY.den×Int×Int)=>M.eJ N x.1 x.2.1 x.2.2⟩
theorem Wh(N:Nat):ax Tryz.prog 63 (Wg N):=fw (en [ck (TL N)] false false) (N:=N) (.o (.meet ⟨[(4, .l .bool)],[],[],34⟩ .nil .nil)) Tryz.func63 (by kernel_rfl) fun x=>by kernel_rfl
def M.gU(N:Nat)(a0:List aY.den)(a1:Int)(a2:Int):Option (Int×Int×(List Int)×List Int):=
(lB (a0.length:Int) 0).bind fun l1=>
Loop (S:=Int×Int×Int×(List Int)×(List Int)×List Int) (X:=Int×Int×(List Int)×List Int) (fun s2=>
(if(decide (s2.1<(a0.length:Int)))then
((idx a0 s2.1).bind fun x4=>
(((if(decide (0<=x4.2.2.1))then
some (decide (x4.2.2.1<s2.1))
else
some false):Option Bool).bind fun j6=>
(if j6 then
(idx s2.2.2.2.1 x4.2.2.1).bind fun x7=>
some x7
else
some (-1)):Option Int).bind fun j5=>
(idx s2.2.2.2.1 s2.1).bind fun x8=>
(M.eJ N x4 s2.2.1 s2.2.2.1).bind fun y9=>
(if y9.1 then
(idx (aH s2.2.2.2.1 s2.1 j5) s2.1).bind fun qn=>
(bZ s2.2.2.2.2.1 ([s2.1]:List Int)).bind fun E6=>
(bZ s2.2.2.2.2.2 ([j5]:List Int)).bind fun DX=>
some (y9.2.1,y9.2.2,aH (aH s2.2.2.2.1 s2.1 j5) s2.1 (s2.2.2.2.2.1.length:Int),E6,DX)
else
some (y9.2.1,y9.2.2,aH s2.2.2.2.1 s2.1 j5,s2.2.2.2.2.1,s2.2.2.2.2.2)):Option (Int×Int×(List Int)×(List Int)×List Int)).bind fun j3=>
some (.inl (alT.wrap (s2.1+1),j3.1,j3.2.1,j3.2.2.1,j3.2.2.2.1,j3.2.2.2.2))
else
some (.inr (s2.2.1,s2.2.2.1,s2.2.2.2.2.1,s2.2.2.2.2.2)))) N (0,a1,a2,l1,([]:List Int),([]:List Int))
def Wi(N:Nat):bp:=⟨⟨[(0, .l (.slice aY)),(1, .fn 63 [(0,[],0),(1,[],0)])],[(0, .box 3 (.leaf ae)),(1, .box 3 (.leaf ae))],[],2⟩,⟨[(0, .val false (.own 2)),(1, .val false (.own 3))],[(0, .box 3 (.leaf ae)),(1, .box 3 (.leaf ae)),(2, .own 3 ae),(3, .own 3 ae)],[],6⟩,fun(x:(List aY.den)×Int×Int)=>M.gU N x.1 x.2.1 x.2.2⟩
theorem Wj(N:Nat):ax Tryz.prog 62 (Wi N):=fw (en [ck (Wh N)] false false) (N:=N) (.o (.o (.o (.two (.o (.two (.loop ⟨[(6, .val false (.own 178)),(7, .val false (.own 179)),(17, .l ae)],[(0, .box 3 (.leaf ae)),(1, .box 3 (.leaf ae)),(98, .own 3 ae),(178, .own 3 ae),(179, .own 3 ae)],[],183⟩ (.o (.o (.two (.meet ⟨[(6, .val false (.own 199)),(7, .val false (.own 200))],[(0, .box 3 (.leaf ae)),(1, .box 3 (.leaf ae)),(98, .own 3 ae),(199, .own 3 ae),(200, .own 3 ae)],[178,179],204⟩ (.o (.o (.meet ⟨[(11, .l ae)],[],[],311⟩ (.meet ⟨[(30, .l .bool)],[],[],311⟩ .nil .nil) .nil))) .nil) .nil)))) .nil)) .nil)))) Tryz.func62 (by kernel_rfl) fun x=>by kernel_rfl
def M.iJ(N:Nat)(a0:aw.den)(a1:Int)(a2:Int):Option (List Int):=
(M.gU N a0.2.2.2.2 a1 a2).bind fun y1=>
some y1.2.2.1
def S40(N:Nat):bp:=⟨⟨[(0, .g aw),(1, .l ae),(2, .l ae)],[],[],0⟩,⟨[(0, .val false (.own 0))],[(0, .own 3 ae)],[],1⟩,fun(x:aw.den×Int×Int)=>M.iJ N x.1 x.2.1 x.2.2⟩
theorem W40(N:Nat):ax Tryz.prog 40 (S40 N):=fw (en [ck (Wj N)] false false) (N:=N) .nil Tryz.func40 (by kernel_rfl) fun x=>by kernel_rfl
def M.cq(N:Nat)(a0:bU.den)(a1:Int)(a2:Int):Option (bc.den):=
(idx a0.2.2 a1).bind fun x1=>
(M.cN N a0 a1 a2).bind fun y2=>
(Loop (S:=Int×(List Int)×(List (List aa.den))×(List (List aa.den))×aw.den×(List aY.den)×List Int) (X:=(List Int)×(List (List aa.den))×(List (List aa.den))×aw.den×(List aY.den)×List Int) (fun s4=>
(if(decide (s4.1<(x1.2.2.2.1.length:Int)))then
(M.iJ N s4.2.2.2.2.1 s4.1 a2).bind fun y5=>
(bZ s4.2.2.2.2.2.2 y5).bind fun l6=>
some (.inl (alT.wrap (s4.1+1),s4.2.1,s4.2.2.1,s4.2.2.2.1,s4.2.2.2.2.1,s4.2.2.2.2.2.1,l6))
else
some (.inr (s4.2.1,s4.2.2.1,s4.2.2.2.1,s4.2.2.2.2.1,s4.2.2.2.2.2.1,s4.2.2.2.2.2.2)))) N (0,y2.2.1,y2.2.2.1,y2.2.2.2,x1,y2.1,([]:List Int)):Option ((List Int)×(List (List aa.den))×(List (List aa.den))×aw.den×(List aY.den)×List Int)).bind fun j3=>
(M.cn N j3.2.2.2.2.2).bind fun y7=>
some (j3.2.2.2.1,((j3.1,(j3.2.2.2.2.1,(j3.2.1,j3.2.2.1))),y7))
def S20(N:Nat):bp:=⟨⟨[(0, .g bU),(1, .l ae),(2, .l ae)],[],[],0⟩,⟨[(0, .at bc)],[],[],0⟩,fun(x:bU.den×Int×Int)=>M.cq N x.1 x.2.1 x.2.2⟩
theorem W20(N:Nat):ax Tryz.prog 20 (S20 N):=fw (en [ck (W17 N),ck (W40 N),ck (W41 N)] false false) (N:=N) (.o (.o (.meet ⟨[],[(160, .own 3 ae),(161, .own 39 (.slice aa)),(162, .own 39 (.slice aa)),(192, .box 93 (.pair (.leaf aw) (.pair (.pair (.own 160) (.pair (.leaf (.slice aY)) (.pair (.own 161) (.own 162)))) (.own 224)))),(224, .own 3 ae)],[],229⟩ (.o (.two (.loop ⟨[(26, .l ae)],[(160, .own 3 ae),(161, .own 39 (.slice aa)),(162, .own 39 (.slice aa)),(192, .box 93 (.pair (.leaf aw) (.pair (.pair (.own 160) (.pair (.leaf (.slice aY)) (.pair (.own 161) (.own 162)))) (.own 336)))),(336, .own 3 ae)],[],341⟩ .nil) .nil)) .nil))) Tryz.func20 (by kernel_rfl) fun x=>by kernel_rfl
def M.fj(N:Nat)(a0:Int):Option Bool:=
((if(decide (a0=50))then
some true
else
(if(decide (a0=52))then
some true
else
some (decide (a0=53)))):Option Bool).bind fun j1=>
some j1
def S70(N:Nat):bp:=⟨⟨[(0, .l ae)],[],[],0⟩,⟨[(0, .l .bool)],[],[],0⟩,fun(x:Int)=>M.fj N x⟩
theorem W70(N:Nat):ax Tryz.prog 70 (S70 N):=fw (en [] false false) (N:=N) (.o (.meet ⟨[(2, .l .bool)],[],[],16⟩ .nil .nil)) Tryz.func70 (by kernel_rfl) fun x=>by kernel_rfl
def M.nh(N:Nat)(a0:List aa.den)(a1:cz.den):Option (af.den×Int×Int):=
(M.bY N a0).bind fun y1=>
(if(!decide (y1.2=0))then
some ((0,(0,0)),0,1)
else
bE (J:=Int×List af.den) (R:=af.den×Int×Int) (Loop (S:=Int×Int×List af.den) (X:=(Int×List af.den)⊕(af.den×Int×Int)) (fun s3=>
(if(decide (s3.2.1<(a0.length:Int)))then
bE (J:=Int×Int×List af.den) (R:=(Int×Int×List af.den)⊕((Int×List af.den)⊕(af.den×Int×Int))) ((idx a0 s3.2.1).bind fun x5=>
(if(decide (x5.1=51))then
some (.inl (alT.wrap (s3.1+1),x5.2,s3.2.2))
else
(M.fj N x5.1).bind fun y6=>
(if(!y6)then
(M.dC N x5.1).bind fun y7=>
(fH s3.2.2 (alT.wrap ((s3.2.2.length:Int)-y7)) (s3.2.2.length:Int)).bind fun l8=>
(M.bL N x5 l8 a1).bind fun y9=>
(if(!decide (y9.2=0))then
some (.inr (.inr (.inr ((0,(0,0)),0,y9.2))))
else
(fH s3.2.2 0 (alT.wrap ((s3.2.2.length:Int)-y7))).bind fun u7=>
(bZ u7 ([y9.1]:List af.den)).bind fun E6=>
some (.inl (alT.wrap (s3.1+1),alT.wrap (s3.2.1+1),E6)))
else
(idx s3.2.2 (alT.wrap ((s3.2.2.length:Int)-1))).bind fun qA=>
((if(!decide (qA.1=1))then
some true
else
(if(!decide (qA.2.2=0))then
some (!decide (qA.2.2=1))
else
some false)):Option Bool).bind fun NB=>
(if NB then
some (.inr (.inr (.inr ((0,(0,0)),0,8))))
else
((if(decide ((decide (qA.2.2=1))=(decide (x5.1=53))))then
some x5.2
else
some (alT.wrap (s3.2.1+1))):Option Int).bind fun GG=>
((if(!(decide ((decide (qA.2.2=1))=(decide (x5.1=53)))))then
some true
else
some (decide (x5.1=50))):Option Bool).bind fun Qq=>
(if Qq then
(fH s3.2.2 0 (alT.wrap ((s3.2.2.length:Int)-1))).bind fun VA=>
some (.inl (alT.wrap (s3.1+1),GG,VA))
else
some (.inl (alT.wrap (s3.1+1),GG,s3.2.2))))))) fun j4=>
some (.inl (j4.1,j4.2.1,j4.2.2))
else
some (.inr (.inl (s3.1,s3.2.2))))) N (0,0,([]:List af.den))) fun j2=>
(idx j2.2 0).bind fun JX=>
some (JX,j2.1,0))
def S43(N:Nat):bp:=⟨⟨[(0, .l (.slice aa)),(1, .g cz)],[],[],0⟩,⟨[(0, .g af),(1, .l ae),(2, .l ae)],[],[],0⟩,fun(x:(List aa.den)×cz.den)=>M.nh N x.1 x.2⟩
theorem W43(N:Nat):ax Tryz.prog 43 (S43 N):=fw (en [ck (W8 N),ck (Nz N),ck (W70 N),ck (W71 N)] false false) (N:=N) (.o (.o (.o (.o (.join ⟨[(9, .val false (.own 240)),(10, .l ae)],[(240, .own 76 af)],[],241⟩ (.o (.two (.loop ⟨[(9, .val false (.own 256)),(10, .l ae),(11, .l ae)],[(256, .own 76 af)],[],257⟩ (.o (.join ⟨[(9, .val false (.own 321)),(10, .l ae),(11, .l ae)],[(321, .own 76 af)],[256],322⟩ (.o (.o (.o (.o (.o (.o (.two (.meet ⟨[(90, .l .bool)],[],[],753⟩ .nil .nil) (.o (.meet ⟨[(11, .l ae)],[],[],881⟩ .nil (.meet ⟨[(108, .l .bool)],[],[],881⟩ .nil .nil)))))))))) .nil))) .nil)) .nil))))) Tryz.func43 (by kernel_rfl) fun x=>by kernel_rfl
def M.fb(N:Nat)(a0:aY.den)(a1:Int)(a2:Int):Option (Bool×Int×Int):=
((if(decide (a0.2.1=a1))then
(M.bK N a0.2.2.2.2.1 a2).bind fun y2=>
some y2
else
some false):Option Bool).bind fun j1=>
some (j1,a1,a2)
def Sq(N:Nat):bp:=⟨⟨[(0, .g aY),(1, .ptr 0 [] 0),(2, .ptr 1 [] 0)],[(0, .box 3 (.leaf ae)),(1, .box 3 (.leaf ae))],[],2⟩,⟨[(0, .l .bool)],[(0, .box 3 (.leaf ae)),(1, .box 3 (.leaf ae))],[],4⟩,fun(x:aY.den×Int×Int)=>M.fb N x.1 x.2.1 x.2.2⟩
theorem Sr(N:Nat):ax Tryz.prog 118 (Sq N):=fw (en [ck (TL N)] false false) (N:=N) (.o (.meet ⟨[(4, .l .bool)],[],[],34⟩ .nil .nil)) Tryz.func118 (by kernel_rfl) fun x=>by kernel_rfl
def M.gV(N:Nat)(a0:List aY.den)(a1:Int)(a2:Int):Option (Int×Int×(List Int)×List Int):=
(lB (a0.length:Int) 0).bind fun l1=>
Loop (S:=Int×Int×Int×(List Int)×(List Int)×List Int) (X:=Int×Int×(List Int)×List Int) (fun s2=>
(if(decide (s2.1<(a0.length:Int)))then
((idx a0 s2.1).bind fun x4=>
(((if(decide (0<=x4.2.2.1))then
some (decide (x4.2.2.1<s2.1))
else
some false):Option Bool).bind fun j6=>
(if j6 then
(idx s2.2.2.2.1 x4.2.2.1).bind fun x7=>
some x7
else
some (-1)):Option Int).bind fun j5=>
(idx s2.2.2.2.1 s2.1).bind fun x8=>
(M.fb N x4 s2.2.1 s2.2.2.1).bind fun y9=>
(if y9.1 then
(idx (aH s2.2.2.2.1 s2.1 j5) s2.1).bind fun qn=>
(bZ s2.2.2.2.2.1 ([s2.1]:List Int)).bind fun E6=>
(bZ s2.2.2.2.2.2 ([j5]:List Int)).bind fun DX=>
some (y9.2.1,y9.2.2,aH (aH s2.2.2.2.1 s2.1 j5) s2.1 (s2.2.2.2.2.1.length:Int),E6,DX)
else
some (y9.2.1,y9.2.2,aH s2.2.2.2.1 s2.1 j5,s2.2.2.2.2.1,s2.2.2.2.2.2)):Option (Int×Int×(List Int)×(List Int)×List Int)).bind fun j3=>
some (.inl (alT.wrap (s2.1+1),j3.1,j3.2.1,j3.2.2.1,j3.2.2.2.1,j3.2.2.2.2))
else
some (.inr (s2.2.1,s2.2.2.1,s2.2.2.2.2.1,s2.2.2.2.2.2)))) N (0,a1,a2,l1,([]:List Int),([]:List Int))
def Wk(N:Nat):bp:=⟨⟨[(0, .l (.slice aY)),(1, .fn 118 [(0,[],0),(1,[],0)])],[(0, .box 3 (.leaf ae)),(1, .box 3 (.leaf ae))],[],2⟩,⟨[(0, .val false (.own 2)),(1, .val false (.own 3))],[(0, .box 3 (.leaf ae)),(1, .box 3 (.leaf ae)),(2, .own 3 ae),(3, .own 3 ae)],[],6⟩,fun(x:(List aY.den)×Int×Int)=>M.gV N x.1 x.2.1 x.2.2⟩
theorem Wl(N:Nat):ax Tryz.prog 62 (Wk N):=fw (en [ck (Sr N)] false false) (N:=N) (.o (.o (.o (.two (.o (.two (.loop ⟨[(6, .val false (.own 178)),(7, .val false (.own 179)),(17, .l ae)],[(0, .box 3 (.leaf ae)),(1, .box 3 (.leaf ae)),(98, .own 3 ae),(178, .own 3 ae),(179, .own 3 ae)],[],183⟩ (.o (.o (.two (.meet ⟨[(6, .val false (.own 199)),(7, .val false (.own 200))],[(0, .box 3 (.leaf ae)),(1, .box 3 (.leaf ae)),(98, .own 3 ae),(199, .own 3 ae),(200, .own 3 ae)],[178,179],204⟩ (.o (.o (.meet ⟨[(11, .l ae)],[],[],311⟩ (.meet ⟨[(30, .l .bool)],[],[],311⟩ .nil .nil) .nil))) .nil) .nil)))) .nil)) .nil)))) Tryz.func62 (by kernel_rfl) fun x=>by kernel_rfl
def M.gD(N:Nat)(a0:aw.den)(a1:Int)(a2:Int):Option ((List Int)×(List Int)×List Int):=
(M.gV N a0.2.2.2.2 a1 a2).bind fun y1=>
(Loop (S:=Int×List Int) (X:=List Int) (fun s3=>
(if(decide (s3.1<(y1.2.2.1.length:Int)))then
(idx y1.2.2.1 s3.1).bind fun x4=>
(idx a0.2.2.2.2 x4).bind fun x5=>
(bZ s3.2 ([x5.2.2.2.1]:List Int)).bind fun l6=>
some (.inl (alT.wrap (s3.1+1),l6))
else
some (.inr s3.2))) N (0,([]:List Int)):Option (List Int)).bind fun j2=>
some (y1.2.2.1,y1.2.2.2,j2)
def S67(N:Nat):bp:=⟨⟨[(0, .g aw),(1, .l ae),(2, .l ae)],[],[],0⟩,⟨[(0, .val false (.own 0)),(1, .val false (.own 1)),(2, .val false (.own 2))],[(0, .own 3 ae),(1, .own 3 ae),(2, .own 3 ae)],[],3⟩,fun(x:aw.den×Int×Int)=>M.gD N x.1 x.2.1 x.2.2⟩
theorem W67(N:Nat):ax Tryz.prog 67 (S67 N):=fw (en [ck (Wl N)] false false) (N:=N) (.o (.o (.o (.meet ⟨[(11, .val false (.own 256))],[(256, .own 3 ae)],[],257⟩ (.o (.two (.loop ⟨[(11, .val false (.own 304)),(23, .l ae)],[(304, .own 3 ae)],[],305⟩ .nil) .nil)) .nil)))) Tryz.func67 (by kernel_rfl) fun x=>by kernel_rfl
def M.cmp_isNaN_int(N:Nat)(a0:Int):Option Bool:=
some (!decide (a0=a0))
def acM(N:Nat):bp:=⟨⟨[(0, .l ae)],[],[],0⟩,⟨[(0, .l .bool)],[],[],0⟩,fun(x:Int)=>M.cmp_isNaN_int N x⟩
theorem acN(N:Nat):ax Tryz.prog 161 (acM N):=fw (en [] false false) (N:=N) .nil Tryz.func161 (by kernel_rfl) fun x=>by kernel_rfl
def M.cmp_Less_int(N:Nat)(a0:Int)(a1:Int):Option Bool:=
((M.cmp_isNaN_int N a0).bind fun y2=>
(if y2 then
(M.cmp_isNaN_int N a1).bind fun y3=>
(if(!y3)then
some true
else
some (decide (a0<a1)))
else
some (decide (a0<a1))):Option Bool).bind fun j1=>
some j1
def acO(N:Nat):bp:=⟨⟨[(0, .l ae),(1, .l ae)],[],[],0⟩,⟨[(0, .l .bool)],[],[],0⟩,fun(x:Int×Int)=>M.cmp_Less_int N x.1 x.2⟩
theorem acP(N:Nat):ax Tryz.prog 113 (acO N):=fw (en [ck (acN N)] false false) (N:=N) (.o (.meet ⟨[(4, .l .bool)],[],[],16⟩ .nil .nil)) Tryz.func113 (by kernel_rfl) fun x=>by kernel_rfl
def M.lQ(N:Nat)(a0:Int):Option Bool:=
some (!decide (a0=a0))
def acQ(N:Nat):bp:=⟨⟨[(0, .l ae)],[],[],0⟩,⟨[(0, .l .bool)],[],[],0⟩,fun(x:Int)=>M.lQ N x⟩
theorem acR(N:Nat):ax Tryz.prog 162 (acQ N):=fw (en [] false false) (N:=N) .nil Tryz.func162 (by kernel_rfl) fun x=>by kernel_rfl
def M.cQ(N:Nat)(a0:List Int)(a1:Int):Option (Int×Bool):=
(Loop (S:=Int×Int) (X:=Int) (fun s2=>
(if(decide (s2.1<s2.2))then
((idx a0 (alT.wrap (gp .u64 (al3.wrap (alT.wrap (s2.1+s2.2))) 1))).bind fun x4=>
(M.cmp_Less_int N x4 a1).bind fun y5=>
(if y5 then
some (alT.wrap ((alT.wrap (gp .u64 (al3.wrap (alT.wrap (s2.1+s2.2))) 1))+1),s2.2)
else
some (s2.1,alT.wrap (gp .u64 (al3.wrap (alT.wrap (s2.1+s2.2))) 1))):Option (Int×Int)).bind fun j3=>
some (.inl (j3.1,j3.2))
else
some (.inr s2.1))) N (0,(a0.length:Int)):Option Int).bind fun j1=>
((if(decide (j1<(a0.length:Int)))then
(idx a0 j1).bind fun x7=>
(if(decide (x7=a1))then
some (j1,true)
else
(idx a0 j1).bind fun x8=>
(M.lQ N x8).bind fun y9=>
(if y9 then
(M.lQ N a1).bind fun oI=>
some (j1,oI)
else
some (j1,false)))
else
some (j1,false)):Option (Int×Bool)).bind fun j6=>
some (j6.1,j6.2)
def acS(N:Nat):bp:=⟨⟨[(0, .l (.slice ae)),(1, .l ae)],[],[],0⟩,⟨[(0, .l ae),(1, .l .bool)],[],[],0⟩,fun(x:(List Int)×Int)=>M.cQ N x.1 x.2⟩
theorem acT(N:Nat):ax Tryz.prog 119 (acS N):=fw (en [ck (acP N),ck (acR N)] false false) (N:=N) (.o (.o (.o (.meet ⟨[(7, .l ae)],[],[],128⟩ (.two (.loop ⟨[(7, .l ae),(8, .l ae)],[],[],128⟩ (.o (.meet ⟨[(7, .l ae),(8, .l ae)],[],[],176⟩ .nil .nil))) .nil) (.meet ⟨[(4, .l ae),(5, .l .bool)],[],[],128⟩ .nil .nil))))) Tryz.func119 (by kernel_rfl) fun x=>by kernel_rfl
def M.cB(N:Nat)(a0:bc.den)(a1:Int):Option Int:=
(M.cQ N a0.2.2 a1).bind fun y1=>
some y1.1
def S68(N:Nat):bp:=⟨⟨[(0, .at bc),(1, .l ae)],[],[],0⟩,⟨[(0, .l ae)],[],[],0⟩,fun(x:bc.den×Int)=>M.cB N x.1 x.2⟩
theorem W68(N:Nat):ax Tryz.prog 68 (S68 N):=fw (en [ck (acT N)] false false) (N:=N) .nil Tryz.func68 (by kernel_rfl) fun x=>by kernel_rfl
def M.iK(N:Nat)(a0:List Int)(a1:List Int):Option Int:=
(if(!decide ((a0.length:Int)=(a1.length:Int)))then
some 2
else
(if(decide (8<(a0.length:Int)))then
some 4
else
Loop (S:=Int) (X:=Int) (fun s1=>
(if(decide (s1<(a0.length:Int)))then
(idx a0 s1).bind fun x2=>
((if(decide (x2<(-1)))then
some true
else
some (decide (s1<=x2))):Option Bool).bind fun j3=>
(if j3 then
some (.inr 9)
else
((idx a1 s1).bind fun x5=>
(if(decide (x5<0))then
some true
else
(idx a1 s1).bind fun x6=>
some (decide (9<x6))):Option Bool).bind fun j4=>
(if j4 then
some (.inr 3)
else
some (.inl (alT.wrap (s1+1)))))
else
some (.inr 0))) N 0))
def acU(N:Nat):bp:=⟨⟨[(0, .l (.slice ae)),(1, .l (.slice ae))],[],[],0⟩,⟨[(0, .l ae)],[],[],0⟩,fun(x:(List Int)×List Int)=>M.iK N x.1 x.2⟩
theorem acV(N:Nat):ax Tryz.prog 120 (acU N):=fw (en [] false false) (N:=N) (.o (.o (.o (.two (.o (.two (.loop ⟨[(17, .l ae)],[],[],192⟩ (.o (.o (.two (.two (.o (.two (.meet ⟨[(28, .l .bool)],[],[],288⟩ .nil .nil) (.meet ⟨[(40, .l .bool)],[],[],288⟩ .nil .nil))) .nil) .nil)))) .nil)) .nil)))) Tryz.func120 (by kernel_rfl) fun x=>by kernel_rfl
def M.iL(N:Nat)(a0:List Int)(a1:Int):Option (List Int):=
Loop (S:=Int×List Int) (X:=List Int) (fun s1=>
(if(decide (s1.1<(a0.length:Int)))then
((idx a0 s1.1).bind fun x3=>
(if(decide (x3=a1))then
(bZ s1.2 ([s1.1]:List Int)).bind fun l4=>
some l4
else
some s1.2):Option (List Int)).bind fun j2=>
some (.inl (alT.wrap (s1.1+1),j2))
else
some (.inr s1.2))) N (0,([]:List Int))
def acW(N:Nat):bp:=⟨⟨[(0, .l (.slice ae)),(1, .l ae)],[],[],0⟩,⟨[(0, .val false (.own 0))],[(0, .own 3 ae)],[],1⟩,fun(x:(List Int)×Int)=>M.iL N x.1 x.2⟩
theorem acX(N:Nat):ax Tryz.prog 187 (acW N):=fw (en [] false false) (N:=N) (.o (.o (.two (.o (.two (.loop ⟨[(5, .val false (.own 80)),(10, .l ae)],[(80, .own 3 ae)],[],81⟩ (.o (.o (.two (.meet ⟨[(5, .val false (.own 97))],[(97, .own 3 ae)],[80],98⟩ .nil .nil) .nil)))) .nil)) .nil))) Tryz.func187 (by kernel_rfl) fun x=>by kernel_rfl
def M.gW(N:Nat)(a0:eo.den)(a1:Int):Option (List Int):=
(M.iL N a0.1 a1).bind fun y1=>
Loop (S:=Int×List Int) (X:=List Int) (fun s2=>
(if(decide (s2.1<(y1.length:Int)))then
((idx y1 s2.1).bind fun x4=>
(idx a0.2.2 x4).bind fun x5=>
(if(decide (x5=(-1)))then
some s2.2
else
(((if(decide (0<(s2.2.length:Int)))then
(idx a0.2.1 x4).bind fun x8=>
(idx s2.2 0).bind fun x9=>
(idx a0.2.1 x9).bind fun qn=>
some (decide (qn<x8))
else
some false):Option Bool).bind fun j7=>
(if j7 then
(fH s2.2 0 0).bind fun E6=>
some E6
else
some s2.2):Option (List Int)).bind fun j6=>
((if(decide ((j6.length:Int)=0))then
some true
else
(idx a0.2.1 x4).bind fun pe=>
(idx j6 0).bind fun sW=>
(idx a0.2.1 sW).bind fun E7=>
some (decide (pe=E7))):Option Bool).bind fun AH=>
(if AH then
(bZ j6 ([x4]:List Int)).bind fun VA=>
some VA
else
some j6)):Option (List Int)).bind fun j3=>
some (.inl (alT.wrap (s2.1+1),j3))
else
some (.inr s2.2))) N (0,([]:List Int))
def acY(N:Nat):bp:=⟨⟨[(0, .g eo),(1, .l ae)],[],[],0⟩,⟨[(0, .val false (.own 0))],[(0, .own 3 ae)],[],1⟩,fun(x:eo.den×Int)=>M.gW N x.1 x.2⟩
theorem acZ(N:Nat):ax Tryz.prog 163 (acY N):=fw (en [ck (acX N)] false false) (N:=N) (.o (.o (.two (.o (.two (.loop ⟨[(5, .val false (.own 144)),(13, .l ae)],[(144, .own 3 ae)],[],145⟩ (.o (.o (.two (.meet ⟨[(5, .val false (.own 161))],[(161, .own 3 ae)],[144],162⟩ (.o (.o (.meet ⟨[(5, .val false (.own 305))],[(305, .own 3 ae)],[144],306⟩ (.meet ⟨[(40, .l .bool)],[],[],305⟩ .nil .nil) (.meet ⟨[(60, .l .bool)],[],[],306⟩ .nil .nil)))) .nil) .nil)))) .nil)) .nil))) Tryz.func163 (by kernel_rfl) fun x=>by kernel_rfl
def M.dw(N:Nat)(a0:eo.den)(a1:Int):Option Int:=
(M.gW N a0 a1).bind fun y1=>
(if(decide ((y1.length:Int)=0))then
some (-1)
else
(if(decide ((y1.length:Int)=1))then
(idx y1 0).bind fun x2=>
(idx a0.2.2 x2).bind fun x3=>
some x3
else
some (-2)))
def ac0(N:Nat):bp:=⟨⟨[(0, .g eo),(1, .l ae)],[],[],0⟩,⟨[(0, .l ae)],[],[],0⟩,fun(x:eo.den×Int)=>M.dw N x.1 x.2⟩
theorem Wm(N:Nat):ax Tryz.prog 122 (ac0 N):=fw (en [ck (acZ N)] false false) (N:=N) .nil Tryz.func122 (by kernel_rfl) fun x=>by kernel_rfl
def M.iM(N:Nat)(a0:List Int)(a1:List Int)(a2:List Bool):Option (List Int):=
(lB (a0.length:Int) 0).bind fun l1=>
Loop (S:=Int×List Int) (X:=List Int) (fun s2=>
(if(decide (0<=s2.1))then
((M.dw N (a0,(a1,s2.2)) s2.1).bind fun y4=>
(idx s2.2 s2.1).bind fun x5=>
((idx (aH s2.2 s2.1 y4) s2.1).bind fun x7=>
(if(decide (x7=(-1)))then
(idx a2 s2.1).bind fun x8=>
some x8
else
some false):Option Bool).bind fun j6=>
(if j6 then
(idx (aH s2.2 s2.1 y4) s2.1).bind fun x9=>
some (aH (aH s2.2 s2.1 y4) s2.1 s2.1)
else
some (aH s2.2 s2.1 y4)):Option (List Int)).bind fun j3=>
some (.inl (alT.wrap (s2.1-1),j3))
else
some (.inr s2.2))) N (alT.wrap ((a0.length:Int)-1),l1)
def ac1(N:Nat):bp:=⟨⟨[(0, .l (.slice ae)),(1, .l (.slice ae)),(2, .l (.slice .bool))],[],[],0⟩,⟨[(0, .val false (.own 0))],[(0, .own 3 ae)],[],1⟩,fun(x:(List Int)×(List Int)×List Bool)=>M.iM N x.1 x.2.1 x.2.2⟩
theorem ac2(N:Nat):ax Tryz.prog 121 (ac1 N):=fw (en [ck (Wm N)] false false) (N:=N) (.o (.o (.two (.o (.two (.loop ⟨[(8, .l ae)],[(80, .own 3 ae)],[],209⟩ (.o (.two (.meet ⟨[],[(80, .own 3 ae)],[],242⟩ (.o (.meet ⟨[(40, .l .bool)],[],[],369⟩ .nil .nil)) .nil) .nil))) .nil)) .nil))) Tryz.func121 (by kernel_rfl) fun x=>by kernel_rfl
def M.ik(N:Nat)(a0:List Int)(a1:List Int)(a2:List Bool):Option Int:=
((M.iK N a0 a1).bind fun y2=>
(if(!decide (y2=0))then
some true
else
some (!decide ((a2.length:Int)=(a0.length:Int)))):Option Bool).bind fun j1=>
(if j1 then
some (-1)
else
(M.iM N a0 a1 a2).bind fun y3=>
(M.dw N (a0,(a1,y3)) (-1)).bind fun y4=>
some y4)
def S69(N:Nat):bp:=⟨⟨[(0, .l (.slice ae)),(1, .l (.slice ae)),(2, .l (.slice .bool))],[],[],0⟩,⟨[(0, .l ae)],[],[],0⟩,fun(x:(List Int)×(List Int)×List Bool)=>M.ik N x.1 x.2.1 x.2.2⟩
theorem W69(N:Nat):ax Tryz.prog 69 (S69 N):=fw (en [ck (acV N),ck (ac2 N),ck (Wm N)] false false) (N:=N) (.o (.two (.meet ⟨[(17, .l .bool)],[],[],16⟩ .nil .nil) .nil)) Tryz.func69 (by kernel_rfl) fun x=>by kernel_rfl
def M.bO(N:Nat)(a0:bc.den)(a1:cz.den)(a2:Int)(a3:Int):Option (Int×au.den):=
(M.gD N a0.1 a3 a1.1).bind fun y1=>
(lB (y1.1.length:Int) false).bind fun l2=>
bE (J:=List Bool) (R:=Int×au.den) (Loop (S:=Int×List Bool) (X:=(List Bool)⊕(Int×au.den)) (fun s4=>
(if(decide (s4.1<(y1.1.length:Int)))then
bE (J:=List Bool) (R:=(Int×List Bool)⊕((List Bool)⊕(Int×au.den))) ((idx y1.1 s4.1).bind fun x6=>
(M.cB N a0 x6).bind fun y7=>
(idx a0.2.1.2.2.1 y7).bind fun x8=>
(if(decide ((x8.length:Int)=0))then
(idx s4.2 s4.1).bind fun x9=>
some (.inl (aH s4.2 s4.1 true))
else
(M.nh N x8 a1).bind fun oI=>
(if(!decide (oI.2.2=0))then
some (.inr (.inr (.inr (0,(oI.2.2,(a2,(a3,x6)))))))
else
(idx s4.2 s4.1).bind fun o8=>
some (.inl (aH s4.2 s4.1 (decide (oI.1.2.2=1))))))) fun j5=>
some (.inl (alT.wrap (s4.1+1),j5))
else
some (.inr (.inl s4.2)))) N (0,l2)) fun j3=>
(M.ik N y1.2.1 y1.2.2 j3).bind fun qs=>
(if(decide (qs=(-1)))then
some (0,(10,(a2,(a3,(-1)))))
else
(if(decide (qs=(-2)))then
some (0,(11,(a2,(a3,(-1)))))
else
(idx y1.1 qs).bind fun pe=>
(M.cB N a0 pe).bind fun sX=>
some (sX,(0,(0,(0,0))))))
def S42(N:Nat):bp:=⟨⟨[(0, .at bc),(1, .g cz),(2, .l ae),(3, .l ae)],[],[],0⟩,⟨[(0, .l ae),(1, .g au)],[],[],0⟩,fun(x:bc.den×cz.den×Int×Int)=>M.bO N x.1 x.2.1 x.2.2.1 x.2.2.2⟩
theorem W42(N:Nat):ax Tryz.prog 42 (S42 N):=fw (en [ck (W43 N),ck (W67 N),ck (W68 N),ck (W69 N)] false false) (N:=N) (.o (.o (.o (.join ⟨[],[(320, .own 4 .bool)],[],353⟩ (.o (.two (.loop ⟨[(38, .l ae)],[(320, .own 4 .bool)],[],401⟩ (.o (.o (.two (.join ⟨[],[(320, .own 4 .bool)],[],418⟩ .nil .nil) .nil)))) .nil)) .nil)))) Tryz.func42 (by kernel_rfl) fun x=>by kernel_rfl
def M.eK(N:Nat)(a0:bc.den)(a1:Int)(a2:Int)(a3:List af.den)(a4:List av.den):Option (au.den×Int×(List af.den)×(List av.den)×(List Int)×List af.den):=
(lB (a0.1.2.2.2.1.length:Int) (0,(0,0))).bind fun l1=>
(lB (a0.1.2.2.2.1.length:Int) 0).bind fun l2=>
bE (J:=(List af.den)×List Int) (R:=au.den×Int×(List af.den)×(List av.den)×(List Int)×List af.den) (Loop (S:=Int×(List af.den)×List Int) (X:=((List af.den)×List Int)⊕(au.den×Int×(List af.den)×(List av.den)×(List Int)×List af.den)) (fun s4=>
(if(decide (s4.1<(a0.2.1.1.length:Int)))then
(idx a0.2.1.1 s4.1).bind fun x5=>
(M.bO N a0 (a2,(a3,(s4.2.1,(([]:List (List af.den)),(([]:List aa.den),a4))))) a1 x5).bind fun y6=>
(if(!decide (y6.2.1=0))then
some (.inr (.inr (y6.2,a2,a3,a4,([]:List Int),s4.2.1)))
else
(idx a0.2.1.2.2.2 y6.1).bind fun x7=>
(M.nh N x7 (a2,(a3,(s4.2.1,(([]:List (List af.den)),(([]:List aa.den),a4)))))).bind fun y8=>
(if(!decide (y8.2.2=0))then
(idx a0.2.2 y6.1).bind fun x9=>
some (.inr (.inr ((y8.2.2,(a1,(x5,x9))),a2,a3,a4,([]:List Int),s4.2.1)))
else
(idx s4.2.1 x5).bind fun qn=>
(idx a0.2.2 y6.1).bind fun o8=>
(idx s4.2.2 x5).bind fun qA=>
some (.inl (alT.wrap (s4.1+1),aH s4.2.1 x5 y8.1,aH s4.2.2 x5 o8))))
else
some (.inr (.inl (s4.2.1,s4.2.2))))) N (0,l1,l2)) fun j3=>
some ((0,(0,(0,0))),a2,a3,a4,j3.2,j3.1)
def Wn(N:Nat):bp:=⟨⟨[(0, .at bc),(1, .ptr 0 [] 0),(2, .l ae)],[(0, .box 89 (.pair (.leaf ae) (.pair (.leaf (.slice af)) (.pair .nil (.pair .nil (.pair .nil (.leaf (.slice av))))))))],[],1⟩,⟨[(0, .val false (.own 1)),(1, .g au)],[(0, .box 89 (.pair (.leaf ae) (.pair (.leaf (.slice af)) (.pair (.own 2) (.pair .nil (.pair .nil (.leaf (.slice av)))))))),(1, .own 3 ae),(2, .own 76 af)],[],4⟩,fun(x:bc.den×Int×Int×(List af.den)×List av.den)=>M.eK N x.1 x.2.1 x.2.2.1 x.2.2.2.1 x.2.2.2.2⟩
theorem Wo(N:Nat):ax Tryz.prog 21 (Wn N):=fw (en [ck (W42 N),ck (W43 N)] false false) (N:=N) (.o (.o (.o (.join ⟨[],[(145, .own 76 af),(305, .own 3 ae)],[],339⟩ (.o (.two (.loop ⟨[(39, .l ae)],[(145, .own 76 af),(305, .own 3 ae)],[],451⟩ .nil) .nil)) .nil)))) Tryz.func21 (by kernel_rfl) fun x=>by kernel_rfl
def M.eL(N:Nat)(a0:bc.den)(a1:Int)(a2:Int)(a3:List af.den)(a4:List av.den)(a5:List (List af.den))(a6:List aa.den):Option (au.den×Int×(List af.den)×(List av.den)×(List (List af.den))×(List aa.den)×(List Int)×List af.den):=
(lB (a0.1.2.2.2.1.length:Int) (0,(0,0))).bind fun l1=>
(lB (a0.1.2.2.2.1.length:Int) 0).bind fun l2=>
bE (J:=(List af.den)×List Int) (R:=au.den×Int×(List af.den)×(List av.den)×(List (List af.den))×(List aa.den)×(List Int)×List af.den) (Loop (S:=Int×(List af.den)×List Int) (X:=((List af.den)×List Int)⊕(au.den×Int×(List af.den)×(List av.den)×(List (List af.den))×(List aa.den)×(List Int)×List af.den)) (fun s4=>
(if(decide (s4.1<(a0.2.1.1.length:Int)))then
(idx a0.2.1.1 s4.1).bind fun x5=>
(M.bO N a0 (a2,(a3,(s4.2.1,(a5,(a6,a4))))) a1 x5).bind fun y6=>
(if(!decide (y6.2.1=0))then
some (.inr (.inr (y6.2,a2,a3,a4,a5,a6,([]:List Int),s4.2.1)))
else
(idx a0.2.1.2.2.2 y6.1).bind fun x7=>
(M.nh N x7 (a2,(a3,(s4.2.1,(a5,(a6,a4)))))).bind fun y8=>
(if(!decide (y8.2.2=0))then
(idx a0.2.2 y6.1).bind fun x9=>
some (.inr (.inr ((y8.2.2,(a1,(x5,x9))),a2,a3,a4,a5,a6,([]:List Int),s4.2.1)))
else
(idx s4.2.1 x5).bind fun qn=>
(idx a0.2.2 y6.1).bind fun o8=>
(idx s4.2.2 x5).bind fun qA=>
some (.inl (alT.wrap (s4.1+1),aH s4.2.1 x5 y8.1,aH s4.2.2 x5 o8))))
else
some (.inr (.inl (s4.2.1,s4.2.2))))) N (0,l1,l2)) fun j3=>
some ((0,(0,(0,0))),a2,a3,a4,a5,a6,j3.2,j3.1)
def Wq(N:Nat):bp:=⟨⟨[(0, .at bc),(1, .ptr 0 [] 0),(2, .l ae)],[(0, .box 89 (.pair (.leaf ae) (.pair (.leaf (.slice af)) (.pair .nil (.pair (.own 1) (.pair (.own 2) (.leaf (.slice av)))))))),(1, .own 45 (.slice af)),(2, .own 63 aa)],[],3⟩,⟨[(0, .val false (.own 3)),(1, .g au)],[(0, .box 89 (.pair (.leaf ae) (.pair (.leaf (.slice af)) (.pair (.own 4) (.pair (.own 1) (.pair (.own 2) (.leaf (.slice av)))))))),(1, .own 45 (.slice af)),(2, .own 63 aa),(3, .own 3 ae),(4, .own 76 af)],[],8⟩,fun(x:bc.den×Int×Int×(List af.den)×(List av.den)×(List (List af.den))×List aa.den)=>M.eL N x.1 x.2.1 x.2.2.1 x.2.2.2.1 x.2.2.2.2.1 x.2.2.2.2.2.1 x.2.2.2.2.2.2⟩
theorem Wr(N:Nat):ax Tryz.prog 21 (Wq N):=fw (en [ck (W42 N),ck (W43 N)] false false) (N:=N) (.o (.o (.o (.join ⟨[],[(147, .own 76 af),(307, .own 3 ae)],[],341⟩ (.o (.two (.loop ⟨[(39, .l ae)],[(147, .own 76 af),(307, .own 3 ae)],[],453⟩ .nil) .nil)) .nil)))) Tryz.func21 (by kernel_rfl) fun x=>by kernel_rfl
def M.jx(N:Nat)(a0:bU.den)(a1:Int)(a2:eY.den):Option (au.den×(List af.den)×(List Int)×List ai.den):=
(M.gP N a0).bind fun y1=>
(if(!decide (y1.1=0))then
some ((1,((-1),((-1),(-1)))),([]:List af.den),([]:List Int),([]:List ai.den))
else
((if(decide (a1<0))then
some true
else
some (decide ((a0.2.2.length:Int)<=a1))):Option Bool).bind fun j2=>
(if j2 then
some ((6,((-1),((-1),(-1)))),([]:List af.den),([]:List Int),([]:List ai.den))
else
(M.eI N a0 a1 a2).bind fun y3=>
(if(!decide (y3.2.2=0))then
some ((y3.2.2,(y3.1,((-1),(-1)))),([]:List af.den),([]:List Int),([]:List ai.den))
else
bE (J:=Int×(List af.den)×(List av.den)×(List ai.den)×(List (List af.den))×List aa.den) (R:=au.den×(List af.den)×(List Int)×List ai.den) ((idx a0.2.2 a1).bind fun x5=>
(if(decide (0<=x5.2.1))then
(M.cq N a0 x5.2.1 a2.1).bind fun y6=>
(Loop (S:=Int×Int×(List af.den)×(List av.den)×List aa.den) (X:=Int×(List af.den)×(List av.den)×List aa.den) (fun s8=>
(if(decide (s8.1<(y6.1.2.2.2.1.length:Int)))then
(idx y6.1.2.2.2.1 s8.1).bind fun x9=>
(bZ s8.2.2.2.2 ([x9.2]:List aa.den)).bind fun u7=>
some (.inl (alT.wrap (s8.1+1),s8.2.1,s8.2.2.1,s8.2.2.2.1,u7))
else
some (.inr (s8.2.1,s8.2.2.1,s8.2.2.2.1,s8.2.2.2.2)))) N (0,a2.1,a2.2.1,a0.2.1,([]:List aa.den)):Option (Int×(List af.den)×(List av.den)×List aa.den)).bind fun j7=>
Loop (S:=Int×Int×(List af.den)×(List av.den)×(List aa.den)×(List ai.den)×List (List af.den)) (X:=(Int×(List af.den)×(List av.den)×(List ai.den)×(List (List af.den))×List aa.den)⊕(au.den×(List af.den)×(List Int)×List ai.den)) (fun rp=>
(if(decide (rp.1<(a2.2.2.length:Int)))then
(idx a2.2.2 rp.1).bind fun qA=>
(M.eK N y6 rp.1 a2.1 qA a0.2.1).bind fun CP=>
(if(!decide (CP.1.1=0))then
some (.inr (.inr (CP.1,([]:List af.den),([]:List Int),([]:List ai.den))))
else
(bZ rp.2.2.2.2.2.2 ([CP.2.2.2.2.2]:List (List af.den))).bind fun l14=>
(bZ rp.2.2.2.2.2.1 ([(CP.2.2.2.2.2,CP.2.2.2.2.1)]:List ai.den)).bind fun VZ=>
some (.inl (alT.wrap (rp.1+1),rp.2.1,rp.2.2.1,rp.2.2.2.1,rp.2.2.2.2.1,VZ,l14)))
else
some (.inr (.inl (rp.2.1,rp.2.2.1,rp.2.2.2.1,rp.2.2.2.2.2.1,rp.2.2.2.2.2.2,rp.2.2.2.2.1))))) N (0,j7.1,j7.2.1,j7.2.2.1,j7.2.2.2,([]:List ai.den),([]:List (List af.den)))
else
some (.inl (a2.1,a2.2.1,a0.2.1,([]:List ai.den),([]:List (List af.den)),([]:List aa.den))))) fun j4=>
(M.cq N a0 a1 a2.1).bind fun NC=>
(M.eL N NC (-1) j4.1 j4.2.1 j4.2.2.1 j4.2.2.2.2.1 j4.2.2.2.2.2).bind fun xO=>
(if(!decide (xO.1.1=0))then
some (xO.1,([]:List af.den),([]:List Int),([]:List ai.den))
else
some ((0,(0,(0,0))),xO.2.2.2.2.2.2.2,xO.2.2.2.2.2.2.1,j4.2.2.2.1)))))
def S10(N:Nat):bp:=⟨⟨[(0, .g bU),(1, .l ae),(2, .g eY)],[],[],0⟩,⟨[(0, .val true (.pair (.own 0) (.pair (.own 1) (.own 2)))),(1, .g au)],[(0, .own 76 af),(1, .own 3 ae),(2, .own 100 ai)],[],3⟩,fun(x:bU.den×Int×eY.den)=>M.jx N x.1 x.2.1 x.2.2⟩
theorem W10(N:Nat):ax Tryz.prog 10 (S10 N):=fw (en [ck (W16 N),ck (W19 N),ck (W20 N),ck (Wo N),ck (Wr N)] false false) (N:=N) (.o (.o (.two (.meet ⟨[(40, .l .bool)],[],[],176⟩ .nil .nil) (.o (.o (.o (.join ⟨[],[(384, .box 52 (.pair .nil (.pair .nil (.own 544)))),(512, .box 89 (.pair (.leaf ae) (.pair (.leaf (.slice af)) (.pair .nil (.pair (.own 545) (.pair (.own 546) (.leaf (.slice av)))))))),(544, .own 100 ai),(545, .own 45 (.slice af)),(546, .own 63 aa)],[],549⟩ (.o (.o (.two (.o (.meet ⟨[],[(512, .box 89 (.pair (.leaf ae) (.pair (.leaf (.slice af)) (.pair .nil (.pair .nil (.pair (.own 784) (.leaf (.slice av)))))))),(784, .own 63 aa)],[],786⟩ (.o (.two (.loop ⟨[(83, .l ae)],[(512, .box 89 (.pair (.leaf ae) (.pair (.leaf (.slice af)) (.pair .nil (.pair .nil (.pair (.own 896) (.leaf (.slice av)))))))),(896, .own 63 aa)],[],898⟩ .nil) .nil)) (.o (.two (.loop ⟨[(98, .l ae)],[(384, .box 52 (.pair .nil (.pair .nil (.own 850)))),(512, .box 89 (.pair (.leaf ae) (.pair (.leaf (.slice af)) (.pair .nil (.pair (.own 851) (.pair (.own 784) (.leaf (.slice av)))))))),(784, .own 63 aa),(850, .own 100 ai),(851, .own 45 (.slice af))],[],855⟩ .nil) .nil)))) .nil))) .nil))))))) Tryz.func10 (by kernel_rfl) fun x=>by kernel_rfl
def M.mO(N:Nat)(a0:List aa.den):Option (List aw.den):=
some ([((⟨#[104,111,117,115,101]⟩:ByteArray),((-1),(([((⟨#[97]⟩:ByteArray),(3,0))]:List aL.den),(([((⟨#[100]⟩:ByteArray),(3,0))]:List aL.den),([((⟨#[98,97,115,101]⟩:ByteArray),(0,((-1),(0,((0,109573),(([]:List aa.den),(a0,ByteArray.empty)))))))]:List aY.den)))))]:List aw.den)
def S14(N:Nat):bp:=⟨⟨[(0, .l (.slice aa))],[],[],0⟩,⟨[(0, .val true (.pair .nil (.pair .nil (.own 0))))],[(0, .own 69 aw)],[],1⟩,fun(x:List aa.den)=>M.mO N x⟩
theorem W14(N:Nat):ax Tryz.prog 14 (S14 N):=fw (en [] false false) (N:=N) .nil Tryz.func14 (by kernel_rfl) fun x=>by kernel_rfl
def M.w5(N:Nat)(a0:List aa.den)(a1:List aa.den):Option Bool:=
(if(!decide ((a0.length:Int)=(a1.length:Int)))then
some false
else
Loop (S:=Int) (X:=Bool) (fun s1=>
((if(decide (s1<(a0.length:Int)))then
some (decide (s1<(a1.length:Int)))
else
some false):Option Bool).bind fun j2=>
(if j2 then
(idx a0 s1).bind fun x3=>
(idx a1 s1).bind fun x4=>
(if(!(nW aa x3 x4))then
some (.inr false)
else
some (.inl (alT.wrap (s1+1))))
else
some (.inr true))) N 0)
def S15(N:Nat):bp:=⟨⟨[(0, .l (.slice aa)),(1, .l (.slice aa))],[],[],0⟩,⟨[(0, .l .bool)],[],[],0⟩,fun(x:(List aa.den)×List aa.den)=>M.w5 N x.1 x.2⟩
theorem W15(N:Nat):ax Tryz.prog 15 (S15 N):=fw (en [] false false) (N:=N) (.o (.o (.two (.o (.two (.loop ⟨[(5, .l ae)],[],[],112⟩ (.two (.meet ⟨[(20, .l .bool)],[],[],112⟩ .nil .nil) .nil)) .nil)) .nil))) Tryz.func15 (by kernel_rfl) fun x=>by kernel_rfl
def M.mi(N:Nat):Option Bool:=
(M.mO N ([(3,100),(3,200),(11,0)]:List aa.den)).bind fun y1=>
(M.lP N (([]:List bu.den),(([]:List av.den),y1)) 0 0).bind fun y2=>
((if(!decide (y2.2.1=0))then
some true
else
(if(!decide ((y2.2.2.2.2.length:Int)=1))then
some true
else
(idx y2.2.2.2.2 0).bind fun x4=>
(M.w5 N x4 ([(3,300)]:List aa.den)).bind fun y5=>
some (!y5))):Option Bool).bind fun j3=>
(if j3 then
some false
else
(M.jx N (([]:List bu.den),(([]:List av.den),y1)) 0 (0,(([(3,(0,0))]:List af.den),([]:List (List af.den))))).bind fun y6=>
((if(nW au y6.1 (0,(0,(0,0))))then
(if(decide ((y6.2.1.length:Int)=1))then
(idx y6.2.1 0).bind fun x8=>
some (nW af x8 (3,(0,300)))
else
some false)
else
some false):Option Bool).bind fun j7=>
some j7)
def S6(N:Nat):bp:=⟨⟨[],[],[],0⟩,⟨[(0, .l .bool)],[],[],0⟩,fun(x:Unit)=>M.mi N⟩
theorem W6(N:Nat):ax Tryz.prog 6 (S6 N):=fw (en [ck (W7 N),ck (W10 N),ck (W14 N),ck (W15 N)] false false) (N:=N) (.o (.o (.o (.two (.meet ⟨[(33, .l .bool)],[],[],256⟩ .nil .nil) (.o (.meet ⟨[(0, .l .bool)],[],[],448⟩ .nil .nil)))))) Tryz.func6 (by kernel_rfl) fun x=>by kernel_rfl
def M.lf(N:Nat)(a0:eY.den):Option Bool:=
((if(decide (14<(a0.2.1.length:Int)))then
some true
else
some (decide (10<(a0.2.2.length:Int)))):Option Bool).bind fun j1=>
(if j1 then
some false
else
Loop (S:=Int) (X:=Bool) (fun s2=>
(if(decide (s2<(a0.2.2.length:Int)))then
(idx a0.2.2 s2).bind fun x3=>
(if(decide (14<(x3.length:Int)))then
some (.inr false)
else
some (.inl (alT.wrap (s2+1))))
else
some (.inr true))) N 0)
def S9(N:Nat):bp:=⟨⟨[(0, .g eY)],[],[],0⟩,⟨[(0, .l .bool)],[],[],0⟩,fun(x:eY.den)=>M.lf N x⟩
theorem W9(N:Nat):ax Tryz.prog 9 (S9 N):=fw (en [] false false) (N:=N) (.o (.two (.meet ⟨[(13, .l .bool)],[],[],32⟩ .nil .nil) (.two (.o (.two (.loop ⟨[(3, .l ae)],[],[],48⟩ .nil) .nil)) .nil))) Tryz.func9 (by kernel_rfl) fun x=>by kernel_rfl
def M.cm(N:Nat)(a0:bU.den)(a1:Int)(a2:eY.den)(a3:Bool)(a4:Int):Option (au.den):=
(M.gP N a0).bind fun y1=>
(if(!decide (y1.1=0))then
some (1,((-1),((-1),(-1))))
else
((if(decide (a1<0))then
some true
else
(if(decide ((a0.2.2.length:Int)<=a1))then
some true
else
(if a3 then
(if(decide (a4<0))then
some true
else
(idx a0.2.2 a1).bind fun x3=>
some (decide ((x3.2.2.2.1.length:Int)<=a4)))
else
some false))):Option Bool).bind fun j2=>
(if j2 then
some (6,((-1),((-1),(-1))))
else
(M.eI N a0 a1 a2).bind fun y4=>
(if(!decide (y4.2.2=0))then
some (y4.2.2,(y4.1,((-1),(-1))))
else
some (0,(0,(0,0))))))
def S22(N:Nat):bp:=⟨⟨[(0, .g bU),(1, .l ae),(2, .g eY),(3, .l .bool),(4, .l ae)],[],[],0⟩,⟨[(0, .g au)],[],[],0⟩,fun(x:bU.den×Int×eY.den×Bool×Int)=>M.cm N x.1 x.2.1 x.2.2.1 x.2.2.2.1 x.2.2.2.2⟩
theorem W22(N:Nat):ax Tryz.prog 22 (S22 N):=fw (en [ck (W16 N),ck (W19 N)] false false) (N:=N) (.o (.o (.two (.meet ⟨[(47, .l .bool)],[],[],160⟩ .nil .nil) .nil))) Tryz.func22 (by kernel_rfl) fun x=>by kernel_rfl
def M.il(N:Nat)(a0:bU.den)(a1:Int):Option (aw.den×aw.den×(List Bool)×List Bool):=
(idx a0.2.2 a1).bind fun x1=>
(lB (x1.2.2.2.1.length:Int) false).bind fun l2=>
((if(decide (0<=x1.2.1))then
(idx a0.2.2 x1.2.1).bind fun x4=>
(lB (x4.2.2.2.1.length:Int) false).bind fun l5=>
some (x1,x4.1,x4.2.1,x4.2.2.1,x4.2.2.2.1,x4.2.2.2.2,l2,l5)
else
some (x1,ByteArray.empty,0,([]:List aL.den),([]:List aL.den),([]:List aY.den),l2,([]:List Bool))):Option (aw.den×ByteArray×Int×(List aL.den)×(List aL.den)×(List aY.den)×(List Bool)×List Bool)).bind fun j3=>
some (j3.1,(j3.2.1,(j3.2.2.1,(j3.2.2.2.1,(j3.2.2.2.2.1,j3.2.2.2.2.2.1)))),j3.2.2.2.2.2.2.1,j3.2.2.2.2.2.2.2)
def S23(N:Nat):bp:=⟨⟨[(0, .g bU),(1, .l ae)],[],[],0⟩,⟨[(0, .ptr 0 [] 0)],[(0, .box 106 (.pair (.leaf aw) (.pair (.leaf aw) (.pair (.own 1) (.own 2))))),(1, .own 4 .bool),(2, .own 4 .bool)],[],3⟩,fun(x:bU.den×Int)=>M.il N x.1 x.2⟩
theorem W23(N:Nat):ax Tryz.prog 23 (S23 N):=fw (en [] false false) (N:=N) (.o (.o (.o (.meet ⟨[],[(128, .box 106 (.pair (.leaf aw) (.pair (.pair (.leaf .str) (.pair (.leaf ae) (.pair (.leaf (.slice aL)) (.pair (.leaf (.slice aL)) (.leaf (.slice aY)))))) (.pair (.own 272) (.own 336))))),(272, .own 4 .bool),(336, .own 4 .bool)],[],339⟩ .nil .nil)))) Tryz.func23 (by kernel_rfl) fun x=>by kernel_rfl
def M.eM(N:Nat)(a0:bq.den)(a1:Int):Option (List Int):=
(idx a0.1 a1).bind fun x1=>
(M.dC N x1.1).bind fun y2=>
(lB y2 0).bind fun l3=>
Loop (S:=Int×Int×List Int) (X:=List Int) (fun s4=>
(if(decide (0<=s4.2.1))then
(idx s4.2.2 s4.2.1).bind fun x5=>
(idx a0.2.1 s4.1).bind fun x6=>
some (.inl (alT.wrap (x6-1),alT.wrap (s4.2.1-1),aH s4.2.2 s4.2.1 s4.1))
else
some (.inr s4.2.2))) N (alT.wrap (a1-1),alT.wrap ((l3.length:Int)-1),l3)
def ac3(N:Nat):bp:=⟨⟨[(0, .g bq),(1, .l ae)],[],[],0⟩,⟨[(0, .val false (.own 0))],[(0, .own 3 ae)],[],1⟩,fun(x:bq.den×Int)=>M.eM N x.1 x.2⟩
theorem ac4(N:Nat):ax Tryz.prog 175 (ac3 N):=fw (en [ck (Nz N)] false false) (N:=N) (.o (.o (.o (.two (.o (.two (.loop ⟨[(6, .l ae),(7, .l ae)],[(144, .own 3 ae)],[],289⟩ .nil) .nil)) .nil)))) Tryz.func175 (by kernel_rfl) fun x=>by kernel_rfl
mutual
def M.bJ(B:Nat):Nat->bq.den->Int->Option (af.den×Int)
 |0,_,_=>none
 |N+1,a0,a1=>
  (idx a0.1 a1).bind fun x2=>
  (M.eM B a0 a1).bind fun y4=>
  ((if(decide (x2.1=23))then
  some (decide (x2.1=23))
  else
  (if(decide (x2.1=24))then
  some (decide (x2.1=24))
  else
  some (decide (x2.1=26)))):Option Bool).bind fun qS=>
  (if qS then
  (M.iC B N a0 x2 y4).bind fun lJ=>
  some (lJ.1,lJ.2)
  else
  (lB (y4.length:Int) (0,(0,0))).bind fun Vy=>
  bE (J:=List af.den) (R:=af.den×Int) (Loop (S:=Int×List af.den) (X:=(List af.den)⊕(af.den×Int)) (fun Qv=>
  (if(decide (Qv.1<(y4.length:Int)))then
  (idx y4 Qv.1).bind fun x46=>
  (M.bJ B N a0 x46).bind fun y47=>
  (if(!decide (y47.2=0))then
  some (.inr (.inr ((0,(0,0)),y47.2)))
  else
  (idx Qv.2 Qv.1).bind fun x48=>
  some (.inl (alT.wrap (Qv.1+1),aH Qv.2 Qv.1 y47.1)))
  else
  some (.inr (.inl Qv.2)))) B (0,Vy)) fun j44=>
  (M.bL B x2 j44 a0.2.2).bind fun y50=>
  some (y50.1,y50.2))
def M.iC(B:Nat):Nat->bq.den->aa.den->(List Int)->Option (af.den×Int)
 |0,_,_,_=>none
 |N+1,a0,a1,a2=>
  (if(!decide (a1.2=0))then
  some ((0,(0,0)),2)
  else
  (idx a2 0).bind fun x3=>
  (M.dx B N a0 x3).bind fun y4=>
  (if(!decide (y4.2=0))then
  some ((0,(0,0)),y4.2)
  else
  ((if(decide (a1.1=26))then
  some (decide (y4.1.2.2=1))
  else
  some false):Option Bool).bind fun Qr=>
  (if Qr then
  (idx a2 1).bind fun Vb=>
  (M.bJ B N a0 Vb).bind fun OP=>
  some (OP.1,OP.2)
  else
  (if(decide (a1.1=26))then
  (idx a2 2).bind fun RU=>
  (M.bJ B N a0 RU).bind fun VF=>
  some (VF.1,VF.2)
  else
  (if(decide ((decide (a1.1=23))=(decide (y4.1.2.2=0))))then
  some (y4.1,0)
  else
  (idx a2 1).bind fun x26=>
  (M.dx B N a0 x26).bind fun y27=>
  some (y27.1,y27.2))))))
def M.dx(B:Nat):Nat->bq.den->Int->Option (af.den×Int)
 |0,_,_=>none
 |N+1,a0,a1=>
  (M.bJ B N a0 a1).bind fun y2=>
  (if(!decide (y2.2=0))then
  some ((0,(0,0)),y2.2)
  else
  ((if(!decide (y2.1.1=1))then
  some true
  else
  (M.cI B y2.1).bind fun y7=>
  some (!y7)):Option Bool).bind fun j6=>
  (if j6 then
  some ((0,(0,0)),8)
  else
  some (y2.1,0)))
end
def M.jI(N:Nat)(a0:bq.den)(a1:Int):Option (af.den×Int):=M.bJ N N a0 a1
def ac6(N:Nat):bp:=⟨⟨[(0, .g bq),(1, .l ae)],[],[],0⟩,⟨[(0, .g af),(1, .l ae)],[],[],0⟩,fun(x:bq.den×Int)=>M.jI N x.1 x.2⟩
def ac7(B N:Nat):bp:={inn:=⟨[(0, .g bq),(1, .l ae)],[],[],0⟩,out:=⟨[(0, .g af),(1, .l ae)],[],[],0⟩,fn:=fun(x:bq.den×Int)=>M.bJ B N x.1 x.2}
def ac8(B N:Nat):bp:={inn:=⟨[(0, .g bq),(1, .g aa),(2, .l (.slice ae))],[],[],0⟩,out:=⟨[(0, .g af),(1, .l ae)],[],[],0⟩,fn:=fun(x:bq.den×aa.den×List Int)=>M.iC B N x.1 x.2.1 x.2.2}
def ac9(B N:Nat):bp:={inn:=⟨[(0, .g bq),(1, .l ae)],[],[],0⟩,out:=⟨[(0, .g af),(1, .l ae)],[],[],0⟩,fn:=fun(x:bq.den×Int)=>M.dx B N x.1 x.2}
theorem zj(B:Nat):∀N,ax Tryz.prog 129 (ac7 B N)/\ax Tryz.prog 176 (ac8 B N)/\ax Tryz.prog 197 (ac9 B N)
 |0=>⟨vA Tryz.func129 (by kernel_rfl) (by kernel_rfl) fun _=>rfl,vA Tryz.func176 (by kernel_rfl) (by kernel_rfl) fun _=>rfl,vA Tryz.func197 (by kernel_rfl) (by kernel_rfl) fun _=>rfl⟩
 |N+1=>⟨fw (en [ck (W71 B),ck ((zj B N).1),ck (ac4 B),ck ((zj B N).2.1)] false false) (N:=B) (.o (.o (.o (.two (.o (.two (.meet ⟨[(23, .l .bool)],[],[],256⟩ .nil .nil) .nil)) (.o (.join ⟨[],[(288, .own 76 af)],[],321⟩ (.o (.two (.loop ⟨[(38, .l ae)],[(288, .own 76 af)],[],369⟩ .nil) .nil)) .nil)))))) Tryz.func129 (by kernel_rfl) fun x=>by kernel_rfl,
  fw (en [ck ((zj B N).1),ck ((zj B N).2.2)] false false) (N:=B) (.o (.o (.o (.o (.two (.two (.meet ⟨[(26, .l .bool)],[],[],320⟩ .nil .nil) .nil) .nil))))) Tryz.func176 (by kernel_rfl) fun x=>by kernel_rfl,
  fw (en [ck (I4 B),ck ((zj B N).1)] false false) (N:=B) (.o (.o (.o (.two (.meet ⟨[(25, .l .bool)],[],[],224⟩ .nil .nil) .nil)))) Tryz.func197 (by kernel_rfl) fun x=>by kernel_rfl⟩
theorem ada(N:Nat):ax Tryz.prog 129 (ac6 N):=(zj N N).1
def M.iy(N:Nat)(a0:List aa.den)(a1:cz.den):Option (af.den×Int):=
(M.gM N a0).bind fun y1=>
(if(!decide (y1.1=0))then
some ((0,(0,0)),y1.1)
else
(M.jI N (a0,(y1.2,a1)) (alT.wrap ((a0.length:Int)-1))).bind fun y2=>
some (y2.1,y2.2))
def S73(N:Nat):bp:=⟨⟨[(0, .l (.slice aa)),(1, .g cz)],[],[],0⟩,⟨[(0, .g af),(1, .l ae)],[],[],0⟩,fun(x:(List aa.den)×cz.den)=>M.iy N x.1 x.2⟩
theorem W73(N:Nat):ax Tryz.prog 73 (S73 N):=fw (en [ck (R9 N),ck (ada N)] false false) (N:=N) .nil Tryz.func73 (by kernel_rfl) fun x=>by kernel_rfl
def M.eV(N:Nat)(a0:aw.den)(a1:cz.den)(a2:Int)(a3:Int):Option (Int×au.den):=
(M.gD N a0 a3 a1.1).bind fun y1=>
(lB (y1.1.length:Int) false).bind fun l2=>
bE (J:=List Bool) (R:=Int×au.den) (Loop (S:=Int×List Bool) (X:=(List Bool)⊕(Int×au.den)) (fun s4=>
(if(decide (s4.1<(y1.1.length:Int)))then
bE (J:=List Bool) (R:=(Int×List Bool)⊕((List Bool)⊕(Int×au.den))) ((idx y1.1 s4.1).bind fun x6=>
(idx a0.2.2.2.2 x6).bind fun x7=>
(if(decide ((x7.2.2.2.2.2.1.length:Int)=0))then
(idx s4.2 s4.1).bind fun x8=>
some (.inl (aH s4.2 s4.1 true))
else
(idx a0.2.2.2.2 x6).bind fun x9=>
(M.iy N x9.2.2.2.2.2.1 a1).bind fun oI=>
(if(!decide (oI.2=0))then
some (.inr (.inr (.inr (0,(oI.2,(a2,(a3,x6)))))))
else
(idx s4.2 s4.1).bind fun o8=>
some (.inl (aH s4.2 s4.1 (decide (oI.1.2.2=1))))))) fun j5=>
some (.inl (alT.wrap (s4.1+1),j5))
else
some (.inr (.inl s4.2)))) N (0,l2)) fun j3=>
(M.ik N y1.2.1 y1.2.2 j3).bind fun qs=>
(if(decide (qs<0))then
some (qs,(0,(0,(0,0))))
else
(idx y1.1 qs).bind fun pe=>
some (pe,(0,(0,(0,0)))))
def S72(N:Nat):bp:=⟨⟨[(0, .g aw),(1, .g cz),(2, .l ae),(3, .l ae)],[],[],0⟩,⟨[(0, .l ae),(1, .g au)],[],[],0⟩,fun(x:aw.den×cz.den×Int×Int)=>M.eV N x.1 x.2.1 x.2.2.1 x.2.2.2⟩
theorem W72(N:Nat):ax Tryz.prog 72 (S72 N):=fw (en [ck (W67 N),ck (W69 N),ck (W73 N)] false false) (N:=N) (.o (.o (.o (.join ⟨[],[(288, .own 4 .bool)],[],321⟩ (.o (.two (.loop ⟨[(33, .l ae)],[(288, .own 4 .bool)],[],369⟩ (.o (.o (.two (.join ⟨[],[(288, .own 4 .bool)],[],386⟩ .nil .nil) .nil)))) .nil)) .nil)))) Tryz.func72 (by kernel_rfl) fun x=>by kernel_rfl
def M.eN(N:Nat)(a0:aw.den)(a1:Int)(a2:Int)(a3:List af.den)(a4:List av.den)(a5:List Bool):Option (au.den×Int×(List af.den)×(List av.den)×(List Bool)×(List Int)×List af.den):=
(lB (a0.2.2.2.1.length:Int) (0,(0,0))).bind fun l1=>
(lB (a0.2.2.2.1.length:Int) 0).bind fun l2=>
(M.cA N a0).bind fun y3=>
bE (J:=(List af.den)×List Int) (R:=au.den×Int×(List af.den)×(List av.den)×(List Bool)×(List Int)×List af.den) (Loop (S:=Int×(List af.den)×List Int) (X:=((List af.den)×List Int)⊕(au.den×Int×(List af.den)×(List av.den)×(List Bool)×(List Int)×List af.den)) (fun s5=>
(if(decide (s5.1<(y3.2.length:Int)))then
bE (J:=(List af.den)×List Int) (R:=(Int×(List af.den)×List Int)⊕(((List af.den)×List Int)⊕(au.den×Int×(List af.den)×(List av.den)×(List Bool)×(List Int)×List af.den))) ((idx y3.2 s5.1).bind fun x7=>
(idx a5 x7).bind fun x8=>
(if(!x8)then
some (.inl (s5.2.1,s5.2.2))
else
(M.eV N a0 (a2,(a3,(s5.2.1,(([]:List (List af.den)),(([]:List aa.den),a4))))) a1 x7).bind fun y9=>
(if(!decide (y9.2.1=0))then
some (.inr (.inr (.inr (y9.2,a2,a3,a4,a5,([]:List Int),s5.2.1))))
else
(if(decide (y9.1=(-1)))then
some (.inr (.inr (.inr ((10,(a1,(x7,(-1)))),a2,a3,a4,a5,([]:List Int),s5.2.1))))
else
(if(decide (y9.1=(-2)))then
some (.inr (.inr (.inr ((11,(a1,(x7,(-1)))),a2,a3,a4,a5,([]:List Int),s5.2.1))))
else
(idx a0.2.2.2.2 y9.1).bind fun qn=>
(M.iy N qn.2.2.2.2.2.2.1 (a2,(a3,(s5.2.1,(([]:List (List af.den)),(([]:List aa.den),a4)))))).bind fun lJ=>
(if(!decide (lJ.2=0))then
some (.inr (.inr (.inr ((lJ.2,(a1,(x7,y9.1))),a2,a3,a4,a5,([]:List Int),s5.2.1))))
else
(idx s5.2.1 x7).bind fun qA=>
(idx s5.2.2 x7).bind fun pe=>
some (.inl (aH s5.2.1 x7 lJ.1,aH s5.2.2 x7 y9.1)))))))) fun j6=>
some (.inl (alT.wrap (s5.1+1),j6.1,j6.2))
else
some (.inr (.inl (s5.2.1,s5.2.2))))) N (0,l1,l2)) fun j4=>
some ((0,(0,(0,0))),a2,a3,a4,a5,j4.2,j4.1)
def Ws(N:Nat):bp:=⟨⟨[(0, .g aw),(1, .ptr 0 [] 0),(2, .l ae),(3, .val false (.own 1))],[(0, .box 89 (.pair (.leaf ae) (.pair (.leaf (.slice af)) (.pair .nil (.pair .nil (.pair .nil (.leaf (.slice av)))))))),(1, .own 4 .bool)],[],2⟩,⟨[(0, .val false (.own 2)),(1, .g au)],[(0, .box 89 (.pair (.leaf ae) (.pair (.leaf (.slice af)) (.pair (.own 3) (.pair .nil (.pair .nil (.leaf (.slice av)))))))),(1, .own 4 .bool),(2, .own 3 ae),(3, .own 76 af)],[],6⟩,fun(x:aw.den×Int×Int×(List af.den)×(List av.den)×List Bool)=>M.eN N x.1 x.2.1 x.2.2.1 x.2.2.2.1 x.2.2.2.2.1 x.2.2.2.2.2⟩
theorem Wt(N:Nat):ax Tryz.prog 44 (Ws N):=fw (en [ck (W31 N),ck (W72 N),ck (W73 N)] false false) (N:=N) (.o (.o (.o (.o (.join ⟨[],[(114, .own 76 af),(226, .own 3 ae)],[],372⟩ (.o (.two (.loop ⟨[(37, .l ae)],[(114, .own 76 af),(226, .own 3 ae)],[],420⟩ (.o (.o (.two (.join ⟨[],[(114, .own 76 af),(226, .own 3 ae)],[],438⟩ .nil .nil) .nil)))) .nil)) .nil))))) Tryz.func44 (by kernel_rfl) fun x=>by kernel_rfl
def M.eP(N:Nat)(a0:aw.den)(a1:Int)(a2:Int)(a3:List af.den)(a4:List av.den)(a5:List (List af.den))(a6:List aa.den)(a7:List Bool):Option (au.den×Int×(List af.den)×(List av.den)×(List (List af.den))×(List aa.den)×(List Bool)×(List Int)×List af.den):=
(lB (a0.2.2.2.1.length:Int) (0,(0,0))).bind fun l1=>
(lB (a0.2.2.2.1.length:Int) 0).bind fun l2=>
(M.cA N a0).bind fun y3=>
bE (J:=(List af.den)×List Int) (R:=au.den×Int×(List af.den)×(List av.den)×(List (List af.den))×(List aa.den)×(List Bool)×(List Int)×List af.den) (Loop (S:=Int×(List af.den)×List Int) (X:=((List af.den)×List Int)⊕(au.den×Int×(List af.den)×(List av.den)×(List (List af.den))×(List aa.den)×(List Bool)×(List Int)×List af.den)) (fun s5=>
(if(decide (s5.1<(y3.2.length:Int)))then
bE (J:=(List af.den)×List Int) (R:=(Int×(List af.den)×List Int)⊕(((List af.den)×List Int)⊕(au.den×Int×(List af.den)×(List av.den)×(List (List af.den))×(List aa.den)×(List Bool)×(List Int)×List af.den))) ((idx y3.2 s5.1).bind fun x7=>
(idx a7 x7).bind fun x8=>
(if(!x8)then
some (.inl (s5.2.1,s5.2.2))
else
(M.eV N a0 (a2,(a3,(s5.2.1,(a5,(a6,a4))))) a1 x7).bind fun y9=>
(if(!decide (y9.2.1=0))then
some (.inr (.inr (.inr (y9.2,a2,a3,a4,a5,a6,a7,([]:List Int),s5.2.1))))
else
(if(decide (y9.1=(-1)))then
some (.inr (.inr (.inr ((10,(a1,(x7,(-1)))),a2,a3,a4,a5,a6,a7,([]:List Int),s5.2.1))))
else
(if(decide (y9.1=(-2)))then
some (.inr (.inr (.inr ((11,(a1,(x7,(-1)))),a2,a3,a4,a5,a6,a7,([]:List Int),s5.2.1))))
else
(idx a0.2.2.2.2 y9.1).bind fun qn=>
(M.iy N qn.2.2.2.2.2.2.1 (a2,(a3,(s5.2.1,(a5,(a6,a4)))))).bind fun lJ=>
(if(!decide (lJ.2=0))then
some (.inr (.inr (.inr ((lJ.2,(a1,(x7,y9.1))),a2,a3,a4,a5,a6,a7,([]:List Int),s5.2.1))))
else
(idx s5.2.1 x7).bind fun qA=>
(idx s5.2.2 x7).bind fun pe=>
some (.inl (aH s5.2.1 x7 lJ.1,aH s5.2.2 x7 y9.1)))))))) fun j6=>
some (.inl (alT.wrap (s5.1+1),j6.1,j6.2))
else
some (.inr (.inl (s5.2.1,s5.2.2))))) N (0,l1,l2)) fun j4=>
some ((0,(0,(0,0))),a2,a3,a4,a5,a6,a7,j4.2,j4.1)
def Wu(N:Nat):bp:=⟨⟨[(0, .g aw),(1, .ptr 0 [] 0),(2, .l ae),(3, .val false (.own 3))],[(0, .box 89 (.pair (.leaf ae) (.pair (.leaf (.slice af)) (.pair .nil (.pair (.own 1) (.pair (.own 2) (.leaf (.slice av)))))))),(1, .own 45 (.slice af)),(2, .own 63 aa),(3, .own 4 .bool)],[],4⟩,⟨[(0, .val false (.own 4)),(1, .g au)],[(0, .box 89 (.pair (.leaf ae) (.pair (.leaf (.slice af)) (.pair (.own 5) (.pair (.own 1) (.pair (.own 2) (.leaf (.slice av)))))))),(1, .own 45 (.slice af)),(2, .own 63 aa),(3, .own 4 .bool),(4, .own 3 ae),(5, .own 76 af)],[],10⟩,fun(x:aw.den×Int×Int×(List af.den)×(List av.den)×(List (List af.den))×(List aa.den)×List Bool)=>M.eP N x.1 x.2.1 x.2.2.1 x.2.2.2.1 x.2.2.2.2.1 x.2.2.2.2.2.1 x.2.2.2.2.2.2.1 x.2.2.2.2.2.2.2⟩
theorem Wv(N:Nat):ax Tryz.prog 44 (Wu N):=fw (en [ck (W31 N),ck (W72 N),ck (W73 N)] false false) (N:=N) (.o (.o (.o (.o (.join ⟨[],[(116, .own 76 af),(228, .own 3 ae)],[],374⟩ (.o (.two (.loop ⟨[(37, .l ae)],[(116, .own 76 af),(228, .own 3 ae)],[],422⟩ (.o (.o (.two (.join ⟨[],[(116, .own 76 af),(228, .own 3 ae)],[],440⟩ .nil .nil) .nil)))) .nil)) .nil))))) Tryz.func44 (by kernel_rfl) fun x=>by kernel_rfl
def M.kz(N:Nat)(a0:bU.den)(a1:Int)(a2:eY.den)(a3:aw.den)(a4:aw.den)(a5:List Bool)(a6:List Bool):Option (Int×(List af.den)×(List av.den)×au.den×aw.den×aw.den×(List Bool)×(List Bool)×(List af.den)×(List Int)×(List ai.den)×(List (List af.den))×List aa.den):=
(Loop (S:=Int×Int×(List af.den)×(List av.den)×List aa.den) (X:=Int×(List af.den)×(List av.den)×List aa.den) (fun s2=>
(if(decide (s2.1<(a4.2.2.2.1.length:Int)))then
(idx a4.2.2.2.1 s2.1).bind fun x3=>
(bZ s2.2.2.2.2 ([x3.2]:List aa.den)).bind fun l4=>
some (.inl (alT.wrap (s2.1+1),s2.2.1,s2.2.2.1,s2.2.2.2.1,l4))
else
some (.inr (s2.2.1,s2.2.2.1,s2.2.2.2.1,s2.2.2.2.2)))) N (0,a2.1,a2.2.1,a0.2.1,([]:List aa.den)):Option (Int×(List af.den)×(List av.den)×List aa.den)).bind fun j1=>
bE (J:=(List Bool)×Int×(List af.den)×(List av.den)×(List aa.den)×(List (List af.den))×List ai.den) (R:=Int×(List af.den)×(List av.den)×au.den×aw.den×aw.den×(List Bool)×(List Bool)×(List af.den)×(List Int)×(List ai.den)×(List (List af.den))×List aa.den) (Loop (S:=Int×(List Bool)×Int×(List af.den)×(List av.den)×(List aa.den)×(List (List af.den))×List ai.den) (X:=((List Bool)×Int×(List af.den)×(List av.den)×(List aa.den)×(List (List af.den))×List ai.den)⊕(Int×(List af.den)×(List av.den)×au.den×aw.den×aw.den×(List Bool)×(List Bool)×(List af.den)×(List Int)×(List ai.den)×(List (List af.den))×List aa.den)) (fun s6=>
(if(decide (s6.1<(a2.2.2.length:Int)))then
(idx a2.2.2 s6.1).bind fun x7=>
(M.eN N a4 s6.1 a2.1 x7 a0.2.1 s6.2.1).bind fun y8=>
(if(!decide (y8.1.1=0))then
some (.inr (.inr (0,([]:List af.den),([]:List av.den),y8.1,a3,a4,a5,y8.2.2.2.2.1,([]:List af.den),([]:List Int),([]:List ai.den),([]:List (List af.den)),([]:List aa.den))))
else
(bZ s6.2.2.2.2.2.2.1 ([y8.2.2.2.2.2.2]:List (List af.den))).bind fun l9=>
(bZ s6.2.2.2.2.2.2.2 ([(y8.2.2.2.2.2.2,y8.2.2.2.2.2.1)]:List ai.den)).bind fun u7=>
some (.inl (alT.wrap (s6.1+1),y8.2.2.2.2.1,s6.2.2.1,s6.2.2.2.1,s6.2.2.2.2.1,s6.2.2.2.2.2.1,l9,u7)))
else
some (.inr (.inl (s6.2.1,s6.2.2.1,s6.2.2.2.1,s6.2.2.2.2.1,s6.2.2.2.2.2.1,s6.2.2.2.2.2.2.1,s6.2.2.2.2.2.2.2))))) N (0,a6,j1.1,j1.2.1,j1.2.2.1,j1.2.2.2,([]:List (List af.den)),([]:List ai.den))) fun j5=>
(M.eP N a3 (-1) j5.2.1 j5.2.2.1 j5.2.2.2.1 j5.2.2.2.2.2.1 j5.2.2.2.2.1 a5).bind fun lJ=>
(if(!decide (lJ.1.1=0))then
some (0,([]:List af.den),([]:List av.den),lJ.1,a3,a4,lJ.2.2.2.2.2.2.1,j5.1,([]:List af.den),([]:List Int),([]:List ai.den),([]:List (List af.den)),([]:List aa.den))
else
some (lJ.2.1,lJ.2.2.1,lJ.2.2.2.1,(0,(0,(0,0))),a3,a4,lJ.2.2.2.2.2.2.1,j5.1,lJ.2.2.2.2.2.2.2.2,lJ.2.2.2.2.2.2.2.1,j5.2.2.2.2.2.2,lJ.2.2.2.2.1,lJ.2.2.2.2.2.1))
def Ww(N:Nat):bp:=⟨⟨[(0, .g bU),(1, .l ae),(2, .g eY),(3, .ptr 0 [] 0)],[(0, .box 106 (.pair (.leaf aw) (.pair (.leaf aw) (.pair (.own 1) (.own 2))))),(1, .own 4 .bool),(2, .own 4 .bool)],[],3⟩,⟨[(0, .val true (.pair (.own 3) (.pair (.own 4) (.own 5)))),(1, .val true (.pair (.leaf ae) (.pair (.leaf (.slice af)) (.pair (.own 3) (.pair (.own 6) (.pair (.own 7) (.leaf (.slice av)))))))),(2, .g au)],[(0, .box 106 (.pair (.leaf aw) (.pair (.leaf aw) (.pair (.own 1) (.own 2))))),(1, .own 4 .bool),(2, .own 4 .bool),(3, .own 76 af),(4, .own 3 ae),(5, .own 100 ai),(6, .own 45 (.slice af)),(7, .own 63 aa)],[],11⟩,fun(x:bU.den×Int×eY.den×aw.den×aw.den×(List Bool)×List Bool)=>M.kz N x.1 x.2.1 x.2.2.1 x.2.2.2.1 x.2.2.2.2.1 x.2.2.2.2.2.1 x.2.2.2.2.2.2⟩
theorem Wx(N:Nat):ax Tryz.prog 24 (Ww N):=fw (en [ck (Wt N),ck (Wv N)] false false) (N:=N) (.o (.o (.o (.meet ⟨[],[(195, .box 89 (.pair (.leaf ae) (.pair (.leaf (.slice af)) (.pair .nil (.pair .nil (.pair (.own 243) (.leaf (.slice av)))))))),(243, .own 63 aa)],[],245⟩ (.o (.two (.loop ⟨[(35, .l ae)],[(195, .box 89 (.pair (.leaf ae) (.pair (.leaf (.slice af)) (.pair .nil (.pair .nil (.pair (.own 355) (.leaf (.slice av)))))))),(355, .own 63 aa)],[],357⟩ .nil) .nil)) (.join ⟨[],[(2, .own 4 .bool),(195, .box 89 (.pair (.leaf ae) (.pair (.leaf (.slice af)) (.pair .nil (.pair (.own 245) (.pair (.own 243) (.leaf (.slice av)))))))),(227, .box 52 (.pair .nil (.pair .nil (.own 246)))),(243, .own 63 aa),(245, .own 45 (.slice af)),(246, .own 100 ai)],[],251⟩ (.o (.two (.loop ⟨[(50, .l ae)],[(2, .own 4 .bool),(195, .box 89 (.pair (.leaf ae) (.pair (.leaf (.slice af)) (.pair .nil (.pair (.own 309) (.pair (.own 243) (.leaf (.slice av)))))))),(227, .box 52 (.pair .nil (.pair .nil (.own 310)))),(243, .own 63 aa),(309, .own 45 (.slice af)),(310, .own 100 ai)],[],315⟩ .nil) .nil)) .nil))))) Tryz.func24 (by kernel_rfl) fun x=>by kernel_rfl
def M.oK(N:Nat)(a0:bU.den)(a1:Int)(a2:eY.den):Option (au.den×(List af.den)×(List Int)×List ai.den):=
(M.cm N a0 a1 a2 false 0).bind fun y1=>
(if(!decide (y1.1=0))then
some (y1,([]:List af.den),([]:List Int),([]:List ai.den))
else
(M.il N a0 a1).bind fun y2=>
(Loop (S:=Int×List Bool) (X:=List Bool) (fun s4=>
(if(decide (s4.1<(y2.2.2.1.length:Int)))then
(idx s4.2 s4.1).bind fun x5=>
some (.inl (alT.wrap (s4.1+1),aH s4.2 s4.1 true))
else
some (.inr s4.2))) N (0,y2.2.2.1):Option (List Bool)).bind fun j3=>
(Loop (S:=Int×List Bool) (X:=List Bool) (fun s7=>
(if(decide (s7.1<(y2.2.2.2.length:Int)))then
(idx s7.2 s7.1).bind fun x8=>
some (.inl (alT.wrap (s7.1+1),aH s7.2 s7.1 true))
else
some (.inr s7.2))) N (0,y2.2.2.2):Option (List Bool)).bind fun j6=>
(M.kz N a0 a1 a2 y2.1 y2.2.1 j3 j6).bind fun y9=>
some (y9.2.2.2.1,y9.2.2.2.2.2.2.2.2.1,y9.2.2.2.2.2.2.2.2.2.1,y9.2.2.2.2.2.2.2.2.2.2.1))
def S11(N:Nat):bp:=⟨⟨[(0, .g bU),(1, .l ae),(2, .g eY)],[],[],0⟩,⟨[(0, .val true (.pair (.own 0) (.pair (.own 1) (.own 2)))),(1, .g au)],[(0, .own 76 af),(1, .own 3 ae),(2, .own 100 ai)],[],3⟩,fun(x:bU.den×Int×eY.den)=>M.oK N x.1 x.2.1 x.2.2⟩
theorem W11(N:Nat):ax Tryz.prog 11 (S11 N):=fw (en [ck (W22 N),ck (W23 N),ck (Wx N)] false false) (N:=N) (.o (.o (.o (.meet ⟨[],[(241, .own 4 .bool)],[],273⟩ (.o (.two (.loop ⟨[(32, .l ae)],[(241, .own 4 .bool)],[],369⟩ .nil) .nil)) (.meet ⟨[],[(242, .own 4 .bool)],[],274⟩ (.o (.two (.loop ⟨[(47, .l ae)],[(242, .own 4 .bool)],[],370⟩ .nil) .nil)) .nil))))) Tryz.func11 (by kernel_rfl) fun x=>by kernel_rfl
def M.mj(N:Nat)(a0:List af.den)(a1:List af.den):Option Bool:=
(if(!decide ((a0.length:Int)=(a1.length:Int)))then
some false
else
Loop (S:=Int) (X:=Bool) (fun s1=>
((if(decide (s1<(a0.length:Int)))then
some (decide (s1<(a1.length:Int)))
else
some false):Option Bool).bind fun j2=>
(if j2 then
(idx a0 s1).bind fun x3=>
(idx a1 s1).bind fun x4=>
(if(!(nW af x3 x4))then
some (.inr false)
else
some (.inl (alT.wrap (s1+1))))
else
some (.inr true))) N 0)
def S25(N:Nat):bp:=⟨⟨[(0, .l (.slice af)),(1, .l (.slice af))],[],[],0⟩,⟨[(0, .l .bool)],[],[],0⟩,fun(x:(List af.den)×List af.den)=>M.mj N x.1 x.2⟩
theorem W25(N:Nat):ax Tryz.prog 25 (S25 N):=fw (en [] false false) (N:=N) (.o (.o (.two (.o (.two (.loop ⟨[(5, .l ae)],[],[],112⟩ (.two (.meet ⟨[(20, .l .bool)],[],[],112⟩ .nil .nil) .nil)) .nil)) .nil))) Tryz.func25 (by kernel_rfl) fun x=>by kernel_rfl
def M.om(N:Nat)(a0:List Int)(a1:List Int):Option Bool:=
(if(!decide ((a0.length:Int)=(a1.length:Int)))then
some false
else
Loop (S:=Int) (X:=Bool) (fun s1=>
((if(decide (s1<(a0.length:Int)))then
some (decide (s1<(a1.length:Int)))
else
some false):Option Bool).bind fun j2=>
(if j2 then
(idx a0 s1).bind fun x3=>
(idx a1 s1).bind fun x4=>
(if(!decide (x3=x4))then
some (.inr false)
else
some (.inl (alT.wrap (s1+1))))
else
some (.inr true))) N 0)
def S26(N:Nat):bp:=⟨⟨[(0, .l (.slice ae)),(1, .l (.slice ae))],[],[],0⟩,⟨[(0, .l .bool)],[],[],0⟩,fun(x:(List Int)×List Int)=>M.om N x.1 x.2⟩
theorem W26(N:Nat):ax Tryz.prog 26 (S26 N):=fw (en [] false false) (N:=N) (.o (.o (.two (.o (.two (.loop ⟨[(5, .l ae)],[],[],112⟩ (.two (.meet ⟨[(20, .l .bool)],[],[],112⟩ .nil .nil) .nil)) .nil)) .nil))) Tryz.func26 (by kernel_rfl) fun x=>by kernel_rfl
def M.iN(N:Nat)(a0:ai.den)(a1:ai.den):Option Bool:=
((M.mj N a0.1 a1.1).bind fun y2=>
(if y2 then
(M.om N a0.2 a1.2).bind fun y3=>
some y3
else
some false):Option Bool).bind fun j1=>
some j1
def S45(N:Nat):bp:=⟨⟨[(0, .g ai),(1, .g ai)],[],[],0⟩,⟨[(0, .l .bool)],[],[],0⟩,fun(x:ai.den×ai.den)=>M.iN N x.1 x.2⟩
theorem W45(N:Nat):ax Tryz.prog 45 (S45 N):=fw (en [ck (W25 N),ck (W26 N)] false false) (N:=N) (.o (.meet ⟨[(4, .l .bool)],[],[],48⟩ .nil .nil)) Tryz.func45 (by kernel_rfl) fun x=>by kernel_rfl
def M.gX(N:Nat)(a0:List ai.den)(a1:List ai.den):Option Bool:=
(if(!decide ((a0.length:Int)=(a1.length:Int)))then
some false
else
Loop (S:=Int) (X:=Bool) (fun s1=>
((if(decide (s1<(a0.length:Int)))then
some (decide (s1<(a1.length:Int)))
else
some false):Option Bool).bind fun j2=>
(if j2 then
(idx a0 s1).bind fun x3=>
(idx a1 s1).bind fun x4=>
(M.iN N x3 x4).bind fun y5=>
(if(!y5)then
some (.inr false)
else
some (.inl (alT.wrap (s1+1))))
else
some (.inr true))) N 0)
def S27(N:Nat):bp:=⟨⟨[(0, .l (.slice ai)),(1, .l (.slice ai))],[],[],0⟩,⟨[(0, .l .bool)],[],[],0⟩,fun(x:(List ai.den)×List ai.den)=>M.gX N x.1 x.2⟩
theorem W27(N:Nat):ax Tryz.prog 27 (S27 N):=fw (en [ck (W45 N)] false false) (N:=N) (.o (.o (.two (.o (.two (.loop ⟨[(5, .l ae)],[],[],112⟩ (.two (.meet ⟨[(20, .l .bool)],[],[],112⟩ .nil .nil) .nil)) .nil)) .nil))) Tryz.func27 (by kernel_rfl) fun x=>by kernel_rfl
def M.nE(N:Nat)(a0:nD.den)(a1:nD.den):Option Bool:=
((M.mj N a0.1 a1.1).bind fun y2=>
(if y2 then
(M.om N a0.2.1 a1.2.1).bind fun y3=>
(if y3 then
(M.gX N a0.2.2 a1.2.2).bind fun y4=>
some y4
else
some false)
else
some false):Option Bool).bind fun j1=>
some j1
def S12(N:Nat):bp:=⟨⟨[(0, .g nD),(1, .g nD)],[],[],0⟩,⟨[(0, .l .bool)],[],[],0⟩,fun(x:nD.den×nD.den)=>M.nE N x.1 x.2⟩
theorem W12(N:Nat):ax Tryz.prog 12 (S12 N):=fw (en [ck (W25 N),ck (W26 N),ck (W27 N)] false false) (N:=N) (.o (.meet ⟨[(4, .l .bool)],[],[],48⟩ .nil .nil)) Tryz.func12 (by kernel_rfl) fun x=>by kernel_rfl
def M.jl(N:Nat)(a0:bU.den)(a1:Int)(a2:eY.den):Option Bool:=
((M.lW N a0).bind fun y2=>
(if(!y2)then
some true
else
(M.lf N a2).bind fun y3=>
some (!y3)):Option Bool).bind fun j1=>
(if j1 then
(M.mi N).bind fun y4=>
some y4
else
(M.jx N a0 a1 a2).bind fun y5=>
(M.oK N a0 a1 a2).bind fun y6=>
((M.nE N (y5.2.1,(y5.2.2.1,y5.2.2.2)) (y6.2.1,(y6.2.2.1,y6.2.2.2))).bind fun y8=>
(if y8 then
(if(nW au y5.1 y6.1)then
(M.mi N).bind fun y9=>
some y9
else
some false)
else
some false):Option Bool).bind fun j7=>
some j7)
def S4(N:Nat):bp:=⟨⟨[(0, .g bU),(1, .l ae),(2, .g eY)],[],[],0⟩,⟨[(0, .l .bool)],[],[],0⟩,fun(x:bU.den×Int×eY.den)=>M.jl N x.1 x.2.1 x.2.2⟩
theorem W4(N:Nat):ax Tryz.prog 4 (S4 N):=fw (en [ck (W5 N),ck (W6 N),ck (W9 N),ck (W10 N),ck (W11 N),ck (W12 N)] false false) (N:=N) (.o (.two (.meet ⟨[(18, .l .bool)],[],[],48⟩ .nil .nil) (.o (.o (.meet ⟨[(6, .l .bool)],[],[],400⟩ .nil .nil))))) Tryz.func4 (by kernel_rfl) fun x=>by kernel_rfl
end
end Go.Proofs.YtmihpkfkbfgigaaGreatDoor
end
section
open _root_.Int renaming tdiv->amh,tmod->amy
open _root_.Go.IntKind renaming i64->alT
namespace Go.Proofs.YtmihpkfkbfgigaaGreatDoor
open Go Go.RowKit
noncomputable section
set_option maxRecDepth 100000
set_option linter.unusedVariables false
def M.nF(N:Nat)(a0:Int):Option Bool:=
((if(decide (97<=a0))then
some (decide (a0<=122))
else
some false):Option Bool).bind fun j1=>
some j1
def M.pE(N:Nat)(a0:Int):Option Bool:=
((if(decide (48<=a0))then
some (decide (a0<=57))
else
some false):Option Bool).bind fun j1=>
some j1
def M.rq(N:Nat)(a0:Int):Option Bool:=
((M.nF N a0).bind fun y2=>
(if y2 then
some true
else
(M.pE N a0).bind fun y3=>
(if y3 then
some true
else
some (decide (a0=95)))):Option Bool).bind fun j1=>
some j1
def M.ni(N:Nat):Option (List ByteArray):=
some ([(⟨#[105,102]⟩:ByteArray),(⟨#[116,104,101,110]⟩:ByteArray),(⟨#[101,108,115,101]⟩:ByteArray),(⟨#[111,114]⟩:ByteArray),(⟨#[97,110,100]⟩:ByteArray),(⟨#[110,111,116]⟩:ByteArray),(⟨#[116,114,117,101]⟩:ByteArray),(⟨#[102,97,108,115,101]⟩:ByteArray),(⟨#[116,111,100,97,121]⟩:ByteArray),(⟨#[115,104,97,114,101]⟩:ByteArray),(⟨#[100,105,118]⟩:ByteArray),(⟨#[114,111,117,110,100]⟩:ByteArray),(⟨#[109,105,110]⟩:ByteArray),(⟨#[109,97,120]⟩:ByteArray),(⟨#[112,108,117,115]⟩:ByteArray),(⟨#[109,111,110,116,104,115]⟩:ByteArray),(⟨#[100,97,121,115]⟩:ByteArray),(⟨#[121,101,97,114,115]⟩:ByteArray),(⟨#[121,101,97,114]⟩:ByteArray),(⟨#[109,111,110,116,104]⟩:ByteArray),(⟨#[116,97,98]⟩:ByteArray),(⟨#[98,97,110,100]⟩:ByteArray),(⟨#[99,111,117,110,116]⟩:ByteArray),(⟨#[115,117,109]⟩:ByteArray),(⟨#[97,108,108]⟩:ByteArray),(⟨#[97,110,121]⟩:ByteArray),(⟨#[109,111,115,116]⟩:ByteArray),(⟨#[101,110,117,109]⟩:ByteArray),(⟨#[116,97,98,108,101]⟩:ByteArray),(⟨#[114,111,119]⟩:ByteArray),(⟨#[115,99,111,112,101]⟩:ByteArray),(⟨#[109,101,109,98,101,114,115]⟩:ByteArray),(⟨#[105,110,112,117,116]⟩:ByteArray),(⟨#[100,101,102]⟩:ByteArray),(⟨#[114,117,108,101]⟩:ByteArray),(⟨#[111,102]⟩:ByteArray),(⟨#[111,118,101,114]⟩:ByteArray),(⟨#[112,114,105,111]⟩:ByteArray),(⟨#[102,114,111,109]⟩:ByteArray),(⟨#[116,111]⟩:ByteArray),(⟨#[101,110,100]⟩:ByteArray),(⟨#[119,104,101,110]⟩:ByteArray),(⟨#[105,115]⟩:ByteArray),(⟨#[115,114,99]⟩:ByteArray),(⟨#[98,111,111,108]⟩:ByteArray),(⟨#[105,110,116]⟩:ByteArray),(⟨#[109,111,110,101,121]⟩:ByteArray),(⟨#[114,97,116,101]⟩:ByteArray),(⟨#[100,97,116,101]⟩:ByteArray),(⟨#[100,111,119,110]⟩:ByteArray),(⟨#[117,112]⟩:ByteArray),(⟨#[122,101,114,111]⟩:ByteArray),(⟨#[97,119,97,121]⟩:ByteArray),(⟨#[104,97,108,102]⟩:ByteArray),(⟨#[101,118,101,110]⟩:ByteArray)]:List ByteArray)
def M.kA(N:Nat)(a0:ByteArray):Option Bool:=
((if(decide ((a0.size:Int)=0))then
some true
else
(if(decide (16<(a0.size:Int)))then
some true
else
(lI a0 0).bind fun x2=>
(M.nF N x2).bind fun y3=>
some (!y3))):Option Bool).bind fun j1=>
(if j1 then
some false
else
bE (J:=Unit) (R:=Bool) (Loop (S:=Int) (X:=Unit⊕Bool) (fun s5=>
(if(decide (s5<(a0.size:Int)))then
(lI a0 s5).bind fun x6=>
(M.rq N x6).bind fun y7=>
(if(!y7)then
some (.inr (.inr false))
else
some (.inl (alT.wrap (s5+1))))
else
some (.inr (.inl ())))) N 0) fun j4=>
(M.ni N).bind fun y8=>
Loop (S:=Int) (X:=Bool) (fun s9=>
(if(decide (s9<(y8.length:Int)))then
(idx y8 s9).bind fun qn=>
(if(decide (qn=a0))then
some (.inr false)
else
some (.inl (alT.wrap (s9+1))))
else
some (.inr true))) N 0)
def M.fO(N:Nat)(a0:aa.den)(a1:List bu.den):Option Bool:=
(if(decide (a0.1=6))then
((if(decide (0<=a0.2))then
some (decide (a0.2<(a1.length:Int)))
else
some false):Option Bool).bind fun j1=>
some j1
else
((if(decide (1<=a0.1))then
(if(decide (a0.1<=5))then
some (decide (a0.2=0))
else
some false)
else
some false):Option Bool).bind fun j2=>
some j2)
def M.oL(N:Nat)(a0:aa.den)(a1:List bu.den):Option (Int×Int):=
(M.fO N a0 a1).bind fun y1=>
(if(!y1)then
some (0,(-1))
else
(if(decide (a0.1=1))then
some (0,1)
else
(if(decide (a0.1=2))then
some ((-1000000000000),1000000000000)
else
(if(decide (a0.1=3))then
some ((-1000000000000000),1000000000000000)
else
(if(decide (a0.1=4))then
some ((-1000000000),1000000000)
else
(if(decide (a0.1=5))then
some (0,109572)
else
(idx a1 a0.2).bind fun x2=>
some (0,alT.wrap ((x2.2.length:Int)-1))))))))
def M.gE(N:Nat)(a0:List aL.den):Option (List aa.den):=
Loop (S:=Int×List aa.den) (X:=List aa.den) (fun s1=>
(if(decide (s1.1<(a0.length:Int)))then
(idx a0 s1.1).bind fun x2=>
(bZ s1.2 ([x2.2]:List aa.den)).bind fun l3=>
some (.inl (alT.wrap (s1.1+1),l3))
else
some (.inr s1.2))) N (0,([]:List aa.den))
def M.mC(N:Nat)(a0:bU.den)(a1:Int):Option ((List bu.den)×(List av.den)×Bool×(List aa.den)×(List aa.den)×List aa.den):=
((if(decide (a1<0))then
some true
else
some (decide ((a0.2.2.length:Int)<=a1))):Option Bool).bind fun j1=>
(if j1 then
some (([]:List bu.den),([]:List av.den),false,([]:List aa.den),([]:List aa.den),([]:List aa.den))
else
(idx a0.2.2 a1).bind fun x2=>
(M.gE N x2.2.2.1).bind fun y3=>
(M.gE N x2.2.2.2.1).bind fun y4=>
(((if(decide (0<=x2.2.1))then
some (decide (x2.2.1<(a0.2.2.length:Int)))
else
some false):Option Bool).bind fun j6=>
(if j6 then
(idx a0.2.2 x2.2.1).bind fun x7=>
(M.gE N x7.2.2.2.1).bind fun y8=>
some (y3,y4,a0.1,a0.2.1,true,y8)
else
some (y3,y4,a0.1,a0.2.1,false,([]:List aa.den))):Option ((List aa.den)×(List aa.den)×(List bu.den)×(List av.den)×Bool×List aa.den)).bind fun j5=>
some (j5.2.2.1,j5.2.2.2.1,j5.2.2.2.2.1,j5.1,j5.2.1,j5.2.2.2.2.2))
def M.nQ(N:Nat)(a0:Int):Option Bool:=
((if(decide (1<=a0))then
(if(decide (a0<=8))then
some true
else
(if(decide (36<=a0))then
some (decide (a0<=39))
else
some false))
else
(if(decide (36<=a0))then
some (decide (a0<=39))
else
some false)):Option Bool).bind fun j1=>
(if j1 then
some true
else
((if(decide (a0=14))then
some true
else
(if(decide (a0=15))then
some true
else
(if(decide (a0=16))then
some true
else
(if(decide (a0=33))then
some true
else
some (decide (a0=34)))))):Option Bool).bind fun j2=>
some j2)
def M.dE(N:Nat)(a0:Int):Option (aa.den):=
some (a0,0)
def M.jy(N:Nat)(a0:aa.den)(a1:aT.den):Option Bool:=
((if(decide (a0.1=1))then
some (decide (a0.1=1))
else
(if(decide (a0.1=2))then
some (decide (a0.1=2))
else
(if(decide (a0.1=3))then
some (decide (a0.1=3))
else
(if(decide (a0.1=4))then
some (decide (a0.1=4))
else
some (decide (a0.1=5)))))):Option Bool).bind fun j1=>
(if j1 then
(M.dE N a0.1).bind fun y2=>
(M.oL N y2 a1.1).bind fun y3=>
((if(decide (y3.1<=a0.2))then
some (decide (a0.2<=y3.2))
else
some false):Option Bool).bind fun j4=>
some j4
else
((if(decide (a0.1=14))then
some (decide (a0.1=14))
else
(if(decide (a0.1=15))then
some (decide (a0.1=15))
else
some (decide (a0.1=16)))):Option Bool).bind fun j5=>
(if j5 then
((if(decide (0<=a0.2))then
some (decide (a0.2<=5))
else
some false):Option Bool).bind fun j6=>
some j6
else
(if(decide (a0.1=34))then
((if(decide (0<=a0.2))then
some (decide ((amy a0.2 8)<=5))
else
some false):Option Bool).bind fun j7=>
some j7
else
(if(decide (a0.1=6))then
some (decide (0<=a0.2))
else
some true))))
def M.bf(N:Nat)(a0:aa.den)(a1:aT.den):Option Bool:=
(if(decide (a0.1=6))then
((if(decide ((alT.wrap (amh a0.2 16))<(a1.1.length:Int)))then
(idx a1.1 (alT.wrap (amh a0.2 16))).bind fun x2=>
some (decide ((amy a0.2 16)<(x2.2.length:Int)))
else
some false):Option Bool).bind fun j1=>
some j1
else
(if(decide (a0.1=7))then
((if(decide (0<=a0.2))then
some (decide (a0.2<(a1.2.2.1.length:Int)))
else
some false):Option Bool).bind fun j3=>
some j3
else
(if(decide (a0.1=8))then
((if(decide (0<=a0.2))then
some (decide (a0.2<(a1.2.2.2.1.length:Int)))
else
some false):Option Bool).bind fun j4=>
some j4
else
(if(decide (a0.1=33))then
((if(decide (0<=a0.2))then
some (decide (a0.2<(a1.2.1.length:Int)))
else
some false):Option Bool).bind fun j5=>
some j5
else
(if(decide (a0.1=34))then
some (decide ((alT.wrap (amh a0.2 8))<(a1.2.1.length:Int)))
else
(if(decide (a0.1=35))then
some a1.2.2.2.2.2
else
((if(decide (a0.1=36))then
some (decide (a0.1=36))
else
(if(decide (a0.1=37))then
some (decide (a0.1=37))
else
(if(decide (a0.1=38))then
some (decide (a0.1=38))
else
some (decide (a0.1=39))))):Option Bool).bind fun j6=>
(if j6 then
((if a1.2.2.2.2.2 then
(if(decide (0<=a0.2))then
some (decide (a0.2<(a1.2.2.2.2.1.length:Int)))
else
some false)
else
some false):Option Bool).bind fun j7=>
some j7
else
some true)))))))
def M.lg(N:Nat)(a0:Int):Option Bool:=
((if(decide (a0=2))then
some true
else
(if(decide (a0=3))then
some true
else
some (decide (a0=4)))):Option Bool).bind fun j1=>
some j1
def M.iz(N:Nat)(a0:Int):Option Bool:=
((M.lg N a0).bind fun y2=>
(if y2 then
some true
else
some (decide (a0=5))):Option Bool).bind fun j1=>
some j1
def M.bW(N:Nat)(a0:aa.den)(a1:aT.den):Option (aa.den×Bool):=
((if(decide (a0.1=6))then
some (6,alT.wrap (amh a0.2 16))
else
(if(decide (a0.1=7))then
(idx a1.2.2.1 a0.2).bind fun x2=>
some x2
else
(if(decide (a0.1=8))then
(idx a1.2.2.2.1 a0.2).bind fun x3=>
some x3
else
(if(decide (a0.1=9))then
(M.dE N 5).bind fun y4=>
some y4
else
(if(decide (a0.1=35))then
(M.dE N 2).bind fun y5=>
some y5
else
((if(decide (a0.1=36))then
some (decide (a0.1=36))
else
(if(decide (a0.1=37))then
some (decide (a0.1=37))
else
(if(decide (a0.1=38))then
some (decide (a0.1=38))
else
some (decide (a0.1=39))))):Option Bool).bind fun j6=>
(if j6 then
(idx a1.2.2.2.2.1 a0.2).bind fun x7=>
some x7
else
(M.dE N a0.1).bind fun y8=>
some y8)))))):Option (aa.den)).bind fun j1=>
(M.fO N j1 a1.1).bind fun y9=>
((if(decide (a0.1=36))then
(if y9 then
(if(decide (j1.1=2))then
some true
else
some (decide (j1.1=3)))
else
some false)
else
((if(decide (a0.1=37))then
some (decide (a0.1=37))
else
some (decide (a0.1=38))):Option Bool).bind fun DW=>
(if DW then
(if y9 then
some (decide (j1.1=1))
else
some false)
else
(if(decide (a0.1=39))then
(if y9 then
(M.iz N j1.1).bind fun qs=>
some qs
else
some false)
else
some y9))):Option Bool).bind fun qS=>
some (j1,qS)
def M.cD(N:Nat)(a0:aa.den)(a1:aa.den)(a2:aT.den):Option (aa.den×Bool):=
(if(decide (a0.1=10))then
(M.lg N a1.1).bind fun y1=>
some (a1,y1)
else
(if(decide (a0.1=25))then
some (a1,decide (a1.1=1))
else
((if(decide (a0.1=31))then
some (decide (a0.1=31))
else
some (decide (a0.1=32))):Option Bool).bind fun j2=>
(if j2 then
(M.dE N 2).bind fun y3=>
some (y3,decide (a1.1=5))
else
(if(decide (a0.1=33))then
(idx a2.2.1 a0.2).bind fun x4=>
((M.fO N x4.2.1 a2.1).bind fun y6=>
(if y6 then
(M.fO N x4.2.2.1 a2.1).bind fun y7=>
(if y7 then
some ((nW aa a1 x4.2.1),x4.2.2.1)
else
some (false,x4.2.2.1))
else
some (false,x4.2.2.1)):Option (Bool×aa.den)).bind fun j5=>
some (j5.2,j5.1)
else
(idx a2.2.1 (alT.wrap (amh a0.2 8))).bind fun x8=>
((if(decide (a1.1=3))then
(M.dE N 3).bind fun oI=>
(if(nW aa x8.2.1 oI)then
(M.dE N 4).bind fun lJ=>
some ((nW aa x8.2.2.1 lJ),a1)
else
some (false,a1))
else
some (false,a1)):Option (Bool×aa.den)).bind fun j9=>
some (j9.2,j9.1)))))
def M.lj(N:Nat)(a0:Int)(a1:Int)(a2:Int):Option (aa.den×Bool):=
(if(decide (a0=13))then
((M.dE N a1).bind fun y2=>
(if(decide (a2=2))then
(if(decide (a1=2))then
some (true,y2)
else
some (decide (a1=3),y2))
else
some (false,y2)):Option (Bool×aa.den)).bind fun j1=>
some (j1.2,j1.1)
else
(if(decide (a0=14))then
((M.dE N a1).bind fun y4=>
(if(decide (a2=4))then
(if(decide (a1=3))then
some (true,y4)
else
some (decide (a1=4),y4))
else
some (false,y4)):Option (Bool×aa.den)).bind fun j3=>
some (j3.2,j3.1)
else
((if(decide (a1=3))then
some (decide (a2=3))
else
some false):Option Bool).bind fun j5=>
(if j5 then
(M.dE N 4).bind fun y6=>
some (y6,true)
else
((M.dE N a1).bind fun y8=>
(if(decide (a2=2))then
(if(decide (a1=2))then
some (true,y8)
else
some (decide (a1=3),y8))
else
some (false,y8)):Option (Bool×aa.den)).bind fun j7=>
some (j7.2,j7.1))))
def M.gY(N:Nat)(a0:Int)(a1:aa.den)(a2:aa.den):Option (aa.den×Bool):=
((if(decide (a0=11))then
some (decide (a0=11))
else
some (decide (a0=12))):Option Bool).bind fun j1=>
(if j1 then
((if(nW aa a1 a2)then
(M.lg N a1.1).bind fun y3=>
some (y3,a1)
else
some (false,a1)):Option (Bool×aa.den)).bind fun j2=>
some (j2.2,j2.1)
else
((if(decide (a0=13))then
some (decide (a0=13))
else
(if(decide (a0=14))then
some (decide (a0=14))
else
some (decide (a0=15)))):Option Bool).bind fun j4=>
(if j4 then
(M.lj N a0 a1.1 a2.1).bind fun y5=>
some (y5.1,y5.2)
else
(if(decide (a0=16))then
((if(decide (a1.1=3))then
some (decide (a2.1=3),a1)
else
some (false,a1)):Option (Bool×aa.den)).bind fun j6=>
some (j6.2,j6.1)
else
((if(decide (a0=17))then
some (decide (a0=17))
else
some (decide (a0=18))):Option Bool).bind fun j7=>
(if j7 then
((if(nW aa a1 a2)then
(M.iz N a1.1).bind fun y9=>
some (y9,a1)
else
some (false,a1)):Option (Bool×aa.den)).bind fun j8=>
some (j8.2,j8.1)
else
((if(decide (a0=19))then
some (decide (a0=19))
else
some (decide (a0=20))):Option Bool).bind fun qS=>
(if qS then
(M.dE N 1).bind fun lJ=>
some (lJ,(nW aa a1 a2))
else
((if(decide (a0=21))then
some (decide (a0=21))
else
some (decide (a0=22))):Option Bool).bind fun AH=>
(if AH then
((M.dE N 1).bind fun sX=>
(if(nW aa a1 a2)then
(M.iz N a1.1).bind fun I3=>
some (I3,sX)
else
some (false,sX)):Option (Bool×aa.den)).bind fun NB=>
some (NB.2,NB.1)
else
((if(decide (a0=23))then
some (decide (a0=23))
else
some (decide (a0=24))):Option Bool).bind fun RS=>
(if RS then
((if(decide (a1.1=1))then
some (decide (a2.1=1),a1)
else
some (false,a1)):Option (Bool×aa.den)).bind fun TM=>
some (TM.2,TM.1)
else
((if(decide (a0=27))then
some (decide (a0=27))
else
some (decide (a0=28))):Option Bool).bind fun j18=>
(if j18 then
((if(decide (a1.1=5))then
some (decide (a2.1=2),a1)
else
some (false,a1)):Option (Bool×aa.den)).bind fun Qr=>
some (Qr.2,Qr.1)
else
((M.dE N 2).bind fun OP=>
(if(decide (a1.1=5))then
some (decide (a2.1=5),OP)
else
some (false,OP)):Option (Bool×aa.den)).bind fun Qs=>
some (Qs.2,Qs.1)))))))))
def M.aI(N:Nat)(a0:aa.den)(a1:List aa.den)(a2:aT.den):Option (aa.den×Int):=
((if(!decide (a0.2=0))then
(M.nQ N a0.1).bind fun y2=>
some (!y2)
else
some false):Option Bool).bind fun j1=>
(if j1 then
some ((0,0),2)
else
(M.jy N a0 a2).bind fun y3=>
(if(!y3)then
some ((0,0),3)
else
(M.bf N a0 a2).bind fun y4=>
(if(!y4)then
some ((0,0),6)
else
((if(decide ((a1.length:Int)=0))then
(M.bW N a0 a2).bind fun y6=>
some (y6.2,y6.1)
else
(if(decide ((a1.length:Int)=1))then
(idx a1 0).bind fun x7=>
(M.cD N a0 x7 a2).bind fun y8=>
some (y8.2,y8.1)
else
(if(decide ((a1.length:Int)=2))then
(idx a1 0).bind fun x9=>
(idx a1 1).bind fun qn=>
(M.gY N a0.1 x9 qn).bind fun lJ=>
some (lJ.2,lJ.1)
else
(idx a1 1).bind fun qA=>
(idx a1 0).bind fun pe=>
(if(decide (pe.1=1))then
(idx a1 1).bind fun sW=>
(idx a1 2).bind fun E7=>
some ((nW aa sW E7),qA)
else
some (false,qA))))):Option (Bool×aa.den)).bind fun j5=>
(if(!j5.1)then
some ((0,0),8)
else
some (j5.2,0)))))
end
end Go.Proofs.YtmihpkfkbfgigaaGreatDoor
end
section
open _root_.Go.IntKind renaming i64->alT
namespace Go.Proofs.YtmihpkfkbfgigaaGreatDoor
open Go Go.RowKit
theorem aJ{n:Int}(h0: -9223372036854775808<=n)(h1:n<=9223372036854775807):alT.wrap n=n:=by
 simp[IntKind.wrap,IntKind.bits,IntKind.signed];omega
theorem ah{α:Type}{l:List α}{k:Nat}(h:k<l.length):idx l (k:Int)=some l[k]:=by
 unfold idx;rw[if_pos (by omega)];simp[h]
theorem bh{α:Type}{l m:List α}(h:l.length+m.length<=4294967296):bZ l m=some (l++m):=if_pos h
theorem zk{S X:Type}{body:S->Option (S⊕X)}(I:S->Prop)(μ:S->Nat)(Q:X->Prop)
 (step:∀s,I s->(∃s',body s=some (.inl s')/\I s'/\μ s'<μ s)\/∃x,body s=some (.inr x)/\Q x):
 ∀N s,I s->μ s<N->∃x,Loop body N s=some x/\Q x
 |0,_,_,h=>absurd h (by omega)
 |N+1,s,hi,aj=>by
  rcases step s hi with⟨s',hb,gr,hm⟩|⟨x,hb,hq⟩
  .obtain⟨x,hx,hq⟩:=zk I μ Q step N s' gr (by omega);exact⟨x,by unfold Loop;rw[hb];exact hx,hq⟩
  .exact⟨x,by unfold Loop;rw[hb],hq⟩
theorem E9{S X:Type}{body:S->Option (S⊕X)}(st:Nat->S){x:X}(m:Nat)(hs:∀i,i<m->body (st i)=some (.inl (st (i+1))))(he:body (st m)=some (.inr x)){N:Nat}(hN:m<N):Loop body N (st 0)=some x:=by
 have:∀k i N,i+k=m->k<N->Loop body N (st i)=some x:=by
  intro k
  induction k with
  |zero=>rintro i (_|N) hi hN;.omega
         obtain rfl:i=m:=by omega
         unfold Loop;rw[he]
  |succ k ih=>
   rintro i (_|N) hi hN
   .omega
   .unfold Loop;rw[hs i (by omega)];exact ih (i+1) N (by omega) (by omega)
 exact this m 0 N (by omega) hN
theorem AI{S X:Type}{body:S->Option (S⊕X)}{N:Nat}{s0:S}(st:Nat->S)(m:Nat)(x:X)(h0:s0=st 0)(hs:∀i,i<m->body (st i)=some (.inl (st (i+1))))(he:body (st m)=some (.inr x))(hN:m<N):Loop body N s0=some x:=by
 rw[h0];exact E9 st m hs he hN
def aB:Nat:=18446744073709551616
section
variable {α:Type}
end
end Go.Proofs.YtmihpkfkbfgigaaGreatDoor
end
section
open _root_.Bool renaming false_eq_true->al2,not_true->am4
open _root_.Classical renaming not_not->am2
open _root_.Go.IntKind renaming i64->alT
open _root_.List renaming getElem?_eq_getElem->alV,replicate->alX,take_length->amc
open _root_.Nat renaming lt_succ_iff_lt_or_eq->amT,zero_le->amj
open _root_.Option renaming bind_some->alS,some->anE
open _root_.Sum renaming inr->amP
namespace Go.Proofs.YtmihpkfkbfgigaaGreatDoor
open Go Go.RowKit
def Wp{α:Type}(m:Option α)(Q:α->Prop):Prop:=∃x,m=some x/\Q x
theorem Wp.some{α:Type}{x:α}{Q:α->Prop}(h:Q x):Wp (some x) Q:=⟨x,rfl,h⟩
theorem Wp.of{α:Type}{m:Option α}{x:α}{Q:α->Prop}(e:m=anE x)(h:Q x):Wp m Q:=⟨x,e,h⟩
theorem Wp.eq{α:Type}{m:Option α}{x:α}(h:Wp m (· =x)):m=anE x:=by obtain⟨y,e,rfl⟩:=h;exact e
theorem Wp.mono{α:Type}{m:Option α}{Q Q':α->Prop}(h:Wp m Q)(hq:∀x,Q x->Q' x):Wp m Q':=by obtain⟨x,e,h⟩:=h;exact⟨x,e,hq x h⟩
theorem Wp.bind{α β:Type}{m:Option α}{k:α->Option β}{Q:β->Prop}(h:Wp m fun x=>Wp (k x) Q):Wp (m.bind k) Q:=by
 obtain⟨x,e,h⟩:=h;rw[e];exact h
theorem Wp.seq{α β:Type}{m:Option α}{k:α->Option β}{Q:β->Prop}(A:α->Prop)(h:Wp m A)(hk:∀x,A x->Wp (k x) Q):Wp (m.bind k) Q:= .bind (h.mono hk)
theorem Wp.map{α β:Type}{m:Option α}{f:α->β}{Q:β->Prop}(h:Wp m fun x=>Q (f x)):Wp (m.map f) Q:=by
 obtain⟨x,e,h⟩:=h;rw[e];exact⟨_,rfl,h⟩
theorem Wp.ite{α:Type}{c:Prop}[Decidable c]{a b:Option α}{Q:α->Prop}(ha:c->Wp a Q)(hb:¬c->Wp b Q):Wp (if c then a else b) Q:=by
 split
 .exact ha ‹_›
 .exact hb ‹_›
theorem Wp.dec{α:Type}{c:Prop}[Decidable c]{a b:Option α}{Q:α->Prop}(ha:c->Wp a Q)(hb:¬c->Wp b Q):Wp (if decide c=true then a else b) Q:=by
 by_cases h:c
 .rw[if_pos (decide_eq_true h)];exact ha h
 .rw[if_neg (by simpa using h)];exact hb h
theorem Wp.jz{α:Type}{c:Prop}[Decidable c]{a b:Option α}{Q:α->Prop}(ha:¬c->Wp a Q)(hb:c->Wp b Q):Wp (if(!decide c)=true then a else b) Q:=by
 by_cases h:c
 .rw[if_neg (by simp[h])];exact hb h
 .rw[if_pos (by simp[h])];exact ha h
def qT{J R:Type}(k:J->Option R)(Q:R->Prop):J⊕R->Prop
 | .inl j=>Wp (k j) Q
 | .inr r=>Q r
theorem Wp.join{J R:Type}{m:Option (J⊕R)}{k:J->Option R}{Q:R->Prop}(h:Wp m (qT k Q)):Wp (bE m k) Q:=by
 obtain⟨x,e,h⟩:=h;unfold bE;rw[e]
 cases x with
 |inl j=>exact h
 |inr r=>exact⟨r,rfl,h⟩
def w6{S X:Type}(I:S->Prop)(μ:S->Nat)(s:S)(Q:X->Prop):S⊕X->Prop
 | .inl s'=>I s'/\μ s'<μ s
 | .inr x=>Q x
theorem Wp.loop{S X:Type}{body:S->Option (S⊕X)}{N:Nat}{s0:S}{Q:X->Prop}(I:S->Prop)(μ:S->Nat)(h0:I s0)(hN:μ s0<N)(step:∀s,I s->Wp (body s) (w6 I μ s Q)):Wp (Loop body N s0) Q:=
 zk I μ Q (fun s hs=>by
  obtain⟨x,e,h⟩:=step s hs
  cases x with
  |inl s'=>exact .inl ⟨s',e,h⟩
  |inr x=>exact .inr ⟨x,e,h⟩) N s0 h0 hN
theorem Wp.idx{α:Type}{l:List α}{i:Int}{Q:α->Prop}(k:Nat)(hi:i=k)(hk:k<l.length)(h:Q l[k]):Wp (idx l i) Q:=by
 subst hi;exact⟨_,ah hk,h⟩
theorem Wp.I5{α:Type}{l m:List α}{Q:List α->Prop}(hl:l.length+m.length<=4294967296)(h:Q (l++m)):Wp (bZ l m) Q:=⟨_,bh hl,h⟩
theorem lk{α:Type}{l:List α}{i j:Int}(a b:Nat)(hi:i=a)(hj:j=b)(h:a<=b)(hb:b<=l.length):fH l i j=anE ((l.take b).drop a):=by
 subst hi;subst hj;unfold fH;rw[if_pos (by omega)];simp
theorem Wp.cut{α:Type}{l:List α}{i j:Int}{Q:List α->Prop}(a b:Nat)(hi:i=a)(hj:j=b)(h:a<=b)(hb:b<=l.length)(hq:Q ((l.take b).drop a)):Wp (fH l i j) Q:=⟨_,lk a b hi hj h hb,hq⟩
theorem gG{α:Type}{l:List α}{b:Nat}(hb:b<=l.length):fH l 0 (b:Int)=anE (l.take b):=by
 have:=lk (l:=l) 0 b rfl rfl (amj _) hb;simpa using this
theorem aD{k:Nat}(h:k<9223372036854775807):alT.wrap ((k:Int)+1)=((k+1:Nat):Int):=by rw[aJ]<;>omega
theorem CR{k:Nat}(h:k<=9223372036854775807):alT.wrap (k:Int)=(k:Int):=by rw[aJ]<;>omega
end Go.Proofs.YtmihpkfkbfgigaaGreatDoor
namespace Go.Proofs.YtmihpkfkbfgigaaGreatDoor
open Go Go.RowKit
section
variable {α β:Type}
theorem ke{x:α}{Q:α->Prop}:Wp (some x) Q↔Q x:=⟨fun⟨y,e,h⟩=>by cases e;exact h,fun h=>⟨x,rfl,h⟩⟩
theorem sB{Q:α->Prop}:Wp (none:Option α) Q↔False:=⟨fun⟨y,e,h⟩=>(by cases e),False.elim⟩
theorem wp_bind{m:Option α}{k:α->Option β}{Q:β->Prop}:Wp (m.bind k) Q↔Wp m fun x=>Wp (k x) Q:=by
 cases m with
 |none=>simp only[Option.bind_none,sB]
 |some x=>simp only[alS,ke]
theorem LZ{c:Prop}[Decidable c]{a b:Option α}{Q:α->Prop}:Wp (if c then a else b) Q↔(c->Wp a Q)/\(¬c->Wp b Q):=by
 split<;>simp[*]
theorem L0{c:Prop}[Decidable c]{a b:Option α}{Q:α->Prop}:Wp (if decide c=true then a else b) Q↔(c->Wp a Q)/\(¬c->Wp b Q):=by
 by_cases h:c<;>simp[*]
theorem GI{c:Prop}[Decidable c]{a b:Option α}{Q:α->Prop}:Wp (if(!decide c)=true then a else b) Q↔(¬c->Wp a Q)/\(c->Wp b Q):=by
 by_cases h:c<;>simp[*]
theorem L1{c:Bool}{a b:Option α}{Q:α->Prop}:Wp (if(!c)=true then a else b) Q↔(c=false->Wp a Q)/\(c=true->Wp b Q):=by
 cases c<;>simp
theorem wp_map{m:Option α}{f:α->β}{Q:β->Prop}:Wp (m.map f) Q↔Wp m fun x=>Q (f x):=by
 cases m with
 |none=>simp only[Option.map_none,sB]
 |some x=>simp only[Option.map_some,ke]
theorem GJ{J R:Type}{m:Option (J⊕R)}{k:J->Option R}{Q:R->Prop}:Wp (bE m k) Q↔Wp m (qT k Q):=by
 cases m with
 |none=>exact⟨fun⟨_,e,_⟩=>(by cases e),fun⟨_,e,_⟩=>(by cases e)⟩
 |some s=>cases s with
  |inl j=>rw[ke];exact Iff.rfl
  |inr r=>exact(ke (x:=r)).trans (ke (x:=amP r) (Q:=qT k Q)).symm
theorem zn{J R:Type}{k:J->Option R}{Q:R->Prop}{j:J}:qT k Q (.inl j)=Wp (k j) Q:=rfl
theorem zo{J R:Type}{k:J->Option R}{Q:R->Prop}{r:R}:qT k Q (.inr r)=Q r:=rfl
theorem eC{l:List α}{i:Int}{Q:α->Prop}:Wp (idx l i) Q↔∃h:0<=i/\i<(l.length:Int),Q (l[i.toNat]'(by omega)):=by
 by_cases h:0<=i/\i<(l.length:Int)
 .unfold idx;rw[if_pos h.1,alV (by omega),ke];exact⟨fun g=>⟨h,g⟩,fun g=>g.2⟩
 .refine⟨fun⟨y,e,_⟩=>?_,fun g=>absurd g.1 h⟩;obtain⟨k,rfl,hk,_⟩:=gx e;omega
theorem sC{s:ByteArray}{i:Int}{Q:Int->Prop}:Wp (lI s i) Q↔∃h:0<=i/\i<(s.size:Int),Q ((s[i.toNat]'(by omega)).toNat:Int):=by
 unfold lI;rw[wp_map];by_cases h:0<=i/\i<(s.size:Int)
 .rw[if_pos h.1,getElem?_pos s i.toNat (by omega),ke];exact⟨fun g=>⟨h,g⟩,fun g=>g.2⟩
 .refine⟨fun⟨y,e,_⟩=>?_,fun g=>absurd g.1 h⟩;split at e
  .rw[getElem?_neg s i.toNat (by omega)]at e;cases e
  .cases e
theorem nR{l m:List α}{Q:List α->Prop}:Wp (bZ l m) Q↔l.length+m.length<=4294967296/\Q (l++m):=by
 unfold bZ;split
 .rw[ke];simp[*]
 .rw[sB];simp[*]
theorem wp_cut{l:List α}{i j:Int}{Q:List α->Prop}:Wp (fH l i j) Q↔(0<=i/\i<=j/\j<=l.length)/\Q ((l.take j.toNat).drop i.toNat):=by
 unfold fH;split
 .rw[ke];simp[*]
 .rw[sB];simp[*]
theorem rr{m:Int}{z:α}{Q:List α->Prop}:Wp (lB m z) Q↔(0<=m/\m<=4294967296)/\Q (alX m.toNat z):=by
 unfold lB;split
 .rw[ke];simp[*]
 .rw[sB];simp[*]
theorem Qw{m:Option α}{x:α}:Wp m (· =x)↔m=some x:=⟨fun⟨_,e,h⟩=>h▸e,fun e=>⟨x,e,rfl⟩⟩
theorem Wp.and{m:Option α}{P Q:α->Prop}(h:Wp m P)(g:Wp m Q):Wp m fun x=>P x/\Q x:=by
 obtain⟨x,e,h⟩:=h;obtain⟨y,e',g⟩:=g;rw[e]at e';cases e';exact⟨x,e,h,g⟩
theorem Wp.getD{m:Option α}{Q:α->Prop}(h:Wp m Q)(d:α):m=anE (m.getD d)/\Q (m.getD d):=by
 obtain⟨x,e,h⟩:=h;rw[e];exact⟨rfl,h⟩
end
def Fa{S X:Type}(rv:S->Int)(m k:Nat)(J:Nat->S->Prop)(Q:X->Prop):S⊕X->Prop
 | .inl s=>k<m/\rv s=((k+1:Nat):Int)/\J (k+1) s
 | .inr x=>Q x
theorem ba{S X:Type}{rv:S->Int}{m k:Nat}{J:Nat->S->Prop}{Q:X->Prop}{s:S}:Fa rv m k J Q (.inl s)=(k<m/\rv s=((k+1:Nat):Int)/\J (k+1) s):=rfl
theorem aS{S X:Type}{rv:S->Int}{m k:Nat}{J:Nat->S->Prop}{Q:X->Prop}{x:X}:Fa rv m k J Q (.inr x)=Q x:=rfl
theorem Wp.count{S X:Type}{body:S->Option (S⊕X)}{s0:S}{Q:X->Prop}(rv:S->Int)(m:Nat)(J:Nat->S->Prop)(hm:m<=9223372036854775807)(h0:rv s0=0)(hJ:J 0 s0)
 (step:∀k s,k<=m->rv s=(k:Int)->J k s->Wp (body s) (Fa rv m k J Q)):Wp (Loop body aB s0) Q:=by
 refine Wp.loop (fun s=>∃k:Nat,rv s=k/\k<=m/\J k s) (fun s=>m-(rv s).toNat) ⟨0,h0,amj _,hJ⟩ (by unfold aB;omega) fun s hs=>?_
 obtain⟨k,hi,hk,hj⟩:=hs
 refine(step k s hk hi hj).mono fun r hr=>?_
 cases r with
 |inl s'=>
  obtain⟨h1,h2,h3⟩:=hr;exact⟨⟨k+1,h2,h1,h3⟩,by show m-(rv s').toNat<m-(rv s).toNat;rw[h2,hi];omega⟩
 |inr x=>exact hr
theorem bV{k:Nat}{m:Nat}(hm:m<=9223372036854775807)(h:k<m):alT.wrap ((k:Int)+1)=((k+1:Nat):Int):=aD (by omega)
theorem kf{k m:Nat}(h:k<m):decide ((k:Int)<(m:Int))=true:=decide_eq_true (by omega)
theorem Fb{k m:Nat}(h:k<m):((k:Int)<(m:Int))=True:=eq_true (by omega)
theorem fD{m:Nat}:((m:Int)<(m:Int))=False:=eq_false (by omega)
def cy{α:Type}(f:Nat->Option α):Nat->Option α
 |0=>none
 |m+1=>(cy f m).or (f m)
theorem bH{α:Type}{f:Nat->Option α}:∀{m:Nat},cy f m=none↔∀k,k<m->f k=none
 |0=>by simp[cy]
 |m+1=>by
  rw[cy,Option.or_eq_none_iff,bH];exact⟨fun h k hk=>by rcases amT.1 hk with h1|rfl<;>first|exact h.1 k h1|exact h.2,fun h=>⟨fun k hk=>h k (by omega),h m (by omega)⟩⟩
theorem fY{α:Type}{f:Nat->Option α}{x:α}:∀{m:Nat},cy f m=some x->∃k,k<m/\f k=some x/\∀j,j<k->f j=none
 |0,h=>by cases h
 |m+1,h=>by
  rw[cy]at h
  cases e:cy f m with
  |none=>rw[e]at h;exact⟨m,by omega,h,bH.1 e⟩
  |some y=>
   rw[e]at h;cases h;obtain⟨k,hk,h1,h2⟩:=fY e;exact⟨k,by omega,h1,h2⟩
theorem fk{α:Type}{f:Nat->Option α}{x:α}{k:Nat}(hx:f k=some x)(hn:∀j,j<k->f j=none):∀{m:Nat},k<m->cy f m=some x
 |0,h=>by omega
 |m+1,h=>by
  rw[cy]
  rcases amT.1 h with h1|rfl
  .rw[fk hx hn h1];rfl
  .rw[bH.2 hn];exact hx
theorem Wp.first{S X Y:Type}{body:S->Option (S⊕X)}{s0:S}{Q:X->Prop}(rv:S->Int)(m:Nat)(f:Nat->Option Y)(hm:m<=9223372036854775807)(h0:rv s0=0)
 (h1:∀k s,k<m->rv s=(k:Int)->(∀j,j<k->f j=none)->Wp (body s) fun r=>(f k=none/\∃s',r= .inl s'/\rv s'=((k+1:Nat):Int))\/∃x y,r= .inr x/\f k=anE y/\(cy f m=anE y->Q x))
 (he:∀s,rv s=(m:Int)->(cy f m=none)->Wp (body s) fun r=>∃x,r= .inr x/\Q x):Wp (Loop body aB s0) Q:=by
 refine Wp.count rv m (fun k _=>∀j,j<k->f j=none) hm h0 (fun j h=>by omega) fun k s hk hs hJ=>?_
 rcases Nat.lt_or_ge k m with aj|hge
 .refine(h1 k s aj hs hJ).mono fun r hr=>?_
  rcases hr with⟨hn,s',rfl,h2⟩|⟨x,y,rfl,h2,h3⟩
  .exact⟨aj,h2,fun j hj=>by rcases amT.1 hj with h|rfl<;>first|exact hJ j h|exact hn⟩
  .exact h3 (fk h2 hJ aj)
 .obtain rfl:k=m:=by omega
  exact(he s hs (bH.2 hJ)).mono fun r hr=>by obtain⟨x,rfl,h⟩:=hr;exact h
def Qx{S X C:Type}(rv:S->Int)(acc:S->C)(k:Nat)(c:C)(I:Nat->C->Prop):S⊕X->Prop
 | .inl s=>rv s=((k+1:Nat):Int)/\acc s=c/\I (k+1) c
 | .inr _=>False
def Qy{S X:Type}(Q:X->Prop):S⊕X->Prop
 | .inl _=>False
 | .inr x=>Q x
theorem I6{S X C:Type}{rv:S->Int}{acc:S->C}{k:Nat}{c:C}{I:Nat->C->Prop}{s:S}:Qx (X:=X) rv acc k c I (.inl s)=(rv s=((k+1:Nat):Int)/\acc s=c/\I (k+1) c):=rfl
theorem I7{S X:Type}{Q:X->Prop}{x:X}:Qy (S:=S) Q (.inr x)=Q x:=rfl
theorem Wp.fold{S X C α:Type}{body:S->Option (S⊕X)}{s0:S}{Q:X->Prop}(rv:S->Int)(acc:S->C)(l:List α)(F:C->α->C)(c0:C)(I:Nat->C->Prop)(hm:l.length<=9223372036854775807)(h0:rv s0=0)(hc:acc s0=c0)(hI:I 0 c0)
 (step:∀k s(h:k<l.length),rv s=(k:Int)->I k (acc s)->Wp (body s) (Qx rv acc k (F (acc s) l[k]) I))
 (fin:∀s,rv s=(l.length:Int)->acc s=l.foldl F c0->I l.length (acc s)->Wp (body s) (Qy Q)):Wp (Loop body aB s0) Q:=by
 refine Wp.count rv l.length (fun k s=>acc s=(l.take k).foldl F c0/\I k (acc s)) hm h0 ⟨by rw[hc];rfl,hc▸hI⟩ fun k s hk hs hJ=>?_
 rcases Nat.lt_or_ge k l.length with aj|hge
 .refine(step k s aj hs hJ.2).mono fun r hr=>?_
  cases r with
  |inl s'=>
   obtain⟨h1,h2,h3⟩:=hr;refine⟨aj,h1,?_,h2▸h3⟩;rw[h2,hJ.1,<-List.take_append_getElem aj,List.foldl_append];rfl
  |inr x=>exact hr.elim
 .obtain rfl:k=l.length:=by omega
  rw[amc]at hJ
  refine(fin s hs hJ.1 hJ.2).mono fun r hr=>?_
  cases r with
  |inl s'=>exact hr.elim
  |inr x=>exact hr
theorem W_:type_of% @am2/\type_of% @ke/\type_of% @wp_bind/\type_of% @L0/\type_of% @GI/\type_of% @L1/\type_of% @LZ/\type_of% @GJ/\type_of% @zn/\type_of% @zo/\type_of% @if_true.{1}/\type_of% @if_false.{1}/\type_of% @ite_true.{1}/\type_of% @ite_false.{1}/\type_of% @al2/\type_of% @Bool.true_eq_false/\type_of% @decide_true/\type_of% @decide_false/\type_of% @decide_eq_decide/\type_of% @true_eq_decide_iff/\type_of% @false_eq_decide_iff/\type_of% @decide_eq_true_eq/\type_of% @decide_eq_false_iff_not/\type_of% @true_implies/\type_of% @false_implies/\type_of% @and_true/\type_of% @true_and/\type_of% @and_false/\type_of% @false_and/\type_of% @or_true/\type_of% @true_or/\type_of% @or_false/\type_of% @false_or/\type_of% @not_true_eq_false/\type_of% @not_false_eq_true/\type_of% @am4/\type_of% @Bool.not_false/\type_of% @Bool.not_eq_true/\type_of% @Bool.not_eq_false/\type_of% @Bool.not_eq_eq_eq_not:=
 ⟨@am2,@ke,@wp_bind,@L0,@GI,@L1,@LZ,@GJ,@zn,@zo,@if_true.{1},@if_false.{1},@ite_true.{1},@ite_false.{1},@al2,@Bool.true_eq_false,@decide_true,@decide_false,@decide_eq_decide,@true_eq_decide_iff,@false_eq_decide_iff,@decide_eq_true_eq,@decide_eq_false_iff_not,@true_implies,@false_implies,@and_true,@true_and,@and_false,@false_and,@or_true,@true_or,@or_false,@false_or,@not_true_eq_false,@not_false_eq_true,@am4,@Bool.not_false,@Bool.not_eq_true,@Bool.not_eq_false,@Bool.not_eq_eq_eq_not⟩
end Go.Proofs.YtmihpkfkbfgigaaGreatDoor
end
section
open _root_.Bool renaming eq_iff_iff->anh,false_eq_true->al2,not_true->am4
open _root_.Go.IntKind renaming i64->alT
open _root_.List renaming drop_eq_getElem_cons->amx,drop_of_length_le->amC,getElem?_eq_getElem->alV
open _root_.Nat renaming zero_le->amj
open _root_.Option renaming bind_some->alS
namespace Go.Proofs.YtmihpkfkbfgigaaGreatDoor
open Go Go.RowKit
namespace L.P
abbrev Vl:Type:=af.den
abbrev Ty:Type:=aa.den
theorem aF{α:Type}{c:Prop}[Decidable c]{a b:α}:(if c then some a else some b)=some (if c then a else b):=by split<;>rfl
theorem pF(a b:Bool):(if a=true then true else b)=(a||b):=by cases a<;>rfl
theorem mG(a b:Bool):(if a=true then b else false)=(a&&b):=by cases a<;>rfl
def dp(k e n:Int):Prop:=
 (k=1/\e=0/\0<=n/\n<=1)\/(k=2/\e=0/\-1000000000000<=n/\n<=1000000000000)\/(k=3/\e=0/\-1000000000000000<=n/\n<=1000000000000000)\/
 (k=4/\e=0/\-1000000000<=n/\n<=1000000000)\/(k=5/\e=0/\0<=n/\n<=109572)\/(k=6/\0<=e/\e<=7/\0<=n/\n<=15)
instance(k e n:Int):Decidable (dp k e n):=by unfold dp;infer_instance
theorem dc(N:Nat)(v:Vl):M.cI N v=some (decide (dp v.1 v.2.1 v.2.2)):=by
 revert v;rintro⟨(k:Int),(e:Int),(n:Int)⟩
 unfold M.cI;simp only[aF,alS,pF,mG];refine congrArg some ?_;by_cases h1:k=1
 .subst h1;rw[anh];simp[dp];try(dsimp only[ae,Row.den]at*;omega)
 by_cases h2:k=2
 .subst h2;rw[anh];simp[dp];try(dsimp only[ae,Row.den]at*;omega)
 by_cases h3:k=3
 .subst h3;rw[anh];simp[dp];try(dsimp only[ae,Row.den]at*;omega)
 by_cases h4:k=4
 .subst h4;rw[anh];simp[dp];try(dsimp only[ae,Row.den]at*;omega)
 by_cases h5:k=5
 .subst h5;rw[anh];simp[dp];try(dsimp only[ae,Row.den]at*;omega)
 by_cases h6:k=6
 .subst h6;rw[anh];simp[dp];try(dsimp only[ae,Row.den]at*;omega)
 simp[dp,h1,h2,h3,h4,h5,h6]
def CS(k e n a b:Int):Prop:=dp k e n/\k=a/\e=b
instance(k e n a b:Int):Decidable (CS k e n a b):=by unfold CS;infer_instance
abbrev jR(v:Vl)(t:Ty):Prop:=CS v.1 v.2.1 v.2.2 t.1 t.2
theorem ry(N:Nat)(v:Vl)(t:Ty):M.k8 N v t=some (decide (jR v t)):=by
 unfold M.k8;rw[dc];simp only[aF,alS,mG];refine congrArg some ?_;rw[anh];simp[CS]
def CU(op k e:Int):Prop:=e=0/\(if op=36 then k=2\/k=3 else if op=39 then 2<=k/\k<=5 else k=1)
instance(op k e:Int):Decidable (CU op k e):=by unfold CU;infer_instance
abbrev TN(op:Int)(t:Ty):Prop:=CU op t.1 t.2
theorem ml(N:Nat)(k:Int):M.gh N k=some (decide (2<=k/\k<=4)):=by
 unfold M.gh;simp only[aF,alS,pF];refine congrArg some ?_;rw[anh];simp;omega
theorem oo(N:Nat)(op:Int)(t:Ty):M.gR N op t=some (decide (TN op t)):=by
 unfold M.gR;rw[ml];simp only[aF,alS,pF,mG];refine congrArg some ?_;obtain⟨(k:Int),(e:Int)⟩:=t;rw[anh]
 show _↔decide (CU op k e)=true
 unfold CU
 by_cases h0:e=0<;>by_cases h1:op=36<;>by_cases h2:op=39<;>simp[h0,h1,h2]<;>try(dsimp only[ae,Row.den]at*;omega)
def fold(op acc n:Int)(first:Bool):Int:=
 if op=36 then acc+n else if op=37 then acc*n else if op=38 then(if acc<n then n else acc)else(if first=true\/acc<n then n else acc)
def oq(op:Int)(t:Ty)(j:Nat):List (List Vl)->Bool->Int->Int⊕Int
 |[],_,acc=> .inl acc
 |l::ms,first,acc=>match l[j]? with
  |none=> .inr 6
  |some v=>if(v.1:Int)=0 then .inr 6 else if jR v t then
    (if dp t.1 0 (fold op acc v.2.2 first)then oq op t j ms false (fold op acc v.2.2 first)else .inr 3)else .inr 8
def w7(op:Int):Int:=if op=37 then 1 else 0
def I8(op:Int)(t:Ty)(j:Nat)(ms:List (List Vl)):Vl×Int:=
 if op=39/\ms=[]then((0,0,0),6)else match oq op t j ms true (w7 op)with
  | .inl a=>((t.1,0,a),0)
  | .inr c=>((0,0,0),c)
def L2(op:Int)(t:Ty)(first:Bool)(acc:Int):Prop:=(op=39/\first=true/\acc=0)\/dp t.1 0 acc
theorem OU{op:Int}{t:Ty}(gq:op=36\/op=37\/op=38\/op=39)(ht:TN op t):L2 op t true (w7 op):=by
 obtain⟨(k:Int),(e:Int)⟩:=t
 obtain⟨h0,h1⟩:=(show CU op k e from ht)
 show(op=39/\true=true/\w7 op=0)\/dp k 0 (w7 op)
 unfold dp w7
 rcases gq with rfl|rfl|rfl|rfl<;>simp at h1⊢<;>omega
theorem pG{N:Nat}(hN:100001<=N){op:Int}(gq:op=36\/op=37\/op=38\/op=39){j:Nat}{env:cz.den}(hj:j<env.2.2.2.2.1.length)(hm:env.2.2.2.1.length<=100)(ht:TN op env.2.2.2.2.1[j]):
 M.jw N (op,(j:Int)) env=some (I8 op env.2.2.2.2.1[j] j env.2.2.2.1):=by
 obtain⟨d,ip,df,ms,ts,tb⟩:=env;simp only at hj hm ht⊢;apply Wp.eq;unfold M.jw;simp only;rw[ah hj];simp only[alS];generalize ts[j]=t at ht⊢;have Nu:(t.2:Int)=0:=(show CU op t.1 t.2 from ht).1
 have e1:(if decide (op=37)=true then some (t.1,t.2,(1:Int))else some (t.1,t.2,(0:Int)):Option Vl)=some (t.1,t.2,w7 op):=by
  unfold w7;by_cases h:op=37<;>simp[h]
 rw[e1];simp only[alS,aF,mG];unfold I8
 refine Wp.ite (fun h=>?_) fun h=>?_
 .have:op=39/\ms=[]:=by simpa using h
  rw[if_pos this];exact .some rfl
 .have h39:¬(op=39/\ms=[]):=by simpa using h
  rw[if_neg h39]
  refine Wp.join (Wp.loop (fun s:Int×Vl=>∃k:Nat,∃acc:Int,s=((k:Int),(t.1,t.2,acc))/\k<=ms.length/\L2 op t (decide (k=0)) acc/\oq op t j (ms.drop k) (decide (k=0)) acc=oq op t j ms true (w7 op)) (fun s=>(ms.length-s.1).toNat)
   ⟨0,w7 op,rfl,amj _,OU gq ht,rfl⟩ (by simp only;omega) ?_)
  rintro _ ⟨k,acc,rfl,hk,OV,hf⟩
  simp only
  refine Wp.dec (fun h=>?_) fun h=> .some (.some ?_)
  case refine_2=>
   have hd:ms.drop k=[]:=amC (by omega);rw[hd]at hf;rw[<-hf];simp only[oq];rw[Nu]
  have dZ:k<ms.length:=by omega
  have hd:ms.drop k=ms[k]::ms.drop (k+1):=amx dZ;rw[hd]at hf;rw[ah dZ];simp only[alS];rw[oq]at hf;by_cases hl:j<ms[k].length
  .rw[alV hl]at hf;simp only at hf;rw[ah hl];simp only[alS,aF,pF,ry,dc];generalize ms[k][j]=v at hf⊢;by_cases hv:(v.1:Int)=0
   .rw[if_pos hv]at hf;rw[if_pos (by simp[hv])];refine .some ?_
    show _=_
    rw[<-hf]
   .rw[if_neg hv]at hf;rw[if_neg (by simp[hv];omega)];by_cases hh:jR v t
    .rw[if_pos hh]at hf;rw[if_neg (by simp[hh])]
     obtain⟨hp,Gt,yw⟩:=(show CS _ _ _ _ _ from hh)
     refine Wp.join ?_
     have key:∀a,fold op acc v.2.2 (decide (k=0))=a->dp t.1 0 a->w6 (fun s:Int×Vl=>∃k:Nat,∃acc:Int,s=((k:Int),(t.1,t.2,acc))/\k<=ms.length/\L2 op t (decide (k=0)) acc/\oq op t j (ms.drop k) (decide (k=0)) acc=oq op t j ms true (w7 op)) (fun s=>(ms.length-s.1).toNat) ((k:Int),(t.1,t.2,acc)) (qT (fun j4=>some (j4,(0:Int))) fun x=>x=match oq op t j ms true (w7 op)with
      | .inl a=>((t.1,0,a),0)
      | .inr c=>((0,0,0),c)) (.inl (alT.wrap ((k:Int)+1),(t.1,t.2,a))):=by
      intro a ha hpa;subst ha;rw[if_pos hpa]at hf;rw[aD (by omega)];refine⟨⟨k+1,_,rfl,dZ, .inr hpa,?_⟩,by simp only;omega⟩;rw[show decide (k+1=0)=false by simp];exact hf
     rcases gq with rfl|rfl|rfl|rfl
     all_goals simp only[decide_true,decide_false,if_true,if_false,Int.reduceEq,al2,am4,Bool.not_false]
     .have Wy:dp t.1 0 acc:=by
       rcases OV with h|h
       .exact absurd h.1 (by decide)
       .exact h
      have NE:fold 36 acc v.2.2 (decide (k=0))=acc+v.2.2:=by simp[fold]
      have hw:alT.wrap (acc+v.2.2)=acc+v.2.2:=by
       revert Wy hp;generalize(v.2.2:Int)=n;generalize(v.1:Int)=vk;generalize(v.2.1:Int)=ve;generalize(t.1:Int)=tk;intro h1 h2;unfold dp at h1 h2;dsimp only[ae,Row.den]at*;exact aJ (by omega) (by omega)
      rw[hw];rw[NE]at hf;by_cases q9:dp t.1 0 (acc+v.2.2)
      .rw[if_neg (by rw[Nu];simp[q9])];exact .some (.some (key _ NE q9))
      .rw[if_pos (by rw[Nu];simp[q9])];rw[if_neg q9]at hf;refine .some ?_
       show _=_
       rw[<-hf]
     .have hb:(0<=(v.2.2:Int)/\(v.2.2:Int)<=1)/\0<=acc/\acc<=1/\(t.1:Int)=1:=by
       have h1:=(show CU 37 t.1 t.2 from ht).2
       have h2:dp t.1 0 acc:=by
        rcases OV with h|h
        .exact absurd h.1 (by decide)
        .exact h
       rw[Gt]at hp;revert h1 h2 hp;generalize(v.2.2:Int)=n;generalize(v.2.1:Int)=ve;generalize(t.1:Int)=tk;intro h3 h1 h2;unfold dp at h2 h3;simp at h1;dsimp only[ae,Row.den]at*;omega
      obtain⟨⟨b1,b2⟩,b3,b4,b5⟩:=hb
      have NE:fold 37 acc v.2.2 (decide (k=0))=(if v.2.2<acc then v.2.2 else acc:Int):=by
       have b2':(v.2.2:Int)=0\/(v.2.2:Int)=1:=by revert b1 b2;generalize(v.2.2:Int)=n;intro b1 b2;dsimp only[ae,Row.den]at*;omega
       have b4':acc=0\/acc=1:=by omega
       rcases b2' with e1|e1<;>rcases b4' with e2|e2<;>simp[fold,e1,e2]
      refine .some (.some (key _ NE ?_));refine .inl ⟨b5,rfl,?_⟩;revert b1 b2;generalize(v.2.2:Int)=n;intro b1 b2;dsimp only[ae,Row.den]at*
      split<;>omega
     .have NE:fold 38 acc v.2.2 (decide (k=0))=(if acc<v.2.2 then v.2.2 else acc:Int):=by simp[fold]
      have h2:dp t.1 0 acc:=by
       rcases OV with h|h
       .exact absurd h.1 (by decide)
       .exact h
      refine .some (.some (key _ NE ?_));rw[Gt,yw,Nu]at hp;split
      .exact hp
      .exact h2
     .have h3:dp t.1 0 v.2.2:=by rw[Gt,yw,Nu]at hp;exact hp
      by_cases hc:((k:Int)=0)\/acc<v.2.2
      .have NE:fold 39 acc v.2.2 (decide (k=0))=v.2.2:=by
        have:k=0\/acc<v.2.2:=hc.imp (fun h=>by omega) id;simp[fold,this]
       rw[if_pos (by simpa using hc)]
       have hv3:v=(t.1,t.2,v.2.2):=by rw[<-Gt,<-yw]
       rw[hv3];exact .some (.some (key _ NE h3))
      .have NE:fold 39 acc v.2.2 (decide (k=0))=acc:=by
        have:¬(k=0\/acc<v.2.2):=fun h=>hc (h.imp (fun h=>by omega) id)
        simp[fold,this]
       rw[if_neg (by simpa using hc)];refine .some (.some (key _ NE ?_))
       rcases OV with h|h
       .exact absurd h.2.1 (by simp;omega)
       .exact h
    .rw[if_neg hh]at hf;rw[if_pos (by simp[hh])];refine .some ?_
     show _=_
     rw[<-hf]
  .rw[List.getElem?_eq_none (by omega)]at hf;rw[if_pos (by simp;omega)];refine .some ?_
   show _=_
   rw[<-hf]
end L.P
end Go.Proofs.YtmihpkfkbfgigaaGreatDoor
end
