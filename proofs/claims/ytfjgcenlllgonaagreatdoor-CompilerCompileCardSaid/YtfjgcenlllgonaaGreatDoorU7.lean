/- Joined texts: ModelA. -/
import Derived.Test.YtfjgcenlllgonaaGreatDoorU6
open _root_.Decidable renaming decide->ah
open _root_.Bool renaming false->ag,true->af
open _root_.Option renaming some->aa
open _root_.Int renaming tdiv->aoM,tmod->aoP
open _root_.Go.IntKind renaming i64->aoz,u64->aoD
namespace Go.Proofs.YtfjgcenlllgonaaGreatDoor
open Go Go.RowKit
set_option maxRecDepth 100000
set_option linter.unusedSimpArgs false
set_option linter.unusedVariables false
set_option linter.defProp false
section
noncomputable section
set_option maxRecDepth 100000
set_option linter.unusedVariables false
def M.cm(N:Nat)(a0:aA.den)(a1:aC.den)(a2:aC.den):Option (aC.den×Int):=
((if(ah (a0.1=11))then
aa (ah (a0.1=11))
else
aa (ah (a0.1=27))):Option Bool).bind λj1=>
(if j1 then
aa ((a1.1,(0,aoz.wrap (a1.2.2+a2.2.2))),0)
else
(if(ah (a0.1=12))then
aa ((a1.1,(0,aoz.wrap (a1.2.2-a2.2.2))),0)
else
((if(ah (a0.1=13))then
aa (ah (a0.1=13))
else
(if(ah (a0.1=14))then
aa (ah (a0.1=14))
else
(if(ah (a0.1=15))then
aa (ah (a0.1=15))
else
aa (ah (a0.1=16))))):Option Bool).bind λj2=>
(if j2 then
(M.ji N a0 a1 a2).bind λy3=>
aa (y3.1,y3.2)
else
((if(ah (a0.1=17))then
aa (ah (a0.1=17))
else
aa (ah (a0.1=18))):Option Bool).bind λj4=>
(if j4 then
(if(ah ((ah (a0.1=17))=(ah (a2.2.2<a1.2.2))))then
aa (a2,0)
else
aa (a1,0))
else
(if(ah (a0.1=19))then
(M.eR N (ah (a1.2.2=a2.2.2))).bind λy5=>
aa (y5,0)
else
(if(ah (a0.1=20))then
(M.eR N (!ah (a1.2.2=a2.2.2))).bind λy6=>
aa (y6,0)
else
(if(ah (a0.1=21))then
(M.eR N (ah (a1.2.2<a2.2.2))).bind λy7=>
aa (y7,0)
else
(if(ah (a0.1=22))then
(M.eR N (ah (a1.2.2<=a2.2.2))).bind λy8=>
aa (y8,0)
else
(if(ah (a0.1=23))then
((if(ah (a1.2.2=1))then
(M.eR N (ah (a2.2.2=1))).bind λnI=>
aa (0,nI)
else
(M.eR N ag).bind λqY=>
aa (0,qY)):Option (Int×aC.den)).bind λj9=>
aa (j9.2,j9.1)
else
(if(ah (a0.1=24))then
((if(ah (a1.2.2=1))then
(M.eR N af).bind λpT=>
aa (0,pT)
else
(M.eR N (ah (a2.2.2=1))).bind λlz=>
aa (0,lz)):Option (Int×aC.den)).bind λsD=>
aa (sD.2,sD.1)
else
(if(ah (a0.1=28))then
(M.dA N a1.2.2 a2.2.2).bind λlv=>
aa ((5,(0,lv.1)),lv.2)
else
(if(ah (a0.1=29))then
aa ((2,(0,aoz.wrap (a2.2.2-a1.2.2))),0)
else
(M.eW N a1.2.2 a2.2.2).bind λzN=>
aa ((2,(0,zN)),0)))))))))))))
theorem ae4(N:Nat):Fo 215 (.i1 [.g aA, .g aC, .g aC]) (.i1 [.g aC, .l aB]) (u3 (M.cm N)):=fz N [ck (ZC N),ck (ae1 N),ck (ZG N),ck (ae3 N)] (.o (.two (.o (.two (.meet ⟨[(12, .l .bool)],[],[],112⟩ .nil (.o (.o (.o (.meet ⟨[(33, .l .bool)],[],[],144⟩ .nil (.o (.meet ⟨[(44, .l .bool)],[],[],144⟩ .nil (.o (.o (.o (.o (.o (.o (.o (.o (.o (.o (.two (.meet ⟨[(7, .l aB)],[(48, .box 71 (.leaf aC))],[],305⟩ .nil .nil) (.o (.two (.meet ⟨[(7, .l aB)],[(48, .box 71 (.leaf aC))],[],337⟩ .nil .nil) .nil)))))))))))))))))))) .nil)) .nil)) Tryz.func215
def M.bW(N:Nat)(a0:aA.den)(a1:List aC.den)(a2:cz.den):Option (aC.den×Int):=
((if(ah (a0.1=1))then
aa (ah (a0.1=1))
else
(if(ah (a0.1=2))then
aa (ah (a0.1=2))
else
(if(ah (a0.1=3))then
aa (ah (a0.1=3))
else
(if(ah (a0.1=4))then
aa (ah (a0.1=4))
else
aa (ah (a0.1=5)))))):Option Bool).bind λj1=>
(if j1 then
aa ((a0.1,(0,a0.2)),0)
else
(if(ah (a0.1=6))then
aa ((6,(aoz.wrap (aoM a0.2 16),aoP a0.2 16)),0)
else
(if(ah (a0.1=7))then
(idx a2.2.1 a0.2).bind λx2=>
aa (x2,0)
else
(if(ah (a0.1=8))then
(idx a2.2.2.1 a0.2).bind λx3=>
aa (x3,0)
else
(if(ah (a0.1=9))then
aa ((5,(0,a2.1)),0)
else
(if(ah (a0.1=35))then
aa ((2,(0,(a2.2.2.2.1.length:Int))),0)
else
((if(ah (a0.1=36))then
aa (ah (a0.1=36))
else
(if(ah (a0.1=37))then
aa (ah (a0.1=37))
else
(if(ah (a0.1=38))then
aa (ah (a0.1=38))
else
aa (ah (a0.1=39))))):Option Bool).bind λj4=>
(if j4 then
(M.gq N a0 a2).bind λy5=>
aa (y5.1,y5.2)
else
(if(ah (a0.1=33))then
(idx a2.2.2.2.2.2 a0.2).bind λx6=>
(idx a1 0).bind λx7=>
(M.kS N x6 a2.1 x7.2.2).bind λy8=>
(if(!y8.2)then
aa ((0,(0,0)),6)
else
(idx x6.2.2.2 y8.1).bind λx9=>
aa ((x6.2.2.1.1,(x6.2.2.1.2,x9.2.2.2)),0))
else
(if(ah (a0.1=34))then
(idx a2.2.2.2.2.2 (aoz.wrap (aoM a0.2 8))).bind λmj=>
(idx a1 0).bind λnT=>
(M.gI N mj a2.1 nT.2.2 (aoP a0.2 8)).bind λpJ=>
aa ((3,(0,pJ.1)),pJ.2)
else
(if(ah ((a1.length:Int)=1))then
(idx a1 0).bind λnK=>
(M.jr N a0.1 nK).bind λlz=>
aa (lz,0)
else
(if(ah ((a1.length:Int)=2))then
(idx a1 0).bind λub=>
(idx a1 1).bind λzM=>
(M.cm N a0 ub zM).bind λvy=>
aa (vy.1,vy.2)
else
(idx a1 0).bind λuN=>
(if(ah (uN.2.2=1))then
(idx a1 1).bind λDt=>
aa (Dt,0)
else
(idx a1 2).bind λY7=>
aa (Y7,0)))))))))))))
theorem ae5(N:Nat):Fo 143 (.i1 [.g aA, .l (.slice aC), .g cz]) (.i1 [.g aC, .l aB]) (u3 (M.bW N)):=fz N [ck (aeK N),ck (aeL N),ck (aeQ N),ck (aeT N),ck (ae4 N)] (.o (.two (.o (.two (.meet ⟨[(15, .l .bool)],[],[],96⟩ .nil (.o (.o (.o (.o (.o (.o (.o (.o (.o (.o (.o (.mb 62 256))))))))))))) .nil)) .nil)) Tryz.func143
def M.cr(N:Nat)(a0:aA.den)(a1:List aC.den)(a2:cz.den):Option (aC.den×Int):=
((M.dD N a0).bind λy2=>
(if(!y2)then
aa af
else
(M.dN N a0.1).bind λy3=>
aa (!ah ((a1.length:Int)=y3))):Option Bool).bind λj1=>
(if j1 then
aa ((0,(0,0)),2)
else
(M.fi N a0 a2).bind λy4=>
(if(!y4)then
aa ((0,(0,0)),6)
else
((M.cV N a1).bind λy6=>
(if(!y6)then
aa af
else
(M.bT N a0 a1 a2).bind λy7=>
aa (!y7)):Option Bool).bind λj5=>
(if j5 then
aa ((0,(0,0)),8)
else
(M.bW N a0 a1 a2).bind λy8=>
(if(!ah (y8.2=0))then
aa ((0,(0,0)),y8.2)
else
(M.ed N y8.1).bind λy9=>
(if(!y9)then
aa ((0,(0,0)),3)
else
aa (y8.1,0))))))
theorem W77(N:Nat):Fo 77 (.i1 [.g aA, .l (.slice aC), .g cz]) (.i1 [.g aC, .l aB]) (u3 (M.cr N)):=fz N [ck (SF N),ck (aeD N),ck (aeE N),ck (aeF N),ck (aeJ N),ck (ae5 N),ck (PB N)] (.o (.two (.mb 20 64) (.o (.two (.mb 36 128) .nil)))) Tryz.func77
def M.dh(N:Nat)(a0:aA.den):Option (aC.den×Bool):=
bx (J:=Unit) (R:=aC.den×Bool) ((if(ah (a0.1=1))then
aa (.inr ((1,(0,a0.2)),af))
else
(if(ah (a0.1=2))then
aa (.inr ((2,(0,a0.2)),af))
else
(if(ah (a0.1=3))then
aa (.inr ((3,(0,a0.2)),af))
else
(if(ah (a0.1=4))then
aa (.inr ((4,(0,a0.2)),af))
else
(if(ah (a0.1=5))then
aa (.inr ((5,(0,a0.2)),af))
else
(if(ah (a0.1=6))then
((if(ah (0<=a0.2))then
aa (ah (a0.2<128))
else
aa ag):Option Bool).bind λj2=>
(if j2 then
aa (.inr ((6,(aoz.wrap (aoM a0.2 16),aoP a0.2 16)),af))
else
aa (.inl ()))
else
aa (.inl ())))))))) λj1=>
aa ((0,(0,0)),ag)
theorem ae6(N:Nat):Fo 271 (.i1 [.g aA]) (.i1 [.g aC, .l .bool]) (M.dh N):=fz N [] (.o (.two (.o (.join ⟨[],[],[],80⟩ (.o (.o (.o (.o (.o (.o (.o (.o (.o (.o (.o (.two (.mb 40 272) .nil)))))))))))) .nil)) .nil)) Tryz.func271
def M.dP(N:Nat)(a0:aC.den):Option (aA.den):=
(if(ah (a0.1=1))then
aa (1,a0.2.2)
else
(if(ah (a0.1=2))then
aa (2,a0.2.2)
else
(if(ah (a0.1=3))then
aa (3,a0.2.2)
else
(if(ah (a0.1=4))then
aa (4,a0.2.2)
else
(if(ah (a0.1=5))then
aa (5,a0.2.2)
else
aa (6,aoz.wrap ((aoz.wrap (16*a0.2.1))+a0.2.2)))))))
theorem ae7(N:Nat):Fo 272 (.i1 [.g aC]) (.i1 [.g aA]) (M.dP N):=fz N [] .nil Tryz.func272
def M.fF(N:Nat)(a0:List aA.den)(a1:Int):Option (aA.den×Int×Bool):=
(idx a0 a1).bind λx1=>
(M.eh N x1.1).bind λy2=>
(if y2 then
aa ((0,0),0,ag)
else
(M.dN N x1.1).bind λy3=>
((if(ah (y3<1))then
aa af
else
aa (ah (a1<y3))):Option Bool).bind λj4=>
(if j4 then
aa ((0,0),0,ag)
else
bx (J:=List aC.den) (R:=aA.den×Int×Bool) ((fo a0 (aoz.wrap (a1-y3)) a1).bind λl6=>
Loop (S:=Int×List aC.den) (X:=(List aC.den)⊕(aA.den×Int×Bool)) (λs7=>
(if(ah (s7.1<(l6.length:Int)))then
(idx l6 s7.1).bind λx8=>
(M.dh N x8).bind λy9=>
(if(!y9.2)then
aa (.inr (.inr ((0,0),0,ag)))
else
(bR s7.2 ([y9.1]:List aC.den)).bind λsE=>
aa (.inl (aoz.wrap (s7.1+1),sE)))
else
aa (.inr (.inl s7.2)))) N (0,([]:List aC.den))) λj5=>
bx (J:=Unit) (R:=aA.den×Int×Bool) (Loop (S:=Int) (X:=Unit⊕(aA.den×Int×Bool)) (λnW=>
(if(ah (nW<(a0.length:Int)))then
(idx a0 nW).bind λnK=>
((M.eh N nK.1).bind λlv=>
(if lv then
(if(ah ((aoz.wrap (a1-y3))<nK.2))then
aa (ah (nK.2<=a1))
else
aa ag)
else
aa ag):Option Bool).bind λAQ=>
(if AQ then
aa (.inr (.inr ((0,0),0,ag)))
else
aa (.inl (aoz.wrap (nW+1))))
else
aa (.inr (.inl ())))) N 0) λsK=>
(M.cr N x1 j5 (0,(([]:List aC.den),(([]:List aC.den),(([]:List (List aC.den)),(([]:List aA.den),([]:List aP.den))))))).bind λzN=>
(if(!ah (zN.2=0))then
aa ((0,0),0,ag)
else
(M.dP N zN.1).bind λvy=>
aa (vy,y3,af))))
theorem ae8(N:Nat):Fo 230 (.i1 [.l (.slice aA), .l aB]) (.i1 [.g aA, .l aB, .l .bool]) (u2 (M.fF N)):=fz N [ck (SF N),ck (W77 N),ck (PA N),ck (ae6 N),ck (ae7 N)] (.o (.o (.o (.o (.two (.mb 35 256) (.o (.join ⟨[(9, .val ag (.own 272))],[(272, .own 71 aC)],[],273⟩ (.o (.two (.loop ⟨[(9, .val ag (.own 400)),(44, .l aB)],[(400, .own 71 aC)],[],401⟩ .nil) .nil)) (.join ⟨[],[],[],273⟩ (.o (.two (.lp 63 321 (.o (.o (.two (.two (.o (.mb 83 401)) .nil) .nil)))) .nil)) .nil)))))))) Tryz.func230
def M.cJ(N:Nat)(a0:List aA.den)(a1:Int)(a2:Int)(a3:aA.den):Option (List aA.den):=
(fo a0 0 (aoz.wrap (a1-a2))).bind λl1=>
(bR ([]:List aA.den) l1).bind λl2=>
(bR l2 ([a3]:List aA.den)).bind λl3=>
(fo a0 (aoz.wrap (a1+1)) (a0.length:Int)).bind λl4=>
(bR l3 l4).bind λl5=>
Loop (S:=Int×List aA.den) (X:=List aA.den) (λs6=>
(if(ah (s6.1<(l5.length:Int)))then
((idx s6.2 s6.1).bind λx8=>
((M.eh N x8.1).bind λnI=>
(if nI then
aa (ah (a1<x8.2))
else
aa ag):Option Bool).bind λj9=>
(if j9 then
(idx s6.2 s6.1).bind λnT=>
(idx s6.2 s6.1).bind λqZ=>
aa (be s6.2 s6.1 (qZ.1,aoz.wrap (nT.2-a2)))
else
aa s6.2):Option (List aA.den)).bind λj7=>
aa (.inl (aoz.wrap (s6.1+1),j7))
else
aa (.inr s6.2))) N (0,l5)
theorem ae9(N:Nat):Fo 231 (.i1 [.l (.slice aA), .l aB, .l aB, .g aA]) (.w1 67 aA) (u4 (M.cJ N)):=fz N [ck (PA N)] (.o (.o (.o (.o (.o (.two (.o (.two (.loop ⟨[(31, .l aB)],[(336, .own 67 aA)],[],417⟩ (.o (.o (.two (.meet ⟨[],[(336, .own 67 aA)],[],434⟩ (.o (.mb 44 529)) .nil) .nil)))) .nil)) .nil)))))) Tryz.func231
def M.cZ(N:Nat)(a0:List aA.den):Option (List aA.den):=
bx (J:=List aA.den) (R:=List aA.den) ((M.aI N a0).bind λy1=>
(M.dm N a0).bind λy2=>
(if(!y2)then
aa (.inr y1)
else
aa (.inl y1)):Option ((List aA.den)⊕(List aA.den))) λs3=>
Loop (S:=List aA.den) (X:=List aA.den) (λs4=>
bx (J:=List aA.den) (R:=(List aA.den)⊕(List aA.den)) (Loop (S:=Int×List aA.den) (X:=(List aA.den)⊕((List aA.den)⊕(List aA.den))) (λs6=>
(if(ah (s6.1<(s4.length:Int)))then
(M.fF N s6.2 s6.1).bind λy7=>
(if y7.2.2 then
(M.cJ N s6.2 s6.1 y7.2.1 y7.1).bind λy8=>
aa (.inr (.inr (.inl y8)))
else
aa (.inl (aoz.wrap (s6.1+1),s6.2)))
else
aa (.inr (.inl s6.2)))) N (0,s4)) λj5=>
aa (.inr j5)) N s3
def ZH(N:Nat):rH:=⟨.i1 [.l (.slice aA)], .w1 67 aA,M.cZ N⟩
theorem afa(N:Nat):kO Tryz.prog 161 (ZH N):=Pv (E:=(en [ck (SH N),ck (Wm N),ck (ae8 N),ck (ae9 N)] ag ag)) (N:=N) (l:=0) (L:=⟨[(3, .val ag (.own 16))],[(16, .own 67 aA)],[],17⟩) (a0:= .nil) (a1:=(.o (.two .nil .nil))) (a2:=(.join ⟨[(3, .val ag (.own 16))],[(16, .own 67 aA)],[],18⟩ (.o (.two (.loop ⟨[(3, .val ag (.own 16)),(16, .l aB)],[(16, .own 67 aA)],[],66⟩ .nil) .nil)) .nil)) (sg:=ZH N) (c:=Tryz.f161.body.getD .skip) (rs:=Tryz.f161.results.toList) Tryz.func161 (by kernel_rfl) (by kernel_rfl) rfl rfl rfl rfl (λx=>by kernel_rfl)
def M.jQ(N:Nat)(a0:List aA.den):Option (List aA.den):=
(M.cZ N a0).bind λy1=>
(M.dy N y1).bind λy2=>
(M.cv N y2).bind λy3=>
aa y3
theorem W89(N:Nat):Fo 89 (.i1 [.l (.slice aA)]) (.w1 67 aA) (M.jQ N):=fz N [ck (aeB N),ck (aeC N),ck (afa N)] .nil Tryz.func89
def M.cx(N:Nat)(a0:List aA.den):Option (List aA.den):=
(if(ah ((a0.length:Int)=0))then
aa ([]:List aA.den)
else
(M.gp N a0).bind λy1=>
(M.jQ N y1.2).bind λy2=>
aa y2)
theorem W50(N:Nat):Fo 50 (.i1 [.l (.slice aA)]) (.w1 67 aA) (M.cx N):=fz N [ck (W88 N),ck (W89 N)] .nil Tryz.func50
def M.dX(N:Nat)(a0:cQ.den)(a1:Int)(a2:Int):Option ((List bn.den)×(List Int)×(List (List aA.den))×List (List aA.den)):=
(idx a0.2.2 a1).bind λx1=>
(M.fL N x1).bind λy2=>
(M.jz N a0 a2).bind λy3=>
(idx y3.2.2 a1).bind λx4=>
(Loop (S:=Int×(List bn.den)×(List Int)×(List (List aA.den))×List (List aA.den)) (X:=(List bn.den)×(List Int)×(List (List aA.den))×List (List aA.den)) (λs6=>
(if(ah (s6.1<(x4.2.2.2.2.length:Int)))then
(idx x4.2.2.2.2 s6.1).bind λx7=>
(M.cx N x7.2.2.2.2.2.1).bind λy8=>
(bR s6.2.2.2.1 ([y8]:List (List aA.den))).bind λl9=>
(M.cx N x7.2.2.2.2.2.2.1).bind λnI=>
(bR s6.2.2.2.2 ([nI]:List (List aA.den))).bind λIv=>
aa (.inl (aoz.wrap (s6.1+1),s6.2.1,s6.2.2.1,l9,Iv))
else
aa (.inr (s6.2.1,s6.2.2.1,s6.2.2.2.1,s6.2.2.2.2)))) N (0,x4.2.2.2.2,y2.2,([]:List (List aA.den)),([]:List (List aA.den))):Option ((List bn.den)×(List Int)×(List (List aA.den))×List (List aA.den))).bind λj5=>
aa (j5.1,j5.2.1,j5.2.2.1,j5.2.2.2)
theorem W25(N:Nat):Fo 25 (.i1 [.g cQ, .l aB, .l aB]) (.j1 [.val af (.pair (.own 0) (.pair (.leaf (.slice bn)) (.pair (.own 1) (.own 2))))] [.own 3 aB, .own 68 (.slice aA), .own 68 (.slice aA)] 3) (u3 (M.dX N)):=fz N [ck (W48 N),ck (W49 N),ck (W50 N)] (.o (.o (.o (.o (.meet ⟨[],[(32, .box 48 (.pair (.own 128) (.pair (.leaf (.slice bn)) (.pair (.own 384) (.own 385))))),(128, .own 3 aB),(384, .own 68 (.slice aA)),(385, .own 68 (.slice aA))],[],388⟩ (.o (.two (.loop ⟨[(32, .l aB)],[(32, .box 48 (.pair (.own 128) (.pair (.leaf (.slice bn)) (.pair (.own 448) (.own 449))))),(128, .own 3 aB),(448, .own 68 (.slice aA)),(449, .own 68 (.slice aA))],[],452⟩ .nil) .nil)) .nil))))) Tryz.func25
def M.mA(N:Nat)(a0:bn.den)(a1:Int)(a2:Int):Option (Bool×Int×Int):=
((if(ah (a0.2.1=a1))then
(M.bV N a0.2.2.2.2.1 a2).bind λy2=>
aa y2
else
aa ag):Option Bool).bind λj1=>
aa (j1,a1,a2)
theorem ZI(N:Nat):Fo 67 (.j1 [.g bn, .ptr 0 [] 0, .ptr 1 [] 0] [.box 3 (.leaf aB), .box 3 (.leaf aB)] 2) (.j1 [.l .bool] [.box 3 (.leaf aB), .box 3 (.leaf aB)] 4) (u3 (M.mA N)):=fz N [ck (XS N)] (.o (.mb 4 34)) Tryz.func67
def M.m6(N:Nat)(a0:List bn.den)(a1:Int)(a2:Int):Option (Int×Int×(List Int)×List Int):=
(pw (a0.length:Int) 0).bind λl1=>
Loop (S:=Int×Int×Int×(List Int)×(List Int)×List Int) (X:=Int×Int×(List Int)×List Int) (λs2=>
(if(ah (s2.1<(a0.length:Int)))then
((idx a0 s2.1).bind λx4=>
(((if(ah (0<=x4.2.2.1))then
aa (ah (x4.2.2.1<s2.1))
else
aa ag):Option Bool).bind λj6=>
(if j6 then
(idx s2.2.2.2.1 x4.2.2.1).bind λx7=>
aa x7
else
aa (-1)):Option Int).bind λj5=>
(idx s2.2.2.2.1 s2.1).bind λx8=>
(M.mA N x4 s2.2.1 s2.2.2.1).bind λy9=>
(if y9.1 then
(idx (be s2.2.2.2.1 s2.1 j5) s2.1).bind λmj=>
(bR s2.2.2.2.2.1 ([s2.1]:List Int)).bind λIv=>
(bR s2.2.2.2.2.2 ([j5]:List Int)).bind λxO=>
aa (y9.2.1,y9.2.2,be (be s2.2.2.2.1 s2.1 j5) s2.1 (s2.2.2.2.2.1.length:Int),Iv,xO)
else
aa (y9.2.1,y9.2.2,be s2.2.2.2.1 s2.1 j5,s2.2.2.2.2.1,s2.2.2.2.2.2)):Option (Int×Int×(List Int)×(List Int)×List Int)).bind λj3=>
aa (.inl (aoz.wrap (s2.1+1),j3.1,j3.2.1,j3.2.2.1,j3.2.2.2.1,j3.2.2.2.2))
else
aa (.inr (s2.2.1,s2.2.2.1,s2.2.2.2.2.1,s2.2.2.2.2.2)))) N (0,a1,a2,l1,([]:List Int),([]:List Int))
theorem ZJ(N:Nat):Fo 66 (.j1 [.l (.slice bn), .fn 67 [(0,[],0),(1,[],0)]] [.box 3 (.leaf aB), .box 3 (.leaf aB)] 2) (.j1 [.val ag (.own 2), .val ag (.own 3)] [.box 3 (.leaf aB), .box 3 (.leaf aB), .own 3 aB, .own 3 aB] 6) (u3 (M.m6 N)):=fz N [ck (ZI N)] (.o (.o (.o (.two (.o (.two (.loop ⟨[(6, .val ag (.own 178)),(7, .val ag (.own 179)),(17, .l aB)],[(0, .box 3 (.leaf aB)),(1, .box 3 (.leaf aB)),(98, .own 3 aB),(178, .own 3 aB),(179, .own 3 aB)],[],183⟩ (.o (.o (.two (.meet ⟨[(6, .val ag (.own 199)),(7, .val ag (.own 200))],[(0, .box 3 (.leaf aB)),(1, .box 3 (.leaf aB)),(98, .own 3 aB),(199, .own 3 aB),(200, .own 3 aB)],[178,179],204⟩ (.o (.o (.meet ⟨[(11, .l aB)],[],[],311⟩ (.mb 30 311) .nil))) .nil) .nil)))) .nil)) .nil)))) Tryz.func66
def M.qb(N:Nat)(a0:aU.den)(a1:Int)(a2:Int):Option (List Int):=
(M.m6 N a0.2.2.2.2 a1 a2).bind λy1=>
aa y1.2.2.1
theorem W37(N:Nat):Fo 37 (.i1 [.g aU, .l aB, .l aB]) (.w1 3 aB) (u3 (M.qb N)):=fz N [ck (ZJ N)] .nil Tryz.func37
def M.fW(N:Nat)(a0:cQ.den)(a1:Int)(a2:Int):Option (cn.den):=
(idx a0.2.2 a1).bind λx1=>
(M.dX N a0 a1 a2).bind λy2=>
(Loop (S:=Int×(List Int)×(List (List aA.den))×(List (List aA.den))×aU.den×(List bn.den)×List Int) (X:=(List Int)×(List (List aA.den))×(List (List aA.den))×aU.den×(List bn.den)×List Int) (λs4=>
(if(ah (s4.1<(x1.2.2.2.1.length:Int)))then
(M.qb N s4.2.2.2.2.1 s4.1 a2).bind λy5=>
(bR s4.2.2.2.2.2.2 y5).bind λl6=>
aa (.inl (aoz.wrap (s4.1+1),s4.2.1,s4.2.2.1,s4.2.2.2.1,s4.2.2.2.2.1,s4.2.2.2.2.2.1,l6))
else
aa (.inr (s4.2.1,s4.2.2.1,s4.2.2.2.1,s4.2.2.2.2.1,s4.2.2.2.2.2.1,s4.2.2.2.2.2.2)))) N (0,y2.2.1,y2.2.2.1,y2.2.2.2,x1,y2.1,([]:List Int)):Option ((List Int)×(List (List aA.den))×(List (List aA.den))×aU.den×(List bn.den)×List Int)).bind λj3=>
(M.dO N j3.2.2.2.2.2).bind λy7=>
aa (j3.2.2.2.1,((j3.1,(j3.2.2.2.2.1,(j3.2.1,j3.2.2.1))),y7))
theorem W19(N:Nat):Fo 19 (.i1 [.g cQ, .l aB, .l aB]) (.i1 [.at cn]) (u3 (M.fW N)):=fz N [ck (W25 N),ck (W37 N),ck (W38 N)] (.o (.o (.meet ⟨[],[(160, .own 3 aB),(161, .own 68 (.slice aA)),(162, .own 68 (.slice aA)),(192, .box 83 (.pair (.leaf aU) (.pair (.pair (.own 160) (.pair (.leaf (.slice bn)) (.pair (.own 161) (.own 162)))) (.own 224)))),(224, .own 3 aB)],[],229⟩ (.o (.two (.loop ⟨[(26, .l aB)],[(160, .own 3 aB),(161, .own 68 (.slice aA)),(162, .own 68 (.slice aA)),(192, .box 83 (.pair (.leaf aU) (.pair (.pair (.own 160) (.pair (.leaf (.slice bn)) (.pair (.own 161) (.own 162)))) (.own 336)))),(336, .own 3 aB)],[],341⟩ .nil) .nil)) .nil))) Tryz.func19
def M.q6(N:Nat)(a0:Int):Option Bool:=
((if(ah (a0=50))then
aa af
else
(if(ah (a0=52))then
aa af
else
aa (ah (a0=53)))):Option Bool).bind λj1=>
aa j1
theorem W75(N:Nat):Fo 75 (.i1 [.l aB]) (.i1 [.l .bool]) (M.q6 N):=fz N [] (.o (.mb 2 16)) Tryz.func75
def M.Du(N:Nat)(a0:List aA.den)(a1:cz.den):Option (aC.den×Int×Int):=
(M.fh N a0).bind λy1=>
(if(!ah (y1.2=0))then
aa ((0,(0,0)),0,1)
else
bx (J:=Int×List aC.den) (R:=aC.den×Int×Int) (Loop (S:=Int×Int×List aC.den) (X:=(Int×List aC.den)⊕(aC.den×Int×Int)) (λs3=>
(if(ah (s3.2.1<(a0.length:Int)))then
bx (J:=Int×Int×List aC.den) (R:=(Int×Int×List aC.den)⊕((Int×List aC.den)⊕(aC.den×Int×Int))) ((idx a0 s3.2.1).bind λx5=>
(if(ah (x5.1=51))then
aa (.inl (aoz.wrap (s3.1+1),x5.2,s3.2.2))
else
(M.q6 N x5.1).bind λy6=>
(if(!y6)then
(M.dN N x5.1).bind λy7=>
(fo s3.2.2 (aoz.wrap ((s3.2.2.length:Int)-y7)) (s3.2.2.length:Int)).bind λl8=>
(M.cr N x5 l8 a1).bind λy9=>
(if(!ah (y9.2=0))then
aa (.inr (.inr (.inr ((0,(0,0)),0,y9.2))))
else
(fo s3.2.2 0 (aoz.wrap ((s3.2.2.length:Int)-y7))).bind λsE=>
(bR sE ([y9.1]:List aC.den)).bind λIv=>
aa (.inl (aoz.wrap (s3.1+1),aoz.wrap (s3.2.1+1),Iv)))
else
(idx s3.2.2 (aoz.wrap ((s3.2.2.length:Int)-1))).bind λqZ=>
((if(!ah (qZ.1=1))then
aa af
else
(if(!ah (qZ.2.2=0))then
aa (!ah (qZ.2.2=1))
else
aa ag)):Option Bool).bind λFK=>
(if FK then
aa (.inr (.inr (.inr ((0,(0,0)),0,8))))
else
((if(ah ((ah (qZ.2.2=1))=(ah (x5.1=53))))then
aa x5.2
else
aa (aoz.wrap (s3.2.1+1))):Option Int).bind λAQ=>
((if(!(ah ((ah (qZ.2.2=1))=(ah (x5.1=53)))))then
aa af
else
aa (ah (x5.1=50))):Option Bool).bind λRk=>
(if Rk then
(fo s3.2.2 0 (aoz.wrap ((s3.2.2.length:Int)-1))).bind λZi=>
aa (.inl (aoz.wrap (s3.1+1),AQ,Zi))
else
aa (.inl (aoz.wrap (s3.1+1),AQ,s3.2.2))))))) λj4=>
aa (.inl (j4.1,j4.2.1,j4.2.2))
else
aa (.inr (.inl (s3.1,s3.2.2))))) N (0,0,([]:List aC.den))) λj2=>
(idx j2.2 0).bind λyJ=>
aa (yJ,j2.1,0))
theorem W40(N:Nat):Fo 40 (.i1 [.l (.slice aA), .g cz]) (.i1 [.g aC, .l aB, .l aB]) (u2 (M.Du N)):=fz N [ck (W74 N),ck (W75 N),ck (SF N),ck (W77 N)] (.o (.o (.o (.o (.join ⟨[(9, .val ag (.own 240)),(10, .l aB)],[(240, .own 71 aC)],[],241⟩ (.o (.two (.loop ⟨[(9, .val ag (.own 256)),(10, .l aB),(11, .l aB)],[(256, .own 71 aC)],[],257⟩ (.o (.join ⟨[(9, .val ag (.own 321)),(10, .l aB),(11, .l aB)],[(321, .own 71 aC)],[256],322⟩ (.o (.o (.o (.o (.o (.o (.two (.mb 90 753) (.o (.meet ⟨[(11, .l aB)],[],[],881⟩ .nil (.mb 108 881)))))))))) .nil))) .nil)) .nil))))) Tryz.func40
def M.m7(N:Nat)(a0:bn.den)(a1:Int)(a2:Int):Option (Bool×Int×Int):=
((if(ah (a0.2.1=a1))then
(M.bV N a0.2.2.2.2.1 a2).bind λy2=>
aa y2
else
aa ag):Option Bool).bind λj1=>
aa (j1,a1,a2)
theorem Wx(N:Nat):Fo 133 (.j1 [.g bn, .ptr 0 [] 0, .ptr 1 [] 0] [.box 3 (.leaf aB), .box 3 (.leaf aB)] 2) (.j1 [.l .bool] [.box 3 (.leaf aB), .box 3 (.leaf aB)] 4) (u3 (M.m7 N)):=fz N [ck (XS N)] (.o (.mb 4 34)) Tryz.func133
def M.m8(N:Nat)(a0:List bn.den)(a1:Int)(a2:Int):Option (Int×Int×(List Int)×List Int):=
(pw (a0.length:Int) 0).bind λl1=>
Loop (S:=Int×Int×Int×(List Int)×(List Int)×List Int) (X:=Int×Int×(List Int)×List Int) (λs2=>
(if(ah (s2.1<(a0.length:Int)))then
((idx a0 s2.1).bind λx4=>
(((if(ah (0<=x4.2.2.1))then
aa (ah (x4.2.2.1<s2.1))
else
aa ag):Option Bool).bind λj6=>
(if j6 then
(idx s2.2.2.2.1 x4.2.2.1).bind λx7=>
aa x7
else
aa (-1)):Option Int).bind λj5=>
(idx s2.2.2.2.1 s2.1).bind λx8=>
(M.m7 N x4 s2.2.1 s2.2.2.1).bind λy9=>
(if y9.1 then
(idx (be s2.2.2.2.1 s2.1 j5) s2.1).bind λmj=>
(bR s2.2.2.2.2.1 ([s2.1]:List Int)).bind λIv=>
(bR s2.2.2.2.2.2 ([j5]:List Int)).bind λxO=>
aa (y9.2.1,y9.2.2,be (be s2.2.2.2.1 s2.1 j5) s2.1 (s2.2.2.2.2.1.length:Int),Iv,xO)
else
aa (y9.2.1,y9.2.2,be s2.2.2.2.1 s2.1 j5,s2.2.2.2.2.1,s2.2.2.2.2.2)):Option (Int×Int×(List Int)×(List Int)×List Int)).bind λj3=>
aa (.inl (aoz.wrap (s2.1+1),j3.1,j3.2.1,j3.2.2.1,j3.2.2.2.1,j3.2.2.2.2))
else
aa (.inr (s2.2.1,s2.2.2.1,s2.2.2.2.2.1,s2.2.2.2.2.2)))) N (0,a1,a2,l1,([]:List Int),([]:List Int))
theorem ZK(N:Nat):Fo 66 (.j1 [.l (.slice bn), .fn 133 [(0,[],0),(1,[],0)]] [.box 3 (.leaf aB), .box 3 (.leaf aB)] 2) (.j1 [.val ag (.own 2), .val ag (.own 3)] [.box 3 (.leaf aB), .box 3 (.leaf aB), .own 3 aB, .own 3 aB] 6) (u3 (M.m8 N)):=fz N [ck (Wx N)] (.o (.o (.o (.two (.o (.two (.loop ⟨[(6, .val ag (.own 178)),(7, .val ag (.own 179)),(17, .l aB)],[(0, .box 3 (.leaf aB)),(1, .box 3 (.leaf aB)),(98, .own 3 aB),(178, .own 3 aB),(179, .own 3 aB)],[],183⟩ (.o (.o (.two (.meet ⟨[(6, .val ag (.own 199)),(7, .val ag (.own 200))],[(0, .box 3 (.leaf aB)),(1, .box 3 (.leaf aB)),(98, .own 3 aB),(199, .own 3 aB),(200, .own 3 aB)],[178,179],204⟩ (.o (.o (.meet ⟨[(11, .l aB)],[],[],311⟩ (.mb 30 311) .nil))) .nil) .nil)))) .nil)) .nil)))) Tryz.func66
def M.q7(N:Nat)(a0:aU.den)(a1:Int)(a2:Int):Option ((List Int)×(List Int)×List Int):=
(M.m8 N a0.2.2.2.2 a1 a2).bind λy1=>
(Loop (S:=Int×List Int) (X:=List Int) (λs3=>
(if(ah (s3.1<(y1.2.2.1.length:Int)))then
(idx y1.2.2.1 s3.1).bind λx4=>
(idx a0.2.2.2.2 x4).bind λx5=>
(bR s3.2 ([x5.2.2.2.1]:List Int)).bind λl6=>
aa (.inl (aoz.wrap (s3.1+1),l6))
else
aa (.inr s3.2))) N (0,([]:List Int)):Option (List Int)).bind λj2=>
aa (y1.2.2.1,y1.2.2.2,j2)
theorem W71(N:Nat):Fo 71 (.i1 [.g aU, .l aB, .l aB]) (.j1 [.val ag (.own 0), .val ag (.own 1), .val ag (.own 2)] [.own 3 aB, .own 3 aB, .own 3 aB] 3) (u3 (M.q7 N)):=fz N [ck (ZK N)] (.o (.o (.o (.meet ⟨[(11, .val ag (.own 256))],[(256, .own 3 aB)],[],257⟩ (.o (.two (.loop ⟨[(11, .val ag (.own 304)),(23, .l aB)],[(304, .own 3 aB)],[],305⟩ .nil) .nil)) .nil)))) Tryz.func71
def M.cmp_isNaN_int(N:Nat)(a0:Int):Option Bool:=
aa (!ah (a0=a0))
theorem afc(N:Nat):Fo 199 (.i1 [.l aB]) (.i1 [.l .bool]) (M.cmp_isNaN_int N):=fz N [] .nil Tryz.func199
def M.cmp_Less_int(N:Nat)(a0:Int)(a1:Int):Option Bool:=
((M.cmp_isNaN_int N a0).bind λy2=>
(if y2 then
(M.cmp_isNaN_int N a1).bind λy3=>
(if(!y3)then
aa af
else
aa (ah (a0<a1)))
else
aa (ah (a0<a1))):Option Bool).bind λj1=>
aa j1
theorem afd(N:Nat):Fo 128 (.i1 [.l aB, .l aB]) (.i1 [.l .bool]) (u2 (M.cmp_Less_int N)):=fz N [ck (afc N)] (.o (.mb 4 16)) Tryz.func128
def M.nY(N:Nat)(a0:Int):Option Bool:=
aa (!ah (a0=a0))
theorem afe(N:Nat):Fo 200 (.i1 [.l aB]) (.i1 [.l .bool]) (M.nY N):=fz N [] .nil Tryz.func200
def M.jR(N:Nat)(a0:List Int)(a1:Int):Option (Int×Bool):=
(Loop (S:=Int×Int) (X:=Int) (λs2=>
(if(ah (s2.1<s2.2))then
((idx a0 (aoz.wrap (iA .u64 (aoD.wrap (aoz.wrap (s2.1+s2.2))) 1))).bind λx4=>
(M.cmp_Less_int N x4 a1).bind λy5=>
(if y5 then
aa (aoz.wrap ((aoz.wrap (iA .u64 (aoD.wrap (aoz.wrap (s2.1+s2.2))) 1))+1),s2.2)
else
aa (s2.1,aoz.wrap (iA .u64 (aoD.wrap (aoz.wrap (s2.1+s2.2))) 1))):Option (Int×Int)).bind λj3=>
aa (.inl (j3.1,j3.2))
else
aa (.inr s2.1))) N (0,(a0.length:Int)):Option Int).bind λj1=>
((if(ah (j1<(a0.length:Int)))then
(idx a0 j1).bind λx7=>
(if(ah (x7=a1))then
aa (j1,af)
else
(idx a0 j1).bind λx8=>
(M.nY N x8).bind λy9=>
(if y9 then
(M.nY N a1).bind λnI=>
aa (j1,nI)
else
aa (j1,ag)))
else
aa (j1,ag)):Option (Int×Bool)).bind λj6=>
aa (j6.1,j6.2)
theorem aff(N:Nat):Fo 134 (.i1 [.l (.slice aB), .l aB]) (.i1 [.l aB, .l .bool]) (u2 (M.jR N)):=fz N [ck (afd N),ck (afe N)] (.o (.o (.o (.meet ⟨[(7, .l aB)],[],[],128⟩ (.two (.loop ⟨[(7, .l aB),(8, .l aB)],[],[],128⟩ (.o (.meet ⟨[(7, .l aB),(8, .l aB)],[],[],176⟩ .nil .nil))) .nil) (.meet ⟨[(4, .l aB),(5, .l .bool)],[],[],128⟩ .nil .nil))))) Tryz.func134
def M.gU(N:Nat)(a0:cn.den)(a1:Int):Option Int:=
(M.jR N a0.2.2 a1).bind λy1=>
aa y1.1
theorem W72(N:Nat):Fo 72 (.i1 [.at cn, .l aB]) (.i1 [.l aB]) (u2 (M.gU N)):=fz N [ck (aff N)] .nil Tryz.func72
def M.qc(N:Nat)(a0:List Int)(a1:List Int):Option Int:=
(if(!ah ((a0.length:Int)=(a1.length:Int)))then
aa 2
else
(if(ah (8<(a0.length:Int)))then
aa 4
else
Loop (S:=Int) (X:=Int) (λs1=>
(if(ah (s1<(a0.length:Int)))then
(idx a0 s1).bind λx2=>
((if(ah (x2<(-1)))then
aa af
else
aa (ah (s1<=x2))):Option Bool).bind λj3=>
(if j3 then
aa (.inr 9)
else
((idx a1 s1).bind λx5=>
(if(ah (x5<0))then
aa af
else
(idx a1 s1).bind λx6=>
aa (ah (9<x6))):Option Bool).bind λj4=>
(if j4 then
aa (.inr 3)
else
aa (.inl (aoz.wrap (s1+1)))))
else
aa (.inr 0))) N 0))
theorem afg(N:Nat):Fo 135 (.i1 [.l (.slice aB), .l (.slice aB)]) (.i1 [.l aB]) (u2 (M.qc N)):=fz N [] (.o (.o (.o (.two (.o (.two (.lp 17 192 (.o (.o (.two (.two (.o (.two (.mb 28 288) (.mb 40 288))) .nil) .nil)))) .nil)) .nil)))) Tryz.func135
def M.qd(N:Nat)(a0:List Int)(a1:Int):Option (List Int):=
Loop (S:=Int×List Int) (X:=List Int) (λs1=>
(if(ah (s1.1<(a0.length:Int)))then
((idx a0 s1.1).bind λx3=>
(if(ah (x3=a1))then
(bR s1.2 ([s1.1]:List Int)).bind λl4=>
aa l4
else
aa s1.2):Option (List Int)).bind λj2=>
aa (.inl (aoz.wrap (s1.1+1),j2))
else
aa (.inr s1.2))) N (0,([]:List Int))
theorem afh(N:Nat):Fo 253 (.i1 [.l (.slice aB), .l aB]) (.w1 3 aB) (u2 (M.qd N)):=fz N [] (.o (.o (.two (.o (.two (.loop ⟨[(5, .val ag (.own 80)),(10, .l aB)],[(80, .own 3 aB)],[],81⟩ (.o (.o (.two (.meet ⟨[(5, .val ag (.own 97))],[(97, .own 3 aB)],[80],98⟩ .nil .nil) .nil)))) .nil)) .nil))) Tryz.func253
def M.pK(N:Nat)(a0:iR.den)(a1:Int):Option (List Int):=
(M.qd N a0.1 a1).bind λy1=>
Loop (S:=Int×List Int) (X:=List Int) (λs2=>
(if(ah (s2.1<(y1.length:Int)))then
((idx y1 s2.1).bind λx4=>
(idx a0.2.2 x4).bind λx5=>
(if(ah (x5=(-1)))then
aa s2.2
else
(((if(ah (0<(s2.2.length:Int)))then
(idx a0.2.1 x4).bind λx8=>
(idx s2.2 0).bind λx9=>
(idx a0.2.1 x9).bind λmj=>
aa (ah (mj<x8))
else
aa ag):Option Bool).bind λj7=>
(if j7 then
(fo s2.2 0 0).bind λIv=>
aa Iv
else
aa s2.2):Option (List Int)).bind λj6=>
((if(ah ((j6.length:Int)=0))then
aa af
else
(idx a0.2.1 x4).bind λnK=>
(idx j6 0).bind λqE=>
(idx a0.2.1 qE).bind λub=>
aa (ah (nK=ub))):Option Bool).bind λsD=>
(if sD then
(bR j6 ([x4]:List Int)).bind λZi=>
aa Zi
else
aa j6)):Option (List Int)).bind λj3=>
aa (.inl (aoz.wrap (s2.1+1),j3))
else
aa (.inr s2.2))) N (0,([]:List Int))
theorem afi(N:Nat):Fo 201 (.i1 [.g iR, .l aB]) (.w1 3 aB) (u2 (M.pK N)):=fz N [ck (afh N)] (.o (.o (.two (.o (.two (.loop ⟨[(5, .val ag (.own 144)),(13, .l aB)],[(144, .own 3 aB)],[],145⟩ (.o (.o (.two (.meet ⟨[(5, .val ag (.own 161))],[(161, .own 3 aB)],[144],162⟩ (.o (.o (.meet ⟨[(5, .val ag (.own 305))],[(305, .own 3 aB)],[144],306⟩ (.mb 40 305) (.mb 60 306)))) .nil) .nil)))) .nil)) .nil))) Tryz.func201
def M.iE(N:Nat)(a0:iR.den)(a1:Int):Option Int:=
(M.pK N a0 a1).bind λy1=>
(if(ah ((y1.length:Int)=0))then
aa (-1)
else
(if(ah ((y1.length:Int)=1))then
(idx y1 0).bind λx2=>
(idx a0.2.2 x2).bind λx3=>
aa x3
else
aa (-2)))
theorem ZL(N:Nat):Fo 137 (.i1 [.g iR, .l aB]) (.i1 [.l aB]) (u2 (M.iE N)):=fz N [ck (afi N)] .nil Tryz.func137
def M.qe(N:Nat)(a0:List Int)(a1:List Int)(a2:List Bool):Option (List Int):=
(pw (a0.length:Int) 0).bind λl1=>
Loop (S:=Int×List Int) (X:=List Int) (λs2=>
(if(ah (0<=s2.1))then
((M.iE N (a0,(a1,s2.2)) s2.1).bind λy4=>
(idx s2.2 s2.1).bind λx5=>
((idx (be s2.2 s2.1 y4) s2.1).bind λx7=>
(if(ah (x7=(-1)))then
(idx a2 s2.1).bind λx8=>
aa x8
else
aa ag):Option Bool).bind λj6=>
(if j6 then
(idx (be s2.2 s2.1 y4) s2.1).bind λx9=>
aa (be (be s2.2 s2.1 y4) s2.1 s2.1)
else
aa (be s2.2 s2.1 y4)):Option (List Int)).bind λj3=>
aa (.inl (aoz.wrap (s2.1-1),j3))
else
aa (.inr s2.2))) N (aoz.wrap ((a0.length:Int)-1),l1)
theorem afj(N:Nat):Fo 136 (.i1 [.l (.slice aB), .l (.slice aB), .l (.slice .bool)]) (.w1 3 aB) (u3 (M.qe N)):=fz N [ck (ZL N)] (.o (.o (.two (.o (.two (.loop ⟨[(8, .l aB)],[(80, .own 3 aB)],[],209⟩ (.o (.two (.meet ⟨[],[(80, .own 3 aB)],[],242⟩ (.o (.mb 40 369)) .nil) .nil))) .nil)) .nil))) Tryz.func136
def M.sy(N:Nat)(a0:List Int)(a1:List Int)(a2:List Bool):Option Int:=
((M.qc N a0 a1).bind λy2=>
(if(!ah (y2=0))then
aa af
else
aa (!ah ((a2.length:Int)=(a0.length:Int)))):Option Bool).bind λj1=>
(if j1 then
aa (-1)
else
(M.qe N a0 a1 a2).bind λy3=>
(M.iE N (a0,(a1,y3)) (-1)).bind λy4=>
aa y4)
theorem W73(N:Nat):Fo 73 (.i1 [.l (.slice aB), .l (.slice aB), .l (.slice .bool)]) (.i1 [.l aB]) (u3 (M.sy N)):=fz N [ck (afg N),ck (afj N),ck (ZL N)] (.o (.two (.mb 17 16) .nil)) Tryz.func73
def M.ga(N:Nat)(a0:cn.den)(a1:cz.den)(a2:Int)(a3:Int):Option (Int×aF.den):=
(M.q7 N a0.1 a3 a1.1).bind λy1=>
(pw (y1.1.length:Int) ag).bind λl2=>
bx (J:=List Bool) (R:=Int×aF.den) (Loop (S:=Int×List Bool) (X:=(List Bool)⊕(Int×aF.den)) (λs4=>
(if(ah (s4.1<(y1.1.length:Int)))then
bx (J:=List Bool) (R:=(Int×List Bool)⊕((List Bool)⊕(Int×aF.den))) ((idx y1.1 s4.1).bind λx6=>
(M.gU N a0 x6).bind λy7=>
(idx a0.2.1.2.2.1 y7).bind λx8=>
(if(ah ((x8.length:Int)=0))then
(idx s4.2 s4.1).bind λx9=>
aa (.inl (be s4.2 s4.1 af))
else
(M.Du N x8 a1).bind λnI=>
(if(!ah (nI.2.2=0))then
aa (.inr (.inr (.inr (0,(nI.2.2,(a2,(a3,x6)))))))
else
(idx s4.2 s4.1).bind λnT=>
aa (.inl (be s4.2 s4.1 (ah (nI.1.2.2=1))))))) λj5=>
aa (.inl (aoz.wrap (s4.1+1),j5))
else
aa (.inr (.inl s4.2)))) N (0,l2)) λj3=>
(M.sy N y1.2.1 y1.2.2 j3).bind λpJ=>
(if(ah (pJ=(-1)))then
aa (0,(10,(a2,(a3,(-1)))))
else
(if(ah (pJ=(-2)))then
aa (0,(11,(a2,(a3,(-1)))))
else
(idx y1.1 pJ).bind λnK=>
(M.gU N a0 nK).bind λlz=>
aa (lz,(0,(0,(0,0))))))
theorem W39(N:Nat):Fo 39 (.i1 [.at cn, .g cz, .l aB, .l aB]) (.i1 [.l aB, .g aF]) (u4 (M.ga N)):=fz N [ck (W40 N),ck (W71 N),ck (W72 N),ck (W73 N)] (.o (.o (.o (.join ⟨[],[(320, .own 4 .bool)],[],353⟩ (.o (.two (.loop ⟨[(38, .l aB)],[(320, .own 4 .bool)],[],401⟩ (.o (.o (.two (.join ⟨[],[(320, .own 4 .bool)],[],418⟩ .nil .nil) .nil)))) .nil)) .nil)))) Tryz.func39
def M.mC(N:Nat)(a0:cn.den)(a1:Int)(a2:Int)(a3:List aC.den)(a4:List aP.den):Option (aF.den×Int×(List aC.den)×(List aP.den)×(List Int)×List aC.den):=
(pw (a0.1.2.2.2.1.length:Int) (0,(0,0))).bind λl1=>
(pw (a0.1.2.2.2.1.length:Int) 0).bind λl2=>
bx (J:=(List aC.den)×List Int) (R:=aF.den×Int×(List aC.den)×(List aP.den)×(List Int)×List aC.den) (Loop (S:=Int×(List aC.den)×List Int) (X:=((List aC.den)×List Int)⊕(aF.den×Int×(List aC.den)×(List aP.den)×(List Int)×List aC.den)) (λs4=>
(if(ah (s4.1<(a0.2.1.1.length:Int)))then
(idx a0.2.1.1 s4.1).bind λx5=>
(M.ga N a0 (a2,(a3,(s4.2.1,(([]:List (List aC.den)),(([]:List aA.den),a4))))) a1 x5).bind λy6=>
(if(!ah (y6.2.1=0))then
aa (.inr (.inr (y6.2,a2,a3,a4,([]:List Int),s4.2.1)))
else
(idx a0.2.1.2.2.2 y6.1).bind λx7=>
(M.Du N x7 (a2,(a3,(s4.2.1,(([]:List (List aC.den)),(([]:List aA.den),a4)))))).bind λy8=>
(if(!ah (y8.2.2=0))then
(idx a0.2.2 y6.1).bind λx9=>
aa (.inr (.inr ((y8.2.2,(a1,(x5,x9))),a2,a3,a4,([]:List Int),s4.2.1)))
else
(idx s4.2.1 x5).bind λmj=>
(idx a0.2.2 y6.1).bind λnT=>
(idx s4.2.2 x5).bind λqZ=>
aa (.inl (aoz.wrap (s4.1+1),be s4.2.1 x5 y8.1,be s4.2.2 x5 nT))))
else
aa (.inr (.inl (s4.2.1,s4.2.2))))) N (0,l1,l2)) λj3=>
aa ((0,(0,(0,0))),a2,a3,a4,j3.2,j3.1)
theorem ZM(N:Nat):Fo 20 (.j1 [.at cn, .ptr 0 [] 0, .l aB] [.box 79 (.pair (.leaf aB) (.pair (.leaf (.slice aC)) (.pair .nil (.pair .nil (.pair .nil (.leaf (.slice aP)))))))] 1) (.j1 [.val ag (.own 1), .g aF] [.box 79 (.pair (.leaf aB) (.pair (.leaf (.slice aC)) (.pair (.own 2) (.pair .nil (.pair .nil (.leaf (.slice aP))))))), .own 3 aB, .own 71 aC] 4) (u5 (M.mC N)):=fz N [ck (W39 N),ck (W40 N)] (.o (.o (.o (.join ⟨[],[(145, .own 71 aC),(305, .own 3 aB)],[],339⟩ (.o (.two (.loop ⟨[(39, .l aB)],[(145, .own 71 aC),(305, .own 3 aB)],[],451⟩ .nil) .nil)) .nil)))) Tryz.func20
def M.mD(N:Nat)(a0:cn.den)(a1:Int)(a2:Int)(a3:List aC.den)(a4:List aP.den)(a5:List (List aC.den))(a6:List aA.den):Option (aF.den×Int×(List aC.den)×(List aP.den)×(List (List aC.den))×(List aA.den)×(List Int)×List aC.den):=
(pw (a0.1.2.2.2.1.length:Int) (0,(0,0))).bind λl1=>
(pw (a0.1.2.2.2.1.length:Int) 0).bind λl2=>
bx (J:=(List aC.den)×List Int) (R:=aF.den×Int×(List aC.den)×(List aP.den)×(List (List aC.den))×(List aA.den)×(List Int)×List aC.den) (Loop (S:=Int×(List aC.den)×List Int) (X:=((List aC.den)×List Int)⊕(aF.den×Int×(List aC.den)×(List aP.den)×(List (List aC.den))×(List aA.den)×(List Int)×List aC.den)) (λs4=>
(if(ah (s4.1<(a0.2.1.1.length:Int)))then
(idx a0.2.1.1 s4.1).bind λx5=>
(M.ga N a0 (a2,(a3,(s4.2.1,(a5,(a6,a4))))) a1 x5).bind λy6=>
(if(!ah (y6.2.1=0))then
aa (.inr (.inr (y6.2,a2,a3,a4,a5,a6,([]:List Int),s4.2.1)))
else
(idx a0.2.1.2.2.2 y6.1).bind λx7=>
(M.Du N x7 (a2,(a3,(s4.2.1,(a5,(a6,a4)))))).bind λy8=>
(if(!ah (y8.2.2=0))then
(idx a0.2.2 y6.1).bind λx9=>
aa (.inr (.inr ((y8.2.2,(a1,(x5,x9))),a2,a3,a4,a5,a6,([]:List Int),s4.2.1)))
else
(idx s4.2.1 x5).bind λmj=>
(idx a0.2.2 y6.1).bind λnT=>
(idx s4.2.2 x5).bind λqZ=>
aa (.inl (aoz.wrap (s4.1+1),be s4.2.1 x5 y8.1,be s4.2.2 x5 nT))))
else
aa (.inr (.inl (s4.2.1,s4.2.2))))) N (0,l1,l2)) λj3=>
aa ((0,(0,(0,0))),a2,a3,a4,a5,a6,j3.2,j3.1)
theorem ZN(N:Nat):Fo 20 (.j1 [.at cn, .ptr 0 [] 0, .l aB] [.box 79 (.pair (.leaf aB) (.pair (.leaf (.slice aC)) (.pair .nil (.pair (.own 1) (.pair (.own 2) (.leaf (.slice aP))))))), .own 27 (.slice aC), .own 57 aA] 3) (.j1 [.val ag (.own 3), .g aF] [.box 79 (.pair (.leaf aB) (.pair (.leaf (.slice aC)) (.pair (.own 4) (.pair (.own 1) (.pair (.own 2) (.leaf (.slice aP))))))), .own 27 (.slice aC), .own 57 aA, .own 3 aB, .own 71 aC] 8) (λ(x:cn.den×Int×Int×(List aC.den)×(List aP.den)×(List (List aC.den))×List aA.den)=>M.mD N x.1 x.2.1 x.2.2.1 x.2.2.2.1 x.2.2.2.2.1 x.2.2.2.2.2.1 x.2.2.2.2.2.2):=fz N [ck (W39 N),ck (W40 N)] (.o (.o (.o (.join ⟨[],[(147, .own 71 aC),(307, .own 3 aB)],[],341⟩ (.o (.two (.loop ⟨[(39, .l aB)],[(147, .own 71 aC),(307, .own 3 aB)],[],453⟩ .nil) .nil)) .nil)))) Tryz.func20
def M.rM(N:Nat)(a0:cQ.den)(a1:Int)(a2:Ca.den):Option (aF.den×(List aC.den)×(List Int)×List bS.den):=
(M.kR N a0).bind λy1=>
(if(!ah (y1.1=0))then
aa ((1,((-1),((-1),(-1)))),([]:List aC.den),([]:List Int),([]:List bS.den))
else
((if(ah (a1<0))then
aa af
else
aa (ah ((a0.2.2.length:Int)<=a1))):Option Bool).bind λj2=>
(if j2 then
aa ((6,((-1),((-1),(-1)))),([]:List aC.den),([]:List Int),([]:List bS.den))
else
(M.qa N a0 a1 a2).bind λy3=>
(if(!ah (y3.2.2=0))then
aa ((y3.2.2,(y3.1,((-1),(-1)))),([]:List aC.den),([]:List Int),([]:List bS.den))
else
bx (J:=Int×(List aC.den)×(List aP.den)×(List bS.den)×(List (List aC.den))×List aA.den) (R:=aF.den×(List aC.den)×(List Int)×List bS.den) ((idx a0.2.2 a1).bind λx5=>
(if(ah (0<=x5.2.1))then
(M.fW N a0 x5.2.1 a2.1).bind λy6=>
(Loop (S:=Int×Int×(List aC.den)×(List aP.den)×List aA.den) (X:=Int×(List aC.den)×(List aP.den)×List aA.den) (λs8=>
(if(ah (s8.1<(y6.1.2.2.2.1.length:Int)))then
(idx y6.1.2.2.2.1 s8.1).bind λx9=>
(bR s8.2.2.2.2 ([x9.2]:List aA.den)).bind λsE=>
aa (.inl (aoz.wrap (s8.1+1),s8.2.1,s8.2.2.1,s8.2.2.2.1,sE))
else
aa (.inr (s8.2.1,s8.2.2.1,s8.2.2.2.1,s8.2.2.2.2)))) N (0,a2.1,a2.2.1,a0.2.1,([]:List aA.den)):Option (Int×(List aC.den)×(List aP.den)×List aA.den)).bind λj7=>
Loop (S:=Int×Int×(List aC.den)×(List aP.den)×(List aA.den)×(List bS.den)×List (List aC.den)) (X:=(Int×(List aC.den)×(List aP.den)×(List bS.den)×(List (List aC.den))×List aA.den)⊕(aF.den×(List aC.den)×(List Int)×List bS.den)) (λnL=>
(if(ah (nL.1<(a2.2.2.length:Int)))then
(idx a2.2.2 nL.1).bind λqZ=>
(M.mC N y6 nL.1 a2.1 qZ a0.2.1).bind λpT=>
(if(!ah (pT.1.1=0))then
aa (.inr (.inr (pT.1,([]:List aC.den),([]:List Int),([]:List bS.den))))
else
(bR nL.2.2.2.2.2.2 ([pT.2.2.2.2.2]:List (List aC.den))).bind λZO=>
(bR nL.2.2.2.2.2.1 ([(pT.2.2.2.2.2,pT.2.2.2.2.1)]:List bS.den)).bind λWe=>
aa (.inl (aoz.wrap (nL.1+1),nL.2.1,nL.2.2.1,nL.2.2.2.1,nL.2.2.2.2.1,We,ZO)))
else
aa (.inr (.inl (nL.2.1,nL.2.2.1,nL.2.2.2.1,nL.2.2.2.2.2.1,nL.2.2.2.2.2.2,nL.2.2.2.2.1))))) N (0,j7.1,j7.2.1,j7.2.2.1,j7.2.2.2,([]:List bS.den),([]:List (List aC.den)))
else
aa (.inl (a2.1,a2.2.1,a0.2.1,([]:List bS.den),([]:List (List aC.den)),([]:List aA.den))))) λj4=>
(M.fW N a0 a1 a2.1).bind λzN=>
(M.mD N zN (-1) j4.1 j4.2.1 j4.2.2.1 j4.2.2.2.2.1 j4.2.2.2.2.2).bind λvy=>
(if(!ah (vy.1.1=0))then
aa (vy.1,([]:List aC.den),([]:List Int),([]:List bS.den))
else
aa ((0,(0,(0,0))),vy.2.2.2.2.2.2.2,vy.2.2.2.2.2.2.1,j4.2.2.2.1)))))
theorem W8(N:Nat):Fo 8 (.i1 [.g cQ, .l aB, .g Ca]) (.j1 [.val af (.pair (.own 0) (.pair (.own 1) (.own 2))), .g aF] [.own 71 aC, .own 3 aB, .own 90 bS] 3) (u3 (M.rM N)):=fz N [ck (W17 N),ck (W18 N),ck (W19 N),ck (ZM N),ck (ZN N)] (.o (.o (.two (.mb 40 176) (.o (.o (.o (.join ⟨[],[(384, .box 37 (.pair .nil (.pair .nil (.own 544)))),(512, .box 79 (.pair (.leaf aB) (.pair (.leaf (.slice aC)) (.pair .nil (.pair (.own 545) (.pair (.own 546) (.leaf (.slice aP)))))))),(544, .own 90 bS),(545, .own 27 (.slice aC)),(546, .own 57 aA)],[],549⟩ (.o (.o (.two (.o (.meet ⟨[],[(512, .box 79 (.pair (.leaf aB) (.pair (.leaf (.slice aC)) (.pair .nil (.pair .nil (.pair (.own 784) (.leaf (.slice aP)))))))),(784, .own 57 aA)],[],786⟩ (.o (.two (.loop ⟨[(83, .l aB)],[(512, .box 79 (.pair (.leaf aB) (.pair (.leaf (.slice aC)) (.pair .nil (.pair .nil (.pair (.own 896) (.leaf (.slice aP)))))))),(896, .own 57 aA)],[],898⟩ .nil) .nil)) (.o (.two (.loop ⟨[(98, .l aB)],[(384, .box 37 (.pair .nil (.pair .nil (.own 850)))),(512, .box 79 (.pair (.leaf aB) (.pair (.leaf (.slice aC)) (.pair .nil (.pair (.own 851) (.pair (.own 784) (.leaf (.slice aP)))))))),(784, .own 57 aA),(850, .own 90 bS),(851, .own 27 (.slice aC))],[],855⟩ .nil) .nil)))) .nil))) .nil))))))) Tryz.func8
def M.gr(N:Nat)(a0:cQ.den)(a1:Int)(a2:Int):Option ((List bn.den)×Int×(List Int)×(List (List aA.den))×List (List aA.den)):=
(M.kR N a0).bind λy1=>
(if(!ah (y1.1=0))then
aa (([]:List bn.den),1,([]:List Int),([]:List (List aA.den)),([]:List (List aA.den)))
else
((if(ah (a1<0))then
aa af
else
aa (ah ((a0.2.2.length:Int)<=a1))):Option Bool).bind λj2=>
(if j2 then
aa (([]:List bn.den),6,([]:List Int),([]:List (List aA.den)),([]:List (List aA.den)))
else
((if(ah (a2<0))then
aa af
else
aa (ah (109572<a2))):Option Bool).bind λj3=>
(if j3 then
aa (([]:List bn.den),3,([]:List Int),([]:List (List aA.den)),([]:List (List aA.den)))
else
(M.dX N a0 a1 a2).bind λy4=>
aa (y4.1,0,y4.2.1,y4.2.2.1,y4.2.2.2))))
theorem W11(N:Nat):Fo 11 (.i1 [.g cQ, .l aB, .l aB]) (.j1 [.val af (.pair (.own 0) (.pair (.leaf (.slice bn)) (.pair (.own 1) (.own 2)))), .l aB] [.own 3 aB, .own 68 (.slice aA), .own 68 (.slice aA)] 3) (u3 (M.gr N)):=fz N [ck (W17 N),ck (W25 N)] (.o (.o (.two (.mb 23 160) (.two (.mb 30 160) .nil)))) Tryz.func11
def M.pj(N:Nat)(a0:List aA.den):Option (List aU.den):=
aa ([((⟨#[104,111,117,115,101]⟩:ByteArray),((-1),(([((⟨#[97]⟩:ByteArray),(3,0))]:List bi.den),(([((⟨#[100]⟩:ByteArray),(3,0))]:List bi.den),([((⟨#[98,97,115,101]⟩:ByteArray),(0,((-1),(0,((0,109573),(([]:List aA.den),(a0,ByteArray.empty)))))))]:List bn.den)))))]:List aU.den)
theorem W15(N:Nat):Fo 15 (.i1 [.l (.slice aA)]) (.j1 [.val af (.pair .nil (.pair .nil (.own 0)))] [.own 63 aU] 1) (M.pj N):=fz N [] .nil Tryz.func15
def M.mn(N:Nat)(a0:List aA.den)(a1:List aA.den):Option Bool:=
(if(!ah ((a0.length:Int)=(a1.length:Int)))then
aa ag
else
Loop (S:=Int) (X:=Bool) (λs1=>
((if(ah (s1<(a0.length:Int)))then
aa (ah (s1<(a1.length:Int)))
else
aa ag):Option Bool).bind λj2=>
(if j2 then
(idx a0 s1).bind λx3=>
(idx a1 s1).bind λx4=>
(if(!(px aA x3 x4))then
aa (.inr ag)
else
aa (.inl (aoz.wrap (s1+1))))
else
aa (.inr af))) N 0)
theorem W16(N:Nat):Fo 16 (.i1 [.l (.slice aA), .l (.slice aA)]) (.i1 [.l .bool]) (u2 (M.mn N)):=fz N [] (.o (.o (.two (.o (.two (.lp 5 112 (.two (.mb 20 112) .nil)) .nil)) .nil))) Tryz.func16
def M.oI(N:Nat):Option Bool:=
(M.pj N ([(3,100),(3,200),(11,0)]:List aA.den)).bind λy1=>
(M.gr N (([]:List bA.den),(([]:List aP.den),y1)) 0 0).bind λy2=>
((if(!ah (y2.2.1=0))then
aa af
else
(if(!ah ((y2.2.2.2.2.length:Int)=1))then
aa af
else
(idx y2.2.2.2.2 0).bind λx4=>
(M.mn N x4 ([(3,300)]:List aA.den)).bind λy5=>
aa (!y5))):Option Bool).bind λj3=>
(if j3 then
aa ag
else
(M.rM N (([]:List bA.den),(([]:List aP.den),y1)) 0 (0,(([(3,(0,0))]:List aC.den),([]:List (List aC.den))))).bind λy6=>
((if(px aF y6.1 (0,(0,(0,0))))then
(if(ah ((y6.2.1.length:Int)=1))then
(idx y6.2.1 0).bind λx8=>
aa (px aC x8 (3,(0,300)))
else
aa ag)
else
aa ag):Option Bool).bind λj7=>
aa j7)
theorem W7(N:Nat):Fo 7 (.i1 []) (.i1 [.l .bool]) (λ(x:Unit)=>M.oI N):=fz N [ck (W8 N),ck (W11 N),ck (W15 N),ck (W16 N)] (.o (.o (.o (.two (.mb 33 256) (.o (.mb 0 448)))))) Tryz.func7
def M.oJ(N:Nat)(a0:Int):Option Bool:=
((if(ah (97<=a0))then
aa (ah (a0<=122))
else
aa ag):Option Bool).bind λj1=>
aa j1
theorem ZP(N:Nat):Fo 232 (.i1 [.l (.int .u8)]) (.i1 [.l .bool]) (M.oJ N):=fz N [] (.o (.mb 2 16)) Tryz.func232
def M.qf(N:Nat)(a0:Int):Option Bool:=
((if(ah (48<=a0))then
aa (ah (a0<=57))
else
aa ag):Option Bool).bind λj1=>
aa j1
theorem afl(N:Nat):Fo 273 (.i1 [.l (.int .u8)]) (.i1 [.l .bool]) (M.qf N):=fz N [] (.o (.mb 2 16)) Tryz.func273
def M.rN(N:Nat)(a0:Int):Option Bool:=
((M.oJ N a0).bind λy2=>
(if y2 then
aa af
else
(M.qf N a0).bind λy3=>
(if y3 then
aa af
else
aa (ah (a0=95)))):Option Bool).bind λj1=>
aa j1
theorem afm(N:Nat):Fo 233 (.i1 [.l (.int .u8)]) (.i1 [.l .bool]) (M.rN N):=fz N [ck (ZP N),ck (afl N)] (.o (.mb 2 16)) Tryz.func233
def M.iU(N:Nat):Option (List ByteArray):=
aa ([(⟨#[105,102]⟩:ByteArray),(⟨#[116,104,101,110]⟩:ByteArray),(⟨#[101,108,115,101]⟩:ByteArray),(⟨#[111,114]⟩:ByteArray),(⟨#[97,110,100]⟩:ByteArray),(⟨#[110,111,116]⟩:ByteArray),(⟨#[116,114,117,101]⟩:ByteArray),(⟨#[102,97,108,115,101]⟩:ByteArray),(⟨#[116,111,100,97,121]⟩:ByteArray),(⟨#[115,104,97,114,101]⟩:ByteArray),(⟨#[100,105,118]⟩:ByteArray),(⟨#[114,111,117,110,100]⟩:ByteArray),(⟨#[109,105,110]⟩:ByteArray),(⟨#[109,97,120]⟩:ByteArray),(⟨#[112,108,117,115]⟩:ByteArray),(⟨#[109,111,110,116,104,115]⟩:ByteArray),(⟨#[100,97,121,115]⟩:ByteArray),(⟨#[121,101,97,114,115]⟩:ByteArray),(⟨#[121,101,97,114]⟩:ByteArray),(⟨#[109,111,110,116,104]⟩:ByteArray),(⟨#[116,97,98]⟩:ByteArray),(⟨#[98,97,110,100]⟩:ByteArray),(⟨#[99,111,117,110,116]⟩:ByteArray),(⟨#[115,117,109]⟩:ByteArray),(⟨#[97,108,108]⟩:ByteArray),(⟨#[97,110,121]⟩:ByteArray),(⟨#[109,111,115,116]⟩:ByteArray),(⟨#[101,110,117,109]⟩:ByteArray),(⟨#[116,97,98,108,101]⟩:ByteArray),(⟨#[114,111,119]⟩:ByteArray),(⟨#[115,99,111,112,101]⟩:ByteArray),(⟨#[109,101,109,98,101,114,115]⟩:ByteArray),(⟨#[105,110,112,117,116]⟩:ByteArray),(⟨#[100,101,102]⟩:ByteArray),(⟨#[114,117,108,101]⟩:ByteArray),(⟨#[111,102]⟩:ByteArray),(⟨#[111,118,101,114]⟩:ByteArray),(⟨#[112,114,105,111]⟩:ByteArray),(⟨#[102,114,111,109]⟩:ByteArray),(⟨#[116,111]⟩:ByteArray),(⟨#[101,110,100]⟩:ByteArray),(⟨#[119,104,101,110]⟩:ByteArray),(⟨#[105,115]⟩:ByteArray),(⟨#[115,114,99]⟩:ByteArray),(⟨#[98,111,111,108]⟩:ByteArray),(⟨#[105,110,116]⟩:ByteArray),(⟨#[109,111,110,101,121]⟩:ByteArray),(⟨#[114,97,116,101]⟩:ByteArray),(⟨#[100,97,116,101]⟩:ByteArray),(⟨#[100,111,119,110]⟩:ByteArray),(⟨#[117,112]⟩:ByteArray),(⟨#[122,101,114,111]⟩:ByteArray),(⟨#[97,119,97,121]⟩:ByteArray),(⟨#[104,97,108,102]⟩:ByteArray),(⟨#[101,118,101,110]⟩:ByteArray)]:List ByteArray)
theorem afn(N:Nat):Fo 234 (.i1 []) (.w1 9 .str) (λ(x:Unit)=>M.iU N):=fz N [] .nil Tryz.func234
def M.b7(N:Nat)(a0:ByteArray):Option Bool:=
((if(ah ((a0.size:Int)=0))then
aa af
else
(if(ah (16<(a0.size:Int)))then
aa af
else
(lj a0 0).bind λx2=>
(M.oJ N x2).bind λy3=>
aa (!y3))):Option Bool).bind λj1=>
(if j1 then
aa ag
else
bx (J:=Unit) (R:=Bool) (Loop (S:=Int) (X:=Unit⊕Bool) (λs5=>
(if(ah (s5<(a0.size:Int)))then
(lj a0 s5).bind λx6=>
(M.rN N x6).bind λy7=>
(if(!y7)then
aa (.inr (.inr ag))
else
aa (.inl (aoz.wrap (s5+1))))
else
aa (.inr (.inl ())))) N 0) λj4=>
(M.iU N).bind λy8=>
Loop (S:=Int) (X:=Bool) (λs9=>
(if(ah (s9<(y8.length:Int)))then
(idx y8 s9).bind λmj=>
(if(ah (mj=a0))then
aa (.inr ag)
else
aa (.inl (aoz.wrap (s9+1))))
else
aa (.inr af))) N 0)
theorem PC(N:Nat):Fo 162 (.i1 [.l .str]) (.i1 [.l .bool]) (M.b7 N):=fz N [ck (ZP N),ck (afm N),ck (afn N)] (.o (.two (.mb 19 16) (.join ⟨[],[],[],16⟩ (.o (.two (.lp 3 32 .nil) .nil)) (.o (.two (.o (.two (.lp 5 64 .nil) .nil)) .nil))))) Tryz.func162
def M.et(N:Nat)(a0:cQ.den)(a1:Int)(a2:Int)(a3:ByteArray):Option Bool:=
bx (J:=Unit) (R:=Bool) (Loop (S:=Int) (X:=Unit⊕Bool) (λs2=>
(if(ah (s2<(a0.1.length:Int)))then
((if(ah (1<a1))then
(idx a0.1 s2).bind λx4=>
aa (ah (x4.1=a3))
else
(if(ah (s2<a2))then
(idx a0.1 s2).bind λx5=>
aa (ah (x5.1=a3))
else
aa ag)):Option Bool).bind λj3=>
(if j3 then
aa (.inr (.inr af))
else
aa (.inl (aoz.wrap (s2+1))))
else
aa (.inr (.inl ())))) N 0) λj1=>
bx (J:=Unit) (R:=Bool) (Loop (S:=Int) (X:=Unit⊕Bool) (λs7=>
(if(ah (s7<(a0.2.1.length:Int)))then
((if(ah (2<a1))then
(idx a0.2.1 s7).bind λx9=>
aa (ah (x9.1=a3))
else
(if(ah (a1=2))then
(if(ah (s7<a2))then
(idx a0.2.1 s7).bind λmj=>
aa (ah (mj.1=a3))
else
aa ag)
else
aa ag)):Option Bool).bind λj8=>
(if j8 then
aa (.inr (.inr af))
else
aa (.inl (aoz.wrap (s7+1))))
else
aa (.inr (.inl ())))) N 0) λj6=>
Loop (S:=Int) (X:=Bool) (λnL=>
(if(ah (nL<(a0.2.2.length:Int)))then
((if(ah (a1=3))then
(if(ah (nL<a2))then
(idx a0.2.2 nL).bind λnK=>
aa (ah (nK.1=a3))
else
aa ag)
else
aa ag):Option Bool).bind λsD=>
(if sD then
aa (.inr af)
else
aa (.inl (aoz.wrap (nL+1))))
else
aa (.inr ag))) N 0
theorem Wy(N:Nat):Fo 163 (.i1 [.g cQ, .l aB, .l aB, .l .str]) (.i1 [.l .bool]) (u4 (M.et N)):=fz N [] (.o (.join ⟨[],[],[],32⟩ (.o (.two (.lp 9 48 (.o (.two (.two (.mb 35 128) .nil) .nil))) .nil)) (.join ⟨[],[],[],32⟩ (.o (.two (.lp 10 48 (.o (.two (.two (.mb 63 128) .nil) .nil))) .nil)) (.two (.o (.two (.lp 11 48 (.o (.two (.two (.mb 87 128) .nil) .nil))) .nil)) .nil)))) Tryz.func163
def M.mc(N:Nat)(a0:cQ.den)(a1:Int):Option (aF.den):=
(idx a0.1 a1).bind λx1=>
(M.b7 N x1.1).bind λy2=>
(if(!y2)then
aa (2,(1,(a1,0)))
else
(M.et N a0 1 a1 x1.1).bind λy3=>
(if y3 then
aa (7,(1,(a1,0)))
else
(if(ah ((x1.2.length:Int)=0))then
aa (5,(1,(a1,0)))
else
(if(ah (16<(x1.2.length:Int)))then
aa (4,(1,(a1,116)))
else
bx (J:=aF.den) (R:=aF.den) (Loop (S:=Int×aF.den) (X:=(aF.den)⊕(aF.den)) (λs5=>
(if(ah (s5.1<(x1.2.length:Int)))then
bx (J:=aF.den) (R:=(Int×aF.den)⊕((aF.den)⊕(aF.den))) ((idx x1.2 s5.1).bind λx7=>
(M.b7 N x7).bind λy8=>
(if(!y8)then
aa (.inr (.inr (.inr (2,(s5.2.2.1,(s5.2.2.2.1,aoz.wrap (100+s5.1)))))))
else
Loop (S:=Int) (X:=(aF.den)⊕((Int×aF.den)⊕((aF.den)⊕(aF.den)))) (λs9=>
(if(ah (s9<s5.1))then
(idx x1.2 s9).bind λmj=>
(idx x1.2 s5.1).bind λnT=>
(if(ah (mj=nT))then
aa (.inr (.inr (.inr (.inr (7,(s5.2.2.1,(s5.2.2.2.1,aoz.wrap (100+s5.1))))))))
else
aa (.inl (aoz.wrap (s9+1))))
else
aa (.inr (.inl (s5.2.1,(s5.2.2.1,(s5.2.2.2.1,aoz.wrap (100+s5.1)))))))) N 0)) λj6=>
aa (.inl (aoz.wrap (s5.1+1),j6))
else
aa (.inr (.inl s5.2)))) N (0,(0,(1,(a1,0))))) λj4=>
aa (0,(0,(0,0)))))))
theorem W90(N:Nat):Fo 90 (.i1 [.g cQ, .l aB]) (.i1 [.g aF]) (u2 (M.mc N)):=fz N [ck (PC N),ck (Wy N)] (.o (.o (.o (.o (.o (.o (.o (.join ⟨[],[(176, .box 73 (.leaf aF))],[],481⟩ (.o (.two (.loop ⟨[(7, .l aB)],[(176, .box 73 (.leaf aF))],[],497⟩ (.o (.join ⟨[],[(176, .box 73 (.leaf aF))],[],578⟩ (.two (.o (.o (.o (.two (.lp 8 769 .nil) .nil)))) .nil) .nil))) .nil)) .nil)))))))) Tryz.func90
def M.db(N:Nat)(a0:aA.den)(a1:List bA.den):Option Bool:=
(if(ah (a0.1=6))then
((if(ah (0<=a0.2))then
aa (ah (a0.2<(a1.length:Int)))
else
aa ag):Option Bool).bind λj1=>
aa j1
else
((if(ah (1<=a0.1))then
(if(ah (a0.1<=5))then
aa (ah (a0.2=0))
else
aa ag)
else
aa ag):Option Bool).bind λj2=>
aa j2)
theorem PD(N:Nat):Fo 235 (.i1 [.g aA, .l (.slice bA)]) (.i1 [.l .bool]) (u2 (M.db N)):=fz N [] (.o (.two (.o (.two (.mb 4 80) .nil)) (.mb 4 80))) Tryz.func235
def M.jk(N:Nat)(a0:aA.den):Option Bool:=
((if(ah (0<=a0.1))then
(if(ah (a0.1<=a0.2))then
aa (ah (a0.2<=109573))
else
aa ag)
else
aa ag):Option Bool).bind λj1=>
aa j1
theorem SM(N:Nat):Fo 171 (.i1 [.g aA]) (.i1 [.l .bool]) (M.jk N):=fz N [] (.o (.mb 2 32)) Tryz.func171
def M.m9(N:Nat)(a0:aA.den)(a1:List bA.den):Option (Int×Int):=
(M.db N a0 a1).bind λy1=>
(if(!y1)then
aa (0,(-1))
else
(if(ah (a0.1=1))then
aa (0,1)
else
(if(ah (a0.1=2))then
aa ((-1000000000000),1000000000000)
else
(if(ah (a0.1=3))then
aa ((-1000000000000000),1000000000000000)
else
(if(ah (a0.1=4))then
aa ((-1000000000),1000000000)
else
(if(ah (a0.1=5))then
aa (0,109572)
else
(idx a1 a0.2).bind λx2=>
aa (0,aoz.wrap ((x2.2.length:Int)-1))))))))
theorem ZQ(N:Nat):Fo 263 (.i1 [.g aA, .l (.slice bA)]) (.i1 [.l aB, .l aB]) (u2 (M.m9 N)):=fz N [ck (PD N)] .nil Tryz.func263
def M.q8(N:Nat)(a0:Int)(a1:aA.den)(a2:List bA.den):Option Bool:=
(M.m9 N a1 a2).bind λy1=>
((if(ah (y1.1<=a0))then
aa (ah (a0<=y1.2))
else
aa ag):Option Bool).bind λj2=>
aa j2
theorem afo(N:Nat):Fo 217 (.i1 [.l aB, .g aA, .l (.slice bA)]) (.i1 [.l .bool]) (u3 (M.q8 N)):=fz N [ck (ZQ N)] (.o (.o (.mb 6 160))) Tryz.func217
def M.qg(N:Nat)(a0:dM.den)(a1:aP.den)(a2:List bA.den):Option Bool:=
((M.jk N a0.1).bind λy2=>
(if(!y2)then
aa af
else
(if(ah (a0.1.1=a0.1.2))then
aa af
else
aa (ah (a0.2.2.1<=a0.2.1)))):Option Bool).bind λj1=>
(if j1 then
aa af
else
((M.q8 N a0.2.1 a1.2.1 a2).bind λy4=>
(if(!y4)then
aa af
else
(M.q8 N (aoz.wrap (a0.2.2.1-1)) a1.2.1 a2).bind λy5=>
(if(!y5)then
aa af
else
(M.q8 N a0.2.2.2 a1.2.2.1 a2).bind λy6=>
aa (!y6))):Option Bool).bind λj3=>
aa j3)
theorem afp(N:Nat):Fo 236 (.i1 [.g dM, .g aP, .l (.slice bA)]) (.i1 [.l .bool]) (u3 (M.qg N)):=fz N [ck (SM N),ck (afo N)] (.o (.two (.mb 26 48) (.mb 6 48))) Tryz.func236
def M.oX(N:Nat)(a0:aA.den)(a1:aA.den):Option (aA.den×Bool):=
((M.jk N a0).bind λy2=>
(if(!y2)then
aa af
else
(M.jk N a1).bind λy3=>
aa (!y3)):Option Bool).bind λj1=>
(if j1 then
aa ((0,0),ag)
else
(if(ah ((if a1.2<a0.2 then a1.2 else a0.2)<=(if a0.1<a1.1 then a1.1 else a0.1)))then
aa ((0,0),ag)
else
aa ((if a0.1<a1.1 then a1.1 else a0.1,if a1.2<a0.2 then a1.2 else a0.2),af)))
theorem afq(N:Nat):Fo 274 (.i1 [.g aA, .g aA]) (.i1 [.g aA, .l .bool]) (u2 (M.oX N)):=fz N [ck (SM N)] (.o (.two (.mb 14 64) .nil)) Tryz.func274
def M.nf(N:Nat)(a0:dM.den)(a1:dM.den):Option Bool:=
(M.oX N a0.1 a1.1).bind λy1=>
((if y1.2 then
aa (ah ((if a0.2.1<a1.2.1 then a1.2.1 else a0.2.1)<(if a1.2.2.1<a0.2.2.1 then a1.2.2.1 else a0.2.2.1)))
else
aa ag):Option Bool).bind λj2=>
aa j2
theorem afr(N:Nat):Fo 237 (.i1 [.g dM, .g dM]) (.i1 [.l .bool]) (u2 (M.nf N)):=fz N [ck (afq N)] (.o (.o (.mb 4 224))) Tryz.func237
def M.nh(N:Nat)(a0:aP.den)(a1:List bA.den):Option (Int×Int):=
(if(ah (64<(a0.2.2.2.length:Int)))then
aa (64,4)
else
((M.db N a0.2.1 a1).bind λy2=>
(if(!y2)then
aa af
else
(M.db N a0.2.2.1 a1).bind λy3=>
aa (!y3)):Option Bool).bind λj1=>
(if j1 then
aa ((-1),8)
else
Loop (S:=Int) (X:=Int×Int) (λs4=>
(if(ah (s4<(a0.2.2.2.length:Int)))then
bx (J:=Unit) (R:=Int⊕(Int×Int)) ((idx a0.2.2.2 s4).bind λx6=>
(M.qg N x6 a0 a1).bind λy7=>
(if y7 then
aa (.inr (.inr (s4,3)))
else
Loop (S:=Int) (X:=Unit⊕(Int⊕(Int×Int))) (λs8=>
(if(ah (s8<s4))then
(idx a0.2.2.2 s8).bind λx9=>
(idx a0.2.2.2 s4).bind λmj=>
(M.nf N x9 mj).bind λqY=>
(if qY then
aa (.inr (.inr (.inr (s4,11))))
else
aa (.inl (aoz.wrap (s8+1))))
else
aa (.inr (.inl ())))) N 0)) λj5=>
aa (.inl (aoz.wrap (s4+1)))
else
aa (.inr (0,0)))) N 0))
theorem afs(N:Nat):Fo 164 (.i1 [.g aP, .l (.slice bA)]) (.i1 [.l aB, .l aB]) (u2 (M.nh N)):=fz N [ck (PD N),ck (afp N),ck (afr N)] (.o (.o (.two (.mb 23 112) (.two (.o (.two (.lp 6 128 (.o (.join ⟨[],[],[],208⟩ (.two (.o (.o (.two (.lp 7 352 .nil) .nil))) .nil) .nil))) .nil)) .nil)))) Tryz.func164
def M.kV(N:Nat)(a0:cQ.den)(a1:Int):Option (aF.den):=
(idx a0.2.1 a1).bind λx1=>
(M.b7 N x1.1).bind λy2=>
(if(!y2)then
aa (2,(2,(a1,0)))
else
(M.et N a0 2 a1 x1.1).bind λy3=>
(if y3 then
aa (7,(2,(a1,0)))
else
(M.nh N x1 a0.1).bind λy4=>
(if(ah (y4.2=0))then
aa (0,(0,(0,0)))
else
((if(ah (0<=y4.1))then
aa (y4.2,(2,(a1,aoz.wrap (100+y4.1))))
else
aa (y4.2,(2,(a1,0)))):Option (aF.den)).bind λj5=>
aa j5)))
theorem W91(N:Nat):Fo 91 (.i1 [.g cQ, .l aB]) (.i1 [.g aF]) (u2 (M.kV N)):=fz N [ck (PC N),ck (Wy N),ck (afs N)] (.o (.o (.o (.o (.o (.o (.o (.o (.meet ⟨[],[(176, .box 73 (.leaf aF))],[],577⟩ .nil .nil))))))))) Tryz.func91
def M.iV(N:Nat)(a0:List bi.den)(a1:Int)(a2:ByteArray):Option Bool:=
Loop (S:=Int) (X:=Bool) (λs1=>
((if(ah (s1<a1))then
aa (ah (s1<(a0.length:Int)))
else
aa ag):Option Bool).bind λj2=>
(if j2 then
(idx a0 s1).bind λx3=>
(if(ah (x3.1=a2))then
aa (.inr af)
else
aa (.inl (aoz.wrap (s1+1))))
else
aa (.inr ag))) N 0
theorem afu(N:Nat):Fo 238 (.i1 [.l (.slice bi), .l aB, .l .str]) (.i1 [.l .bool]) (u3 (M.iV N)):=fz N [] (.o (.two (.o (.two (.lp 7 32 (.two (.mb 16 32) .nil)) .nil)) .nil)) Tryz.func238
def M.iW(N:Nat)(a0:cQ.den)(a1:Int):Option (aF.den):=
(idx a0.2.2 a1).bind λx1=>
bx (J:=Unit) (R:=aF.den) (Loop (S:=Int) (X:=Unit⊕(aF.den)) (λs3=>
(if(ah (s3<(x1.2.2.1.length:Int)))then
((idx x1.2.2.1 s3).bind λx5=>
(M.b7 N x5.1).bind λy6=>
(if(!y6)then
aa (2,(3,(a1,aoz.wrap (100+s3))))
else
(idx x1.2.2.1 s3).bind λx7=>
(M.iV N x1.2.2.1 s3 x7.1).bind λy8=>
(if y8 then
aa (7,(3,(a1,aoz.wrap (100+s3))))
else
(idx x1.2.2.1 s3).bind λx9=>
(M.db N x9.2 a0.1).bind λnI=>
(if(!nI)then
aa (8,(3,(a1,aoz.wrap (100+s3))))
else
aa (0,(3,(a1,aoz.wrap (100+s3))))))):Option (aF.den)).bind λj4=>
(if(!ah (j4.1=0))then
aa (.inr (.inr j4))
else
aa (.inl (aoz.wrap (s3+1))))
else
aa (.inr (.inl ())))) N 0) λj2=>
bx (J:=Unit) (R:=aF.den) (Loop (S:=Int) (X:=Unit⊕(aF.den)) (λnW=>
(if(ah (nW<(x1.2.2.2.1.length:Int)))then
((idx x1.2.2.2.1 nW).bind λqE=>
(M.b7 N qE.1).bind λlv=>
(if(!lv)then
aa (2,(3,(a1,aoz.wrap (200+nW))))
else
((idx x1.2.2.2.1 nW).bind λyJ=>
(M.iV N x1.2.2.1 (x1.2.2.1.length:Int) yJ.1).bind λy18=>
(if y18 then
aa af
else
(idx x1.2.2.2.1 nW).bind λDt=>
(M.iV N x1.2.2.2.1 nW Dt.1).bind λNC=>
aa NC):Option Bool).bind λAO=>
(if AO then
aa (7,(3,(a1,aoz.wrap (200+nW))))
else
(idx x1.2.2.2.1 nW).bind λZy=>
(M.db N Zy.2 a0.1).bind λy22=>
(if(!y22)then
aa (8,(3,(a1,aoz.wrap (200+nW))))
else
aa (0,(3,(a1,aoz.wrap (200+nW))))))):Option (aF.den)).bind λFK=>
(if(!ah (FK.1=0))then
aa (.inr (.inr FK))
else
aa (.inl (aoz.wrap (nW+1))))
else
aa (.inr (.inl ())))) N 0) λsK=>
aa (0,(0,(0,0)))
theorem afw(N:Nat):Fo 165 (.i1 [.g cQ, .l aB]) (.i1 [.g aF]) (u2 (M.iW N)):=fz N [ck (PC N),ck (PD N),ck (afu N)] (.o (.o (.join ⟨[],[],[],144⟩ (.o (.two (.lp 6 160 (.o (.two (.two (.o (.meet ⟨[],[(304, .box 73 (.leaf aF))],[],337⟩ .nil .nil)) .nil) .nil))) .nil)) (.join ⟨[],[],[],144⟩ (.o (.two (.lp 8 160 (.o (.two (.two (.o (.meet ⟨[],[(304, .box 73 (.leaf aF))],[],337⟩ (.o (.o (.mb 104 464))) .nil)) .nil) .nil))) .nil)) .nil)))) Tryz.func165
def M.jA(N:Nat)(a0:ByteArray):Option Bool:=
Loop (S:=Int) (X:=Bool) (λs1=>
(if(ah (s1<(a0.size:Int)))then
((lj a0 s1).bind λx3=>
(if(ah (x3<32))then
aa af
else
(lj a0 s1).bind λx4=>
(if(ah (126<x4))then
aa af
else
(lj a0 s1).bind λx5=>
aa (ah (x5=34)))):Option Bool).bind λj2=>
(if j2 then
aa (.inr ag)
else
aa (.inl (aoz.wrap (s1+1))))
else
aa (.inr (ah ((a0.size:Int)<=64))))) N 0
theorem afx(N:Nat):Fo 239 (.i1 [.l .str]) (.i1 [.l .bool]) (M.jA N):=fz N [] (.o (.two (.o (.two (.lp 3 32 (.o (.two (.two (.mb 25 96) .nil) .nil))) .nil)) .nil)) Tryz.func239
def M.gu(N:Nat)(a0:List bi.den):Option (List aA.den):=
Loop (S:=Int×List aA.den) (X:=List aA.den) (λs1=>
(if(ah (s1.1<(a0.length:Int)))then
(idx a0 s1.1).bind λx2=>
(bR s1.2 ([x2.2]:List aA.den)).bind λl3=>
aa (.inl (aoz.wrap (s1.1+1),l3))
else
aa (.inr s1.2))) N (0,([]:List aA.den))
theorem afy(N:Nat):Fo 275 (.i1 [.l (.slice bi)]) (.w1 57 aA) (M.gu N):=fz N [] (.o (.o (.two (.o (.two (.loop ⟨[(3, .val ag (.own 48)),(4, .l aB)],[(48, .own 57 aA)],[],49⟩ .nil) .nil)) .nil))) Tryz.func275
def M.gY(N:Nat)(a0:cQ.den)(a1:Int):Option ((List bA.den)×(List aP.den)×Bool×(List aA.den)×(List aA.den)×List aA.den):=
((if(ah (a1<0))then
aa af
else
aa (ah ((a0.2.2.length:Int)<=a1))):Option Bool).bind λj1=>
(if j1 then
aa (([]:List bA.den),([]:List aP.den),ag,([]:List aA.den),([]:List aA.den),([]:List aA.den))
else
(idx a0.2.2 a1).bind λx2=>
(M.gu N x2.2.2.1).bind λy3=>
(M.gu N x2.2.2.2.1).bind λy4=>
(((if(ah (0<=x2.2.1))then
aa (ah (x2.2.1<(a0.2.2.length:Int)))
else
aa ag):Option Bool).bind λj6=>
(if j6 then
(idx a0.2.2 x2.2.1).bind λx7=>
(M.gu N x7.2.2.2.1).bind λy8=>
aa (y3,y4,a0.1,a0.2.1,af,y8)
else
aa (y3,y4,a0.1,a0.2.1,ag,([]:List aA.den))):Option ((List aA.den)×(List aA.den)×(List bA.den)×(List aP.den)×Bool×List aA.den)).bind λj5=>
aa (j5.2.2.1,j5.2.2.2.1,j5.2.2.2.2.1,j5.1,j5.2.1,j5.2.2.2.2.2))
theorem afz(N:Nat):Fo 240 (.i1 [.g cQ, .l aB]) (.j1 [.val af (.pair (.leaf (.slice bA)) (.pair (.leaf (.slice aP)) (.pair (.own 0) (.pair (.own 1) (.pair (.own 2) (.leaf .bool))))))] [.own 57 aA, .own 57 aA, .own 57 aA] 3) (u2 (M.gY N)):=fz N [ck (afy N)] (.o (.two (.mb 15 32) (.o (.o (.meet ⟨[],[(240, .own 57 aA),(288, .own 57 aA),(320, .box 191 (.pair (.leaf (.slice bA)) (.pair (.leaf (.slice aP)) (.pair (.own 240) (.pair (.own 288) (.pair (.own 352) (.leaf .bool))))))),(352, .own 57 aA)],[],356⟩ (.mb 43 352) .nil))))) Tryz.func240
def M.fj(N:Nat)(a0:Int):Option Int:=
((if(ah (1<=a0))then
(if(ah (a0<=9))then
aa af
else
(if(ah (35<=a0))then
aa (ah (a0<=39))
else
aa ag))
else
(if(ah (35<=a0))then
aa (ah (a0<=39))
else
aa ag)):Option Bool).bind λj1=>
(if j1 then
aa 0
else
((if(ah (a0=10))then
aa (ah (a0=10))
else
(if(ah (a0=25))then
aa (ah (a0=25))
else
(if(ah (a0=31))then
aa (ah (a0=31))
else
(if(ah (a0=32))then
aa (ah (a0=32))
else
(if(ah (a0=33))then
aa (ah (a0=33))
else
aa (ah (a0=34))))))):Option Bool).bind λj2=>
(if j2 then
aa 1
else
(if(ah (a0=26))then
aa 3
else
((if(ah (11<=a0))then
aa (ah (a0<=30))
else
aa ag):Option Bool).bind λj3=>
(if j3 then
aa 2
else
aa (-1)))))
theorem ME(N:Nat):Fo 243 (.i1 [.l aB]) (.i1 [.l aB]) (M.fj N):=fz N [] (.o (.two (.mb 16 16) (.two (.o (.two (.mb 18 32) .nil)) (.two (.mb 32 64) .nil)))) Tryz.func243
def M.gZ(N:Nat)(a0:List aA.den):Option (Int×Int×List Int):=
(if(ah (48<(a0.length:Int)))then
aa (0,4,([]:List Int))
else
(if(ah ((a0.length:Int)=0))then
aa (0,5,([]:List Int))
else
bx (J:=(List Int)×List Int) (R:=Int×Int×List Int) (Loop (S:=Int×(List Int)×List Int) (X:=((List Int)×List Int)⊕(Int×Int×List Int)) (λs2=>
(if(ah (s2.1<(a0.length:Int)))then
(idx a0 s2.1).bind λx3=>
(M.fj N x3.1).bind λy4=>
(if(ah (y4<0))then
aa (.inr (.inr (s2.1,2,([]:List Int))))
else
(if(ah ((s2.2.2.length:Int)<y4))then
aa (.inr (.inr (s2.1,5,([]:List Int))))
else
((if(ah (0<y4))then
(idx s2.2.2 (aoz.wrap ((s2.2.2.length:Int)-y4))).bind λx6=>
(fo s2.2.2 0 (aoz.wrap ((s2.2.2.length:Int)-y4))).bind λl7=>
aa (x6,l7)
else
aa (s2.1,s2.2.2)):Option (Int×List Int)).bind λj5=>
(bR j5.2 ([j5.1]:List Int)).bind λl8=>
(bR s2.2.1 ([j5.1]:List Int)).bind λl9=>
(if(ah (12<(l8.length:Int)))then
aa (.inr (.inr (s2.1,16,([]:List Int))))
else
aa (.inl (aoz.wrap (s2.1+1),l9,l8)))))
else
aa (.inr (.inl (s2.2.1,s2.2.2))))) N (0,([]:List Int),([]:List Int))) λj1=>
(if(ah (1<(j1.2.length:Int)))then
aa ((a0.length:Int),4,([]:List Int))
else
aa (0,0,j1.1))))
theorem Wz(N:Nat):Fo 173 (.i1 [.l (.slice aA)]) (.j1 [.val ag (.own 0), .l aB, .l aB] [.own 3 aB] 1) (M.gZ N):=fz N [ck (ME N)] (.o (.o (.o (.o (.join ⟨[(5, .val ag (.own 176)),(6, .val ag (.own 177))],[(176, .own 3 aB),(177, .own 3 aB)],[],178⟩ (.o (.two (.loop ⟨[(5, .val ag (.own 192)),(6, .val ag (.own 193)),(7, .l aB)],[(192, .own 3 aB),(193, .own 3 aB)],[],194⟩ (.o (.two (.two (.o (.o (.o (.o (.meet ⟨[(6, .val ag (.own 498)),(9, .l aB)],[(498, .own 3 aB)],[193],499⟩ .nil .nil))))) .nil) .nil))) .nil)) .nil))))) Tryz.func173
def M.ol(N:Nat)(a0:Int):Option Bool:=
((if(ah (1<=a0))then
(if(ah (a0<=8))then
aa af
else
(if(ah (36<=a0))then
aa (ah (a0<=39))
else
aa ag))
else
(if(ah (36<=a0))then
aa (ah (a0<=39))
else
aa ag)):Option Bool).bind λj1=>
(if j1 then
aa af
else
((if(ah (a0=14))then
aa af
else
(if(ah (a0=15))then
aa af
else
(if(ah (a0=16))then
aa af
else
(if(ah (a0=33))then
aa af
else
aa (ah (a0=34)))))):Option Bool).bind λj2=>
aa j2)
theorem afA(N:Nat):Fo 342 (.i1 [.l aB]) (.i1 [.l .bool]) (M.ol N):=fz N [] (.o (.two (.mb 16 16) (.mb 2 16))) Tryz.func342
def M.dQ(N:Nat)(a0:Int):Option (aA.den):=
aa (a0,0)
theorem PE(N:Nat):Fo 370 (.i1 [.l aB]) (.i1 [.g aA]) (M.dQ N):=fz N [] .nil Tryz.func370
def M.jt(N:Nat)(a0:aA.den)(a1:bB.den):Option Bool:=
((if(ah (a0.1=1))then
aa (ah (a0.1=1))
else
(if(ah (a0.1=2))then
aa (ah (a0.1=2))
else
(if(ah (a0.1=3))then
aa (ah (a0.1=3))
else
(if(ah (a0.1=4))then
aa (ah (a0.1=4))
else
aa (ah (a0.1=5)))))):Option Bool).bind λj1=>
(if j1 then
(M.dQ N a0.1).bind λy2=>
(M.m9 N y2 a1.1).bind λy3=>
((if(ah (y3.1<=a0.2))then
aa (ah (a0.2<=y3.2))
else
aa ag):Option Bool).bind λj4=>
aa j4
else
((if(ah (a0.1=14))then
aa (ah (a0.1=14))
else
(if(ah (a0.1=15))then
aa (ah (a0.1=15))
else
aa (ah (a0.1=16)))):Option Bool).bind λj5=>
(if j5 then
((if(ah (0<=a0.2))then
aa (ah (a0.2<=5))
else
aa ag):Option Bool).bind λj6=>
aa j6
else
(if(ah (a0.1=34))then
((if(ah (0<=a0.2))then
aa (ah ((aoP a0.2 8)<=5))
else
aa ag):Option Bool).bind λj7=>
aa j7
else
(if(ah (a0.1=6))then
aa (ah (0<=a0.2))
else
aa af))))
theorem afB(N:Nat):Fo 343 (.i1 [.g aA, .g bB]) (.i1 [.l .bool]) (u2 (M.jt N)):=fz N [ck (ZQ N),ck (PE N)] (.o (.two (.o (.two (.meet ⟨[(9, .l .bool)],[],[],80⟩ .nil (.two (.o (.mb 4 256)) (.meet ⟨[(34, .l .bool)],[],[],80⟩ .nil (.two (.mb 4 80) (.o (.two (.mb 4 112) .nil)))))) .nil)) .nil)) Tryz.func343
def M.bH(N:Nat)(a0:aA.den)(a1:bB.den):Option Bool:=
(if(ah (a0.1=6))then
((if(ah ((aoz.wrap (aoM a0.2 16))<(a1.1.length:Int)))then
(idx a1.1 (aoz.wrap (aoM a0.2 16))).bind λx2=>
aa (ah ((aoP a0.2 16)<(x2.2.length:Int)))
else
aa ag):Option Bool).bind λj1=>
aa j1
else
(if(ah (a0.1=7))then
((if(ah (0<=a0.2))then
aa (ah (a0.2<(a1.2.2.1.length:Int)))
else
aa ag):Option Bool).bind λj3=>
aa j3
else
(if(ah (a0.1=8))then
((if(ah (0<=a0.2))then
aa (ah (a0.2<(a1.2.2.2.1.length:Int)))
else
aa ag):Option Bool).bind λj4=>
aa j4
else
(if(ah (a0.1=33))then
((if(ah (0<=a0.2))then
aa (ah (a0.2<(a1.2.1.length:Int)))
else
aa ag):Option Bool).bind λj5=>
aa j5
else
(if(ah (a0.1=34))then
aa (ah ((aoz.wrap (aoM a0.2 8))<(a1.2.1.length:Int)))
else
(if(ah (a0.1=35))then
aa a1.2.2.2.2.2
else
((if(ah (a0.1=36))then
aa (ah (a0.1=36))
else
(if(ah (a0.1=37))then
aa (ah (a0.1=37))
else
(if(ah (a0.1=38))then
aa (ah (a0.1=38))
else
aa (ah (a0.1=39))))):Option Bool).bind λj6=>
(if j6 then
((if a1.2.2.2.2.2 then
(if(ah (0<=a0.2))then
aa (ah (a0.2<(a1.2.2.2.2.1.length:Int)))
else
aa ag)
else
aa ag):Option Bool).bind λj7=>
aa j7
else
aa af)))))))
theorem afC(N:Nat):Fo 344 (.i1 [.g aA, .g bB]) (.i1 [.l .bool]) (u2 (M.bH N)):=fz N [] (.o (.two (.o (.two (.o (.two (.mb 4 112) (.o (.two (.mb 4 144) (.o (.two (.mb 4 176) (.o (.two (.mb 4 208) (.o (.o (.o (.o (.meet ⟨[(83, .l .bool)],[],[],272⟩ .nil (.two (.mb 4 272) .nil)))))))))))))) .nil)) .nil)) Tryz.func344
def M.kW(N:Nat)(a0:Int):Option Bool:=
((if(ah (a0=2))then
aa af
else
(if(ah (a0=3))then
aa af
else
aa (ah (a0=4)))):Option Bool).bind λj1=>
aa j1
theorem WA(N:Nat):Fo 372 (.i1 [.l aB]) (.i1 [.l .bool]) (M.kW N):=fz N [] (.o (.mb 2 16)) Tryz.func372
def M.iF(N:Nat)(a0:Int):Option Bool:=
((M.kW N a0).bind λy2=>
(if y2 then
aa af
else
aa (ah (a0=5))):Option Bool).bind λj1=>
aa j1
theorem ZR(N:Nat):Fo 371 (.i1 [.l aB]) (.i1 [.l .bool]) (M.iF N):=fz N [ck (WA N)] (.o (.mb 2 16)) Tryz.func371
def M.cy(N:Nat)(a0:aA.den)(a1:bB.den):Option (aA.den×Bool):=
((if(ah (a0.1=6))then
aa (6,aoz.wrap (aoM a0.2 16))
else
(if(ah (a0.1=7))then
(idx a1.2.2.1 a0.2).bind λx2=>
aa x2
else
(if(ah (a0.1=8))then
(idx a1.2.2.2.1 a0.2).bind λx3=>
aa x3
else
(if(ah (a0.1=9))then
(M.dQ N 5).bind λy4=>
aa y4
else
(if(ah (a0.1=35))then
(M.dQ N 2).bind λy5=>
aa y5
else
((if(ah (a0.1=36))then
aa (ah (a0.1=36))
else
(if(ah (a0.1=37))then
aa (ah (a0.1=37))
else
(if(ah (a0.1=38))then
aa (ah (a0.1=38))
else
aa (ah (a0.1=39))))):Option Bool).bind λj6=>
(if j6 then
(idx a1.2.2.2.2.1 a0.2).bind λx7=>
aa x7
else
(M.dQ N a0.1).bind λy8=>
aa y8)))))):Option (aA.den)).bind λj1=>
(M.db N j1 a1.1).bind λy9=>
((if(ah (a0.1=36))then
(if y9 then
(if(ah (j1.1=2))then
aa af
else
aa (ah (j1.1=3)))
else
aa ag)
else
((if(ah (a0.1=37))then
aa (ah (a0.1=37))
else
aa (ah (a0.1=38))):Option Bool).bind λsK=>
(if sK then
(if y9 then
aa (ah (j1.1=1))
else
aa ag)
else
(if(ah (a0.1=39))then
(if y9 then
(M.iF N j1.1).bind λpJ=>
aa pJ
else
aa ag)
else
aa y9))):Option Bool).bind λsx=>
aa (j1,sx)
theorem afD(N:Nat):Fo 345 (.i1 [.g aA, .g bB]) (.i1 [.g aA, .l .bool]) (u2 (M.cy N)):=fz N [ck (PD N),ck (PE N),ck (ZR N)] (.o (.o (.two (.o (.meet ⟨[],[(80, .box 57 (.leaf aA))],[],145⟩ (.o (.o (.o (.o (.o (.o (.o (.o (.o (.o (.mb 42 304))))))))))) .nil)) (.o (.two (.o (.meet ⟨[(7, .l .bool)],[],[],257⟩ (.o (.o (.mb 72 289))) .nil)) .nil))))) Tryz.func345
def M.cN(N:Nat)(a0:aA.den)(a1:aA.den)(a2:bB.den):Option (aA.den×Bool):=
(if(ah (a0.1=10))then
(M.kW N a1.1).bind λy1=>
aa (a1,y1)
else
(if(ah (a0.1=25))then
aa (a1,ah (a1.1=1))
else
((if(ah (a0.1=31))then
aa (ah (a0.1=31))
else
aa (ah (a0.1=32))):Option Bool).bind λj2=>
(if j2 then
(M.dQ N 2).bind λy3=>
aa (y3,ah (a1.1=5))
else
(if(ah (a0.1=33))then
(idx a2.2.1 a0.2).bind λx4=>
((M.db N x4.2.1 a2.1).bind λy6=>
(if y6 then
(M.db N x4.2.2.1 a2.1).bind λy7=>
(if y7 then
aa ((px aA a1 x4.2.1),x4.2.2.1)
else
aa (ag,x4.2.2.1))
else
aa (ag,x4.2.2.1)):Option (Bool×aA.den)).bind λj5=>
aa (j5.2,j5.1)
else
(idx a2.2.1 (aoz.wrap (aoM a0.2 8))).bind λx8=>
((if(ah (a1.1=3))then
(M.dQ N 3).bind λnI=>
(if(px aA x8.2.1 nI)then
(M.dQ N 4).bind λqY=>
aa ((px aA x8.2.2.1 qY),a1)
else
aa (ag,a1))
else
aa (ag,a1)):Option (Bool×aA.den)).bind λj9=>
aa (j9.2,j9.1)))))
theorem afE(N:Nat):Fo 346 (.i1 [.g aA, .g aA, .g bB]) (.i1 [.g aA, .l .bool]) (u3 (M.cN N)):=fz N [ck (PD N),ck (PE N),ck (WA N)] (.o (.two (.o (.two (.o (.o (.o (.o (.meet ⟨[(24, .l .bool)],[],[],176⟩ .nil (.o (.o (.two (.o (.meet ⟨[(7, .l .bool)],[(48, .box 57 (.leaf aA))],[],337⟩ .nil .nil)) .nil)))))))) .nil)) (.o (.meet ⟨[(7, .l .bool)],[(48, .box 57 (.leaf aA))],[],353⟩ .nil .nil)))) Tryz.func346
def M.kX(N:Nat)(a0:Int)(a1:Int)(a2:Int):Option (aA.den×Bool):=
(if(ah (a0=13))then
((M.dQ N a1).bind λy2=>
(if(ah (a2=2))then
(if(ah (a1=2))then
aa (af,y2)
else
aa (ah (a1=3),y2))
else
aa (ag,y2)):Option (Bool×aA.den)).bind λj1=>
aa (j1.2,j1.1)
else
(if(ah (a0=14))then
((M.dQ N a1).bind λy4=>
(if(ah (a2=4))then
(if(ah (a1=3))then
aa (af,y4)
else
aa (ah (a1=4),y4))
else
aa (ag,y4)):Option (Bool×aA.den)).bind λj3=>
aa (j3.2,j3.1)
else
((if(ah (a1=3))then
aa (ah (a2=3))
else
aa ag):Option Bool).bind λj5=>
(if j5 then
(M.dQ N 4).bind λy6=>
aa (y6,af)
else
((M.dQ N a1).bind λy8=>
(if(ah (a2=2))then
(if(ah (a1=2))then
aa (af,y8)
else
aa (ah (a1=3),y8))
else
aa (ag,y8)):Option (Bool×aA.den)).bind λj7=>
aa (j7.2,j7.1))))
theorem afF(N:Nat):Fo 373 (.i1 [.l aB, .l aB, .l aB]) (.i1 [.g aA, .l .bool]) (u3 (M.kX N)):=fz N [ck (PE N)] (.o (.two (.o (.two (.o (.two (.meet ⟨[(7, .l .bool)],[(0, .box 57 (.leaf aA))],[],81⟩ .nil .nil) (.o (.two (.meet ⟨[(7, .l .bool)],[(0, .box 57 (.leaf aA))],[],113⟩ .nil .nil) .nil)))) .nil)) (.two (.mb 42 112) (.meet ⟨[(7, .l .bool)],[(0, .box 57 (.leaf aA))],[],113⟩ .nil .nil)))) Tryz.func373
def M.ir(N:Nat)(a0:Int)(a1:aA.den)(a2:aA.den):Option (aA.den×Bool):=
((if(ah (a0=11))then
aa (ah (a0=11))
else
aa (ah (a0=12))):Option Bool).bind λj1=>
(if j1 then
((if(px aA a1 a2)then
(M.kW N a1.1).bind λy3=>
aa (y3,a1)
else
aa (ag,a1)):Option (Bool×aA.den)).bind λj2=>
aa (j2.2,j2.1)
else
((if(ah (a0=13))then
aa (ah (a0=13))
else
(if(ah (a0=14))then
aa (ah (a0=14))
else
aa (ah (a0=15)))):Option Bool).bind λj4=>
(if j4 then
(M.kX N a0 a1.1 a2.1).bind λy5=>
aa (y5.1,y5.2)
else
(if(ah (a0=16))then
((if(ah (a1.1=3))then
aa (ah (a2.1=3),a1)
else
aa (ag,a1)):Option (Bool×aA.den)).bind λj6=>
aa (j6.2,j6.1)
else
((if(ah (a0=17))then
aa (ah (a0=17))
else
aa (ah (a0=18))):Option Bool).bind λj7=>
(if j7 then
((if(px aA a1 a2)then
(M.iF N a1.1).bind λy9=>
aa (y9,a1)
else
aa (ag,a1)):Option (Bool×aA.den)).bind λj8=>
aa (j8.2,j8.1)
else
((if(ah (a0=19))then
aa (ah (a0=19))
else
aa (ah (a0=20))):Option Bool).bind λsx=>
(if sx then
(M.dQ N 1).bind λqY=>
aa (qY,(px aA a1 a2))
else
((if(ah (a0=21))then
aa (ah (a0=21))
else
aa (ah (a0=22))):Option Bool).bind λsD=>
(if sD then
((M.dQ N 1).bind λlz=>
(if(px aA a1 a2)then
(M.iF N a1.1).bind λlv=>
aa (lv,lz)
else
aa (ag,lz)):Option (Bool×aA.den)).bind λFK=>
aa (FK.2,FK.1)
else
((if(ah (a0=23))then
aa (ah (a0=23))
else
aa (ah (a0=24))):Option Bool).bind λAO=>
(if AO then
((if(ah (a1.1=1))then
aa (ah (a2.1=1),a1)
else
aa (ag,a1)):Option (Bool×aA.den)).bind λRm=>
aa (Rm.2,Rm.1)
else
((if(ah (a0=27))then
aa (ah (a0=27))
else
aa (ah (a0=28))):Option Bool).bind λSJ=>
(if SJ then
((if(ah (a1.1=5))then
aa (ah (a2.1=2),a1)
else
aa (ag,a1)):Option (Bool×aA.den)).bind λXQ=>
aa (XQ.2,XQ.1)
else
((M.dQ N 2).bind λXP=>
(if(ah (a1.1=5))then
aa (ah (a2.1=5),XP)
else
aa (ag,XP)):Option (Bool×aA.den)).bind λUH=>
aa (UH.2,UH.1)))))))))
theorem afG(N:Nat):Fo 347 (.i1 [.l aB, .g aA, .g aA]) (.i1 [.g aA, .l .bool]) (u3 (M.ir N)):=fz N [ck (PE N),ck (ZR N),ck (WA N),ck (afF N)] (.o (.two (.o (.two (.meet ⟨[(9, .l .bool)],[],[],80⟩ .nil (.two (.meet ⟨[(7, .l .bool)],[(32, .box 57 (.leaf aA))],[],81⟩ .nil .nil) (.meet ⟨[(21, .l .bool)],[],[],80⟩ .nil (.o (.o (.two (.meet ⟨[(7, .l .bool)],[(32, .box 57 (.leaf aA))],[],113⟩ .nil .nil) (.meet ⟨[(44, .l .bool)],[],[],112⟩ .nil (.two (.meet ⟨[(7, .l .bool)],[(32, .box 57 (.leaf aA))],[],113⟩ .nil .nil) (.meet ⟨[(56, .l .bool)],[],[],112⟩ .nil (.o (.meet ⟨[(63, .l .bool)],[],[],112⟩ .nil (.two (.meet ⟨[(7, .l .bool)],[(32, .box 57 (.leaf aA))],[],113⟩ .nil .nil) (.meet ⟨[(75, .l .bool)],[],[],112⟩ .nil (.two (.meet ⟨[(7, .l .bool)],[(32, .box 57 (.leaf aA))],[],113⟩ .nil .nil) (.meet ⟨[(87, .l .bool)],[],[],112⟩ .nil (.two (.meet ⟨[(7, .l .bool)],[(32, .box 57 (.leaf aA))],[],113⟩ .nil .nil) .nil)))))))))))))))) .nil)) (.meet ⟨[(7, .l .bool)],[(32, .box 57 (.leaf aA))],[],113⟩ .nil .nil))) Tryz.func347
def M.bg(N:Nat)(a0:aA.den)(a1:List aA.den)(a2:bB.den):Option (aA.den×Int):=
((if(!ah (a0.2=0))then
(M.ol N a0.1).bind λy2=>
aa (!y2)
else
aa ag):Option Bool).bind λj1=>
(if j1 then
aa ((0,0),2)
else
(M.jt N a0 a2).bind λy3=>
(if(!y3)then
aa ((0,0),3)
else
(M.bH N a0 a2).bind λy4=>
(if(!y4)then
aa ((0,0),6)
else
((if(ah ((a1.length:Int)=0))then
(M.cy N a0 a2).bind λy6=>
aa (y6.2,y6.1)
else
(if(ah ((a1.length:Int)=1))then
(idx a1 0).bind λx7=>
(M.cN N a0 x7 a2).bind λy8=>
aa (y8.2,y8.1)
else
(if(ah ((a1.length:Int)=2))then
(idx a1 0).bind λx9=>
(idx a1 1).bind λmj=>
(M.ir N a0.1 x9 mj).bind λqY=>
aa (qY.2,qY.1)
else
(idx a1 1).bind λqZ=>
(idx a1 0).bind λnK=>
(if(ah (nK.1=1))then
(idx a1 1).bind λqE=>
(idx a1 2).bind λub=>
aa ((px aA qE ub),qZ)
else
aa (ag,qZ))))):Option (Bool×aA.den)).bind λj5=>
(if(!j5.1)then
aa ((0,0),8)
else
aa (j5.2,0)))))
theorem afH(N:Nat):Fo 305 (.i1 [.g aA, .l (.slice aA), .g bB]) (.i1 [.g aA, .l aB]) (u3 (M.bg N)):=fz N [ck (afA N),ck (afB N),ck (afC N),ck (afD N),ck (afE N),ck (afG N)] (.o (.two (.mb 18 64) (.o (.o (.o (.o (.two (.o (.meet ⟨[(9, .l .bool)],[(208, .box 57 (.leaf aA))],[],289⟩ .nil .nil)) .nil))))))) Tryz.func305
def M.pk(N:Nat)(a0:List aA.den)(a1:bB.den):Option (aA.den×Int×Int):=
(M.gZ N a0).bind λy1=>
(if(!ah (y1.2.1=0))then
aa ((0,0),y1.1,y1.2.1)
else
bx (J:=List aA.den) (R:=aA.den×Int×Int) (Loop (S:=Int×List aA.den) (X:=(List aA.den)⊕(aA.den×Int×Int)) (λs3=>
(if(ah (s3.1<(a0.length:Int)))then
(idx a0 s3.1).bind λx4=>
(M.fj N x4.1).bind λy5=>
(idx a0 s3.1).bind λx6=>
(fo s3.2 (aoz.wrap ((s3.2.length:Int)-y5)) (s3.2.length:Int)).bind λl7=>
(M.bg N x6 l7 a1).bind λy8=>
(if(!ah (y8.2=0))then
aa (.inr (.inr ((0,0),s3.1,y8.2)))
else
(fo s3.2 0 (aoz.wrap ((s3.2.length:Int)-y5))).bind λl9=>
(bR l9 ([y8.1]:List aA.den)).bind λsE=>
aa (.inl (aoz.wrap (s3.1+1),sE)))
else
aa (.inr (.inl s3.2)))) N (0,([]:List aA.den))) λj2=>
(idx j2 0).bind λnT=>
aa (nT,0,0))
theorem afI(N:Nat):Fo 276 (.i1 [.l (.slice aA), .g bB]) (.i1 [.g aA, .l aB, .l aB]) (u2 (M.pk N)):=fz N [ck (Wz N),ck (ME N),ck (afH N)] (.o (.o (.o (.o (.join ⟨[(10, .val ag (.own 256))],[(256, .own 57 aA)],[],257⟩ (.o (.two (.loop ⟨[(10, .val ag (.own 272)),(11, .l aB)],[(272, .own 57 aA)],[],273⟩ .nil) .nil)) .nil))))) Tryz.func276
def M.fk(N:Nat)(a0:List aA.den)(a1:bB.den)(a2:aA.den):Option Int:=
(M.pk N a0 a1).bind λy1=>
(if(!ah (y1.2.2=0))then
aa y1.2.2
else
(if(!(px aA y1.1 a2))then
aa 8
else
aa 0))
theorem afJ(N:Nat):Fo 241 (.i1 [.l (.slice aA), .g bB, .g aA]) (.i1 [.l aB]) (u3 (M.fk N)):=fz N [ck (afI N)] .nil Tryz.func241
def M.jB(N:Nat)(a0:cQ.den)(a1:Int)(a2:Int):Option Int:=
(idx a0.2.2 a1).bind λx1=>
(idx x1.2.2.2.2 a2).bind λx2=>
(M.b7 N x2.1).bind λy3=>
(if(!y3)then
aa 2
else
bx (J:=Int) (R:=Int) (Loop (S:=Int×Int) (X:=Int⊕Int) (λs5=>
(if(ah (s5.2<a2))then
bx (J:=Int) (R:=(Int×Int)⊕(Int⊕Int)) ((idx x1.2.2.2.2 s5.2).bind λx7=>
(if(ah (x7.1=x2.1))then
aa (.inr (.inr (.inr 7)))
else
(idx x1.2.2.2.2 s5.2).bind λx8=>
(if(ah (x8.2.1=x2.2.1))then
aa (.inl (aoz.wrap (s5.1+1)))
else
aa (.inl s5.1)))) λj6=>
aa (.inl (j6,aoz.wrap (s5.2+1)))
else
aa (.inr (.inl s5.1)))) N (0,0)) λj4=>
((if(ah (x2.2.1<0))then
aa af
else
aa (ah ((x1.2.2.2.1.length:Int)<=x2.2.1))):Option Bool).bind λj9=>
(if j9 then
aa 6
else
((if(!ah (x2.2.2.1=(-1)))then
(if(ah (x2.2.2.1<0))then
aa af
else
(if(ah (a2<=x2.2.2.1))then
aa af
else
(idx x1.2.2.2.2 x2.2.2.1).bind λnT=>
aa (!ah (nT.2.1=x2.2.1))))
else
aa ag):Option Bool).bind λsx=>
(if sx then
aa 9
else
((if(ah (x2.2.2.2.1<0))then
aa af
else
(if(ah (9<x2.2.2.2.1))then
aa af
else
(M.jk N x2.2.2.2.2.1).bind λpT=>
(if(!pT)then
aa af
else
aa (ah (x2.2.2.2.2.1.1=x2.2.2.2.2.1.2))))):Option Bool).bind λsD=>
(if sD then
aa 3
else
(if(ah (8<=j4))then
aa 4
else
(M.jA N x2.2.2.2.2.2.2.2).bind λlz=>
(if(!lz)then
aa 2
else
(M.gY N a0 a1).bind λlv=>
bx (J:=Unit) (R:=Int) ((if(ah (0<(x2.2.2.2.2.2.1.length:Int)))then
(M.fk N x2.2.2.2.2.2.1 (lv.1,(lv.2.1,(lv.2.2.2.1,(lv.2.2.2.2.1,(lv.2.2.2.2.2,lv.2.2.1))))) (1,0)).bind λvy=>
(if(!ah (vy=0))then
aa (.inr vy)
else
aa (.inl ()))
else
aa (.inl ()))) λAO=>
(idx x1.2.2.2.1 x2.2.1).bind λuN=>
(M.fk N x2.2.2.2.2.2.2.1 (lv.1,(lv.2.1,(lv.2.2.2.1,(lv.2.2.2.2.1,(lv.2.2.2.2.2,lv.2.2.1))))) uN.2).bind λIw=>
aa Iw))))))
theorem afK(N:Nat):Fo 166 (.i1 [.g cQ, .l aB, .l aB]) (.i1 [.l aB]) (u3 (M.jB N)):=fz N [ck (PC N),ck (SM N),ck (afx N),ck (afz N),ck (afJ N)] (.o (.o (.o (.o (.o (.join ⟨[(9, .l aB)],[],[],336⟩ (.o (.two (.loop ⟨[(9, .l aB),(10, .l aB)],[],[],352⟩ (.o (.two (.join ⟨[(9, .l aB)],[],[],400⟩ .nil .nil) .nil))) .nil)) (.two (.mb 62 336) (.two (.mb 88 336) (.two (.mb 111 336) (.o (.o (.o (.join ⟨[],[],[],512⟩ .nil .nil))))))))))))) Tryz.func166
def M.q9(N:Nat)(a0:aU.den)(a1:Int):Option Bool:=
((if(ah (0<=a1))then
aa (ah (a1<(a0.2.2.2.1.length:Int)))
else
aa ag):Option Bool).bind λj1=>
aa j1
theorem afL(N:Nat):Fo 168 (.i1 [.g aU, .l aB]) (.i1 [.l .bool]) (u2 (M.q9 N)):=fz N [] (.o (.mb 4 32)) Tryz.func168
def M.kY(N:Nat)(a0:List Int)(a1:Int):Option (List Int):=
(Loop (S:=Bool×Int×List Int) (X:=Bool×List Int) (λs2=>
(if(ah (s2.2.1<(a0.length:Int)))then
(((if(!s2.1)then
(idx a0 s2.2.1).bind λx5=>
aa (ah (a1<=x5))
else
aa ag):Option Bool).bind λj4=>
(if j4 then
((idx a0 s2.2.1).bind λx7=>
(if(ah (a1<x7))then
(bR s2.2.2 ([a1]:List Int)).bind λl8=>
aa l8
else
aa s2.2.2):Option (List Int)).bind λj6=>
aa (af,j6)
else
aa (s2.1,s2.2.2)):Option (Bool×List Int)).bind λj3=>
(idx a0 s2.2.1).bind λx9=>
(bR j3.2 ([x9]:List Int)).bind λsE=>
aa (.inl (j3.1,aoz.wrap (s2.2.1+1),sE))
else
aa (.inr (s2.1,s2.2.2)))) N (ag,0,([]:List Int)):Option (Bool×List Int)).bind λj1=>
((if(!j1.1)then
(bR j1.2 ([a1]:List Int)).bind λxO=>
aa xO
else
aa j1.2):Option (List Int)).bind λsK=>
aa sK
theorem afM(N:Nat):Fo 242 (.i1 [.l (.slice aB), .l aB]) (.w1 3 aB) (u2 (M.kY N)):=fz N [] (.o (.o (.o (.meet ⟨[(5, .val ag (.own 48)),(6, .l .bool)],[(48, .own 3 aB)],[],49⟩ (.o (.two (.loop ⟨[(5, .val ag (.own 64)),(6, .l .bool),(7, .l aB)],[(64, .own 3 aB)],[],65⟩ (.o (.two (.two (.meet ⟨[(5, .val ag (.own 129)),(6, .l .bool)],[(129, .own 3 aB)],[64],130⟩ (.meet ⟨[(23, .l .bool)],[],[],129⟩ .nil (.two (.meet ⟨[(5, .val ag (.own 129))],[(129, .own 3 aB)],[64],130⟩ .nil .nil) .nil)) .nil) .nil) .nil))) .nil)) (.meet ⟨[(5, .val ag (.own 49))],[(49, .own 3 aB)],[48],50⟩ .nil .nil))))) Tryz.func242
def M.iX(N:Nat)(a0:List aA.den):Option ((List Int)×(List Int)×List Int):=
(Loop (S:=Int×(List Int)×(List Int)×List Int) (X:=(List Int)×(List Int)×List Int) (λs2=>
(if(ah (s2.1<(a0.length:Int)))then
((idx a0 s2.1).bind λx4=>
((if(ah (x4.1=7))then
(idx a0 s2.1).bind λx6=>
(M.kY N s2.2.1 x6.2).bind λy7=>
aa y7
else
aa s2.2.1):Option (List Int)).bind λj5=>
((if(ah (x4.1=8))then
(idx a0 s2.1).bind λx9=>
(M.kY N s2.2.2.1 x9.2).bind λnI=>
aa nI
else
aa s2.2.2.1):Option (List Int)).bind λj8=>
((if(ah (36<=x4.1))then
aa (ah (x4.1<=39))
else
aa ag):Option Bool).bind λsK=>
(if sK then
(idx a0 s2.1).bind λqZ=>
(M.kY N s2.2.2.2 qZ.2).bind λpT=>
aa (j5,j8,pT)
else
aa (j5,j8,s2.2.2.2)):Option ((List Int)×(List Int)×List Int)).bind λj3=>
aa (.inl (aoz.wrap (s2.1+1),j3.1,j3.2.1,j3.2.2))
else
aa (.inr (s2.2.1,s2.2.2.1,s2.2.2.2)))) N (0,([]:List Int),([]:List Int),([]:List Int)):Option ((List Int)×(List Int)×List Int)).bind λj1=>
aa (j1.1,j1.2.1,j1.2.2)
theorem afN(N:Nat):Fo 169 (.i1 [.l (.slice aA)]) (.j1 [.val ag (.own 0), .val ag (.own 1), .val ag (.own 2)] [.own 3 aB, .own 3 aB, .own 3 aB] 3) (M.iX N):=fz N [ck (afM N)] (.o (.o (.meet ⟨[(5, .val ag (.own 96)),(6, .val ag (.own 97)),(7, .val ag (.own 98))],[(96, .own 3 aB),(97, .own 3 aB),(98, .own 3 aB)],[],99⟩ (.o (.two (.loop ⟨[(5, .val ag (.own 112)),(6, .val ag (.own 113)),(7, .val ag (.own 114)),(8, .l aB)],[(112, .own 3 aB),(113, .own 3 aB),(114, .own 3 aB)],[],115⟩ (.o (.two (.meet ⟨[(5, .val ag (.own 179)),(6, .val ag (.own 180)),(7, .val ag (.own 181))],[(179, .own 3 aB),(180, .own 3 aB),(181, .own 3 aB)],[112,113,114],182⟩ (.o (.meet ⟨[(5, .val ag (.own 275))],[(275, .own 3 aB)],[112],276⟩ .nil (.meet ⟨[(6, .val ag (.own 276))],[(276, .own 3 aB)],[113],277⟩ .nil (.mb 44 277)))) .nil) .nil))) .nil)) .nil))) Tryz.func169
def M.ni(N:Nat)(a0:List Int)(a1:Int):Option (List Int):=
(Loop (S:=Bool×Int×List Int) (X:=Bool×List Int) (λs2=>
(if(ah (s2.2.1<(a0.length:Int)))then
(((if(!s2.1)then
(idx a0 s2.2.1).bind λx5=>
aa (ah (a1<=x5))
else
aa ag):Option Bool).bind λj4=>
(if j4 then
((idx a0 s2.2.1).bind λx7=>
(if(ah (a1<x7))then
(bR s2.2.2 ([a1]:List Int)).bind λl8=>
aa l8
else
aa s2.2.2):Option (List Int)).bind λj6=>
aa (af,j6)
else
aa (s2.1,s2.2.2)):Option (Bool×List Int)).bind λj3=>
(idx a0 s2.2.1).bind λx9=>
(bR j3.2 ([x9]:List Int)).bind λsE=>
aa (.inl (j3.1,aoz.wrap (s2.2.1+1),sE))
else
aa (.inr (s2.1,s2.2.2)))) N (ag,0,([]:List Int)):Option (Bool×List Int)).bind λj1=>
((if(!j1.1)then
(bR j1.2 ([a1]:List Int)).bind λxO=>
aa xO
else
aa j1.2):Option (List Int)).bind λsK=>
aa sK
theorem ZS(N:Nat):Fo 170 (.i1 [.l (.slice aB), .l aB]) (.w1 3 aB) (u2 (M.ni N)):=fz N [] (.o (.o (.o (.meet ⟨[(5, .val ag (.own 48)),(6, .l .bool)],[(48, .own 3 aB)],[],49⟩ (.o (.two (.loop ⟨[(5, .val ag (.own 64)),(6, .l .bool),(7, .l aB)],[(64, .own 3 aB)],[],65⟩ (.o (.two (.two (.meet ⟨[(5, .val ag (.own 129)),(6, .l .bool)],[(129, .own 3 aB)],[64],130⟩ (.meet ⟨[(23, .l .bool)],[],[],129⟩ .nil (.two (.meet ⟨[(5, .val ag (.own 129))],[(129, .own 3 aB)],[64],130⟩ .nil .nil) .nil)) .nil) .nil) .nil))) .nil)) (.meet ⟨[(5, .val ag (.own 49))],[(49, .own 3 aB)],[48],50⟩ .nil .nil))))) Tryz.func170
def M.kZ(N:Nat)(a0:aU.den)(a1:Int):Option (List Int):=
(M.q9 N a0 a1).bind λy1=>
(if(!y1)then
aa ([]:List Int)
else
Loop (S:=Int×List Int) (X:=List Int) (λs2=>
(if(ah (s2.1<(a0.2.2.2.2.length:Int)))then
(((idx a0.2.2.2.2 s2.1).bind λx5=>
(if(!ah (x5.2.1=a1))then
aa s2.2
else
(idx a0.2.2.2.2 s2.1).bind λx6=>
(M.iX N x6.2.2.2.2.2.1).bind λy7=>
(idx a0.2.2.2.2 s2.1).bind λx8=>
(M.iX N x8.2.2.2.2.2.2.1).bind λy9=>
(Loop (S:=Int×List Int) (X:=List Int) (λnL=>
(if(ah (nL.1<(y7.2.1.length:Int)))then
((idx y7.2.1 nL.1).bind λnK=>
(M.q9 N a0 nK).bind λlz=>
(if lz then
(idx y7.2.1 nL.1).bind λub=>
(M.ni N nL.2 ub).bind λzN=>
aa zN
else
aa nL.2):Option (List Int)).bind λsD=>
aa (.inl (aoz.wrap (nL.1+1),sD))
else
aa (.inr nL.2))) N (0,s2.2):Option (List Int)).bind λsx=>
Loop (S:=Int×List Int) (X:=List Int) (λKb=>
(if(ah (Kb.1<(y9.2.1.length:Int)))then
((idx y9.2.1 Kb.1).bind λDt=>
(M.q9 N a0 Dt).bind λNC=>
(if NC then
(idx y9.2.1 Kb.1).bind λZy=>
(M.ni N Kb.2 Zy).bind λy22=>
aa y22
else
aa Kb.2):Option (List Int)).bind λSJ=>
aa (.inl (aoz.wrap (Kb.1+1),SJ))
else
aa (.inr Kb.2))) N (0,sx)):Option (List Int)).bind λj4=>
aa j4:Option (List Int)).bind λj3=>
aa (.inl (aoz.wrap (s2.1+1),j3))
else
aa (.inr s2.2))) N (0,([]:List Int)))
theorem W93(N:Nat):Fo 93 (.i1 [.g aU, .l aB]) (.w1 3 aB) (u2 (M.kZ N)):=fz N [ck (afL N),ck (afN N),ck (ZS N)] (.o (.o (.o (.two (.o (.two (.loop ⟨[(5, .val ag (.own 128)),(6, .l aB)],[(128, .own 3 aB)],[],129⟩ (.o (.meet ⟨[(5, .val ag (.own 209))],[(209, .own 3 aB)],[128],210⟩ (.meet ⟨[(5, .val ag (.own 209))],[(209, .own 3 aB)],[128],210⟩ (.o (.o (.o (.meet ⟨[(5, .val ag (.own 785))],[(785, .own 3 aB)],[128],786⟩ (.o (.two (.loop ⟨[(5, .val ag (.own 801)),(13, .l aB)],[(801, .own 3 aB)],[128],802⟩ (.o (.two (.meet ⟨[(5, .val ag (.own 866))],[(866, .own 3 aB)],[801],867⟩ .nil .nil) .nil))) .nil)) (.o (.two (.loop ⟨[(5, .val ag (.own 802)),(14, .l aB)],[(802, .own 3 aB)],[785],803⟩ (.o (.two (.meet ⟨[(5, .val ag (.own 867))],[(867, .own 3 aB)],[802],868⟩ .nil .nil) .nil))) .nil)))))) .nil) .nil))) .nil)) .nil)))) Tryz.func93
def M.k6(N:Nat)(a0:aU.den)(a1:Int):Option (List Int):=
(M.kZ N a0 a1).bind λy1=>
Loop (S:=(List Int)×Int) (X:=List Int) (λs2=>
(if(ah (s2.2<(a0.2.2.2.1.length:Int)))then
(Loop (S:=(List Int)×Int) (X:=List Int) (λs4=>
(if(ah (s4.2<(s2.1.length:Int)))then
((idx s2.1 s4.2).bind λx6=>
(M.kZ N a0 x6).bind λy7=>
Loop (S:=(List Int)×Int) (X:=List Int) (λs8=>
(if(ah (s8.2<(y7.length:Int)))then
(idx y7 s8.2).bind λx9=>
(M.ni N s8.1 x9).bind λnI=>
aa (.inl (nI,aoz.wrap (s8.2+1)))
else
aa (.inr s8.1))) N (s4.1,0):Option (List Int)).bind λj5=>
aa (.inl (j5,aoz.wrap (s4.2+1)))
else
aa (.inr s4.1))) N (s2.1,0):Option (List Int)).bind λj3=>
aa (.inl (j3,aoz.wrap (s2.2+1)))
else
aa (.inr s2.1))) N (y1,0)
theorem afO(N:Nat):Fo 167 (.i1 [.g aU, .l aB]) (.i1 [.l (.slice aB)]) (u2 (M.k6 N)):=fz N [ck (W93 N),ck (ZS N)] (.o (.o (.two (.o (.two (.loop ⟨[(5, .l (.slice aB)),(6, .l aB)],[],[64],112⟩ (.o (.meet ⟨[(5, .l (.slice aB))],[],[],192⟩ (.two (.o (.o (.two (.loop ⟨[(5, .l (.slice aB)),(8, .l aB)],[],[],240⟩ (.o (.meet ⟨[(5, .l (.slice aB))],[],[],304⟩ (.two (.o (.o (.two (.loop ⟨[(5, .l (.slice aB)),(10, .l aB)],[],[],432⟩ .nil) .nil))) .nil) .nil))) .nil))) .nil) .nil))) .nil)) .nil))) Tryz.func167
def M.k7(N:Nat)(a0:cQ.den)(a1:Int):Option (aF.den):=
(idx a0.2.2 a1).bind λx1=>
(M.b7 N x1.1).bind λy2=>
(if(!y2)then
aa (2,(3,(a1,0)))
else
(M.et N a0 3 a1 x1.1).bind λy3=>
(if y3 then
aa (7,(3,(a1,0)))
else
((if(!ah (x1.2.1=(-1)))then
(if(ah (x1.2.1<0))then
aa af
else
(if(ah (a1<=x1.2.1))then
aa af
else
(idx a0.2.2 x1.2.1).bind λx5=>
aa (!ah (x5.2.1=(-1)))))
else
aa ag):Option Bool).bind λj4=>
(if j4 then
aa (6,(3,(a1,0)))
else
(if(ah (12<(x1.2.2.1.length:Int)))then
aa (4,(3,(a1,112)))
else
(if(ah (12<(x1.2.2.2.1.length:Int)))then
aa (4,(3,(a1,212)))
else
(M.iW N a0 a1).bind λy6=>
(if(!ah (y6.1=0))then
aa y6
else
bx (J:=Unit) (R:=aF.den) (Loop (S:=Int) (X:=Unit⊕(aF.den)) (λs8=>
(if(ah (s8<(x1.2.2.2.2.length:Int)))then
(M.jB N a0 a1 s8).bind λy9=>
(if(!ah (y9=0))then
aa (.inr (.inr (y9,(3,(a1,aoz.wrap (300+s8))))))
else
aa (.inl (aoz.wrap (s8+1))))
else
aa (.inr (.inl ())))) N 0) λj7=>
bx (J:=Unit) (R:=aF.den) (Loop (S:=Int) (X:=Unit⊕(aF.den)) (λnL=>
(if(ah (nL<(x1.2.2.2.1.length:Int)))then
bx (J:=Unit) (R:=Int⊕(Unit⊕(aF.den))) ((M.k6 N x1 nL).bind λpT=>
Loop (S:=Int) (X:=Unit⊕(Int⊕(Unit⊕(aF.den)))) (λrL=>
(if(ah (rL<(pT.length:Int)))then
(idx pT rL).bind λub=>
(if(ah (ub=nL))then
aa (.inr (.inr (.inr (.inr (9,(3,(a1,aoz.wrap (200+nL))))))))
else
aa (.inl (aoz.wrap (rL+1))))
else
aa (.inr (.inl ())))) N 0) λsD=>
aa (.inl (aoz.wrap (nL+1)))
else
aa (.inr (.inl ())))) N 0) λsx=>
aa (0,(0,(0,0)))))))))
theorem W92(N:Nat):Fo 92 (.i1 [.g cQ, .l aB]) (.i1 [.g aF]) (u2 (M.k7 N)):=fz N [ck (PC N),ck (Wy N),ck (afw N),ck (afK N),ck (afO N)] (.o (.o (.o (.o (.o (.two (.mb 56 352) (.o (.o (.o (.o (.join ⟨[],[],[],608⟩ (.o (.two (.lp 8 624 .nil) .nil)) (.join ⟨[],[],[],608⟩ (.o (.two (.lp 10 624 (.o (.join ⟨[],[],[],704⟩ (.two (.o (.o (.two (.lp 12 784 .nil) .nil))) .nil) .nil))) .nil)) .nil)))))))))))) Tryz.func92
def M.nk(N:Nat)(a0:cQ.den):Option (aF.den):=
(if(ah (8<(a0.1.length:Int)))then
aa (4,(1,(8,0)))
else
bx (J:=Unit) (R:=aF.den) (Loop (S:=Int) (X:=Unit⊕(aF.den)) (λs2=>
(if(ah (s2<(a0.1.length:Int)))then
(M.mc N a0 s2).bind λy3=>
(if(!ah (y3.1=0))then
aa (.inr (.inr y3))
else
aa (.inl (aoz.wrap (s2+1))))
else
aa (.inr (.inl ())))) N 0) λj1=>
(if(ah (8<(a0.2.1.length:Int)))then
aa (4,(2,(8,0)))
else
bx (J:=Unit) (R:=aF.den) (Loop (S:=Int) (X:=Unit⊕(aF.den)) (λs5=>
(if(ah (s5<(a0.2.1.length:Int)))then
(M.kV N a0 s5).bind λy6=>
(if(!ah (y6.1=0))then
aa (.inr (.inr y6))
else
aa (.inl (aoz.wrap (s5+1))))
else
aa (.inr (.inl ())))) N 0) λj4=>
(if(ah (4<(a0.2.2.length:Int)))then
aa (4,(3,(4,0)))
else
bx (J:=Unit) (R:=aF.den) (Loop (S:=Int) (X:=Unit⊕(aF.den)) (λs8=>
(if(ah (s8<(a0.2.2.length:Int)))then
(M.k7 N a0 s8).bind λy9=>
(if(!ah (y9.1=0))then
aa (.inr (.inr y9))
else
aa (.inl (aoz.wrap (s8+1))))
else
aa (.inr (.inl ())))) N 0) λj7=>
aa (0,(0,(0,0))))))
theorem W51(N:Nat):Fo 51 (.i1 [.g cQ]) (.i1 [.g aF]) (M.nk N):=fz N [ck (W90 N),ck (W91 N),ck (W92 N)] (.o (.o (.join ⟨[],[],[],96⟩ (.o (.two (.lp 3 112 .nil) .nil)) (.o (.join ⟨[],[],[],160⟩ (.o (.two (.lp 5 176 .nil) .nil)) (.o (.join ⟨[],[],[],224⟩ (.o (.two (.lp 7 240 .nil) .nil)) .nil))))))) Tryz.func51
def M.om(N:Nat)(a0:cQ.den):Option Bool:=
(M.nk N a0).bind λy1=>
aa (ah (y1.1=0))
theorem W26(N:Nat):Fo 26 (.i1 [.g cQ]) (.i1 [.l .bool]) (M.om N):=fz N [ck (W51 N)] .nil Tryz.func26
def M.ra(N:Nat)(a0:List Int)(a1:Int):Option Bool:=
Loop (S:=Int) (X:=Bool) (λs1=>
(if(ah (s1<(a0.length:Int)))then
(idx a0 s1).bind λx2=>
(if(ah (x2=a1))then
aa (.inr af)
else
aa (.inl (aoz.wrap (s1+1))))
else
aa (.inr ag))) N 0
theorem W52(N:Nat):Fo 52 (.i1 [.l (.slice aB), .l aB]) (.i1 [.l .bool]) (u2 (M.ra N)):=fz N [] (.o (.two (.o (.two (.lp 5 32 .nil) .nil)) .nil)) Tryz.func52
def M.qh(N:Nat)(a0:aU.den)(a1:Int)(a2:List Int):Option Bool:=
(M.kZ N a0 a1).bind λy1=>
Loop (S:=Int) (X:=Bool) (λs2=>
(if(ah (s2<(y1.length:Int)))then
(idx y1 s2).bind λx3=>
(M.ra N a2 x3).bind λy4=>
(if(!y4)then
aa (.inr ag)
else
aa (.inl (aoz.wrap (s2+1))))
else
aa (.inr af))) N 0
theorem W53(N:Nat):Fo 53 (.i1 [.g aU, .l aB, .l (.slice aB)]) (.i1 [.l .bool]) (u3 (M.qh N)):=fz N [ck (W52 N),ck (W93 N)] (.o (.o (.two (.o (.two (.lp 8 112 .nil) .nil)) .nil))) Tryz.func53
def M.gP(N:Nat)(a0:aU.den):Option (Int×List Int):=
Loop (S:=List Int) (X:=Int×List Int) (λs1=>
(if(ah ((s1.length:Int)<(a0.2.2.2.1.length:Int)))then
(Loop (S:=Int) (X:=Int) (λs3=>
((if(ah (s3<(a0.2.2.2.1.length:Int)))then
(M.ra N s1 s3).bind λy5=>
(if y5 then
aa af
else
(M.qh N a0 s3 s1).bind λy6=>
aa (!y6))
else
aa ag):Option Bool).bind λj4=>
(if j4 then
aa (.inl (aoz.wrap (s3+1)))
else
aa (.inr s3))) N 0:Option Int).bind λj2=>
(if(ah (j2=(a0.2.2.2.1.length:Int)))then
aa (.inr (9,([]:List Int)))
else
(bR s1 ([j2]:List Int)).bind λl7=>
aa (.inl l7))
else
aa (.inr (0,s1)))) N ([]:List Int)
theorem W27(N:Nat):Fo 27 (.i1 [.g aU]) (.j1 [.val ag (.own 0), .l aB] [.own 3 aB] 1) (M.gP N):=fz N [ck (W52 N),ck (W53 N)] (.o (.o (.two (.two (.loop ⟨[(4, .val ag (.own 64))],[(64, .own 3 aB)],[],65⟩ (.o (.two (.o (.meet ⟨[(5, .l aB)],[],[],177⟩ (.two (.lp 5 177 (.two (.mb 28 177) .nil)) .nil) .nil)) .nil))) .nil) .nil))) Tryz.func27
def M.rO(N:Nat)(a0:List aA.den):Option (Int×List Int):=
(M.gZ N a0).bind λy1=>
aa (y1.2.1,y1.2.2)
theorem W97(N:Nat):Fo 97 (.i1 [.l (.slice aA)]) (.j1 [.val ag (.own 0), .l aB] [.own 3 aB] 1) (M.rO N):=fz N [ck (Wz N)] .nil Tryz.func97
def M.nl(N:Nat)(a0:List aA.den)(a1:Int):Option (List Int):=
(M.gZ N a0).bind λy1=>
((if(!ah (y1.2.1=0))then
aa af
else
(if(ah (a1<0))then
aa af
else
aa (ah ((a0.length:Int)<=a1)))):Option Bool).bind λj2=>
(if j2 then
aa ([]:List Int)
else
(idx a0 a1).bind λx3=>
(M.fj N x3.1).bind λy4=>
(pw y4 0).bind λl5=>
Loop (S:=Int×Int×List Int) (X:=List Int) (λs6=>
(if(ah (0<=s6.2.1))then
(idx s6.2.2 s6.2.1).bind λx7=>
(idx y1.2.2 s6.1).bind λx8=>
aa (.inl (aoz.wrap (x8-1),aoz.wrap (s6.2.1-1),be s6.2.2 s6.2.1 s6.1))
else
aa (.inr s6.2.2))) N (aoz.wrap (a1-1),aoz.wrap (y4-1),l5))
theorem afP(N:Nat):Fo 174 (.i1 [.l (.slice aA), .l aB]) (.w1 3 aB) (u2 (M.nl N)):=fz N [ck (Wz N),ck (ME N)] (.o (.o (.two (.mb 29 160) (.o (.o (.o (.two (.o (.two (.loop ⟨[(10, .l aB),(11, .l aB)],[(288, .own 3 aB)],[],417⟩ .nil) .nil)) .nil))))))) Tryz.func174
def M.k8(N:Nat)(a0:Int):Option (Int×Int):=
(if(ah (a0=1))then
aa (0,1)
else
(if(ah (a0=2))then
aa ((-1000000000000),1000000000000)
else
(if(ah (a0=3))then
aa ((-1000000000000000),1000000000000000)
else
(if(ah (a0=4))then
aa ((-1000000000),1000000000)
else
(if(ah (a0=5))then
aa (0,109572)
else
(if(ah (a0=6))then
aa (0,15)
else
aa (0,(-1))))))))
theorem ZT(N:Nat):Fo 327 (.i1 [.l aB]) (.i1 [.l aB, .l aB]) (M.k8 N):=fz N [] .nil Tryz.func327
def M.cO(N:Nat)(a0:aC.den):Option Bool:=
(M.k8 N a0.1).bind λy1=>
((if(ah (a0.2.2<y1.1))then
aa af
else
aa (ah (y1.2<a0.2.2))):Option Bool).bind λj2=>
(if j2 then
aa ag
else
(if(ah (a0.1=6))then
((if(ah (0<=a0.2.1))then
aa (ah (a0.2.1<8))
else
aa ag):Option Bool).bind λj3=>
aa j3
else
aa (ah (a0.2.1=0))))
theorem PF(N:Nat):Fo 298 (.i1 [.g aC]) (.i1 [.l .bool]) (M.cO N):=fz N [ck (ZT N)] (.o (.o (.two (.mb 20 160) (.two (.o (.two (.mb 2 208) .nil)) .nil)))) Tryz.func298
def M.jI(N:Nat)(a0:Int):Option Bool:=
((if(ah (1<=a0))then
(if(ah (a0<=8))then
aa af
else
(if(ah (36<=a0))then
aa (ah (a0<=39))
else
aa ag))
else
(if(ah (36<=a0))then
aa (ah (a0<=39))
else
aa ag)):Option Bool).bind λj1=>
(if j1 then
aa af
else
((if(ah (a0=14))then
aa af
else
(if(ah (a0=15))then
aa af
else
(if(ah (a0=16))then
aa af
else
(if(ah (a0=33))then
aa af
else
aa (ah (a0=34)))))):Option Bool).bind λj2=>
aa j2)
theorem afQ(N:Nat):Fo 328 (.i1 [.l aB]) (.i1 [.l .bool]) (M.jI N):=fz N [] (.o (.two (.mb 16 16) (.mb 2 16))) Tryz.func328
def M.k9(N:Nat)(a0:aA.den)(a1:Int):Option Bool:=
((M.fj N a0.1).bind λy2=>
(if(!ah (y2=a1))then
aa af
else
(if(!ah (a0.2=0))then
(M.jI N a0.1).bind λy3=>
aa (!y3)
else
aa ag)):Option Bool).bind λj1=>
(if j1 then
aa ag
else
((if(ah (a0.1=14))then
aa (ah (a0.1=14))
else
(if(ah (a0.1=15))then
aa (ah (a0.1=15))
else
aa (ah (a0.1=16)))):Option Bool).bind λj4=>
(if j4 then
((if(ah (0<=a0.2))then
aa (ah (a0.2<=5))
else
aa ag):Option Bool).bind λj5=>
aa j5
else
(if(ah (a0.1=34))then
((if(ah (0<=a0.2))then
aa (ah ((aoP a0.2 8)<=5))
else
aa ag):Option Bool).bind λj6=>
aa j6
else
(if(ah (a0.1=6))then
aa (ah (0<=a0.2))
else
aa af))))
theorem afR(N:Nat):Fo 299 (.i1 [.g aA, .l aB]) (.i1 [.l .bool]) (u2 (M.k9 N)):=fz N [ck (ME N),ck (afQ N)] (.o (.two (.mb 20 32) (.two (.o (.two (.meet ⟨[(23, .l .bool)],[],[],64⟩ .nil (.two (.mb 4 64) (.o (.two (.mb 4 96) .nil)))) .nil)) .nil))) Tryz.func299
def M.oK(N:Nat)(a0:aA.den)(a1:cz.den):Option Bool:=
(if(ah (a0.1=7))then
((if(ah (0<=a0.2))then
aa (ah (a0.2<(a1.2.1.length:Int)))
else
aa ag):Option Bool).bind λj1=>
aa j1
else
(if(ah (a0.1=8))then
((if(ah (0<=a0.2))then
(if(ah (a0.2<(a1.2.2.1.length:Int)))then
(idx a1.2.2.1 a0.2).bind λx3=>
aa (!ah (x3.1=0))
else
aa ag)
else
aa ag):Option Bool).bind λj2=>
aa j2
else
(if(ah (a0.1=33))then
((if(ah (0<=a0.2))then
aa (ah (a0.2<(a1.2.2.2.2.2.length:Int)))
else
aa ag):Option Bool).bind λj4=>
aa j4
else
(if(ah (a0.1=34))then
aa (ah ((aoz.wrap (aoM a0.2 8))<(a1.2.2.2.2.2.length:Int)))
else
((if(ah (a0.1=36))then
aa (ah (a0.1=36))
else
(if(ah (a0.1=37))then
aa (ah (a0.1=37))
else
(if(ah (a0.1=38))then
aa (ah (a0.1=38))
else
aa (ah (a0.1=39))))):Option Bool).bind λj5=>
(if j5 then
((if(ah (0<=a0.2))then
aa (ah (a0.2<(a1.2.2.2.2.1.length:Int)))
else
aa ag):Option Bool).bind λj6=>
aa j6
else
aa af)))))
theorem afS(N:Nat):Fo 300 (.i1 [.g aA, .g cz]) (.i1 [.l .bool]) (u2 (M.oK N)):=fz N [] (.o (.two (.o (.two (.o (.two (.mb 4 112) (.o (.two (.mb 4 144) (.o (.two (.mb 4 176) (.o (.o (.meet ⟨[(65, .l .bool)],[],[],208⟩ .nil (.two (.mb 4 208) .nil)))))))))) .nil)) .nil)) Tryz.func300
def M.oo(N:Nat)(a0:Int)(a1:aA.den):Option Bool:=
(if(!ah (a1.2=0))then
aa ag
else
(if(ah (a0=36))then
((if(ah (a1.1=2))then
aa af
else
aa (ah (a1.1=3))):Option Bool).bind λj1=>
aa j1
else
(if(ah (a0=39))then
((if(ah (2<=a1.1))then
aa (ah (a1.1<=5))
else
aa ag):Option Bool).bind λj2=>
aa j2
else
aa (ah (a1.1=1)))))
theorem afT(N:Nat):Fo 329 (.i1 [.l aB, .g aA]) (.i1 [.l .bool]) (u2 (M.oo N)):=fz N [] (.o (.o (.two (.o (.two (.o (.two (.mb 4 128) (.o (.two (.mb 4 160) .nil)))) .nil)) .nil))) Tryz.func329
def M.uc(N:Nat)(a0:aC.den)(a1:aA.den):Option Bool:=
((M.cO N a0).bind λy2=>
(if y2 then
(if(ah (a0.1=a1.1))then
aa (ah (a0.2.1=a1.2))
else
aa ag)
else
aa ag):Option Bool).bind λj1=>
aa j1
theorem afU(N:Nat):Fo 330 (.i1 [.g aC, .g aA]) (.i1 [.l .bool]) (u2 (M.uc N)):=fz N [ck (PF N)] (.o (.mb 4 48)) Tryz.func330
def M.rP(N:Nat)(a0:Int)(a1:Int)(a2:Int)(a3:Bool):Option Int:=
(if(ah (a0=36))then
aa (aoz.wrap (a1+a2))
else
(if(ah (a0=37))then
aa (aoz.wrap (a1*a2))
else
(if(ah (a0=38))then
(if(ah (a1<a2))then
aa a2
else
aa a1)
else
((if a3 then
aa af
else
aa (ah (a1<a2))):Option Bool).bind λj1=>
(if j1 then
aa a2
else
aa a1))))
theorem afV(N:Nat):Fo 331 (.i1 [.l aB, .l aB, .l aB, .l .bool]) (.i1 [.l aB]) (u4 (M.rP N)):=fz N [] (.o (.o (.two (.mb 32 128) .nil))) Tryz.func331
def M.c9(N:Nat)(a0:Int)(a1:Int):Option (aC.den×Int):=
(M.cO N (a0,(0,a1))).bind λy1=>
(if(!y1)then
aa ((0,(0,0)),3)
else
aa ((a0,(0,a1)),0))
theorem Iy(N:Nat):Fo 332 (.i1 [.l aB, .l aB]) (.i1 [.g aC, .l aB]) (u2 (M.c9 N)):=fz N [ck (PF N)] .nil Tryz.func332
def M.oq(N:Nat)(a0:aA.den)(a1:cz.den):Option (aC.den×Int):=
(idx a1.2.2.2.2.1 a0.2).bind λx1=>
(M.oo N a0.1 x1).bind λy2=>
(if(!y2)then
aa ((0,(0,0)),8)
else
((if(ah (a0.1=37))then
aa 1
else
aa 0):Option Int).bind λj3=>
bx (J:=Int) (R:=aC.den×Int) (Loop (S:=Int×Int) (X:=Int⊕(aC.den×Int)) (λs5=>
(if(ah (s5.2<(a1.2.2.2.1.length:Int)))then
(idx a1.2.2.2.1 s5.2).bind λx6=>
((if(ah ((x6.length:Int)<=a0.2))then
aa af
else
(idx x6 a0.2).bind λx8=>
aa (ah (x8.1=0))):Option Bool).bind λj7=>
(if j7 then
aa (.inr (.inr ((0,(0,0)),6)))
else
(idx x6 a0.2).bind λx9=>
(M.uc N x9 x1).bind λnI=>
(if(!nI)then
aa (.inr (.inr ((0,(0,0)),8)))
else
(idx x6 a0.2).bind λnT=>
(M.rP N a0.1 s5.1 nT.2.2 (ah (s5.2=0))).bind λpJ=>
(M.c9 N x1.1 pJ).bind λpT=>
(if(!ah (pT.2=0))then
aa (.inr (.inr ((0,(0,0)),pT.2)))
else
aa (.inl (pJ,aoz.wrap (s5.2+1))))))
else
aa (.inr (.inl s5.1)))) N (j3,0)) λj4=>
((if(ah (a0.1=39))then
aa (ah ((a1.2.2.2.1.length:Int)=0))
else
aa ag):Option Bool).bind λAQ=>
(if AQ then
aa ((0,(0,0)),6)
else
(M.c9 N x1.1 j4).bind λlv=>
aa (lv.1,lv.2)))
theorem afW(N:Nat):Fo 301 (.i1 [.g aA, .g cz]) (.i1 [.g aC, .l aB]) (u2 (M.oq N)):=fz N [ck (afT N),ck (afU N),ck (afV N),ck (Iy N)] (.o (.o (.o (.o (.meet ⟨[(7, .l aB)],[],[],288⟩ .nil (.join ⟨[(7, .l aB)],[],[],288⟩ (.o (.two (.loop ⟨[(7, .l aB),(8, .l aB)],[],[],304⟩ (.o (.two (.two (.o (.two (.mb 52 480) .nil)) .nil) .nil))) .nil)) (.two (.mb 94 288) .nil))))))) Tryz.func301
def M.cW(N:Nat)(a0:aA.den)(a1:cz.den):Option (aC.den×Int):=
(if(ah (a0.1=7))then
(idx a1.2.1 a0.2).bind λx1=>
(M.cO N x1).bind λy2=>
(if(!y2)then
aa ((0,(0,0)),8)
else
(idx a1.2.1 a0.2).bind λx3=>
aa (x3,0))
else
(if(ah (a0.1=8))then
(idx a1.2.2.1 a0.2).bind λx4=>
(M.cO N x4).bind λy5=>
(if(!y5)then
aa ((0,(0,0)),8)
else
(idx a1.2.2.1 a0.2).bind λx6=>
aa (x6,0))
else
(if(ah (a0.1=9))then
(M.c9 N 5 a1.1).bind λy7=>
aa (y7.1,y7.2)
else
(if(ah (a0.1=35))then
(M.c9 N 2 (a1.2.2.2.1.length:Int)).bind λy8=>
aa (y8.1,y8.2)
else
(if(ah (a0.1=6))then
(M.cO N (6,(aoz.wrap (aoM a0.2 16),aoP a0.2 16))).bind λy9=>
(if(!y9)then
aa ((0,(0,0)),3)
else
aa ((6,(aoz.wrap (aoM a0.2 16),aoP a0.2 16)),0))
else
(M.c9 N a0.1 a0.2).bind λnI=>
aa (nI.1,nI.2))))))
theorem afX(N:Nat):Fo 302 (.i1 [.g aA, .g cz]) (.i1 [.g aC, .l aB]) (u2 (M.cW N)):=fz N [ck (PF N),ck (Iy N)] .nil Tryz.func302
def M.dq(N:Nat)(a0:Int):Option Bool:=
((if(ah (a0=2))then
aa af
else
(if(ah (a0=3))then
aa af
else
aa (ah (a0=4)))):Option Bool).bind λj1=>
aa j1
theorem ZU(N:Nat):Fo 333 (.i1 [.l aB]) (.i1 [.l .bool]) (M.dq N):=fz N [] (.o (.mb 2 16)) Tryz.func333
def M.fM(N:Nat)(a0:Bool):Option (aC.den×Int):=
((if a0 then
aa 1
else
aa 0):Option Int).bind λj1=>
aa ((1,(0,j1)),0)
theorem ZV(N:Nat):Fo 334 (.i1 [.l .bool]) (.i1 [.g aC, .l aB]) (M.fM N):=fz N [] (.o (.o (.meet ⟨[(4, .l aB)],[],[],48⟩ .nil .nil))) Tryz.func334
def M.kC(N:Nat)(a0:Int):Option Bool:=
((if(ah (0<=a0))then
aa (ah (a0<=109572))
else
aa ag):Option Bool).bind λj1=>
aa j1
theorem WB(N:Nat):Fo 354 (.i1 [.l aB]) (.i1 [.l .bool]) (M.kC N):=fz N [] (.o (.mb 2 16)) Tryz.func354
def M.pn(N:Nat)(a0:Int):Option Bool:=
((if(ah ((aoP a0 4)=0))then
(if(!ah ((aoP a0 100)=0))then
aa af
else
aa (ah ((aoP a0 400)=0)))
else
aa ag):Option Bool).bind λj1=>
aa j1
theorem ZW(N:Nat):Fo 376 (.i1 [.l aB]) (.i1 [.l .bool]) (M.pn N):=fz N [] (.o (.mb 2 16)) Tryz.func376
def M.gv(N:Nat)(a0:Int):Option Int:=
(M.pn N a0).bind λy1=>
(if y1 then
aa 366
else
aa 365)
theorem ZX(N:Nat):Fo 355 (.i1 [.l aB]) (.i1 [.l aB]) (M.gv N):=fz N [ck (ZW N)] .nil Tryz.func355
def M.dV(N:Nat)(a0:Int)(a1:Int):Option Int:=
(if(ah (a1=2))then
(M.pn N a0).bind λy1=>
(if y1 then
aa 29
else
aa 28)
else
((if(ah (a1=4))then
aa (ah (a1=4))
else
(if(ah (a1=6))then
aa (ah (a1=6))
else
(if(ah (a1=9))then
aa (ah (a1=9))
else
aa (ah (a1=11))))):Option Bool).bind λj2=>
(if j2 then
aa 30
else
((if(ah (a1=1))then
aa (ah (a1=1))
else
(if(ah (a1=3))then
aa (ah (a1=3))
else
(if(ah (a1=5))then
aa (ah (a1=5))
else
(if(ah (a1=7))then
aa (ah (a1=7))
else
(if(ah (a1=8))then
aa (ah (a1=8))
else
(if(ah (a1=10))then
aa (ah (a1=10))
else
aa (ah (a1=12)))))))):Option Bool).bind λj3=>
(if j3 then
aa 31
else
aa 0)))
theorem WC(N:Nat):Fo 356 (.i1 [.l aB, .l aB]) (.i1 [.l aB]) (u2 (M.dV N)):=fz N [ck (ZW N)] (.o (.two (.o (.two (.o (.o (.meet ⟨[(10, .l .bool)],[],[],64⟩ .nil (.o (.mb 15 64))))) .nil)) .nil)) Tryz.func356
def M.jm(N:Nat)(a0:Int):Option (Int×Int×Int):=
(M.kC N a0).bind λy1=>
(if(!y1)then
aa (0,0,0)
else
(Loop (S:=Int×Int) (X:=Int×Int) (λs3=>
(M.gv N s3.2).bind λy4=>
(if(ah (y4<=s3.1))then
(M.gv N s3.2).bind λy5=>
aa (.inl (aoz.wrap (s3.1-y5),aoz.wrap (s3.2+1)))
else
aa (.inr (s3.1,s3.2)))) N (a0,1900):Option (Int×Int)).bind λj2=>
(Loop (S:=Int×Int) (X:=Int×Int) (λs7=>
(M.dV N j2.2 s7.2).bind λy8=>
(if(ah (y8<=s7.1))then
(M.dV N j2.2 s7.2).bind λy9=>
aa (.inl (aoz.wrap (s7.1-y9),aoz.wrap (s7.2+1)))
else
aa (.inr (s7.1,s7.2)))) N (j2.1,1):Option (Int×Int)).bind λj6=>
aa (j2.2,j6.2,aoz.wrap (j6.1+1)))
theorem ZY(N:Nat):Fo 335 (.i1 [.l aB]) (.i1 [.l aB, .l aB, .l aB]) (M.jm N):=fz N [ck (WB N),ck (ZX N),ck (WC N)] (.o (.o (.o (.meet ⟨[(0, .l aB),(5, .l aB)],[],[],128⟩ (.two (.loop ⟨[(0, .l aB),(5, .l aB)],[],[],128⟩ .nil) .nil) (.meet ⟨[(0, .l aB),(6, .l aB)],[],[],128⟩ (.two (.loop ⟨[(0, .l aB),(6, .l aB)],[],[],128⟩ .nil) .nil) .nil))))) Tryz.func335
def M.eZ(N:Nat)(a0:aA.den)(a1:Int):Option Bool:=
((M.jk N a0).bind λy2=>
(if y2 then
(if(ah (a0.1<=a1))then
aa (ah (a1<a0.2))
else
aa ag)
else
aa ag):Option Bool).bind λj1=>
aa j1
theorem W94(N:Nat):Fo 94 (.i1 [.g aA, .l aB]) (.i1 [.l .bool]) (u2 (M.eZ N)):=fz N [ck (SM N)] (.o (.mb 4 32)) Tryz.func94
def M.ot(N:Nat)(a0:dM.den)(a1:Int)(a2:Int):Option Bool:=
((M.eZ N a0.1 a1).bind λy2=>
(if y2 then
(if(ah (a0.2.1<=a2))then
aa (ah (a2<a0.2.2.1))
else
aa ag)
else
aa ag):Option Bool).bind λj1=>
aa j1
theorem afY(N:Nat):Fo 377 (.i1 [.g dM, .l aB, .l aB]) (.i1 [.l .bool]) (u3 (M.ot N)):=fz N [ck (W94 N)] (.o (.mb 6 32)) Tryz.func377
def M.np(N:Nat)(a0:aP.den)(a1:Int)(a2:Int):Option (Int×Bool):=
Loop (S:=Int) (X:=Int×Bool) (λs1=>
(if(ah (s1<(a0.2.2.2.length:Int)))then
(idx a0.2.2.2 s1).bind λx2=>
(M.ot N x2 a1 a2).bind λy3=>
(if y3 then
aa (.inr (s1,af))
else
aa (.inl (aoz.wrap (s1+1))))
else
aa (.inr (0,ag)))) N 0
theorem afZ(N:Nat):Fo 357 (.i1 [.g aP, .l aB, .l aB]) (.i1 [.l aB, .l .bool]) (u3 (M.np N)):=fz N [ck (afY N)] (.o (.two (.o (.two (.lp 8 64 .nil) .nil)) .nil)) Tryz.func357
def M.rQ(N:Nat)(a0:aP.den)(a1:Int)(a2:aC.den):Option (aC.den×Int):=
((if(!ah (a2.1=a0.2.1.1))then
aa af
else
(if(!ah (a2.2.1=a0.2.1.2))then
aa af
else
(if(ah (a0.2.2.1.1<1))then
aa af
else
aa (ah (6<a0.2.2.1.1))))):Option Bool).bind λj1=>
(if j1 then
aa ((0,(0,0)),8)
else
(M.np N a0 a1 a2.2.2).bind λy2=>
(if(!y2.2)then
aa ((0,(0,0)),6)
else
(idx a0.2.2.2 y2.1).bind λx3=>
(M.cO N (a0.2.2.1.1,(a0.2.2.1.2,x3.2.2.2))).bind λy4=>
(if(!y4)then
aa ((0,(0,0)),3)
else
aa ((a0.2.2.1.1,(a0.2.2.1.2,x3.2.2.2)),0))))
theorem af0(N:Nat):Fo 336 (.i1 [.g aP, .l aB, .g aC]) (.i1 [.g aC, .l aB]) (u3 (M.rQ N)):=fz N [ck (PF N),ck (afZ N)] (.o (.two (.mb 36 64) .nil)) Tryz.func336
def M.mo(N:Nat)(a0:Int):Option Bool:=
((if(ah (0<=a0))then
aa (ah (a0<=5))
else
aa ag):Option Bool).bind λj1=>
aa j1
theorem SN(N:Nat):Fo 358 (.i1 [.l aB]) (.i1 [.l .bool]) (M.mo N):=fz N [] (.o (.mb 2 16)) Tryz.func358
def M.dK(N:Nat)(a0:Int)(a1:Int):Option Bool:=
((if(ah (a1<a0))then
aa af
else
aa (ah (a0<(aoz.wrap (0-a1))))):Option Bool).bind λj1=>
aa j1
theorem SO(N:Nat):Fo 359 (.i1 [.l aB, .l aB]) (.i1 [.l .bool]) (u2 (M.dK N)):=fz N [] (.o (.mb 4 16)) Tryz.func359
def M.ju(N:Nat)(a0:Int)(a1:Int):Option (Int×Int×Bool):=
((if(ah (a1<0))then
aa (aoD.wrap ((aoD.wrap (aoz.wrap (0-(aoz.wrap (a1+1)))))+1))
else
aa (aoD.wrap a1)):Option Int).bind λj1=>
((if(ah (0<(aoz.wrap (aoD.wrap (aoM j1 1000000)))))then
(nG 1000000000000000 (aoz.wrap (aoD.wrap (aoM j1 1000000)))).bind λx3=>
aa (ah ((aoz.wrap x3)<a0))
else
aa ag):Option Bool).bind λj2=>
(if j2 then
aa (0,0,ag)
else
(if(ah (1000000000000000<(aoz.wrap ((aoz.wrap ((aoz.wrap (a0*(aoz.wrap (aoD.wrap (aoM j1 1000000)))))+(aoz.wrap ((aoz.wrap (aoM a0 1000000))*(aoz.wrap (aoP j1 1000000))))))+(aoz.wrap (aoM (aoz.wrap ((aoP a0 1000000)*(aoz.wrap (aoP j1 1000000)))) 1000000))))))then
aa (0,0,ag)
else
(if(ah (a1<0))then
aa (aoz.wrap (0-(aoz.wrap ((aoz.wrap ((aoz.wrap (a0*(aoz.wrap (aoD.wrap (aoM j1 1000000)))))+(aoz.wrap ((aoz.wrap (aoM a0 1000000))*(aoz.wrap (aoP j1 1000000))))))+(aoz.wrap (aoM (aoz.wrap ((aoP a0 1000000)*(aoz.wrap (aoP j1 1000000)))) 1000000))))),aoz.wrap (0-(aoP (aoz.wrap ((aoP a0 1000000)*(aoz.wrap (aoP j1 1000000)))) 1000000)),af)
else
aa (aoz.wrap ((aoz.wrap ((aoz.wrap (a0*(aoz.wrap (aoD.wrap (aoM j1 1000000)))))+(aoz.wrap ((aoz.wrap (aoM a0 1000000))*(aoz.wrap (aoP j1 1000000))))))+(aoz.wrap (aoM (aoz.wrap ((aoP a0 1000000)*(aoz.wrap (aoP j1 1000000)))) 1000000))),aoP (aoz.wrap ((aoP a0 1000000)*(aoz.wrap (aoP j1 1000000)))) 1000000,af))))
theorem af1(N:Nat):Fo 360 (.i1 [.l aB, .l aB]) (.i1 [.l aB, .l aB, .l .bool]) (u2 (M.ju N)):=fz N [] (.o (.o (.meet ⟨[(7, .l (.int .u64))],[],[],96⟩ .nil (.o (.two (.mb 34 224) .nil))))) Tryz.func360
def M.gk(N:Nat)(a0:Int)(a1:Int)(a2:Int)(a3:Bool)(a4:Int):Option Int:=
((if(ah (a4=0))then
(if a3 then
aa (ah (0<a1))
else
aa ag)
else
(if(ah (a4=1))then
(if(!a3)then
aa (ah (0<a1))
else
aa ag)
else
(if(ah (a4=3))then
aa (ah (0<a1))
else
(if(ah (a4=4))then
aa (ah ((aoz.wrap (a2-a1))<=a1))
else
(if(ah (a4=5))then
(if(ah ((aoz.wrap (a2-a1))<a1))then
aa af
else
(if(ah (a1=(aoz.wrap (a2-a1))))then
aa (ah ((aoP a0 2)=1))
else
aa ag))
else
aa ag))))):Option Bool).bind λj1=>
((if j1 then
aa (aoz.wrap (a0+1))
else
aa a0):Option Int).bind λj2=>
(if a3 then
aa (aoz.wrap (0-j2))
else
aa j2)
theorem SP(N:Nat):Fo 378 (.i1 [.l aB, .l aB, .l aB, .l .bool, .l aB]) (.i1 [.l aB]) (u5 (M.gk N)):=fz N [] (.o (.o (.two (.o (.mb 11 48)) (.meet ⟨[(0, .l aB)],[],[],48⟩ .nil .nil)))) Tryz.func378
def M.ou(N:Nat)(a0:Int)(a1:Int)(a2:Int):Option Int:=
(Loop (S:=Int×Int) (X:=Int×Int) (λs2=>
(if(ah (s2.2<0))then
aa (.inl (aoz.wrap (s2.1-1),aoz.wrap (s2.2+1000000)))
else
aa (.inr (s2.1,s2.2)))) N (a0,a1):Option (Int×Int)).bind λj1=>
(Loop (S:=Int×Int) (X:=Int×Int) (λs4=>
(if(ah (1000000<=s4.2))then
aa (.inl (aoz.wrap (s4.1+1),aoz.wrap (s4.2-1000000)))
else
aa (.inr (s4.1,s4.2)))) N (j1.1,j1.2):Option (Int×Int)).bind λj3=>
(if(ah (0<=j3.1))then
(M.gk N j3.1 j3.2 1000000 ag a2).bind λy5=>
aa y5
else
(if(ah (j3.2=0))then
aa j3.1
else
(M.gk N (aoz.wrap ((aoz.wrap (0-j3.1))-1)) (aoz.wrap (1000000-j3.2)) 1000000 af a2).bind λy6=>
aa y6))
theorem af2(N:Nat):Fo 361 (.i1 [.l aB, .l aB, .l aB]) (.i1 [.l aB]) (u3 (M.ou N)):=fz N [ck (SP N)] (.o (.meet ⟨[(0, .l aB),(1, .l aB)],[],[],16⟩ (.two (.loop ⟨[(0, .l aB),(1, .l aB)],[],[],16⟩ .nil) .nil) (.meet ⟨[(0, .l aB),(1, .l aB)],[],[],16⟩ (.two (.loop ⟨[(0, .l aB),(1, .l aB)],[],[],16⟩ .nil) .nil) .nil))) Tryz.func361
def M.nq(N:Nat)(a0:aP.den)(a1:Int)(a2:Int)(a3:Int):Option (Int×Int):=
(M.mo N a3).bind λy1=>
(if(!y1)then
aa (0,1)
else
((if(!(px aA a0.2.1 (3,0)))then
aa af
else
aa (!(px aA a0.2.2.1 (4,0)))):Option Bool).bind λj2=>
(if j2 then
aa (0,8)
else
(M.dK N a2 1000000000000000).bind λy3=>
(if y3 then
aa (0,3)
else
bx (J:=Int×Int) (R:=Int×Int) (Loop (S:=Int×Int×Int) (X:=(Int×Int)⊕(Int×Int)) (λs5=>
(if(ah (s5.2.2<(a0.2.2.2.length:Int)))then
bx (J:=Int×Int) (R:=(Int×Int×Int)⊕((Int×Int)⊕(Int×Int))) ((idx a0.2.2.2 s5.2.2).bind λx7=>
(idx a0.2.2.2 s5.2.2).bind λx8=>
((if(ah ((if a2<x8.2.2.1 then a2 else x8.2.2.1)<=(if x7.2.1<0 then 0 else x7.2.1)))then
aa af
else
(idx a0.2.2.2 s5.2.2).bind λmj=>
(M.eZ N mj.1 a1).bind λqY=>
aa (!qY)):Option Bool).bind λj9=>
(if j9 then
aa (.inl (s5.1,s5.2.1))
else
(idx a0.2.2.2 s5.2.2).bind λqZ=>
(M.ju N (aoz.wrap ((if a2<x8.2.2.1 then a2 else x8.2.2.1)-(if x7.2.1<0 then 0 else x7.2.1))) qZ.2.2.2).bind λpT=>
(if(!pT.2.2)then
aa (.inr (.inr (.inr (0,3))))
else
aa (.inl (aoz.wrap (s5.1+pT.1),aoz.wrap (s5.2.1+pT.2.1)))))) λj6=>
aa (.inl (j6.1,j6.2,aoz.wrap (s5.2.2+1)))
else
aa (.inr (.inl (s5.1,s5.2.1))))) N (0,0,0)) λj4=>
(M.ou N j4.1 j4.2 a3).bind λlz=>
(M.dK N lz 1000000000000000).bind λlv=>
(if lv then
aa (0,3)
else
aa (lz,0)))))
theorem af3(N:Nat):Fo 337 (.i1 [.g aP, .l aB, .l aB, .l aB]) (.i1 [.l aB, .l aB]) (u4 (M.nq N)):=fz N [ck (W94 N),ck (SN N),ck (SO N),ck (af1 N),ck (af2 N)] (.o (.o (.two (.mb 31 96) (.o (.o (.join ⟨[(10, .l aB),(11, .l aB)],[],[],160⟩ (.o (.two (.loop ⟨[(10, .l aB),(11, .l aB),(12, .l aB)],[],[],176⟩ (.o (.two (.join ⟨[(10, .l aB),(11, .l aB)],[],[],256⟩ (.o (.two (.mb 69 528) .nil)) .nil) .nil))) .nil)) .nil)))))) Tryz.func337
def M.iG(N:Nat)(a0:Int)(a1:Int)(a2:Int):Option (aC.den×Int):=
(if(!ah (a2=0))then
aa ((0,(0,0)),a2)
else
(M.c9 N a0 a1).bind λy1=>
aa (y1.1,y1.2))
theorem WD(N:Nat):Fo 338 (.i1 [.l aB, .l aB, .l aB]) (.i1 [.g aC, .l aB]) (u3 (M.iG N)):=fz N [ck (Iy N)] .nil Tryz.func338
def M.cA(N:Nat)(a0:aA.den)(a1:aC.den)(a2:cz.den):Option (aC.den×Int):=
(if(ah (a0.1=10))then
(M.dq N a1.1).bind λy1=>
(if(!y1)then
aa ((0,(0,0)),8)
else
(M.c9 N a1.1 (aoz.wrap (0-a1.2.2))).bind λy2=>
aa (y2.1,y2.2))
else
(if(ah (a0.1=25))then
(if(!ah (a1.1=1))then
aa ((0,(0,0)),8)
else
(M.fM N (ah (a1.2.2=0))).bind λy3=>
aa (y3.1,y3.2))
else
((if(ah (a0.1=31))then
aa (ah (a0.1=31))
else
aa (ah (a0.1=32))):Option Bool).bind λj4=>
(if j4 then
(if(!ah (a1.1=5))then
aa ((0,(0,0)),8)
else
(M.jm N a1.2.2).bind λy5=>
(if(ah (a0.1=31))then
(M.c9 N 2 y5.1).bind λy6=>
aa (y6.1,y6.2)
else
(M.c9 N 2 y5.2.1).bind λy7=>
aa (y7.1,y7.2)))
else
(if(ah (a0.1=33))then
(idx a2.2.2.2.2.2 a0.2).bind λx8=>
(M.rQ N x8 a2.1 a1).bind λy9=>
aa (y9.1,y9.2)
else
(idx a2.2.2.2.2.2 (aoz.wrap (aoM a0.2 8))).bind λmj=>
((if(!ah (a1.1=3))then
aa af
else
(if(!ah (mj.2.1.1=3))then
aa af
else
(if(!ah (mj.2.1.2=0))then
aa af
else
(if(!ah (mj.2.2.1.1=4))then
aa af
else
aa (!ah (mj.2.2.1.2=0)))))):Option Bool).bind λsK=>
(if sK then
aa ((0,(0,0)),8)
else
(M.nq N mj a2.1 a1.2.2 (aoP a0.2 8)).bind λpJ=>
(M.iG N 3 pJ.1 pJ.2).bind λpT=>
aa (pT.1,pT.2))))))
theorem af4(N:Nat):Fo 303 (.i1 [.g aA, .g aC, .g cz]) (.i1 [.g aC, .l aB]) (u3 (M.cA N)):=fz N [ck (Iy N),ck (ZU N),ck (ZV N),ck (ZY N),ck (af0 N),ck (af3 N),ck (WD N)] (.o (.two (.o (.two (.o (.o (.o (.o (.mb 43 176))))) .nil)) (.o (.two (.mb 115 352) .nil)))) Tryz.func303
def M.ov(N:Nat)(a0:Int)(a1:Int)(a2:Int):Option (aC.den×Int):=
(M.k8 N a0).bind λy1=>
((if(ah (a1<0))then
aa (aoz.wrap (0-a1))
else
aa a1):Option Int).bind λj2=>
((if(ah (a2<0))then
aa (aoz.wrap (0-a2))
else
aa a2):Option Int).bind λj3=>
((if(!ah (j3=0))then
(nG y1.2 j3).bind λx5=>
aa (ah ((aoz.wrap x5)<j2))
else
aa ag):Option Bool).bind λj4=>
(if j4 then
aa ((0,(0,0)),3)
else
(M.c9 N a0 (aoz.wrap (a1*a2))).bind λy6=>
aa (y6.1,y6.2))
theorem af5(N:Nat):Fo 362 (.i1 [.l aB, .l aB, .l aB]) (.i1 [.g aC, .l aB]) (u3 (M.ov N)):=fz N [ck (ZT N),ck (Iy N)] (.o (.o (.o (.o (.meet ⟨[(10, .l aB)],[],[],208⟩ .nil (.meet ⟨[(11, .l aB)],[],[],208⟩ .nil (.two (.mb 35 208) .nil))))))) Tryz.func362
def M.la(N:Nat)(a0:Int):Option Int:=
(if(ah (a0<0))then
aa (aoz.wrap (0-a0))
else
aa a0)
theorem WE(N:Nat):Fo 383 (.i1 [.l aB]) (.i1 [.l aB]) (M.la N):=fz N [] .nil Tryz.func383
def M.rR(N:Nat)(a0:Int)(a1:Int)(a2:Int)(a3:Int):Option (Int×Int):=
(M.mo N a3).bind λy1=>
(if(!y1)then
aa (0,1)
else
(if(ah (a2=0))then
aa (0,12)
else
((M.dK N a0 1000000000000000).bind λy3=>
(if y3 then
aa af
else
(M.dK N a1 1000000000).bind λy4=>
(if y4 then
aa af
else
(M.dK N a2 1000000000).bind λy5=>
aa y5)):Option Bool).bind λj2=>
(if j2 then
aa (0,3)
else
(M.la N a0).bind λy6=>
(M.la N a1).bind λy7=>
(M.la N a2).bind λy8=>
((if(ah (0<y7))then
(nG y6 y8).bind λmj=>
(nG 1000000000000000 y7).bind λnT=>
aa (ah ((aoz.wrap nT)<(aoz.wrap mj)))
else
aa ag):Option Bool).bind λj9=>
(if j9 then
aa (0,3)
else
(sQ y6 y8).bind λqZ=>
(nG y6 y8).bind λnK=>
(nG (aoz.wrap (qZ*y7)) y8).bind λqE=>
(sQ (aoz.wrap (qZ*y7)) y8).bind λub=>
(M.gk N (aoz.wrap ((aoz.wrap ((aoz.wrap nK)*y7))+(aoz.wrap qE))) ub y8 (!ah ((!ah ((ah (a0<0))=(ah (a1<0))))=(ah (a2<0)))) a3).bind λzN=>
(M.dK N zN 1000000000000000).bind λvy=>
(if vy then
aa (0,3)
else
aa (zN,0))))))
theorem af6(N:Nat):Fo 379 (.i1 [.l aB, .l aB, .l aB, .l aB]) (.i1 [.l aB, .l aB]) (u4 (M.rR N)):=fz N [ck (SN N),ck (SO N),ck (SP N),ck (WE N)] (.o (.o (.o (.two (.mb 30 112) (.o (.two (.mb 46 256) .nil)))))) Tryz.func379
def M.qi(N:Nat)(a0:Int)(a1:Int)(a2:Int):Option (Int×Int):=
(M.rR N a0 a1 1000000 a2).bind λy1=>
aa (y1.1,y1.2)
theorem af7(N:Nat):Fo 363 (.i1 [.l aB, .l aB, .l aB]) (.i1 [.l aB, .l aB]) (u3 (M.qi N)):=fz N [ck (af6 N)] .nil Tryz.func363
def M.fG(N:Nat)(a0:Int)(a1:Int):Option Bool:=
((if(ah (a1<a0))then
aa af
else
aa (ah (a0<(aoz.wrap (0-a1))))):Option Bool).bind λj1=>
aa j1
theorem ZZ(N:Nat):Fo 380 (.i1 [.l aB, .l aB]) (.i1 [.l .bool]) (u2 (M.fG N)):=fz N [] (.o (.mb 4 16)) Tryz.func380
def M.oL(N:Nat)(a0:Int)(a1:Int):Option (Int×Int):=
(nG a0 a1).bind λx1=>
(sQ a0 a1).bind λx2=>
(if(ah (x2<0))then
aa (aoz.wrap ((aoz.wrap x1)-1),aoz.wrap (x2+a1))
else
aa (aoz.wrap x1,x2))
theorem Z0(N:Nat):Fo 381 (.i1 [.l aB, .l aB]) (.i1 [.l aB, .l aB]) (u2 (M.oL N)):=fz N [] .nil Tryz.func381
def M.iH(N:Nat)(a0:Int)(a1:Int)(a2:Int)(a3:Int):Option Int:=
(if(ah (a1=0))then
aa a0
else
((if(ah (a3=1))then
aa af
else
(if(ah (a3=2))then
(if(ah (a0<0))then
aa af
else
(if(ah (a3=3))then
aa (ah (0<=a0))
else
aa ag))
else
(if(ah (a3=3))then
aa (ah (0<=a0))
else
aa ag))):Option Bool).bind λj1=>
(((if(ah (a3=4))then
aa af
else
aa (ah (a3=5))):Option Bool).bind λj3=>
(if j3 then
(if(ah (a1=(aoz.wrap (a2-a1))))then
(if(ah (a3=4))then
(if(ah (0<=a0))then
aa af
else
(if(ah (a3=5))then
aa (!ah ((aoP a0 2)=0))
else
aa ag))
else
(if(ah (a3=5))then
aa (!ah ((aoP a0 2)=0))
else
aa ag))
else
aa (ah ((aoz.wrap (a2-a1))<a1)))
else
aa j1):Option Bool).bind λj2=>
(if j2 then
aa (aoz.wrap (a0+1))
else
aa a0))
theorem Z1(N:Nat):Fo 382 (.i1 [.l aB, .l aB, .l aB, .l aB]) (.i1 [.l aB]) (u4 (M.iH N)):=fz N [] (.o (.o (.meet ⟨[(9, .l .bool)],[],[],48⟩ .nil (.meet ⟨[(9, .l .bool)],[],[],48⟩ (.mb 36 48) .nil)))) Tryz.func382
def M.rb(N:Nat)(a0:Int)(a1:Int)(a2:Int):Option (Int×Int):=
((if(ah (a2<0))then
aa af
else
aa (ah (5<a2))):Option Bool).bind λj1=>
(if j1 then
aa (0,1)
else
((M.fG N a0 1000000000).bind λy3=>
(if y3 then
aa af
else
(M.fG N a1 1000000000).bind λy4=>
aa y4):Option Bool).bind λj2=>
(if j2 then
aa (0,3)
else
(M.oL N (aoz.wrap (a0*a1)) 1000000).bind λy5=>
(M.iH N y5.1 y5.2 1000000 a2).bind λy6=>
(M.fG N y6 1000000000).bind λy7=>
(if y7 then
aa (0,3)
else
aa (y6,0))))
theorem af8(N:Nat):Fo 364 (.i1 [.l aB, .l aB, .l aB]) (.i1 [.l aB, .l aB]) (u3 (M.rb N)):=fz N [ck (ZZ N),ck (Z0 N),ck (Z1 N)] (.o (.two (.mb 16 32) (.two (.mb 22 32) .nil))) Tryz.func364
def M.me(N:Nat)(a0:Int)(a1:Int)(a2:Int):Option (Int×Int):=
((if(ah (a2<0))then
aa af
else
aa (ah (5<a2))):Option Bool).bind λj1=>
(if j1 then
aa (0,1)
else
(if(ah (a1=0))then
aa (0,12)
else
((M.fG N a0 1000000000000000).bind λy3=>
(if y3 then
aa af
else
(M.fG N a1 1000000000000000).bind λy4=>
aa y4):Option Bool).bind λj2=>
(if j2 then
aa (0,3)
else
((if(ah (a1<0))then
aa (aoz.wrap (0-a0),aoz.wrap (0-a1))
else
aa (a0,a1)):Option (Int×Int)).bind λj5=>
(M.oL N j5.1 j5.2).bind λy6=>
(M.fG N y6.1 1001).bind λy7=>
(if y7 then
aa (0,3)
else
(nG (aoz.wrap (y6.2*1000)) j5.2).bind λx8=>
(sQ (aoz.wrap (y6.2*1000)) j5.2).bind λx9=>
(nG (aoz.wrap (x9*1000)) j5.2).bind λmj=>
(sQ (aoz.wrap (x9*1000)) j5.2).bind λnT=>
(M.iH N (aoz.wrap ((aoz.wrap ((aoz.wrap (y6.1*1000000))+(aoz.wrap ((aoz.wrap x8)*1000))))+(aoz.wrap mj))) nT j5.2 a2).bind λpJ=>
(M.fG N pJ 1000000000).bind λpT=>
(if pT then
aa (0,3)
else
aa (pJ,0))))))
theorem af9(N:Nat):Fo 365 (.i1 [.l aB, .l aB, .l aB]) (.i1 [.l aB, .l aB]) (u3 (M.me N)):=fz N [ck (ZZ N),ck (Z0 N),ck (Z1 N)] (.o (.two (.mb 18 32) (.o (.two (.mb 26 64) (.meet ⟨[(0, .l aB),(1, .l aB)],[],[],64⟩ .nil .nil))))) Tryz.func365
def M.nu(N:Nat)(a0:Int)(a1:Int)(a2:Int):Option (Int×Int):=
(M.mo N a2).bind λy1=>
(if(!y1)then
aa (0,1)
else
(if(ah (a1=0))then
aa (0,12)
else
((M.dK N a0 4611686018427387904).bind λy3=>
(if y3 then
aa af
else
(M.dK N a1 4611686018427387904).bind λy4=>
aa y4):Option Bool).bind λj2=>
(if j2 then
aa (0,3)
else
(M.la N a0).bind λy5=>
(M.la N a1).bind λy6=>
(nG y5 y6).bind λx7=>
(sQ y5 y6).bind λx8=>
(M.gk N (aoz.wrap x7) x8 y6 (!ah ((ah (a0<0))=(ah (a1<0)))) a2).bind λy9=>
aa (y9,0))))
theorem aga(N:Nat):Fo 366 (.i1 [.l aB, .l aB, .l aB]) (.i1 [.l aB, .l aB]) (u3 (M.nu N)):=fz N [ck (SN N),ck (SO N),ck (SP N),ck (WE N)] (.o (.o (.o (.two (.mb 20 112) .nil)))) Tryz.func366
def M.lN(N:Nat)(a0:Int)(a1:Int)(a2:Int):Option (Int×Int):=
(M.mo N a2).bind λy1=>
(if(!y1)then
aa (0,1)
else
(if(ah (a1<1))then
aa (0,12)
else
((M.dK N a0 1000000000000000).bind λy3=>
(if y3 then
aa af
else
aa (ah (1000000000000000<a1))):Option Bool).bind λj2=>
(if j2 then
aa (0,3)
else
(M.la N a0).bind λy4=>
(nG y4 a1).bind λx5=>
(sQ y4 a1).bind λx6=>
(M.gk N (aoz.wrap x5) x6 a1 (ah (a0<0)) a2).bind λy7=>
(M.dK N (aoz.wrap (y7*a1)) 1000000000000000).bind λy8=>
(if y8 then
aa (0,3)
else
aa (aoz.wrap (y7*a1),0)))))
theorem agb(N:Nat):Fo 367 (.i1 [.l aB, .l aB, .l aB]) (.i1 [.l aB, .l aB]) (u3 (M.lN N)):=fz N [ck (SN N),ck (SO N),ck (SP N),ck (WE N)] (.o (.o (.o (.two (.mb 20 112) .nil)))) Tryz.func367
def M.lb(N:Nat)(a0:aA.den)(a1:aC.den)(a2:aC.den):Option (aC.den×Int):=
((if(ah (a0.1=13))then
(if(ah (a2.1=2))then
(if(ah (a1.1=3))then
aa af
else
aa (ah (a1.1=2)))
else
aa ag)
else
aa ag):Option Bool).bind λj1=>
(if j1 then
(M.ov N a1.1 a1.2.2 a2.2.2).bind λy2=>
aa (y2.1,y2.2)
else
((if(ah (a0.1=14))then
(if(ah (a2.1=4))then
aa (ah (a1.1=3))
else
aa ag)
else
aa ag):Option Bool).bind λj3=>
(if j3 then
(M.qi N a1.2.2 a2.2.2 a0.2).bind λy4=>
(M.iG N a1.1 y4.1 y4.2).bind λy5=>
aa (y5.1,y5.2)
else
((if(ah (a0.1=14))then
(if(ah (a2.1=4))then
aa (ah (a1.1=4))
else
aa ag)
else
aa ag):Option Bool).bind λj6=>
(if j6 then
(M.rb N a1.2.2 a2.2.2 a0.2).bind λy7=>
(M.iG N a1.1 y7.1 y7.2).bind λy8=>
aa (y8.1,y8.2)
else
((if(ah (a0.1=15))then
(if(ah (a1.1=3))then
aa (ah (a2.1=3))
else
aa ag)
else
aa ag):Option Bool).bind λj9=>
(if j9 then
(M.me N a1.2.2 a2.2.2 a0.2).bind λnI=>
(M.iG N 4 nI.1 nI.2).bind λqY=>
aa (qY.1,qY.2)
else
((if(ah (a0.1=15))then
(if(ah (a2.1=2))then
(if(ah (a1.1=3))then
aa af
else
aa (ah (a1.1=2)))
else
aa ag)
else
aa ag):Option Bool).bind λsD=>
(if sD then
(M.nu N a1.2.2 a2.2.2 a0.2).bind λpT=>
(M.iG N a1.1 pT.1 pT.2).bind λlz=>
aa (lz.1,lz.2)
else
((if(ah (a0.1=16))then
(if(ah (a1.1=3))then
aa (ah (a2.1=3))
else
aa ag)
else
aa ag):Option Bool).bind λRk=>
(if Rk then
(M.lN N a1.2.2 a2.2.2 a0.2).bind λzN=>
(M.iG N a1.1 zN.1 zN.2).bind λvy=>
aa (vy.1,vy.2)
else
aa ((0,(0,0)),8)))))))
theorem agc(N:Nat):Fo 339 (.i1 [.g aA, .g aC, .g aC]) (.i1 [.g aC, .l aB]) (u3 (M.lb N)):=fz N [ck (WD N),ck (af5 N),ck (af7 N),ck (af8 N),ck (af9 N),ck (aga N),ck (agb N)] (.o (.o (.two (.two (.meet ⟨[(22, .l .bool)],[],[],144⟩ .nil (.o (.meet ⟨[(48, .l .bool)],[],[],144⟩ .nil (.o (.meet ⟨[(77, .l .bool)],[],[],144⟩ .nil (.o (.meet ⟨[(108, .l .bool)],[],[],144⟩ .nil (.o (.meet ⟨[(135, .l .bool)],[],[],144⟩ .nil (.o (.mb 169 144))))))))))) .nil) .nil))) Tryz.func339
def M.ow(N:Nat)(a0:Int)(a1:Int)(a2:Int):Option (Int×Int):=
((if(ah (a0<1900))then
aa af
else
(if(ah (2199<a0))then
aa af
else
(if(ah (a2<1))then
aa af
else
(M.dV N a0 a1).bind λy2=>
aa (ah (y2<a2))))):Option Bool).bind λj1=>
(if j1 then
aa (0,3)
else
(Loop (S:=Int×Int) (X:=Int) (λs4=>
(if(ah (s4.2<a0))then
(M.gv N s4.2).bind λy5=>
aa (.inl (aoz.wrap (s4.1+y5),aoz.wrap (s4.2+1)))
else
aa (.inr s4.1))) N (aoz.wrap (a2-1),1900):Option Int).bind λj3=>
Loop (S:=Int×Int) (X:=Int×Int) (λs6=>
(if(ah (s6.2<a1))then
(M.dV N a0 s6.2).bind λy7=>
aa (.inl (aoz.wrap (s6.1+y7),aoz.wrap (s6.2+1)))
else
aa (.inr (s6.1,0)))) N (j3,1))
theorem agd(N:Nat):Fo 384 (.i1 [.l aB, .l aB, .l aB]) (.i1 [.l aB, .l aB]) (u3 (M.ow N)):=fz N [ck (ZX N),ck (WC N)] (.o (.two (.mb 27 32) (.o (.meet ⟨[(8, .l aB)],[],[],80⟩ (.o (.two (.loop ⟨[(8, .l aB),(9, .l aB)],[],[],96⟩ .nil) .nil)) (.two (.o (.two (.loop ⟨[(8, .l aB),(10, .l aB)],[],[],96⟩ .nil) .nil)) .nil))))) Tryz.func384
def M.eA(N:Nat)(a0:Int)(a1:Int):Option (Int×Int):=
((M.kC N a0).bind λy2=>
(if(!y2)then
aa af
else
(if(ah (a1<(-3600)))then
aa af
else
aa (ah (3600<a1)))):Option Bool).bind λj1=>
(if j1 then
aa (0,3)
else
(M.jm N a0).bind λy3=>
(M.dV N (aoz.wrap (aoM (aoz.wrap ((aoz.wrap ((aoz.wrap ((aoz.wrap (12*y3.1))+y3.2.1))-1))+a1)) 12)) (aoz.wrap ((aoP (aoz.wrap ((aoz.wrap ((aoz.wrap ((aoz.wrap (12*y3.1))+y3.2.1))-1))+a1)) 12)+1))).bind λy4=>
(M.ow N (aoz.wrap (aoM (aoz.wrap ((aoz.wrap ((aoz.wrap ((aoz.wrap (12*y3.1))+y3.2.1))-1))+a1)) 12)) (aoz.wrap ((aoP (aoz.wrap ((aoz.wrap ((aoz.wrap ((aoz.wrap (12*y3.1))+y3.2.1))-1))+a1)) 12)+1)) (if y4<y3.2.2 then y4 else y3.2.2)).bind λy5=>
aa (y5.1,y5.2))
theorem Z2(N:Nat):Fo 368 (.i1 [.l aB, .l aB]) (.i1 [.l aB, .l aB]) (u2 (M.eA N)):=fz N [ck (ZY N),ck (WB N),ck (WC N),ck (agd N)] (.o (.two (.mb 20 32) .nil)) Tryz.func368
def M.gJ(N:Nat)(a0:Int)(a1:Int):Option Int:=
((M.kC N a0).bind λy2=>
(if(!y2)then
aa af
else
(M.kC N a1).bind λy3=>
aa (!y3)):Option Bool).bind λj1=>
(if j1 then
aa 0
else
Loop (S:=Int) (X:=Int) (λs4=>
(M.eA N a0 (aoz.wrap (12*(aoz.wrap (s4+1))))).bind λy5=>
((if(!ah (y5.2=0))then
aa af
else
aa (ah (a1<y5.1))):Option Bool).bind λj6=>
(if j6 then
aa (.inr s4)
else
aa (.inl (aoz.wrap (s4+1))))) N 0)
theorem age(N:Nat):Fo 369 (.i1 [.l aB, .l aB]) (.i1 [.l aB]) (u2 (M.gJ N)):=fz N [ck (WB N),ck (Z2 N)] (.o (.two (.mb 15 16) (.o (.two (.lp 5 32 (.two (.o (.two (.mb 30 192) .nil)) .nil)) .nil)))) Tryz.func369
def M.mE(N:Nat)(a0:Int)(a1:aC.den)(a2:aC.den):Option (aC.den×Int):=
(if(!ah (a1.1=5))then
aa ((0,(0,0)),8)
else
((if(ah (a0=27))then
aa af
else
aa (ah (a0=28))):Option Bool).bind λj1=>
(if j1 then
(if(!ah (a2.1=2))then
aa ((0,(0,0)),8)
else
(if(ah (a0=27))then
(M.c9 N 5 (aoz.wrap (a1.2.2+a2.2.2))).bind λy2=>
aa (y2.1,y2.2)
else
(M.eA N a1.2.2 a2.2.2).bind λy3=>
(M.iG N 5 y3.1 y3.2).bind λy4=>
aa (y4.1,y4.2)))
else
(if(!ah (a2.1=5))then
aa ((0,(0,0)),8)
else
(if(ah (a0=29))then
(M.c9 N 2 (aoz.wrap (a2.2.2-a1.2.2))).bind λy5=>
aa (y5.1,y5.2)
else
(M.gJ N a1.2.2 a2.2.2).bind λy6=>
(M.c9 N 2 y6).bind λy7=>
aa (y7.1,y7.2)))))
theorem agf(N:Nat):Fo 340 (.i1 [.l aB, .g aC, .g aC]) (.i1 [.g aC, .l aB]) (u3 (M.mE N)):=fz N [ck (Iy N),ck (WD N),ck (Z2 N),ck (age N)] (.o (.o (.two (.mb 19 112) .nil))) Tryz.func340
def M.dc(N:Nat)(a0:Int)(a1:aC.den)(a2:aC.den):Option (aC.den×Int):=
((if(!ah (a1.1=a2.1))then
aa af
else
aa (!ah (a1.2.1=a2.2.1))):Option Bool).bind λj1=>
(if j1 then
aa ((0,(0,0)),8)
else
(if(ah (a0=19))then
(M.fM N (ah (a1.2.2=a2.2.2))).bind λy2=>
aa (y2.1,y2.2)
else
(if(ah (a0=20))then
(M.fM N (!ah (a1.2.2=a2.2.2))).bind λy3=>
aa (y3.1,y3.2)
else
((if(ah (a0=23))then
aa (ah (a0=23))
else
aa (ah (a0=24))):Option Bool).bind λj4=>
(if j4 then
(if(!ah (a1.1=1))then
aa ((0,(0,0)),8)
else
((if(ah ((aoz.wrap (a1.2.2+a2.2.2))=2))then
(M.fM N af).bind λy6=>
aa (y6.2,y6.1)
else
(if(ah (a0=24))then
(M.fM N (ah ((aoz.wrap (a1.2.2+a2.2.2))=1))).bind λy7=>
aa (y7.2,y7.1)
else
(M.fM N ag).bind λy8=>
aa (y8.2,y8.1))):Option (Int×aC.den)).bind λj5=>
aa (j5.2,j5.1))
else
((if(ah (a0=11))then
aa (ah (a0=11))
else
aa (ah (a0=12))):Option Bool).bind λj9=>
(if j9 then
(M.dq N a1.1).bind λnI=>
(if(!nI)then
aa ((0,(0,0)),8)
else
(if(ah (a0=11))then
(M.c9 N a1.1 (aoz.wrap (a1.2.2+a2.2.2))).bind λqY=>
aa (qY.1,qY.2)
else
(M.c9 N a1.1 (aoz.wrap (a1.2.2-a2.2.2))).bind λpJ=>
aa (pJ.1,pJ.2)))
else
((M.dq N a1.1).bind λlz=>
(if(!lz)then
aa (!ah (a1.1=5))
else
aa ag):Option Bool).bind λFK=>
(if FK then
aa ((0,(0,0)),8)
else
(if(ah (a0=21))then
(M.fM N (ah (a1.2.2<a2.2.2))).bind λlv=>
aa (lv.1,lv.2)
else
(if(ah (a0=22))then
(M.fM N (ah (a1.2.2<=a2.2.2))).bind λzN=>
aa (zN.1,zN.2)
else
(if(ah ((ah (a0=17))=(ah (a1.2.2<a2.2.2))))then
aa (a1,0)
else
aa (a2,0))))))))))
theorem agh(N:Nat):Fo 341 (.i1 [.l aB, .g aC, .g aC]) (.i1 [.g aC, .l aB]) (u3 (M.dc N)):=fz N [ck (Iy N),ck (ZU N),ck (ZV N)] (.o (.two (.mb 19 64) (.two (.o (.two (.o (.o (.o (.o (.meet ⟨[(42, .l .bool)],[],[],144⟩ .nil (.two (.o (.meet ⟨[(7, .l aB)],[(32, .box 71 (.leaf aC))],[],193⟩ .nil .nil)) (.mb 70 144))))))) .nil)) (.two (.mb 108 144) .nil)))) Tryz.func341
def M.aX(N:Nat)(a0:aA.den)(a1:aC.den)(a2:aC.den):Option (aC.den×Int):=
((if(ah (13<=a0.1))then
aa (ah (a0.1<=16))
else
aa ag):Option Bool).bind λj1=>
(if j1 then
(M.lb N a0 a1 a2).bind λy2=>
aa (y2.1,y2.2)
else
(if(ah (27<=a0.1))then
(M.mE N a0.1 a1 a2).bind λy3=>
aa (y3.1,y3.2)
else
(M.dc N a0.1 a1 a2).bind λy4=>
aa (y4.1,y4.2)))
theorem agi(N:Nat):Fo 304 (.i1 [.g aA, .g aC, .g aC]) (.i1 [.g aC, .l aB]) (u3 (M.aX N)):=fz N [ck (agc N),ck (agf N),ck (agh N)] (.o (.two (.mb 15 80) .nil)) Tryz.func304
def M.kD(N:Nat)(a0:aA.den)(a1:List aC.den)(a2:cz.den):Option (aC.den×Int):=
(M.k9 N a0 (a1.length:Int)).bind λy1=>
(if(!y1)then
aa ((0,(0,0)),2)
else
(M.oK N a0 a2).bind λy2=>
(if(!y2)then
aa ((0,(0,0)),6)
else
bx (J:=Unit) (R:=aC.den×Int) (Loop (S:=Int) (X:=Unit⊕(aC.den×Int)) (λs4=>
(if(ah (s4<(a1.length:Int)))then
(idx a1 s4).bind λx5=>
(M.cO N x5).bind λy6=>
(if(!y6)then
aa (.inr (.inr ((0,(0,0)),8)))
else
aa (.inl (aoz.wrap (s4+1))))
else
aa (.inr (.inl ())))) N 0) λj3=>
(if(ah ((a1.length:Int)=0))then
((if(ah (36<=a0.1))then
aa (ah (a0.1<=39))
else
aa ag):Option Bool).bind λj7=>
(if j7 then
(M.oq N a0 a2).bind λy8=>
aa (y8.1,y8.2)
else
(M.cW N a0 a2).bind λy9=>
aa (y9.1,y9.2))
else
(if(ah ((a1.length:Int)=1))then
(idx a1 0).bind λmj=>
(M.cA N a0 mj a2).bind λqY=>
aa (qY.1,qY.2)
else
(if(ah ((a1.length:Int)=2))then
(idx a1 0).bind λqZ=>
(idx a1 1).bind λnK=>
(M.aX N a0 qZ nK).bind λlz=>
aa (lz.1,lz.2)
else
(idx a1 0).bind λub=>
(idx a1 1).bind λzM=>
(idx a1 2).bind λyJ=>
((if(!ah (ub.1=1))then
aa af
else
(if(!ah (zM.1=yJ.1))then
aa af
else
aa (!ah (zM.2.1=yJ.2.1)))):Option Bool).bind λSJ=>
(if SJ then
aa ((0,(0,0)),8)
else
(if(ah (ub.2.2=1))then
aa (zM,0)
else
aa (yJ,0))))))))
theorem agj(N:Nat):Fo 268 (.i1 [.g aA, .l (.slice aC), .g cz]) (.i1 [.g aC, .l aB]) (u3 (M.kD N)):=fz N [ck (PF N),ck (afR N),ck (afS N),ck (afW N),ck (afX N),ck (af4 N),ck (agi N)] (.o (.o (.o (.join ⟨[],[],[],208⟩ (.o (.two (.lp 8 224 .nil) .nil)) (.two (.o (.two (.o (.two (.two (.mb 47 272) .nil) .nil)) .nil)) (.o (.two (.mb 105 576) .nil))))))) Tryz.func268
def M.qj(N:Nat)(a0:List Int)(a1:Int):Option Int:=
Loop (S:=Int) (X:=Int) (λs1=>
(if(ah (s1<(a0.length:Int)))then
(idx a0 s1).bind λx2=>
(if(ah (x2=a1))then
aa (.inr s1)
else
aa (.inl (aoz.wrap (s1+1))))
else
aa (.inr (-1)))) N 0
theorem agk(N:Nat):Fo 172 (.i1 [.l (.slice aB), .l aB]) (.i1 [.l aB]) (u2 (M.qj N)):=fz N [] (.o (.two (.o (.two (.lp 5 32 .nil) .nil)) .nil)) Tryz.func172
def M.nv(N:Nat)(a0:aU.den)(a1:List Int)(a2:Int):Option Int:=
(idx a0.2.2.2.2 a2).bind λx1=>
Loop (S:=Int×Int) (X:=Int) (λs2=>
((if(ah (0<=s2.2))then
aa (ah (s2.2<s2.1))
else
aa ag):Option Bool).bind λj3=>
(if j3 then
(M.qj N a1 s2.2).bind λy4=>
(if(ah (0<=y4))then
aa (.inr y4)
else
(idx a0.2.2.2.2 s2.2).bind λx5=>
aa (.inl (s2.2,x5.2.2.1)))
else
aa (.inr (-1)))) N (a2,x1.2.2.1)
theorem W96(N:Nat):Fo 96 (.i1 [.g aU, .l (.slice aB), .l aB]) (.i1 [.l aB]) (u3 (M.nv N)):=fz N [ck (agk N)] (.o (.o (.two (.two (.loop ⟨[(2, .l aB),(7, .l aB)],[],[],144⟩ (.two (.mb 21 144) .nil)) .nil) .nil))) Tryz.func96
end
end
end Go.Proofs.YtfjgcenlllgonaaGreatDoor
