/- Joined texts: ModelA ModelB Plain. -/
import Derived.Test.YtfjgcenlllgonaaGreatDoorU6
import Derived.Test.YtfjgcenlllgonaaGreatDoorU1
set_option linter.defProp false
open _root_.Decidable renaming decide->ai
open _root_.Bool renaming false->ah,true->af
open _root_.Option renaming none->ae,some->aa,bind->aqH
open _root_.Int renaming tdiv->aqW,tmod->aqY
open _root_.Go.IntKind renaming i64->aqJ,u64->aqP,bits->ase
open _root_.List renaming range->arK
namespace Go.Proofs.YtfjgcenlllgonaaGreatDoor
open Go Go.RowKit
set_option maxRecDepth 100000
set_option linter.unusedSimpArgs false
set_option linter.unusedVariables false
set_option linter.defProp false
section
noncomputable section
open Tk
variable (N:Nat)
set_option maxRecDepth 100000
set_option linter.unusedVariables false
def M.bT(a:aD.den)(b:aE.den)(c:aE.den):Option (aE.den×Int):=
aqH (if(ai (a.1=11))then
aa (ai (a.1=11))
else
aa (ai (a.1=27))) λh=>(if h then
aa ((b.1,(0,aqJ.wrap (b.2.2+c.2.2))),0)
else(if(ai (a.1=12))then
aa ((b.1,(0,aqJ.wrap (b.2.2-c.2.2))),0)
else
aqH (if(ai (a.1=13))then
aa (ai (a.1=13))
else(if(ai (a.1=14))then
aa (ai (a.1=14))
else(if(ai (a.1=15))then
aa (ai (a.1=15))
else
aa (ai (a.1=16))))) λi=>(if i then
aqH (M.gP N a b c) λd=>aa (d.1,d.2)
else
aqH (if(ai (a.1=17))then
aa (ai (a.1=17))
else
aa (ai (a.1=18))) λj=>(if j then(if(ai ((ai (a.1=17))=(ai (c.2.2<b.2.2))))then
aa (c,0)
else
aa (b,0))
else(if(ai (a.1=19))then
aqH (M.eo N (ai (b.2.2=c.2.2))) λk=>aa (k,0)
else(if(ai (a.1=20))then
aqH (M.eo N (!ai (b.2.2=c.2.2))) λl=>aa (l,0)
else(if(ai (a.1=21))then
aqH (M.eo N (ai (b.2.2<c.2.2))) λm=>aa (m,0)
else(if(ai (a.1=22))then
aqH (M.eo N (ai (b.2.2<=c.2.2))) λn=>aa (n,0)
else(if(ai (a.1=23))then
aqH ((if(ai (b.2.2=1))then
aqH (M.eo N (ai (c.2.2=1))) λo=>aa (0,o)
else
aqH (M.eo N ah) λp=>aa (0,p)):Option (Int×aE.den)) λe=>aa (e.2,e.1)
else(if(ai (a.1=24))then
aqH ((if(ai (b.2.2=1))then
aqH (M.eo N af) λq=>aa (0,q)
else
aqH (M.eo N (ai (c.2.2=1))) λr=>aa (0,r)):Option (Int×aE.den)) λf=>aa (f.2,f.1)
else(if(ai (a.1=28))then
aqH (M.dP N b.2.2 c.2.2) λg=>aa ((5,(0,g.1)),g.2)
else(if(ai (a.1=29))then
aa ((2,(0,aqJ.wrap (c.2.2-b.2.2))),0)
else
aqH (M.fx N b.2.2 c.2.2) λs=>aa ((2,(0,s)),0)))))))))))))
def agn:Fo 215 (.i1 [.g aD, .g aE, .g aE]) (.i1 [.g aE, .l aC]) (u3 (M.bT N)):=fz N [aaY N,agk N,aa2 N,agm N] [O,T,O,T,R ⟨[(12, .l .bool)],[],[],112⟩,X,O,O,O,R ⟨[(33, .l .bool)],[],[],144⟩,X,O,R ⟨[(44, .l .bool)],[],[],144⟩,X,O,O,O,O,O,O,O,O,O,O,T,R ⟨[(7, .l aC)],[(48, .box 71 (.leaf aE))],[],305⟩,X,X,O,T,R ⟨[(7, .l aC)],[(48, .box 71 (.leaf aE))],[],337⟩] Tryz.func215
def M.bl(a:aD.den)(b:List aE.den)(c:bR.den):Option (aE.den×Int):=
aqH (if(ai (a.1=1))then
aa (ai (a.1=1))
else(if(ai (a.1=2))then
aa (ai (a.1=2))
else(if(ai (a.1=3))then
aa (ai (a.1=3))
else(if(ai (a.1=4))then
aa (ai (a.1=4))
else
aa (ai (a.1=5)))))) λi=>(if i then
aa ((a.1,(0,a.2)),0)
else(if(ai (a.1=6))then
aa ((6,(aqJ.wrap (aqW a.2 16),aqY a.2 16)),0)
else(if(ai (a.1=7))then
aqH (idx c.2.1 a.2) λj=>aa (j,0)
else(if(ai (a.1=8))then
aqH (idx c.2.2.1 a.2) λk=>aa (k,0)
else(if(ai (a.1=9))then
aa ((5,(0,c.1)),0)
else(if(ai (a.1=35))then
aa ((2,(0,(c.2.2.2.1.length:Int))),0)
else
aqH (if(ai (a.1=36))then
aa (ai (a.1=36))
else(if(ai (a.1=37))then
aa (ai (a.1=37))
else(if(ai (a.1=38))then
aa (ai (a.1=38))
else
aa (ai (a.1=39))))) λl=>(if l then
aqH (M.gU N a c) λe=>aa (e.1,e.2)
else(if(ai (a.1=33))then
aqH (idx c.2.2.2.2.2 a.2) λd=>aqH (idx b 0) λm=>aqH (M.jN N d c.1 m.2.2) λf=>(if(!f.2)then
aa ((0,(0,0)),6)
else
aqH (idx d.2.2.2 f.1) λn=>aa ((d.2.2.1.1,(d.2.2.1.2,n.2.2.2)),0))
else(if(ai (a.1=34))then
aqH (idx c.2.2.2.2.2 (aqJ.wrap (aqW a.2 8))) λo=>aqH (idx b 0) λp=>aqH (M.gi N o c.1 p.2.2 (aqY a.2 8)) λg=>aa ((3,(0,g.1)),g.2)
else(if(ai ((b.length:Int)=1))then
aqH (idx b 0) λq=>aqH (M.gC N a.1 q) λr=>aa (r,0)
else(if(ai ((b.length:Int)=2))then
aqH (idx b 0) λs=>aqH (idx b 1) λt=>aqH (M.bT N a s t) λh=>aa (h.1,h.2)
else
aqH (idx b 0) λu=>(if(ai (u.2.2=1))then
aqH (idx b 1) λv=>aa (v,0)
else
aqH (idx b 2) λw=>aa (w,0)))))))))))))
def ago:Fo 143 (.i1 [.g aD, .l (.slice aE), .g bR]) (.i1 [.g aE, .l aC]) (u3 (M.bl N)):=fz N [af2 N,af3 N,af8 N,agb N,agn N] [O,T,O,T,R ⟨[(15, .l .bool)],[],[],96⟩,X,O,O,O,O,O,O,O,O,O,O,O,B 62 256] Tryz.func143
def M.cx(a:aD.den)(b:List aE.den)(d:bR.den):Option (aE.den×Int):=
aqH (aqH (M.cK N a) λe=>(if(!e)then
aa af
else
aqH (M.eh N a.1) λf=>aa (!ai ((b.length:Int)=f))):Option Bool) λg=>(if g then
aa ((0,(0,0)),2)
else
aqH (M.dN N a d) λh=>(if(!h)then
aa ((0,(0,0)),6)
else
aqH (aqH (M.cL N b) λi=>(if(!i)then
aa af
else
aqH (M.bi N a b d) λj=>aa (!j)):Option Bool) λk=>(if k then
aa ((0,(0,0)),8)
else
aqH (M.bl N a b d) λc=>(if(!ai (c.2=0))then
aa ((0,(0,0)),c.2)
else
aqH (M.du N c.1) λl=>(if(!l)then
aa ((0,(0,0)),3)
else
aa (c.1,0))))))
def W77:Fo 77 (.i1 [.g aD, .l (.slice aE), .g bR]) (.i1 [.g aE, .l aC]) (u3 (M.cx N)):=fz N [Ul N,afV N,afW N,afX N,af1 N,ago N,Qv N] [O,T,B 20 64,O,T,B 36 128] Tryz.func77
def M.iD(N:Nat)(a:aD.den):Option (aE.den×Bool):=
bK (J:=Unit) (R:=aE.den×Bool) ((if(ai (a.1=1))then
aa (.inr ((1,(0,a.2)),af))
else(if(ai (a.1=2))then
aa (.inr ((2,(0,a.2)),af))
else(if(ai (a.1=3))then
aa (.inr ((3,(0,a.2)),af))
else(if(ai (a.1=4))then
aa (.inr ((4,(0,a.2)),af))
else(if(ai (a.1=5))then
aa (.inr ((5,(0,a.2)),af))
else(if(ai (a.1=6))then
aqH (if(ai (0<=a.2))then
aa (ai (a.2<128))
else
aa ah) λb=>(if b then
aa (.inr ((6,(aqJ.wrap (aqW a.2 16),aqY a.2 16)),af))
else
aa (.inl ()))
else
aa (.inl ())))))))) λc=>aa ((0,(0,0)),ah)
def agp:Fo 271 (.i1 [.g aD]) (.i1 [.g aE, .l .bool]) (M.iD N):=fz N [] [O,T,O,E 80,O,O,O,O,O,O,O,O,O,O,O,T,B 40 272] Tryz.func271
def M.jk(N:Nat)(a:aE.den):Option (aD.den):=
(if(ai (a.1=1))then
aa (1,a.2.2)
else(if(ai (a.1=2))then
aa (2,a.2.2)
else(if(ai (a.1=3))then
aa (3,a.2.2)
else(if(ai (a.1=4))then
aa (4,a.2.2)
else(if(ai (a.1=5))then
aa (5,a.2.2)
else
aa (6,aqJ.wrap ((aqJ.wrap (16*a.2.1))+a.2.2)))))))
def agq:Fo 272 (.i1 [.g aE]) (.i1 [.g aD]) (M.jk N):=fz N [] [] Tryz.func272
def M.kr(d:List aD.den)(a:Int):Option (aD.den×Int×Bool):=
aqH (idx d a) λe=>aqH (M.eL N e.1) λk=>(if k then
aa ((0,0),0,ah)
else
aqH (M.eh N e.1) λb=>aqH (if(ai (b<1))then
aa af
else
aa (ai (a<b))) λl=>(if l then
aa ((0,0),0,ah)
else
bK (J:=List aE.den) (R:=aD.den×Int×Bool) (aqH (gD d (aqJ.wrap (a-b)) a) λh=>Loop (S:=Int×List aE.den) (X:=(List aE.den)⊕(aD.den×Int×Bool)) (λc=>(if(ai (c.1<(h.length:Int)))then
aqH (idx h c.1) λm=>aqH (M.iD N m) λi=>(if(!i.2)then
aa (.inr (.inr ((0,0),0,ah)))
else
aqH (cf c.2 ([i.1]:List aE.den)) λn=>aa (.inl (aqJ.wrap (c.1+1),n)))
else
aa (.inr (.inl c.2)))) N (0,([]:List aE.den))) λo=>bK (J:=Unit) (R:=aD.den×Int×Bool) (Loop (S:=Int) (X:=Unit⊕(aD.den×Int×Bool)) (λf=>(if(ai (f<(d.length:Int)))then
aqH (idx d f) λg=>aqH (aqH (M.eL N g.1) λp=>(if p then(if(ai ((aqJ.wrap (a-b))<g.2))then
aa (ai (g.2<=a))
else
aa ah)
else
aa ah):Option Bool) λq=>(if q then
aa (.inr (.inr ((0,0),0,ah)))
else
aa (.inl (aqJ.wrap (f+1))))
else
aa (.inr (.inl ())))) N 0) λs=>aqH (M.cx N e o (0,(([]:List aE.den),(([]:List aE.den),(([]:List (List aE.den)),(([]:List aD.den),([]:List aP.den))))))) λj=>(if(!ai (j.2=0))then
aa ((0,0),0,ah)
else
aqH (M.jk N j.1) λr=>aa (r,b,af))))
def ags:Fo 230 (.i1 [.l (.slice aD), .l aC]) (.i1 [.g aD, .l aC, .l .bool]) (u2 (M.kr N)):=fz N [Ul N,W77 N,Qu N,agp N,agq N] [O,O,O,O,T,B 35 256,O,J ⟨[(9, .val ah (.own 272))],[(272, .own 71 aE)],[],273⟩,O,T,P ⟨[(9, .val ah (.own 400)),(44, .l aC)],[(400, .own 71 aE)],[],401⟩,X,X,E 273,O,T,L 63 321,O,O,T,T,O,B 83 401] Tryz.func230
def M.fW(b:List aD.den)(c:Int)(d:Int)(g:aD.den):Option (List aD.den):=
aqH (gD b 0 (aqJ.wrap (c-d))) λh=>aqH (cf ([]:List aD.den) h) λi=>aqH (cf i ([g]:List aD.den)) λj=>aqH (gD b (aqJ.wrap (c+1)) (b.length:Int)) λk=>aqH (cf j k) λe=>Loop (S:=Int×List aD.den) (X:=List aD.den) (λa=>(if(ai (a.1<(e.length:Int)))then
aqH (aqH (idx a.2 a.1) λf=>aqH (aqH (M.eL N f.1) λl=>(if l then
aa (ai (c<f.2))
else
aa ah):Option Bool) λm=>(if m then
aqH (idx a.2 a.1) λn=>aqH (idx a.2 a.1) λo=>aa (bn a.2 a.1 (o.1,aqJ.wrap (n.2-d)))
else
aa a.2):Option (List aD.den)) λp=>aa (.inl (aqJ.wrap (a.1+1),p))
else
aa (.inr a.2))) N (0,e)
def agt:Fo 231 (.i1 [.l (.slice aD), .l aC, .l aC, .g aD]) (.w1 67 aD) (u4 (M.fW N)):=fz N [Qu N] [O,O,O,O,O,T,O,T,P ⟨[(31, .l aC)],[(336, .own 67 aD)],[],417⟩,O,O,T,R ⟨[],[(336, .own 67 aD)],[],434⟩,O,B 44 529] Tryz.func231
def M.fy(c:List aD.den):Option (List aD.den):=
bK (J:=List aD.den) (R:=List aD.den) (aqH (M.aL N c) λd=>aqH (M.gr N c) λf=>(if(!f)then
aa (.inr d)
else
aa (.inl d)):Option ((List aD.den)⊕(List aD.den))) λg=>Loop (S:=List aD.den) (X:=List aD.den) (λe=>bK (J:=List aD.den) (R:=(List aD.den)⊕(List aD.den)) (Loop (S:=Int×List aD.den) (X:=(List aD.den)⊕((List aD.den)⊕(List aD.den))) (λa=>(if(ai (a.1<(e.length:Int)))then
aqH (M.kr N a.2 a.1) λb=>(if b.2.2 then
aqH (M.fW N a.2 a.1 b.2.1 b.1) λh=>aa (.inr (.inr (.inl h)))
else
aa (.inl (aqJ.wrap (a.1+1),a.2)))
else
aa (.inr (.inl a.2)))) N (0,e)) λi=>aa (.inr i)) N g
def aa3:qc:=⟨.i1 [.l (.slice aD)], .w1 67 aD,M.fy N⟩
def agu(N:Nat):jF Tryz.prog 161 (aa3 N):=Qp (E:=(en [ck (Um N),ck (XN N),ck (ags N),ck (agt N)] ah ah)) (N:=N) (l:=0) (L:=⟨[(3, .val ah (.own 16))],[(16, .own 67 aD)],[],17⟩) (a0:= .nil) (a1:=(.o (.two .nil .nil))) (a2:=(.join ⟨[(3, .val ah (.own 16))],[(16, .own 67 aD)],[],18⟩ (.o (.two (.loop ⟨[(3, .val ah (.own 16)),(16, .l aC)],[(16, .own 67 aD)],[],66⟩ .nil) .nil)) .nil)) (sg:=aa3 N) (c:=Tryz.f161.body.getD .skip) (rs:=Tryz.f161.results.toList) Tryz.func161 (by kernel_rfl) (by kernel_rfl) rfl rfl rfl rfl (λx=>by kernel_rfl)
def M.kD(a:List aD.den):Option (List aD.den):=
aqH (M.fy N a) λb=>aqH (M.gh N b) λc=>aqH (M.dM N c) λd=>aa d
def W89:Fo 89 (.i1 [.l (.slice aD)]) (.w1 67 aD) (M.kD N):=fz N [afT N,afU N,agu N] [] Tryz.func89
def M.cB(a:List aD.den):Option (List aD.den):=
(if(ai ((a.length:Int)=0))then
aa ([]:List aD.den)
else
aqH (M.lq N a) λb=>aqH (M.kD N b.2) λc=>aa c)
def W50:Fo 50 (.i1 [.l (.slice aD)]) (.w1 67 aD) (M.cB N):=fz N [W88 N,W89 N] [] Tryz.func50
def M.dA(d:cC.den)(e:Int)(g:Int):Option ((List cm.den)×(List Int)×(List (List aD.den))×List (List aD.den)):=
aqH (idx d.2.2 e) λh=>aqH (M.fe N h) λi=>aqH (M.kf N d g) λj=>aqH (idx j.2.2 e) λc=>aqH (Loop (S:=Int×(List cm.den)×(List Int)×(List (List aD.den))×List (List aD.den)) (X:=(List cm.den)×(List Int)×(List (List aD.den))×List (List aD.den)) (λa=>(if(ai (a.1<(c.2.2.2.2.length:Int)))then
aqH (idx c.2.2.2.2 a.1) λf=>aqH (M.cB N f.2.2.2.2.2.1) λk=>aqH (cf a.2.2.2.1 ([k]:List (List aD.den))) λl=>aqH (M.cB N f.2.2.2.2.2.2.1) λm=>aqH (cf a.2.2.2.2 ([m]:List (List aD.den))) λn=>aa (.inl (aqJ.wrap (a.1+1),a.2.1,a.2.2.1,l,n))
else
aa (.inr (a.2.1,a.2.2.1,a.2.2.2.1,a.2.2.2.2)))) N (0,c.2.2.2.2,i.2,([]:List (List aD.den)),([]:List (List aD.den))):Option ((List cm.den)×(List Int)×(List (List aD.den))×List (List aD.den))) λb=>aa (b.1,b.2.1,b.2.2.1,b.2.2.2)
def W25:Fo 25 (.i1 [.g cC, .l aC, .l aC]) (.j1 [.val af (.pair (.own 0) (.pair (.leaf (.slice cm)) (.pair (.own 1) (.own 2))))] [.own 3 aC, .own 68 (.slice aD), .own 68 (.slice aD)] 3) (u3 (M.dA N)):=fz N [W48 N,W49 N,W50 N] [O,O,O,O,R ⟨[],[(32, .box 48 (.pair (.own 128) (.pair (.leaf (.slice cm)) (.pair (.own 384) (.own 385))))),(128, .own 3 aC),(384, .own 68 (.slice aD)),(385, .own 68 (.slice aD))],[],388⟩,O,T,P ⟨[(32, .l aC)],[(32, .box 48 (.pair (.own 128) (.pair (.leaf (.slice cm)) (.pair (.own 448) (.own 449))))),(128, .own 3 aC),(448, .own 68 (.slice aD)),(449, .own 68 (.slice aD))],[],452⟩] Tryz.func25
def M.gu(a:cm.den)(b:Int)(c:Int):Option (Bool×Int×Int):=
aqH (if(ai (a.2.1=b))then
aqH (M.bL N a.2.2.2.2.1 c) λd=>aa d
else
aa ah) λe=>aa (e,b,c)
def aa4:Fo 67 (.j1 [.g cm, .ptr 0 [] 0, .ptr 1 [] 0] [.box 3 (.leaf aC), .box 3 (.leaf aC)] 2) (.j1 [.l .bool] [.box 3 (.leaf aC), .box 3 (.leaf aC)] 4) (u3 (M.gu N)):=fz N [Ze N] [O,B 4 34] Tryz.func67
def M.jQ(f:List cm.den)(g:Int)(h:Int):Option (Int×Int×(List Int)×List Int):=
aqH (ol (f.length:Int) 0) λi=>Loop (S:=Int×Int×Int×(List Int)×(List Int)×List Int) (X:=Int×Int×(List Int)×List Int) (λa=>(if(ai (a.1<(f.length:Int)))then
aqH (aqH (idx f a.1) λd=>aqH (aqH (if(ai (0<=d.2.2.1))then
aa (ai (d.2.2.1<a.1))
else
aa ah) λj=>(if j then
aqH (idx a.2.2.2.1 d.2.2.1) λk=>aa k
else
aa (-1)):Option Int) λe=>aqH (idx a.2.2.2.1 a.1) λn=>aqH (M.gu N d a.2.1 a.2.2.1) λb=>(if b.1 then
aqH (idx (bn a.2.2.2.1 a.1 e) a.1) λo=>aqH (cf a.2.2.2.2.1 ([a.1]:List Int)) λl=>aqH (cf a.2.2.2.2.2 ([e]:List Int)) λm=>aa (b.2.1,b.2.2,bn (bn a.2.2.2.1 a.1 e) a.1 (a.2.2.2.2.1.length:Int),l,m)
else
aa (b.2.1,b.2.2,bn a.2.2.2.1 a.1 e,a.2.2.2.2.1,a.2.2.2.2.2)):Option (Int×Int×(List Int)×(List Int)×List Int)) λc=>aa (.inl (aqJ.wrap (a.1+1),c.1,c.2.1,c.2.2.1,c.2.2.2.1,c.2.2.2.2))
else
aa (.inr (a.2.1,a.2.2.1,a.2.2.2.2.1,a.2.2.2.2.2)))) N (0,g,h,i,([]:List Int),([]:List Int))
def aa5:Fo 66 (.j1 [.l (.slice cm), .fn 67 [(0,[],0),(1,[],0)]] [.box 3 (.leaf aC), .box 3 (.leaf aC)] 2) (.j1 [.val ah (.own 2), .val ah (.own 3)] [.box 3 (.leaf aC), .box 3 (.leaf aC), .own 3 aC, .own 3 aC] 6) (u3 (M.jQ N)):=fz N [aa4 N] [O,O,O,T,O,T,P ⟨[(6, .val ah (.own 178)),(7, .val ah (.own 179)),(17, .l aC)],[(0, .box 3 (.leaf aC)),(1, .box 3 (.leaf aC)),(98, .own 3 aC),(178, .own 3 aC),(179, .own 3 aC)],[],183⟩,O,O,T,R ⟨[(6, .val ah (.own 199)),(7, .val ah (.own 200))],[(0, .box 3 (.leaf aC)),(1, .box 3 (.leaf aC)),(98, .own 3 aC),(199, .own 3 aC),(200, .own 3 aC)],[178,179],204⟩,O,O,R ⟨[(11, .l aC)],[],[],311⟩,B 30 311] Tryz.func66
def M.kE(a:bg.den)(b:Int)(c:Int):Option (List Int):=
aqH (M.jQ N a.2.2.2.2 b c) λd=>aa d.2.2.1
def W37:Fo 37 (.i1 [.g bg, .l aC, .l aC]) (.w1 3 aC) (u3 (M.kE N)):=fz N [aa5 N] [] Tryz.func37
def M.cX(d:cC.den)(e:Int)(f:Int):Option (cn.den):=
aqH (idx d.2.2 e) λg=>aqH (M.dA N d e f) λc=>aqH (Loop (S:=Int×(List Int)×(List (List aD.den))×(List (List aD.den))×bg.den×(List cm.den)×List Int) (X:=(List Int)×(List (List aD.den))×(List (List aD.den))×bg.den×(List cm.den)×List Int) (λa=>(if(ai (a.1<(g.2.2.2.1.length:Int)))then
aqH (M.kE N a.2.2.2.2.1 a.1 f) λh=>aqH (cf a.2.2.2.2.2.2 h) λi=>aa (.inl (aqJ.wrap (a.1+1),a.2.1,a.2.2.1,a.2.2.2.1,a.2.2.2.2.1,a.2.2.2.2.2.1,i))
else
aa (.inr (a.2.1,a.2.2.1,a.2.2.2.1,a.2.2.2.2.1,a.2.2.2.2.2.1,a.2.2.2.2.2.2)))) N (0,c.2.1,c.2.2.1,c.2.2.2,g,c.1,([]:List Int)):Option ((List Int)×(List (List aD.den))×(List (List aD.den))×bg.den×(List cm.den)×List Int)) λb=>aqH (M.cW N b.2.2.2.2.2) λj=>aa (b.2.2.2.1,((b.1,(b.2.2.2.2.1,(b.2.1,b.2.2.1))),j))
def W19:Fo 19 (.i1 [.g cC, .l aC, .l aC]) (.i1 [.at cn]) (u3 (M.cX N)):=fz N [W25 N,W37 N,W38 N] [O,O,R ⟨[],[(160, .own 3 aC),(161, .own 68 (.slice aD)),(162, .own 68 (.slice aD)),(192, .box 83 (.pair (.leaf bg) (.pair (.pair (.own 160) (.pair (.leaf (.slice cm)) (.pair (.own 161) (.own 162)))) (.own 224)))),(224, .own 3 aC)],[],229⟩,O,T,P ⟨[(26, .l aC)],[(160, .own 3 aC),(161, .own 68 (.slice aD)),(162, .own 68 (.slice aD)),(192, .box 83 (.pair (.leaf bg) (.pair (.pair (.own 160) (.pair (.leaf (.slice cm)) (.pair (.own 161) (.own 162)))) (.own 336)))),(336, .own 3 aC)],[],341⟩] Tryz.func19
def M.lv(N:Nat)(a:Int):Option Bool:=
aqH (if(ai (a=50))then
aa af
else(if(ai (a=52))then
aa af
else
aa (ai (a=53)))) λb=>aa b
def W75:Fo 75 (.i1 [.l aC]) (.i1 [.l .bool]) (M.lv N):=fz N [] [O,B 2 16] Tryz.func75
def M.rL(d:List aD.den)(j:bR.den):Option (aE.den×Int×Int):=
aqH (M.dt N d) λk=>(if(!ai (k.2=0))then
aa ((0,(0,0)),0,1)
else
bK (J:=Int×List aE.den) (R:=aE.den×Int×Int) (Loop (S:=Int×Int×List aE.den) (X:=(Int×List aE.den)⊕(aE.den×Int×Int)) (λa=>(if(ai (a.2.1<(d.length:Int)))then
bK (J:=Int×Int×List aE.den) (R:=(Int×Int×List aE.den)⊕((Int×List aE.den)⊕(aE.den×Int×Int))) (aqH (idx d a.2.1) λb=>(if(ai (b.1=51))then
aa (.inl (aqJ.wrap (a.1+1),b.2,a.2.2))
else
aqH (M.lv N b.1) λl=>(if(!l)then
aqH (M.eh N b.1) λg=>aqH (gD a.2.2 (aqJ.wrap ((a.2.2.length:Int)-g)) (a.2.2.length:Int)) λm=>aqH (M.cx N b m j) λe=>(if(!ai (e.2=0))then
aa (.inr (.inr (.inr ((0,(0,0)),0,e.2))))
else
aqH (gD a.2.2 0 (aqJ.wrap ((a.2.2.length:Int)-g))) λn=>aqH (cf n ([e.1]:List aE.den)) λo=>aa (.inl (aqJ.wrap (a.1+1),aqJ.wrap (a.2.1+1),o)))
else
aqH (idx a.2.2 (aqJ.wrap ((a.2.2.length:Int)-1))) λc=>aqH (if(!ai (c.1=1))then
aa af
else(if(!ai (c.2.2=0))then
aa (!ai (c.2.2=1))
else
aa ah)) λp=>(if p then
aa (.inr (.inr (.inr ((0,(0,0)),0,8))))
else
aqH ((if(ai ((ai (c.2.2=1))=(ai (b.1=53))))then
aa b.2
else
aa (aqJ.wrap (a.2.1+1))):Option Int) λh=>aqH (if(!(ai ((ai (c.2.2=1))=(ai (b.1=53)))))then
aa af
else
aa (ai (b.1=50))) λq=>(if q then
aqH (gD a.2.2 0 (aqJ.wrap ((a.2.2.length:Int)-1))) λr=>aa (.inl (aqJ.wrap (a.1+1),h,r))
else
aa (.inl (aqJ.wrap (a.1+1),h,a.2.2))))))) λf=>aa (.inl (f.1,f.2.1,f.2.2))
else
aa (.inr (.inl (a.1,a.2.2))))) N (0,0,([]:List aE.den))) λi=>aqH (idx i.2 0) λs=>aa (s,i.1,0))
def W40:Fo 40 (.i1 [.l (.slice aD), .g bR]) (.i1 [.g aE, .l aC, .l aC]) (u2 (M.rL N)):=fz N [W74 N,W75 N,Ul N,W77 N] [O,O,O,O,J ⟨[(9, .val ah (.own 240)),(10, .l aC)],[(240, .own 71 aE)],[],241⟩,O,T,P ⟨[(9, .val ah (.own 256)),(10, .l aC),(11, .l aC)],[(256, .own 71 aE)],[],257⟩,O,J ⟨[(9, .val ah (.own 321)),(10, .l aC),(11, .l aC)],[(321, .own 71 aE)],[256],322⟩,O,O,O,O,O,O,T,B 90 753,O,R ⟨[(11, .l aC)],[],[],881⟩,X,B 108 881] Tryz.func40
def M.dW(a:cm.den)(b:Int)(c:Int):Option (Bool×Int×Int):=
aqH (if(ai (a.2.1=b))then
aqH (M.bL N a.2.2.2.2.1 c) λd=>aa d
else
aa ah) λe=>aa (e,b,c)
def XX:Fo 133 (.j1 [.g cm, .ptr 0 [] 0, .ptr 1 [] 0] [.box 3 (.leaf aC), .box 3 (.leaf aC)] 2) (.j1 [.l .bool] [.box 3 (.leaf aC), .box 3 (.leaf aC)] 4) (u3 (M.dW N)):=fz N [Ze N] [O,B 4 34] Tryz.func133
def M.fA(f:List cm.den)(g:Int)(h:Int):Option (Int×Int×(List Int)×List Int):=
aqH (ol (f.length:Int) 0) λi=>Loop (S:=Int×Int×Int×(List Int)×(List Int)×List Int) (X:=Int×Int×(List Int)×List Int) (λa=>(if(ai (a.1<(f.length:Int)))then
aqH (aqH (idx f a.1) λd=>aqH (aqH (if(ai (0<=d.2.2.1))then
aa (ai (d.2.2.1<a.1))
else
aa ah) λj=>(if j then
aqH (idx a.2.2.2.1 d.2.2.1) λk=>aa k
else
aa (-1)):Option Int) λe=>aqH (idx a.2.2.2.1 a.1) λn=>aqH (M.dW N d a.2.1 a.2.2.1) λb=>(if b.1 then
aqH (idx (bn a.2.2.2.1 a.1 e) a.1) λo=>aqH (cf a.2.2.2.2.1 ([a.1]:List Int)) λl=>aqH (cf a.2.2.2.2.2 ([e]:List Int)) λm=>aa (b.2.1,b.2.2,bn (bn a.2.2.2.1 a.1 e) a.1 (a.2.2.2.2.1.length:Int),l,m)
else
aa (b.2.1,b.2.2,bn a.2.2.2.1 a.1 e,a.2.2.2.2.1,a.2.2.2.2.2)):Option (Int×Int×(List Int)×(List Int)×List Int)) λc=>aa (.inl (aqJ.wrap (a.1+1),c.1,c.2.1,c.2.2.1,c.2.2.2.1,c.2.2.2.2))
else
aa (.inr (a.2.1,a.2.2.1,a.2.2.2.2.1,a.2.2.2.2.2)))) N (0,g,h,i,([]:List Int),([]:List Int))
def aa6:Fo 66 (.j1 [.l (.slice cm), .fn 133 [(0,[],0),(1,[],0)]] [.box 3 (.leaf aC), .box 3 (.leaf aC)] 2) (.j1 [.val ah (.own 2), .val ah (.own 3)] [.box 3 (.leaf aC), .box 3 (.leaf aC), .own 3 aC, .own 3 aC] 6) (u3 (M.fA N)):=fz N [XX N] [O,O,O,T,O,T,P ⟨[(6, .val ah (.own 178)),(7, .val ah (.own 179)),(17, .l aC)],[(0, .box 3 (.leaf aC)),(1, .box 3 (.leaf aC)),(98, .own 3 aC),(178, .own 3 aC),(179, .own 3 aC)],[],183⟩,O,O,T,R ⟨[(6, .val ah (.own 199)),(7, .val ah (.own 200))],[(0, .box 3 (.leaf aC)),(1, .box 3 (.leaf aC)),(98, .own 3 aC),(199, .own 3 aC),(200, .own 3 aC)],[178,179],204⟩,O,O,R ⟨[(11, .l aC)],[],[],311⟩,B 30 311] Tryz.func66
def M.fP(c:bg.den)(d:Int)(e:Int):Option ((List Int)×(List Int)×List Int):=
aqH (M.fA N c.2.2.2.2 d e) λb=>aqH (Loop (S:=Int×List Int) (X:=List Int) (λa=>(if(ai (a.1<(b.2.2.1.length:Int)))then
aqH (idx b.2.2.1 a.1) λf=>aqH (idx c.2.2.2.2 f) λg=>aqH (cf a.2 ([g.2.2.2.1]:List Int)) λh=>aa (.inl (aqJ.wrap (a.1+1),h))
else
aa (.inr a.2))) N (0,([]:List Int)):Option (List Int)) λi=>aa (b.2.2.1,b.2.2.2,i)
def W71:Fo 71 (.i1 [.g bg, .l aC, .l aC]) (.j1 [.val ah (.own 0), .val ah (.own 1), .val ah (.own 2)] [.own 3 aC, .own 3 aC, .own 3 aC] 3) (u3 (M.fP N)):=fz N [aa6 N] [O,O,O,R ⟨[(11, .val ah (.own 256))],[(256, .own 3 aC)],[],257⟩,O,T,P ⟨[(11, .val ah (.own 304)),(23, .l aC)],[(304, .own 3 aC)],[],305⟩] Tryz.func71
def M.cmp_isNaN_int(N:Nat)(a:Int):Option Bool:=
aa (!ai (a=a))
def agw:Fo 199 (.i1 [.l aC]) (.i1 [.l .bool]) (M.cmp_isNaN_int N):=fz N [] [] Tryz.func199
def M.cmp_Less_int(a:Int)(b:Int):Option Bool:=
aqH (aqH (M.cmp_isNaN_int N a) λc=>(if c then
aqH (M.cmp_isNaN_int N b) λd=>(if(!d)then
aa af
else
aa (ai (a<b)))
else
aa (ai (a<b))):Option Bool) λe=>aa e
def agx:Fo 128 (.i1 [.l aC, .l aC]) (.i1 [.l .bool]) (u2 (M.cmp_Less_int N)):=fz N [agw N] [O,B 4 16] Tryz.func128
def M.n6(N:Nat)(a:Int):Option Bool:=
aa (!ai (a=a))
def agy:Fo 200 (.i1 [.l aC]) (.i1 [.l .bool]) (M.n6 N):=fz N [] [] Tryz.func200
def M.dC(c:List Int)(d:Int):Option (Int×Bool):=
aqH (Loop (S:=Int×Int) (X:=Int) (λa=>(if(ai (a.1<a.2))then
aqH (aqH (idx c (aqJ.wrap (iF .u64 (aqP.wrap (aqJ.wrap (a.1+a.2))) 1))) λg=>aqH (M.cmp_Less_int N g d) λh=>(if h then
aa (aqJ.wrap ((aqJ.wrap (iF .u64 (aqP.wrap (aqJ.wrap (a.1+a.2))) 1))+1),a.2)
else
aa (a.1,aqJ.wrap (iF .u64 (aqP.wrap (aqJ.wrap (a.1+a.2))) 1))):Option (Int×Int)) λe=>aa (.inl (e.1,e.2))
else
aa (.inr a.1))) N (0,(c.length:Int)):Option Int) λb=>aqH ((if(ai (b<(c.length:Int)))then
aqH (idx c b) λi=>(if(ai (i=d))then
aa (b,af)
else
aqH (idx c b) λj=>aqH (M.n6 N j) λk=>(if k then
aqH (M.n6 N d) λl=>aa (b,l)
else
aa (b,ah)))
else
aa (b,ah)):Option (Int×Bool)) λf=>aa (f.1,f.2)
def agz:Fo 134 (.i1 [.l (.slice aC), .l aC]) (.i1 [.l aC, .l .bool]) (u2 (M.dC N)):=fz N [agx N,agy N] [O,O,O,R ⟨[(7, .l aC)],[],[],128⟩,T,P ⟨[(7, .l aC),(8, .l aC)],[],[],128⟩,O,R ⟨[(7, .l aC),(8, .l aC)],[],[],176⟩,X,X,X,R ⟨[(4, .l aC),(5, .l .bool)],[],[],128⟩] Tryz.func134
def M.de(a:cn.den)(b:Int):Option Int:=
aqH (M.dC N a.2.2 b) λc=>aa c.1
def W72:Fo 72 (.i1 [.at cn, .l aC]) (.i1 [.l aC]) (u2 (M.de N)):=fz N [agz N] [] Tryz.func72
def M.eB(b:List Int)(c:List Int):Option Int:=
(if(!ai ((b.length:Int)=(c.length:Int)))then
aa 2
else(if(ai (8<(b.length:Int)))then
aa 4
else
Loop (S:=Int) (X:=Int) (λa=>(if(ai (a<(b.length:Int)))then
aqH (idx b a) λd=>aqH (if(ai (d<(-1)))then
aa af
else
aa (ai (a<=d))) λe=>(if e then
aa (.inr 9)
else
aqH (aqH (idx c a) λf=>(if(ai (f<0))then
aa af
else
aqH (idx c a) λg=>aa (ai (9<g))):Option Bool) λh=>(if h then
aa (.inr 3)
else
aa (.inl (aqJ.wrap (a+1)))))
else
aa (.inr 0))) N 0))
def agA:Fo 135 (.i1 [.l (.slice aC), .l (.slice aC)]) (.i1 [.l aC]) (u2 (M.eB N)):=fz N [] [O,O,O,T,O,T,L 17 192,O,O,T,T,O,T,B 28 288,B 40 288] Tryz.func135
def M.fB(b:List Int)(c:Int):Option (List Int):=
Loop (S:=Int×List Int) (X:=List Int) (λa=>(if(ai (a.1<(b.length:Int)))then
aqH (aqH (idx b a.1) λd=>(if(ai (d=c))then
aqH (cf a.2 ([a.1]:List Int)) λe=>aa e
else
aa a.2):Option (List Int)) λf=>aa (.inl (aqJ.wrap (a.1+1),f))
else
aa (.inr a.2))) N (0,([]:List Int))
def agB:Fo 253 (.i1 [.l (.slice aC), .l aC]) (.w1 3 aC) (u2 (M.fB N)):=fz N [] [O,O,T,O,T,P ⟨[(5, .val ah (.own 80)),(10, .l aC)],[(80, .own 3 aC)],[],81⟩,O,O,T,R ⟨[(5, .val ah (.own 97))],[(97, .own 3 aC)],[80],98⟩] Tryz.func253
def M.fQ(b:jt.den)(f:Int):Option (List Int):=
aqH (M.fB N b.1 f) λe=>Loop (S:=Int×List Int) (X:=List Int) (λa=>(if(ai (a.1<(e.length:Int)))then
aqH (aqH (idx e a.1) λc=>aqH (idx b.2.2 c) λg=>(if(ai (g=(-1)))then
aa a.2
else
aqH (aqH (if(ai (0<(a.2.length:Int)))then
aqH (idx b.2.1 c) λh=>aqH (idx a.2 0) λi=>aqH (idx b.2.1 i) λj=>aa (ai (j<h))
else
aa ah) λk=>(if k then
aqH (gD a.2 0 0) λl=>aa l
else
aa a.2):Option (List Int)) λd=>aqH (if(ai ((d.length:Int)=0))then
aa af
else
aqH (idx b.2.1 c) λm=>aqH (idx d 0) λn=>aqH (idx b.2.1 n) λo=>aa (ai (m=o))) λp=>(if p then
aqH (cf d ([c]:List Int)) λq=>aa q
else
aa d)):Option (List Int)) λr=>aa (.inl (aqJ.wrap (a.1+1),r))
else
aa (.inr a.2))) N (0,([]:List Int))
def agC:Fo 201 (.i1 [.g jt, .l aC]) (.w1 3 aC) (u2 (M.fQ N)):=fz N [agB N] [O,O,T,O,T,P ⟨[(5, .val ah (.own 144)),(13, .l aC)],[(144, .own 3 aC)],[],145⟩,O,O,T,R ⟨[(5, .val ah (.own 161))],[(161, .own 3 aC)],[144],162⟩,O,O,R ⟨[(5, .val ah (.own 305))],[(305, .own 3 aC)],[144],306⟩,B 40 305,B 60 306] Tryz.func201
def M.cS(b:jt.den)(c:Int):Option Int:=
aqH (M.fQ N b c) λa=>(if(ai ((a.length:Int)=0))then
aa (-1)
else(if(ai ((a.length:Int)=1))then
aqH (idx a 0) λd=>aqH (idx b.2.2 d) λe=>aa e
else
aa (-2)))
def aa7:Fo 137 (.i1 [.g jt, .l aC]) (.i1 [.l aC]) (u2 (M.cS N)):=fz N [agC N] [] Tryz.func137
def M.gv(c:List Int)(d:List Int)(e:List Bool):Option (List Int):=
aqH (ol (c.length:Int) 0) λf=>Loop (S:=Int×List Int) (X:=List Int) (λa=>(if(ai (0<=a.1))then
aqH (aqH (M.cS N (c,(d,a.2)) a.1) λb=>aqH (idx a.2 a.1) λk=>aqH (aqH (idx (bn a.2 a.1 b) a.1) λg=>(if(ai (g=(-1)))then
aqH (idx e a.1) λh=>aa h
else
aa ah):Option Bool) λi=>(if i then
aqH (idx (bn a.2 a.1 b) a.1) λl=>aa (bn (bn a.2 a.1 b) a.1 a.1)
else
aa (bn a.2 a.1 b)):Option (List Int)) λj=>aa (.inl (aqJ.wrap (a.1-1),j))
else
aa (.inr a.2))) N (aqJ.wrap ((c.length:Int)-1),f)
def agD:Fo 136 (.i1 [.l (.slice aC), .l (.slice aC), .l (.slice .bool)]) (.w1 3 aC) (u3 (M.gv N)):=fz N [aa7 N] [O,O,T,O,T,P ⟨[(8, .l aC)],[(80, .own 3 aC)],[],209⟩,O,T,R ⟨[],[(80, .own 3 aC)],[],242⟩,O,B 40 369] Tryz.func136
def M.eP(a:List Int)(b:List Int)(c:List Bool):Option Int:=
aqH (aqH (M.eB N a b) λd=>(if(!ai (d=0))then
aa af
else
aa (!ai ((c.length:Int)=(a.length:Int)))):Option Bool) λe=>(if e then
aa (-1)
else
aqH (M.gv N a b c) λf=>aqH (M.cS N (a,(b,f)) (-1)) λg=>aa g)
def W73:Fo 73 (.i1 [.l (.slice aC), .l (.slice aC), .l (.slice .bool)]) (.i1 [.l aC]) (u3 (M.eP N)):=fz N [agA N,agD N,aa7 N] [O,T,B 17 16] Tryz.func73
def M.cG(c:cn.den)(h:bR.den)(e:Int)(d:Int):Option (Int×aG.den):=
aqH (M.fP N c.1 d h.1) λb=>aqH (ol (b.1.length:Int) ah) λk=>bK (J:=List Bool) (R:=Int×aG.den) (Loop (S:=Int×List Bool) (X:=(List Bool)⊕(Int×aG.den)) (λa=>(if(ai (a.1<(b.1.length:Int)))then
bK (J:=List Bool) (R:=(Int×List Bool)⊕((List Bool)⊕(Int×aG.den))) (aqH (idx b.1 a.1) λi=>aqH (M.de N c i) λl=>aqH (idx c.2.1.2.2.1 l) λj=>(if(ai ((j.length:Int)=0))then
aqH (idx a.2 a.1) λq=>aa (.inl (bn a.2 a.1 af))
else
aqH (M.rL N j h) λf=>(if(!ai (f.2.2=0))then
aa (.inr (.inr (.inr (0,(f.2.2,(e,(d,i)))))))
else
aqH (idx a.2 a.1) λr=>aa (.inl (bn a.2 a.1 (ai (f.1.2.2=1))))))) λm=>aa (.inl (aqJ.wrap (a.1+1),m))
else
aa (.inr (.inl a.2)))) N (0,k)) λn=>aqH (M.eP N b.2.1 b.2.2 n) λg=>(if(ai (g=(-1)))then
aa (0,(10,(e,(d,(-1)))))
else(if(ai (g=(-2)))then
aa (0,(11,(e,(d,(-1)))))
else
aqH (idx b.1 g) λo=>aqH (M.de N c o) λp=>aa (p,(0,(0,(0,0))))))
def W39:Fo 39 (.i1 [.at cn, .g bR, .l aC, .l aC]) (.i1 [.l aC, .g aG]) (u4 (M.cG N)):=fz N [W40 N,W71 N,W72 N,W73 N] [O,O,O,J ⟨[],[(320, .own 4 .bool)],[],353⟩,O,T,P ⟨[(38, .l aC)],[(320, .own 4 .bool)],[],401⟩,O,O,T,J ⟨[],[(320, .own 4 .bool)],[],418⟩] Tryz.func39
def M.gw(b:cn.den)(i:Int)(d:Int)(e:List aE.den)(f:List aP.den):Option (aG.den×Int×(List aE.den)×(List aP.den)×(List Int)×List aE.den):=
aqH (ol (b.1.2.2.2.1.length:Int) (0,(0,0))) λk=>aqH (ol (b.1.2.2.2.1.length:Int) 0) λl=>bK (J:=(List aE.den)×List Int) (R:=aG.den×Int×(List aE.den)×(List aP.den)×(List Int)×List aE.den) (Loop (S:=Int×(List aE.den)×List Int) (X:=((List aE.den)×List Int)⊕(aG.den×Int×(List aE.den)×(List aP.den)×(List Int)×List aE.den)) (λa=>(if(ai (a.1<(b.2.1.1.length:Int)))then
aqH (idx b.2.1.1 a.1) λc=>aqH (M.cG N b (d,(e,(a.2.1,(([]:List (List aE.den)),(([]:List aD.den),f))))) i c) λg=>(if(!ai (g.2.1=0))then
aa (.inr (.inr (g.2,d,e,f,([]:List Int),a.2.1)))
else
aqH (idx b.2.1.2.2.2 g.1) λm=>aqH (M.rL N m (d,(e,(a.2.1,(([]:List (List aE.den)),(([]:List aD.den),f)))))) λh=>(if(!ai (h.2.2=0))then
aqH (idx b.2.2 g.1) λn=>aa (.inr (.inr ((h.2.2,(i,(c,n))),d,e,f,([]:List Int),a.2.1)))
else
aqH (idx a.2.1 c) λp=>aqH (idx b.2.2 g.1) λo=>aqH (idx a.2.2 c) λq=>aa (.inl (aqJ.wrap (a.1+1),bn a.2.1 c h.1,bn a.2.2 c o))))
else
aa (.inr (.inl (a.2.1,a.2.2))))) N (0,k,l)) λj=>aa ((0,(0,(0,0))),d,e,f,j.2,j.1)
def aa8:Fo 20 (.j1 [.at cn, .ptr 0 [] 0, .l aC] [.box 79 (.pair (.leaf aC) (.pair (.leaf (.slice aE)) (.pair .nil (.pair .nil (.pair .nil (.leaf (.slice aP)))))))] 1) (.j1 [.val ah (.own 1), .g aG] [.box 79 (.pair (.leaf aC) (.pair (.leaf (.slice aE)) (.pair (.own 2) (.pair .nil (.pair .nil (.leaf (.slice aP))))))), .own 3 aC, .own 71 aE] 4) (u5 (M.gw N)):=fz N [W39 N,W40 N] [O,O,O,J ⟨[],[(145, .own 71 aE),(305, .own 3 aC)],[],339⟩,O,T,P ⟨[(39, .l aC)],[(145, .own 71 aE),(305, .own 3 aC)],[],451⟩] Tryz.func20
def M.gx(b:cn.den)(k:Int)(d:Int)(e:List aE.den)(f:List aP.den)(g:List (List aE.den))(h:List aD.den):Option (aG.den×Int×(List aE.den)×(List aP.den)×(List (List aE.den))×(List aD.den)×(List Int)×List aE.den):=
aqH (ol (b.1.2.2.2.1.length:Int) (0,(0,0))) λm=>aqH (ol (b.1.2.2.2.1.length:Int) 0) λn=>bK (J:=(List aE.den)×List Int) (R:=aG.den×Int×(List aE.den)×(List aP.den)×(List (List aE.den))×(List aD.den)×(List Int)×List aE.den) (Loop (S:=Int×(List aE.den)×List Int) (X:=((List aE.den)×List Int)⊕(aG.den×Int×(List aE.den)×(List aP.den)×(List (List aE.den))×(List aD.den)×(List Int)×List aE.den)) (λa=>(if(ai (a.1<(b.2.1.1.length:Int)))then
aqH (idx b.2.1.1 a.1) λc=>aqH (M.cG N b (d,(e,(a.2.1,(g,(h,f))))) k c) λi=>(if(!ai (i.2.1=0))then
aa (.inr (.inr (i.2,d,e,f,g,h,([]:List Int),a.2.1)))
else
aqH (idx b.2.1.2.2.2 i.1) λo=>aqH (M.rL N o (d,(e,(a.2.1,(g,(h,f)))))) λj=>(if(!ai (j.2.2=0))then
aqH (idx b.2.2 i.1) λp=>aa (.inr (.inr ((j.2.2,(k,(c,p))),d,e,f,g,h,([]:List Int),a.2.1)))
else
aqH (idx a.2.1 c) λr=>aqH (idx b.2.2 i.1) λq=>aqH (idx a.2.2 c) λs=>aa (.inl (aqJ.wrap (a.1+1),bn a.2.1 c j.1,bn a.2.2 c q))))
else
aa (.inr (.inl (a.2.1,a.2.2))))) N (0,m,n)) λl=>aa ((0,(0,(0,0))),d,e,f,g,h,l.2,l.1)
def aa9:Fo 20 (.j1 [.at cn, .ptr 0 [] 0, .l aC] [.box 79 (.pair (.leaf aC) (.pair (.leaf (.slice aE)) (.pair .nil (.pair (.own 1) (.pair (.own 2) (.leaf (.slice aP))))))), .own 27 (.slice aE), .own 57 aD] 3) (.j1 [.val ah (.own 3), .g aG] [.box 79 (.pair (.leaf aC) (.pair (.leaf (.slice aE)) (.pair (.own 4) (.pair (.own 1) (.pair (.own 2) (.leaf (.slice aP))))))), .own 27 (.slice aE), .own 57 aD, .own 3 aC, .own 71 aE] 8) (λ(x:cn.den×Int×Int×(List aE.den)×(List aP.den)×(List (List aE.den))×List aD.den)=>M.gx N x.1 x.2.1 x.2.2.1 x.2.2.2.1 x.2.2.2.2.1 x.2.2.2.2.2.1 x.2.2.2.2.2.2):=fz N [W39 N,W40 N] [O,O,O,J ⟨[],[(147, .own 71 aE),(307, .own 3 aC)],[],341⟩,O,T,P ⟨[(39, .l aC)],[(147, .own 71 aE),(307, .own 3 aC)],[],453⟩] Tryz.func20
def M.lz(d:cC.den)(f:Int)(c:gO.den):Option (aG.den×(List aE.den)×(List Int)×List aM.den):=
aqH (M.ln N d) λm=>(if(!ai (m.1=0))then
aa ((1,((-1),((-1),(-1)))),([]:List aE.den),([]:List Int),([]:List aM.den))
else
aqH (if(ai (f<0))then
aa af
else
aa (ai ((d.2.2.length:Int)<=f))) λn=>(if n then
aa ((6,((-1),((-1),(-1)))),([]:List aE.den),([]:List Int),([]:List aM.den))
else
aqH (M.gq N d f c) λj=>(if(!ai (j.2.2=0))then
aa ((j.2.2,(j.1,((-1),(-1)))),([]:List aE.den),([]:List Int),([]:List aM.den))
else
bK (J:=Int×(List aE.den)×(List aP.den)×(List aM.den)×(List (List aE.den))×List aD.den) (R:=aG.den×(List aE.den)×(List Int)×List aM.den) (aqH (idx d.2.2 f) λl=>(if(ai (0<=l.2.1))then
aqH (M.cX N d l.2.1 c.1) λk=>aqH (Loop (S:=Int×Int×(List aE.den)×(List aP.den)×List aD.den) (X:=Int×(List aE.den)×(List aP.den)×List aD.den) (λb=>(if(ai (b.1<(k.1.2.2.2.1.length:Int)))then
aqH (idx k.1.2.2.2.1 b.1) λo=>aqH (cf b.2.2.2.2 ([o.2]:List aD.den)) λp=>aa (.inl (aqJ.wrap (b.1+1),b.2.1,b.2.2.1,b.2.2.2.1,p))
else
aa (.inr (b.2.1,b.2.2.1,b.2.2.2.1,b.2.2.2.2)))) N (0,c.1,c.2.1,d.2.1,([]:List aD.den)):Option (Int×(List aE.den)×(List aP.den)×List aD.den)) λh=>Loop (S:=Int×Int×(List aE.den)×(List aP.den)×(List aD.den)×(List aM.den)×List (List aE.den)) (X:=(Int×(List aE.den)×(List aP.den)×(List aM.den)×(List (List aE.den))×List aD.den)⊕(aG.den×(List aE.den)×(List Int)×List aM.den)) (λa=>(if(ai (a.1<(c.2.2.length:Int)))then
aqH (idx c.2.2 a.1) λq=>aqH (M.gw N k a.1 c.1 q d.2.1) λg=>(if(!ai (g.1.1=0))then
aa (.inr (.inr (g.1,([]:List aE.den),([]:List Int),([]:List aM.den))))
else
aqH (cf a.2.2.2.2.2.2 ([g.2.2.2.2.2]:List (List aE.den))) λr=>aqH (cf a.2.2.2.2.2.1 ([(g.2.2.2.2.2,g.2.2.2.2.1)]:List aM.den)) λs=>aa (.inl (aqJ.wrap (a.1+1),a.2.1,a.2.2.1,a.2.2.2.1,a.2.2.2.2.1,s,r)))
else
aa (.inr (.inl (a.2.1,a.2.2.1,a.2.2.2.1,a.2.2.2.2.2.1,a.2.2.2.2.2.2,a.2.2.2.2.1))))) N (0,h.1,h.2.1,h.2.2.1,h.2.2.2,([]:List aM.den),([]:List (List aE.den)))
else
aa (.inl (c.1,c.2.1,d.2.1,([]:List aM.den),([]:List (List aE.den)),([]:List aD.den))))) λe=>aqH (M.cX N d f c.1) λt=>aqH (M.gx N t (-1) e.1 e.2.1 e.2.2.1 e.2.2.2.2.1 e.2.2.2.2.2) λi=>(if(!ai (i.1.1=0))then
aa (i.1,([]:List aE.den),([]:List Int),([]:List aM.den))
else
aa ((0,(0,(0,0))),i.2.2.2.2.2.2.2,i.2.2.2.2.2.2.1,e.2.2.2.1)))))
def W8:Fo 8 (.i1 [.g cC, .l aC, .g gO]) (.j1 [.val af (.pair (.own 0) (.pair (.own 1) (.own 2))), .g aG] [.own 71 aE, .own 3 aC, .own 90 aM] 3) (u3 (M.lz N)):=fz N [W17 N,W18 N,W19 N,aa8 N,aa9 N] [O,O,T,B 40 176,O,O,O,J ⟨[],[(384, .box 37 (.pair .nil (.pair .nil (.own 544)))),(512, .box 79 (.pair (.leaf aC) (.pair (.leaf (.slice aE)) (.pair .nil (.pair (.own 545) (.pair (.own 546) (.leaf (.slice aP)))))))),(544, .own 90 aM),(545, .own 27 (.slice aE)),(546, .own 57 aD)],[],549⟩,O,O,T,O,R ⟨[],[(512, .box 79 (.pair (.leaf aC) (.pair (.leaf (.slice aE)) (.pair .nil (.pair .nil (.pair (.own 784) (.leaf (.slice aP)))))))),(784, .own 57 aD)],[],786⟩,O,T,P ⟨[(83, .l aC)],[(512, .box 79 (.pair (.leaf aC) (.pair (.leaf (.slice aE)) (.pair .nil (.pair .nil (.pair (.own 896) (.leaf (.slice aP)))))))),(896, .own 57 aD)],[],898⟩,X,X,O,T,P ⟨[(98, .l aC)],[(384, .box 37 (.pair .nil (.pair .nil (.own 850)))),(512, .box 79 (.pair (.leaf aC) (.pair (.leaf (.slice aE)) (.pair .nil (.pair (.own 851) (.pair (.own 784) (.leaf (.slice aP)))))))),(784, .own 57 aD),(850, .own 90 aM),(851, .own 27 (.slice aE))],[],855⟩] Tryz.func8
def M.n7(b:cC.den)(c:Int)(d:Int):Option ((List cm.den)×Int×(List Int)×(List (List aD.den))×List (List aD.den)):=
aqH (M.ln N b) λe=>(if(!ai (e.1=0))then
aa (([]:List cm.den),1,([]:List Int),([]:List (List aD.den)),([]:List (List aD.den)))
else
aqH (if(ai (c<0))then
aa af
else
aa (ai ((b.2.2.length:Int)<=c))) λf=>(if f then
aa (([]:List cm.den),6,([]:List Int),([]:List (List aD.den)),([]:List (List aD.den)))
else
aqH (if(ai (d<0))then
aa af
else
aa (ai (109572<d))) λg=>(if g then
aa (([]:List cm.den),3,([]:List Int),([]:List (List aD.den)),([]:List (List aD.den)))
else
aqH (M.dA N b c d) λa=>aa (a.1,0,a.2.1,a.2.2.1,a.2.2.2))))
def W11:Fo 11 (.i1 [.g cC, .l aC, .l aC]) (.j1 [.val af (.pair (.own 0) (.pair (.leaf (.slice cm)) (.pair (.own 1) (.own 2)))), .l aC] [.own 3 aC, .own 68 (.slice aD), .own 68 (.slice aD)] 3) (u3 (M.n7 N)):=fz N [W17 N,W25 N] [O,O,T,B 23 160,T,B 30 160] Tryz.func11
def M.pt(N:Nat)(a:List aD.den):Option (List bg.den):=
aa ([((⟨#[104,111,117,115,101]⟩:ByteArray),((-1),(([((⟨#[97]⟩:ByteArray),(3,0))]:List bG.den),(([((⟨#[100]⟩:ByteArray),(3,0))]:List bG.den),([((⟨#[98,97,115,101]⟩:ByteArray),(0,((-1),(0,((0,109573),(([]:List aD.den),(a,ByteArray.empty)))))))]:List cm.den)))))]:List bg.den)
def W15:Fo 15 (.i1 [.l (.slice aD)]) (.j1 [.val af (.pair .nil (.pair .nil (.own 0)))] [.own 63 bg] 1) (M.pt N):=fz N [] [] Tryz.func15
def M.Ae(b:List aD.den)(c:List aD.den):Option Bool:=
(if(!ai ((b.length:Int)=(c.length:Int)))then
aa ah
else
Loop (S:=Int) (X:=Bool) (λa=>aqH (if(ai (a<(b.length:Int)))then
aa (ai (a<(c.length:Int)))
else
aa ah) λd=>(if d then
aqH (idx b a) λe=>aqH (idx c a) λf=>(if(!(o6 aD e f))then
aa (.inr ah)
else
aa (.inl (aqJ.wrap (a+1))))
else
aa (.inr af))) N 0)
def W16:Fo 16 (.i1 [.l (.slice aD), .l (.slice aD)]) (.i1 [.l .bool]) (u2 (M.Ae N)):=fz N [] [O,O,T,O,T,L 5 112,T,B 20 112] Tryz.func16
def M.oM:Option Bool:=
aqH (M.pt N ([(3,100),(3,200),(11,0)]:List aD.den)) λc=>aqH (M.n7 N (([]:List b9.den),(([]:List aP.den),c)) 0 0) λa=>aqH (if(!ai (a.2.1=0))then
aa af
else(if(!ai ((a.2.2.2.2.length:Int)=1))then
aa af
else
aqH (idx a.2.2.2.2 0) λd=>aqH (M.Ae N d ([(3,300)]:List aD.den)) λe=>aa (!e))) λf=>(if f then
aa ah
else
aqH (M.lz N (([]:List b9.den),(([]:List aP.den),c)) 0 (0,(([(3,(0,0))]:List aE.den),([]:List (List aE.den))))) λb=>aqH (if(o6 aG b.1 (0,(0,(0,0))))then(if(ai ((b.2.1.length:Int)=1))then
aqH (idx b.2.1 0) λg=>aa (o6 aE g (3,(0,300)))
else
aa ah)
else
aa ah) λh=>aa h)
def W7:Fo 7 (.i1 []) (.i1 [.l .bool]) (λ(x:Unit)=>M.oM N):=fz N [W8 N,W11 N,W15 N,W16 N] [O,O,O,T,B 33 256,O,B 0 448] Tryz.func7
def M.oN(N:Nat)(a:Int):Option Bool:=
aqH (if(ai (97<=a))then
aa (ai (a<=122))
else
aa ah) λb=>aa b
def aba:Fo 232 (.i1 [.l (.int .u8)]) (.i1 [.l .bool]) (M.oN N):=fz N [] [O,B 2 16] Tryz.func232
def M.qk(N:Nat)(a:Int):Option Bool:=
aqH (if(ai (48<=a))then
aa (ai (a<=57))
else
aa ah) λb=>aa b
def agE:Fo 273 (.i1 [.l (.int .u8)]) (.i1 [.l .bool]) (M.qk N):=fz N [] [O,B 2 16] Tryz.func273
def M.rM(a:Int):Option Bool:=
aqH (aqH (M.oN N a) λb=>(if b then
aa af
else
aqH (M.qk N a) λc=>(if c then
aa af
else
aa (ai (a=95)))):Option Bool) λd=>aa d
def agF:Fo 233 (.i1 [.l (.int .u8)]) (.i1 [.l .bool]) (M.rM N):=fz N [aba N,agE N] [O,B 2 16] Tryz.func233
def M.jy(N:Nat):Option (List ByteArray):=
aa ([(⟨#[105,102]⟩:ByteArray),(⟨#[116,104,101,110]⟩:ByteArray),(⟨#[101,108,115,101]⟩:ByteArray),(⟨#[111,114]⟩:ByteArray),(⟨#[97,110,100]⟩:ByteArray),(⟨#[110,111,116]⟩:ByteArray),(⟨#[116,114,117,101]⟩:ByteArray),(⟨#[102,97,108,115,101]⟩:ByteArray),(⟨#[116,111,100,97,121]⟩:ByteArray),(⟨#[115,104,97,114,101]⟩:ByteArray),(⟨#[100,105,118]⟩:ByteArray),(⟨#[114,111,117,110,100]⟩:ByteArray),(⟨#[109,105,110]⟩:ByteArray),(⟨#[109,97,120]⟩:ByteArray),(⟨#[112,108,117,115]⟩:ByteArray),(⟨#[109,111,110,116,104,115]⟩:ByteArray),(⟨#[100,97,121,115]⟩:ByteArray),(⟨#[121,101,97,114,115]⟩:ByteArray),(⟨#[121,101,97,114]⟩:ByteArray),(⟨#[109,111,110,116,104]⟩:ByteArray),(⟨#[116,97,98]⟩:ByteArray),(⟨#[98,97,110,100]⟩:ByteArray),(⟨#[99,111,117,110,116]⟩:ByteArray),(⟨#[115,117,109]⟩:ByteArray),(⟨#[97,108,108]⟩:ByteArray),(⟨#[97,110,121]⟩:ByteArray),(⟨#[109,111,115,116]⟩:ByteArray),(⟨#[101,110,117,109]⟩:ByteArray),(⟨#[116,97,98,108,101]⟩:ByteArray),(⟨#[114,111,119]⟩:ByteArray),(⟨#[115,99,111,112,101]⟩:ByteArray),(⟨#[109,101,109,98,101,114,115]⟩:ByteArray),(⟨#[105,110,112,117,116]⟩:ByteArray),(⟨#[100,101,102]⟩:ByteArray),(⟨#[114,117,108,101]⟩:ByteArray),(⟨#[111,102]⟩:ByteArray),(⟨#[111,118,101,114]⟩:ByteArray),(⟨#[112,114,105,111]⟩:ByteArray),(⟨#[102,114,111,109]⟩:ByteArray),(⟨#[116,111]⟩:ByteArray),(⟨#[101,110,100]⟩:ByteArray),(⟨#[119,104,101,110]⟩:ByteArray),(⟨#[105,115]⟩:ByteArray),(⟨#[115,114,99]⟩:ByteArray),(⟨#[98,111,111,108]⟩:ByteArray),(⟨#[105,110,116]⟩:ByteArray),(⟨#[109,111,110,101,121]⟩:ByteArray),(⟨#[114,97,116,101]⟩:ByteArray),(⟨#[100,97,116,101]⟩:ByteArray),(⟨#[100,111,119,110]⟩:ByteArray),(⟨#[117,112]⟩:ByteArray),(⟨#[122,101,114,111]⟩:ByteArray),(⟨#[97,119,97,121]⟩:ByteArray),(⟨#[104,97,108,102]⟩:ByteArray),(⟨#[101,118,101,110]⟩:ByteArray)]:List ByteArray)
def agG:Fo 234 (.i1 []) (.w1 9 .str) (λ(x:Unit)=>M.jy N):=fz N [] [] Tryz.func234
def M.cy(a:ByteArray):Option Bool:=
aqH (if(ai ((a.size:Int)=0))then
aa af
else(if(ai (16<(a.size:Int)))then
aa af
else
aqH (lP a 0) λe=>aqH (M.oN N e) λf=>aa (!f))) λg=>(if g then
aa ah
else
bK (J:=Unit) (R:=Bool) (Loop (S:=Int) (X:=Unit⊕Bool) (λb=>(if(ai (b<(a.size:Int)))then
aqH (lP a b) λh=>aqH (M.rM N h) λi=>(if(!i)then
aa (.inr (.inr ah))
else
aa (.inl (aqJ.wrap (b+1))))
else
aa (.inr (.inl ())))) N 0) λk=>aqH (M.jy N) λd=>Loop (S:=Int) (X:=Bool) (λc=>(if(ai (c<(d.length:Int)))then
aqH (idx d c) λj=>(if(ai (j=a))then
aa (.inr ah)
else
aa (.inl (aqJ.wrap (c+1))))
else
aa (.inr af))) N 0)
def Qw:Fo 162 (.i1 [.l .str]) (.i1 [.l .bool]) (M.cy N):=fz N [aba N,agF N,agG N] [O,T,B 19 16,E 16,O,T,L 3 32,X,X,O,T,O,T,L 5 64] Tryz.func162
def M.eQ(a:cC.den)(e:Int)(g:Int)(b:ByteArray):Option Bool:=
bK (J:=Unit) (R:=Bool) (Loop (S:=Int) (X:=Unit⊕Bool) (λc=>(if(ai (c<(a.1.length:Int)))then
aqH (if(ai (1<e))then
aqH (idx a.1 c) λh=>aa (ai (h.1=b))
else(if(ai (c<g))then
aqH (idx a.1 c) λi=>aa (ai (i.1=b))
else
aa ah)) λj=>(if j then
aa (.inr (.inr af))
else
aa (.inl (aqJ.wrap (c+1))))
else
aa (.inr (.inl ())))) N 0) λp=>bK (J:=Unit) (R:=Bool) (Loop (S:=Int) (X:=Unit⊕Bool) (λd=>(if(ai (d<(a.2.1.length:Int)))then
aqH (if(ai (2<e))then
aqH (idx a.2.1 d) λk=>aa (ai (k.1=b))
else(if(ai (e=2))then(if(ai (d<g))then
aqH (idx a.2.1 d) λl=>aa (ai (l.1=b))
else
aa ah)
else
aa ah)) λm=>(if m then
aa (.inr (.inr af))
else
aa (.inl (aqJ.wrap (d+1))))
else
aa (.inr (.inl ())))) N 0) λq=>Loop (S:=Int) (X:=Bool) (λf=>(if(ai (f<(a.2.2.length:Int)))then
aqH (if(ai (e=3))then(if(ai (f<g))then
aqH (idx a.2.2 f) λn=>aa (ai (n.1=b))
else
aa ah)
else
aa ah) λo=>(if o then
aa (.inr af)
else
aa (.inl (aqJ.wrap (f+1))))
else
aa (.inr ah))) N 0
def XY:Fo 163 (.i1 [.g cC, .l aC, .l aC, .l .str]) (.i1 [.l .bool]) (u4 (M.eQ N)):=fz N [] [O,E 32,O,T,L 9 48,O,T,T,B 35 128,X,X,X,E 32,O,T,L 10 48,O,T,T,B 63 128,X,X,X,T,O,T,L 11 48,O,T,T,B 87 128] Tryz.func163
def M.mE(e:cC.den)(c:Int):Option (aG.den):=
aqH (idx e.1 c) λb=>aqH (M.cy N b.1) λf=>(if(!f)then
aa (2,(1,(c,0)))
else
aqH (M.eQ N e 1 c b.1) λg=>(if g then
aa (7,(1,(c,0)))
else(if(ai ((b.2.length:Int)=0))then
aa (5,(1,(c,0)))
else(if(ai (16<(b.2.length:Int)))then
aa (4,(1,(c,116)))
else
bK (J:=aG.den) (R:=aG.den) (Loop (S:=Int×aG.den) (X:=(aG.den)⊕(aG.den)) (λa=>(if(ai (a.1<(b.2.length:Int)))then
bK (J:=aG.den) (R:=(Int×aG.den)⊕((aG.den)⊕(aG.den))) (aqH (idx b.2 a.1) λh=>aqH (M.cy N h) λi=>(if(!i)then
aa (.inr (.inr (.inr (2,(a.2.2.1,(a.2.2.2.1,aqJ.wrap (100+a.1)))))))
else
Loop (S:=Int) (X:=(aG.den)⊕((Int×aG.den)⊕((aG.den)⊕(aG.den)))) (λd=>(if(ai (d<a.1))then
aqH (idx b.2 d) λj=>aqH (idx b.2 a.1) λk=>(if(ai (j=k))then
aa (.inr (.inr (.inr (.inr (7,(a.2.2.1,(a.2.2.2.1,aqJ.wrap (100+a.1))))))))
else
aa (.inl (aqJ.wrap (d+1))))
else
aa (.inr (.inl (a.2.1,(a.2.2.1,(a.2.2.2.1,aqJ.wrap (100+a.1)))))))) N 0)) λl=>aa (.inl (aqJ.wrap (a.1+1),l))
else
aa (.inr (.inl a.2)))) N (0,(0,(1,(c,0))))) λm=>aa (0,(0,(0,0)))))))
def W90:Fo 90 (.i1 [.g cC, .l aC]) (.i1 [.g aG]) (u2 (M.mE N)):=fz N [Qw N,XY N] [O,O,O,O,O,O,O,J ⟨[],[(176, .box 73 (.leaf aG))],[],481⟩,O,T,P ⟨[(7, .l aC)],[(176, .box 73 (.leaf aG))],[],497⟩,O,J ⟨[],[(176, .box 73 (.leaf aG))],[],578⟩,T,O,O,O,T,L 8 769] Tryz.func90
def M.dw(N:Nat)(a:aD.den)(b:List b9.den):Option Bool:=
(if(ai (a.1=6))then
aqH (if(ai (0<=a.2))then
aa (ai (a.2<(b.length:Int)))
else
aa ah) λc=>aa c
else
aqH (if(ai (1<=a.1))then(if(ai (a.1<=5))then
aa (ai (a.2=0))
else
aa ah)
else
aa ah) λd=>aa d)
def Qx:Fo 235 (.i1 [.g aD, .l (.slice b9)]) (.i1 [.l .bool]) (u2 (M.dw N)):=fz N [] [O,T,O,T,B 4 80,X,B 4 80] Tryz.func235
def M.jI(N:Nat)(a:aD.den):Option Bool:=
aqH (if(ai (0<=a.1))then(if(ai (a.1<=a.2))then
aa (ai (a.2<=109573))
else
aa ah)
else
aa ah) λb=>aa b
def Uq:Fo 171 (.i1 [.g aD]) (.i1 [.l .bool]) (M.jI N):=fz N [] [O,B 2 32] Tryz.func171
def M.nw(a:aD.den)(b:List b9.den):Option (Int×Int):=
aqH (M.dw N a b) λc=>(if(!c)then
aa (0,(-1))
else(if(ai (a.1=1))then
aa (0,1)
else(if(ai (a.1=2))then
aa ((-1000000000000),1000000000000)
else(if(ai (a.1=3))then
aa ((-1000000000000000),1000000000000000)
else(if(ai (a.1=4))then
aa ((-1000000000),1000000000)
else(if(ai (a.1=5))then
aa (0,109572)
else
aqH (idx b a.2) λd=>aa (0,aqJ.wrap ((d.2.length:Int)-1))))))))
def abb:Fo 263 (.i1 [.g aD, .l (.slice b9)]) (.i1 [.l aC, .l aC]) (u2 (M.nw N)):=fz N [Qx N] [] Tryz.func263
def M.pT(a:Int)(c:aD.den)(d:List b9.den):Option Bool:=
aqH (M.nw N c d) λb=>aqH (if(ai (b.1<=a))then
aa (ai (a<=b.2))
else
aa ah) λe=>aa e
def abc:Fo 217 (.i1 [.l aC, .g aD, .l (.slice b9)]) (.i1 [.l .bool]) (u3 (M.pT N)):=fz N [abb N] [O,O,B 6 160] Tryz.func217
def M.ql(a:fT.den)(b:aP.den)(c:List b9.den):Option Bool:=
aqH (aqH (M.jI N a.1) λd=>(if(!d)then
aa af
else(if(ai (a.1.1=a.1.2))then
aa af
else
aa (ai (a.2.2.1<=a.2.1)))):Option Bool) λe=>(if e then
aa af
else
aqH (aqH (M.pT N a.2.1 b.2.1 c) λf=>(if(!f)then
aa af
else
aqH (M.pT N (aqJ.wrap (a.2.2.1-1)) b.2.1 c) λg=>(if(!g)then
aa af
else
aqH (M.pT N a.2.2.2 b.2.2.1 c) λh=>aa (!h))):Option Bool) λi=>aa i)
def agH:Fo 236 (.i1 [.g fT, .g aP, .l (.slice b9)]) (.i1 [.l .bool]) (u3 (M.ql N)):=fz N [Uq N,abc N] [O,T,B 26 48,B 6 48] Tryz.func236
def M.pd(a:aD.den)(b:aD.den):Option (aD.den×Bool):=
aqH (aqH (M.jI N a) λc=>(if(!c)then
aa af
else
aqH (M.jI N b) λd=>aa (!d)):Option Bool) λe=>(if e then
aa ((0,0),ah)
else(if(ai ((if b.2<a.2 then b.2 else a.2)<=(if a.1<b.1 then b.1 else a.1)))then
aa ((0,0),ah)
else
aa ((if a.1<b.1 then b.1 else a.1,if b.2<a.2 then b.2 else a.2),af)))
def agI:Fo 274 (.i1 [.g aD, .g aD]) (.i1 [.g aD, .l .bool]) (u2 (M.pd N)):=fz N [Uq N] [O,T,B 14 64] Tryz.func274
def M.nx(a:fT.den)(b:fT.den):Option Bool:=
aqH (M.pd N a.1 b.1) λc=>aqH (if c.2 then
aa (ai ((if a.2.1<b.2.1 then b.2.1 else a.2.1)<(if b.2.2.1<a.2.2.1 then b.2.2.1 else a.2.2.1)))
else
aa ah) λd=>aa d
def agJ:Fo 237 (.i1 [.g fT, .g fT]) (.i1 [.l .bool]) (u2 (M.nx N)):=fz N [agI N] [O,O,B 4 224] Tryz.func237
def M.ny(a:aP.den)(c:List b9.den):Option (Int×Int):=
(if(ai (64<(a.2.2.2.length:Int)))then
aa (64,4)
else
aqH (aqH (M.dw N a.2.1 c) λe=>(if(!e)then
aa af
else
aqH (M.dw N a.2.2.1 c) λf=>aa (!f)):Option Bool) λg=>(if g then
aa ((-1),8)
else
Loop (S:=Int) (X:=Int×Int) (λb=>(if(ai (b<(a.2.2.2.length:Int)))then
bK (J:=Unit) (R:=Int⊕(Int×Int)) (aqH (idx a.2.2.2 b) λh=>aqH (M.ql N h a c) λi=>(if i then
aa (.inr (.inr (b,3)))
else
Loop (S:=Int) (X:=Unit⊕(Int⊕(Int×Int))) (λd=>(if(ai (d<b))then
aqH (idx a.2.2.2 d) λj=>aqH (idx a.2.2.2 b) λk=>aqH (M.nx N j k) λl=>(if l then
aa (.inr (.inr (.inr (b,11))))
else
aa (.inl (aqJ.wrap (d+1))))
else
aa (.inr (.inl ())))) N 0)) λm=>aa (.inl (aqJ.wrap (b+1)))
else
aa (.inr (0,0)))) N 0))
def agK:Fo 164 (.i1 [.g aP, .l (.slice b9)]) (.i1 [.l aC, .l aC]) (u2 (M.ny N)):=fz N [Qx N,agH N,agJ N] [O,O,T,B 23 112,T,O,T,L 6 128,O,E 208,T,O,O,T,L 7 352] Tryz.func164
def M.lA(c:cC.den)(a:Int):Option (aG.den):=
aqH (idx c.2.1 a) λd=>aqH (M.cy N d.1) λe=>(if(!e)then
aa (2,(2,(a,0)))
else
aqH (M.eQ N c 2 a d.1) λf=>(if f then
aa (7,(2,(a,0)))
else
aqH (M.ny N d c.1) λb=>(if(ai (b.2=0))then
aa (0,(0,(0,0)))
else
aqH ((if(ai (0<=b.1))then
aa (b.2,(2,(a,aqJ.wrap (100+b.1))))
else
aa (b.2,(2,(a,0)))):Option (aG.den)) λg=>aa g)))
def W91:Fo 91 (.i1 [.g cC, .l aC]) (.i1 [.g aG]) (u2 (M.lA N)):=fz N [Qw N,XY N,agK N] [O,O,O,O,O,O,O,O,R ⟨[],[(176, .box 73 (.leaf aG))],[],577⟩] Tryz.func91
def M.jz(b:List bG.den)(c:Int)(d:ByteArray):Option Bool:=
Loop (S:=Int) (X:=Bool) (λa=>aqH (if(ai (a<c))then
aa (ai (a<(b.length:Int)))
else
aa ah) λe=>(if e then
aqH (idx b a) λf=>(if(ai (f.1=d))then
aa (.inr af)
else
aa (.inl (aqJ.wrap (a+1))))
else
aa (.inr ah))) N 0
def agL:Fo 238 (.i1 [.l (.slice bG), .l aC, .l .str]) (.i1 [.l .bool]) (u3 (M.jz N)):=fz N [] [O,T,O,T,L 7 32,T,B 16 32] Tryz.func238
def M.jA(e:cC.den)(d:Int):Option (aG.den):=
aqH (idx e.2.2 d) λa=>bK (J:=Unit) (R:=aG.den) (Loop (S:=Int) (X:=Unit⊕(aG.den)) (λc=>(if(ai (c<(a.2.2.1.length:Int)))then
aqH (aqH (idx a.2.2.1 c) λh=>aqH (M.cy N h.1) λi=>(if(!i)then
aa (2,(3,(d,aqJ.wrap (100+c))))
else
aqH (idx a.2.2.1 c) λj=>aqH (M.jz N a.2.2.1 c j.1) λk=>(if k then
aa (7,(3,(d,aqJ.wrap (100+c))))
else
aqH (idx a.2.2.1 c) λl=>aqH (M.dw N l.2 e.1) λm=>(if(!m)then
aa (8,(3,(d,aqJ.wrap (100+c))))
else
aa (0,(3,(d,aqJ.wrap (100+c))))))):Option (aG.den)) λf=>(if(!ai (f.1=0))then
aa (.inr (.inr f))
else
aa (.inl (aqJ.wrap (c+1))))
else
aa (.inr (.inl ())))) N 0) λw=>bK (J:=Unit) (R:=aG.den) (Loop (S:=Int) (X:=Unit⊕(aG.den)) (λb=>(if(ai (b<(a.2.2.2.1.length:Int)))then
aqH (aqH (idx a.2.2.2.1 b) λn=>aqH (M.cy N n.1) λo=>(if(!o)then
aa (2,(3,(d,aqJ.wrap (200+b))))
else
aqH (aqH (idx a.2.2.2.1 b) λp=>aqH (M.jz N a.2.2.1 (a.2.2.1.length:Int) p.1) λq=>(if q then
aa af
else
aqH (idx a.2.2.2.1 b) λr=>aqH (M.jz N a.2.2.2.1 b r.1) λs=>aa s):Option Bool) λt=>(if t then
aa (7,(3,(d,aqJ.wrap (200+b))))
else
aqH (idx a.2.2.2.1 b) λu=>aqH (M.dw N u.2 e.1) λv=>(if(!v)then
aa (8,(3,(d,aqJ.wrap (200+b))))
else
aa (0,(3,(d,aqJ.wrap (200+b))))))):Option (aG.den)) λg=>(if(!ai (g.1=0))then
aa (.inr (.inr g))
else
aa (.inl (aqJ.wrap (b+1))))
else
aa (.inr (.inl ())))) N 0) λx=>aa (0,(0,(0,0)))
def agM:Fo 165 (.i1 [.g cC, .l aC]) (.i1 [.g aG]) (u2 (M.jA N)):=fz N [Qw N,Qx N,agL N] [O,O,E 144,O,T,L 6 160,O,T,T,O,R ⟨[],[(304, .box 73 (.leaf aG))],[],337⟩,X,X,X,X,X,E 144,O,T,L 8 160,O,T,T,O,R ⟨[],[(304, .box 73 (.leaf aG))],[],337⟩,O,O,B 104 464] Tryz.func165
def M.kg(a:ByteArray):Option Bool:=
Loop (S:=Int) (X:=Bool) (λb=>(if(ai (b<(a.size:Int)))then
aqH (aqH (lP a b) λc=>(if(ai (c<32))then
aa af
else
aqH (lP a b) λd=>(if(ai (126<d))then
aa af
else
aqH (lP a b) λe=>aa (ai (e=34)))):Option Bool) λf=>(if f then
aa (.inr ah)
else
aa (.inl (aqJ.wrap (b+1))))
else
aa (.inr (ai ((a.size:Int)<=64))))) N 0
def agN:Fo 239 (.i1 [.l .str]) (.i1 [.l .bool]) (M.kg N):=fz N [] [O,T,O,T,L 3 32,O,T,T,B 25 96] Tryz.func239
def M.gV(b:List bG.den):Option (List aD.den):=
Loop (S:=Int×List aD.den) (X:=List aD.den) (λa=>(if(ai (a.1<(b.length:Int)))then
aqH (idx b a.1) λc=>aqH (cf a.2 ([c.2]:List aD.den)) λd=>aa (.inl (aqJ.wrap (a.1+1),d))
else
aa (.inr a.2))) N (0,([]:List aD.den))
def agO:Fo 275 (.i1 [.l (.slice bG)]) (.w1 57 aD) (M.gV N):=fz N [] [O,O,T,O,T,P ⟨[(3, .val ah (.own 48)),(4, .l aC)],[(48, .own 57 aD)],[],49⟩] Tryz.func275
def M.iJ(a:cC.den)(d:Int):Option ((List b9.den)×(List aP.den)×Bool×(List aD.den)×(List aD.den)×List aD.den):=
aqH (if(ai (d<0))then
aa af
else
aa (ai ((a.2.2.length:Int)<=d))) λg=>(if g then
aa (([]:List b9.den),([]:List aP.den),ah,([]:List aD.den),([]:List aD.den),([]:List aD.den))
else
aqH (idx a.2.2 d) λc=>aqH (M.gV N c.2.2.1) λe=>aqH (M.gV N c.2.2.2.1) λf=>aqH (aqH (if(ai (0<=c.2.1))then
aa (ai (c.2.1<(a.2.2.length:Int)))
else
aa ah) λh=>(if h then
aqH (idx a.2.2 c.2.1) λi=>aqH (M.gV N i.2.2.2.1) λj=>aa (e,f,a.1,a.2.1,af,j)
else
aa (e,f,a.1,a.2.1,ah,([]:List aD.den))):Option ((List aD.den)×(List aD.den)×(List b9.den)×(List aP.den)×Bool×List aD.den)) λb=>aa (b.2.2.1,b.2.2.2.1,b.2.2.2.2.1,b.1,b.2.1,b.2.2.2.2.2))
def agP:Fo 240 (.i1 [.g cC, .l aC]) (.j1 [.val af (.pair (.leaf (.slice b9)) (.pair (.leaf (.slice aP)) (.pair (.own 0) (.pair (.own 1) (.pair (.own 2) (.leaf .bool))))))] [.own 57 aD, .own 57 aD, .own 57 aD] 3) (u2 (M.iJ N)):=fz N [agO N] [O,T,B 15 32,O,O,R ⟨[],[(240, .own 57 aD),(288, .own 57 aD),(320, .box 191 (.pair (.leaf (.slice b9)) (.pair (.leaf (.slice aP)) (.pair (.own 240) (.pair (.own 288) (.pair (.own 352) (.leaf .bool))))))),(352, .own 57 aD)],[],356⟩,B 43 352] Tryz.func240
def M.gQ(N:Nat)(a:Int):Option Int:=
aqH (if(ai (1<=a))then(if(ai (a<=9))then
aa af
else(if(ai (35<=a))then
aa (ai (a<=39))
else
aa ah))
else(if(ai (35<=a))then
aa (ai (a<=39))
else
aa ah)) λb=>(if b then
aa 0
else
aqH (if(ai (a=10))then
aa (ai (a=10))
else(if(ai (a=25))then
aa (ai (a=25))
else(if(ai (a=31))then
aa (ai (a=31))
else(if(ai (a=32))then
aa (ai (a=32))
else(if(ai (a=33))then
aa (ai (a=33))
else
aa (ai (a=34))))))) λc=>(if c then
aa 1
else(if(ai (a=26))then
aa 3
else
aqH (if(ai (11<=a))then
aa (ai (a<=30))
else
aa ah) λd=>(if d then
aa 2
else
aa (-1)))))
def Ur:Fo 243 (.i1 [.l aC]) (.i1 [.l aC]) (M.gQ N):=fz N [] [O,T,B 16 16,T,O,T,B 18 32,X,T,B 32 64] Tryz.func243
def M.iK(b:List aD.den):Option (Int×Int×List Int):=
(if(ai (48<(b.length:Int)))then
aa (0,4,([]:List Int))
else(if(ai ((b.length:Int)=0))then
aa (0,5,([]:List Int))
else
bK (J:=(List Int)×List Int) (R:=Int×Int×List Int) (Loop (S:=Int×(List Int)×List Int) (X:=((List Int)×List Int)⊕(Int×Int×List Int)) (λa=>(if(ai (a.1<(b.length:Int)))then
aqH (idx b a.1) λg=>aqH (M.gQ N g.1) λc=>(if(ai (c<0))then
aa (.inr (.inr (a.1,2,([]:List Int))))
else(if(ai ((a.2.2.length:Int)<c))then
aa (.inr (.inr (a.1,5,([]:List Int))))
else
aqH ((if(ai (0<c))then
aqH (idx a.2.2 (aqJ.wrap ((a.2.2.length:Int)-c))) λh=>aqH (gD a.2.2 0 (aqJ.wrap ((a.2.2.length:Int)-c))) λi=>aa (h,i)
else
aa (a.1,a.2.2)):Option (Int×List Int)) λd=>aqH (cf d.2 ([d.1]:List Int)) λe=>aqH (cf a.2.1 ([d.1]:List Int)) λj=>(if(ai (12<(e.length:Int)))then
aa (.inr (.inr (a.1,16,([]:List Int))))
else
aa (.inl (aqJ.wrap (a.1+1),j,e)))))
else
aa (.inr (.inl (a.2.1,a.2.2))))) N (0,([]:List Int),([]:List Int))) λf=>(if(ai (1<(f.2.length:Int)))then
aa ((b.length:Int),4,([]:List Int))
else
aa (0,0,f.1))))
def XZ:Fo 173 (.i1 [.l (.slice aD)]) (.j1 [.val ah (.own 0), .l aC, .l aC] [.own 3 aC] 1) (M.iK N):=fz N [Ur N] [O,O,O,O,J ⟨[(5, .val ah (.own 176)),(6, .val ah (.own 177))],[(176, .own 3 aC),(177, .own 3 aC)],[],178⟩,O,T,P ⟨[(5, .val ah (.own 192)),(6, .val ah (.own 193)),(7, .l aC)],[(192, .own 3 aC),(193, .own 3 aC)],[],194⟩,O,T,T,O,O,O,O,R ⟨[(6, .val ah (.own 498)),(9, .l aC)],[(498, .own 3 aC)],[193],499⟩] Tryz.func173
def M.ou(N:Nat)(a:Int):Option Bool:=
aqH (if(ai (1<=a))then(if(ai (a<=8))then
aa af
else(if(ai (36<=a))then
aa (ai (a<=39))
else
aa ah))
else(if(ai (36<=a))then
aa (ai (a<=39))
else
aa ah)) λb=>(if b then
aa af
else
aqH (if(ai (a=14))then
aa af
else(if(ai (a=15))then
aa af
else(if(ai (a=16))then
aa af
else(if(ai (a=33))then
aa af
else
aa (ai (a=34)))))) λc=>aa c)
def agQ:Fo 342 (.i1 [.l aC]) (.i1 [.l .bool]) (M.ou N):=fz N [] [O,T,B 16 16,B 2 16] Tryz.func342
def M.et(N:Nat)(a:Int):Option (aD.den):=
aa (a,0)
def Qy:Fo 370 (.i1 [.l aC]) (.i1 [.g aD]) (M.et N):=fz N [] [] Tryz.func370
def M.nz(a:aD.den)(c:bE.den):Option Bool:=
aqH (if(ai (a.1=1))then
aa (ai (a.1=1))
else(if(ai (a.1=2))then
aa (ai (a.1=2))
else(if(ai (a.1=3))then
aa (ai (a.1=3))
else(if(ai (a.1=4))then
aa (ai (a.1=4))
else
aa (ai (a.1=5)))))) λd=>(if d then
aqH (M.et N a.1) λe=>aqH (M.nw N e c.1) λb=>aqH (if(ai (b.1<=a.2))then
aa (ai (a.2<=b.2))
else
aa ah) λf=>aa f
else
aqH (if(ai (a.1=14))then
aa (ai (a.1=14))
else(if(ai (a.1=15))then
aa (ai (a.1=15))
else
aa (ai (a.1=16)))) λg=>(if g then
aqH (if(ai (0<=a.2))then
aa (ai (a.2<=5))
else
aa ah) λh=>aa h
else(if(ai (a.1=34))then
aqH (if(ai (0<=a.2))then
aa (ai ((aqY a.2 8)<=5))
else
aa ah) λi=>aa i
else(if(ai (a.1=6))then
aa (ai (0<=a.2))
else
aa af))))
def agR:Fo 343 (.i1 [.g aD, .g bE]) (.i1 [.l .bool]) (u2 (M.nz N)):=fz N [abb N,Qy N] [O,T,O,T,R ⟨[(9, .l .bool)],[],[],80⟩,X,T,O,B 4 256,R ⟨[(34, .l .bool)],[],[],80⟩,X,T,B 4 80,O,T,B 4 112] Tryz.func343
def M.bX(N:Nat)(a:aD.den)(b:bE.den):Option Bool:=
(if(ai (a.1=6))then
aqH (if(ai ((aqJ.wrap (aqW a.2 16))<(b.1.length:Int)))then
aqH (idx b.1 (aqJ.wrap (aqW a.2 16))) λc=>aa (ai ((aqY a.2 16)<(c.2.length:Int)))
else
aa ah) λd=>aa d
else(if(ai (a.1=7))then
aqH (if(ai (0<=a.2))then
aa (ai (a.2<(b.2.2.1.length:Int)))
else
aa ah) λe=>aa e
else(if(ai (a.1=8))then
aqH (if(ai (0<=a.2))then
aa (ai (a.2<(b.2.2.2.1.length:Int)))
else
aa ah) λf=>aa f
else(if(ai (a.1=33))then
aqH (if(ai (0<=a.2))then
aa (ai (a.2<(b.2.1.length:Int)))
else
aa ah) λg=>aa g
else(if(ai (a.1=34))then
aa (ai ((aqJ.wrap (aqW a.2 8))<(b.2.1.length:Int)))
else(if(ai (a.1=35))then
aa b.2.2.2.2.2
else
aqH (if(ai (a.1=36))then
aa (ai (a.1=36))
else(if(ai (a.1=37))then
aa (ai (a.1=37))
else(if(ai (a.1=38))then
aa (ai (a.1=38))
else
aa (ai (a.1=39))))) λh=>(if h then
aqH (if b.2.2.2.2.2 then(if(ai (0<=a.2))then
aa (ai (a.2<(b.2.2.2.2.1.length:Int)))
else
aa ah)
else
aa ah) λi=>aa i
else
aa af)))))))
def agS:Fo 344 (.i1 [.g aD, .g bE]) (.i1 [.l .bool]) (u2 (M.bX N)):=fz N [] [O,T,O,T,O,T,B 4 112,O,T,B 4 144,O,T,B 4 176,O,T,B 4 208,O,O,O,O,R ⟨[(83, .l .bool)],[],[],272⟩,X,T,B 4 272] Tryz.func344
def M.lB(N:Nat)(a:Int):Option Bool:=
aqH (if(ai (a=2))then
aa af
else(if(ai (a=3))then
aa af
else
aa (ai (a=4)))) λb=>aa b
def X0:Fo 372 (.i1 [.l aC]) (.i1 [.l .bool]) (M.lB N):=fz N [] [O,B 2 16] Tryz.func372
def M.ja(a:Int):Option Bool:=
aqH (aqH (M.lB N a) λb=>(if b then
aa af
else
aa (ai (a=5))):Option Bool) λc=>aa c
def abd:Fo 371 (.i1 [.l aC]) (.i1 [.l .bool]) (M.ja N):=fz N [X0 N] [O,B 2 16] Tryz.func371
def M.cT(a:aD.den)(c:bE.den):Option (aD.den×Bool):=
aqH ((if(ai (a.1=6))then
aa (6,aqJ.wrap (aqW a.2 16))
else(if(ai (a.1=7))then
aqH (idx c.2.2.1 a.2) λe=>aa e
else(if(ai (a.1=8))then
aqH (idx c.2.2.2.1 a.2) λf=>aa f
else(if(ai (a.1=9))then
aqH (M.et N 5) λg=>aa g
else(if(ai (a.1=35))then
aqH (M.et N 2) λh=>aa h
else
aqH (if(ai (a.1=36))then
aa (ai (a.1=36))
else(if(ai (a.1=37))then
aa (ai (a.1=37))
else(if(ai (a.1=38))then
aa (ai (a.1=38))
else
aa (ai (a.1=39))))) λi=>(if i then
aqH (idx c.2.2.2.2.1 a.2) λj=>aa j
else
aqH (M.et N a.1) λk=>aa k)))))):Option (aD.den)) λb=>aqH (M.dw N b c.1) λd=>aqH (if(ai (a.1=36))then(if d then(if(ai (b.1=2))then
aa af
else
aa (ai (b.1=3)))
else
aa ah)
else
aqH (if(ai (a.1=37))then
aa (ai (a.1=37))
else
aa (ai (a.1=38))) λl=>(if l then(if d then
aa (ai (b.1=1))
else
aa ah)
else(if(ai (a.1=39))then(if d then
aqH (M.ja N b.1) λm=>aa m
else
aa ah)
else
aa d))) λn=>aa (b,n)
def agT:Fo 345 (.i1 [.g aD, .g bE]) (.i1 [.g aD, .l .bool]) (u2 (M.cT N)):=fz N [Qx N,Qy N,abd N] [O,O,T,O,R ⟨[],[(80, .box 57 (.leaf aD))],[],145⟩,O,O,O,O,O,O,O,O,O,O,B 42 304,X,O,T,O,R ⟨[(7, .l .bool)],[],[],257⟩,O,O,B 72 289] Tryz.func345
def M.dX(b:aD.den)(a:aD.den)(d:bE.den):Option (aD.den×Bool):=
(if(ai (b.1=10))then
aqH (M.lB N a.1) λh=>aa (a,h)
else(if(ai (b.1=25))then
aa (a,ai (a.1=1))
else
aqH (if(ai (b.1=31))then
aa (ai (b.1=31))
else
aa (ai (b.1=32))) λi=>(if i then
aqH (M.et N 2) λj=>aa (j,ai (a.1=5))
else(if(ai (b.1=33))then
aqH (idx d.2.1 b.2) λc=>aqH (aqH (M.dw N c.2.1 d.1) λk=>(if k then
aqH (M.dw N c.2.2.1 d.1) λl=>(if l then
aa ((o6 aD a c.2.1),c.2.2.1)
else
aa (ah,c.2.2.1))
else
aa (ah,c.2.2.1)):Option (Bool×aD.den)) λe=>aa (e.2,e.1)
else
aqH (idx d.2.1 (aqJ.wrap (aqW b.2 8))) λf=>aqH ((if(ai (a.1=3))then
aqH (M.et N 3) λm=>(if(o6 aD f.2.1 m)then
aqH (M.et N 4) λn=>aa ((o6 aD f.2.2.1 n),a)
else
aa (ah,a))
else
aa (ah,a)):Option (Bool×aD.den)) λg=>aa (g.2,g.1)))))
def agU:Fo 346 (.i1 [.g aD, .g aD, .g bE]) (.i1 [.g aD, .l .bool]) (u3 (M.dX N)):=fz N [Qx N,Qy N,X0 N] [O,T,O,T,O,O,O,O,R ⟨[(24, .l .bool)],[],[],176⟩,X,O,O,T,O,R ⟨[(7, .l .bool)],[(48, .box 57 (.leaf aD))],[],337⟩,X,X,X,X,O,R ⟨[(7, .l .bool)],[(48, .box 57 (.leaf aD))],[],353⟩] Tryz.func346
def M.lC(f:Int)(a:Int)(b:Int):Option (aD.den×Bool):=
(if(ai (f=13))then
aqH (aqH (M.et N a) λc=>(if(ai (b=2))then(if(ai (a=2))then
aa (af,c)
else
aa (ai (a=3),c))
else
aa (ah,c)):Option (Bool×aD.den)) λg=>aa (g.2,g.1)
else(if(ai (f=14))then
aqH (aqH (M.et N a) λd=>(if(ai (b=4))then(if(ai (a=3))then
aa (af,d)
else
aa (ai (a=4),d))
else
aa (ah,d)):Option (Bool×aD.den)) λh=>aa (h.2,h.1)
else
aqH (if(ai (a=3))then
aa (ai (b=3))
else
aa ah) λj=>(if j then
aqH (M.et N 4) λk=>aa (k,af)
else
aqH (aqH (M.et N a) λe=>(if(ai (b=2))then(if(ai (a=2))then
aa (af,e)
else
aa (ai (a=3),e))
else
aa (ah,e)):Option (Bool×aD.den)) λi=>aa (i.2,i.1))))
def agV:Fo 373 (.i1 [.l aC, .l aC, .l aC]) (.i1 [.g aD, .l .bool]) (u3 (M.lC N)):=fz N [Qy N] [O,T,O,T,O,T,R ⟨[(7, .l .bool)],[(0, .box 57 (.leaf aD))],[],81⟩,X,X,O,T,R ⟨[(7, .l .bool)],[(0, .box 57 (.leaf aD))],[],113⟩,X,X,X,X,T,B 42 112,R ⟨[(7, .l .bool)],[(0, .box 57 (.leaf aD))],[],113⟩] Tryz.func373
def M.iT(a:Int)(b:aD.den)(c:aD.den):Option (aD.den×Bool):=
aqH (if(ai (a=11))then
aa (ai (a=11))
else
aa (ai (a=12))) λn=>(if n then
aqH ((if(o6 aD b c)then
aqH (M.lB N b.1) λo=>aa (o,b)
else
aa (ah,b)):Option (Bool×aD.den)) λd=>aa (d.2,d.1)
else
aqH (if(ai (a=13))then
aa (ai (a=13))
else(if(ai (a=14))then
aa (ai (a=14))
else
aa (ai (a=15)))) λp=>(if p then
aqH (M.lC N a b.1 c.1) λe=>aa (e.1,e.2)
else(if(ai (a=16))then
aqH ((if(ai (b.1=3))then
aa (ai (c.1=3),b)
else
aa (ah,b)):Option (Bool×aD.den)) λf=>aa (f.2,f.1)
else
aqH (if(ai (a=17))then
aa (ai (a=17))
else
aa (ai (a=18))) λq=>(if q then
aqH ((if(o6 aD b c)then
aqH (M.ja N b.1) λr=>aa (r,b)
else
aa (ah,b)):Option (Bool×aD.den)) λg=>aa (g.2,g.1)
else
aqH (if(ai (a=19))then
aa (ai (a=19))
else
aa (ai (a=20))) λs=>(if s then
aqH (M.et N 1) λt=>aa (t,(o6 aD b c))
else
aqH (if(ai (a=21))then
aa (ai (a=21))
else
aa (ai (a=22))) λu=>(if u then
aqH (aqH (M.et N 1) λh=>(if(o6 aD b c)then
aqH (M.ja N b.1) λv=>aa (v,h)
else
aa (ah,h)):Option (Bool×aD.den)) λi=>aa (i.2,i.1)
else
aqH (if(ai (a=23))then
aa (ai (a=23))
else
aa (ai (a=24))) λw=>(if w then
aqH ((if(ai (b.1=1))then
aa (ai (c.1=1),b)
else
aa (ah,b)):Option (Bool×aD.den)) λj=>aa (j.2,j.1)
else
aqH (if(ai (a=27))then
aa (ai (a=27))
else
aa (ai (a=28))) λx=>(if x then
aqH ((if(ai (b.1=5))then
aa (ai (c.1=2),b)
else
aa (ah,b)):Option (Bool×aD.den)) λk=>aa (k.2,k.1)
else
aqH (aqH (M.et N 2) λl=>(if(ai (b.1=5))then
aa (ai (c.1=5),l)
else
aa (ah,l)):Option (Bool×aD.den)) λm=>aa (m.2,m.1)))))))))
def agW:Fo 347 (.i1 [.l aC, .g aD, .g aD]) (.i1 [.g aD, .l .bool]) (u3 (M.iT N)):=fz N [Qy N,abd N,X0 N,agV N] [O,T,O,T,R ⟨[(9, .l .bool)],[],[],80⟩,X,T,R ⟨[(7, .l .bool)],[(32, .box 57 (.leaf aD))],[],81⟩,X,X,R ⟨[(21, .l .bool)],[],[],80⟩,X,O,O,T,R ⟨[(7, .l .bool)],[(32, .box 57 (.leaf aD))],[],113⟩,X,X,R ⟨[(44, .l .bool)],[],[],112⟩,X,T,R ⟨[(7, .l .bool)],[(32, .box 57 (.leaf aD))],[],113⟩,X,X,R ⟨[(56, .l .bool)],[],[],112⟩,X,O,R ⟨[(63, .l .bool)],[],[],112⟩,X,T,R ⟨[(7, .l .bool)],[(32, .box 57 (.leaf aD))],[],113⟩,X,X,R ⟨[(75, .l .bool)],[],[],112⟩,X,T,R ⟨[(7, .l .bool)],[(32, .box 57 (.leaf aD))],[],113⟩,X,X,R ⟨[(87, .l .bool)],[],[],112⟩,X,T,R ⟨[(7, .l .bool)],[(32, .box 57 (.leaf aD))],[],113⟩,X,X,X,X,R ⟨[(7, .l .bool)],[(32, .box 57 (.leaf aD))],[],113⟩] Tryz.func347
def M.bo(b:aD.den)(a:List aD.den)(c:bE.den):Option (aD.den×Int):=
aqH (if(!ai (b.2=0))then
aqH (M.ou N b.1) λi=>aa (!i)
else
aa ah) λj=>(if j then
aa ((0,0),2)
else
aqH (M.nz N b c) λk=>(if(!k)then
aa ((0,0),3)
else
aqH (M.bX N b c) λl=>(if(!l)then
aa ((0,0),6)
else
aqH ((if(ai ((a.length:Int)=0))then
aqH (M.cT N b c) λd=>aa (d.2,d.1)
else(if(ai ((a.length:Int)=1))then
aqH (idx a 0) λm=>aqH (M.dX N b m c) λe=>aa (e.2,e.1)
else(if(ai ((a.length:Int)=2))then
aqH (idx a 0) λn=>aqH (idx a 1) λo=>aqH (M.iT N b.1 n o) λf=>aa (f.2,f.1)
else
aqH (idx a 1) λg=>aqH (idx a 0) λp=>(if(ai (p.1=1))then
aqH (idx a 1) λq=>aqH (idx a 2) λr=>aa ((o6 aD q r),g)
else
aa (ah,g))))):Option (Bool×aD.den)) λh=>(if(!h.1)then
aa ((0,0),8)
else
aa (h.2,0)))))
def agX:Fo 305 (.i1 [.g aD, .l (.slice aD), .g bE]) (.i1 [.g aD, .l aC]) (u3 (M.bo N)):=fz N [agQ N,agR N,agS N,agT N,agU N,agW N] [O,T,B 18 64,O,O,O,O,T,O,R ⟨[(9, .l .bool)],[(208, .box 57 (.leaf aD))],[],289⟩] Tryz.func305
def M.pu(b:List aD.den)(f:bE.den):Option (aD.den×Int×Int):=
aqH (M.iK N b) λc=>(if(!ai (c.2.1=0))then
aa ((0,0),c.1,c.2.1)
else
bK (J:=List aD.den) (R:=aD.den×Int×Int) (Loop (S:=Int×List aD.den) (X:=(List aD.den)⊕(aD.den×Int×Int)) (λa=>(if(ai (a.1<(b.length:Int)))then
aqH (idx b a.1) λg=>aqH (M.gQ N g.1) λe=>aqH (idx b a.1) λh=>aqH (gD a.2 (aqJ.wrap ((a.2.length:Int)-e)) (a.2.length:Int)) λi=>aqH (M.bo N h i f) λd=>(if(!ai (d.2=0))then
aa (.inr (.inr ((0,0),a.1,d.2)))
else
aqH (gD a.2 0 (aqJ.wrap ((a.2.length:Int)-e))) λj=>aqH (cf j ([d.1]:List aD.den)) λk=>aa (.inl (aqJ.wrap (a.1+1),k)))
else
aa (.inr (.inl a.2)))) N (0,([]:List aD.den))) λl=>aqH (idx l 0) λm=>aa (m,0,0))
def agY:Fo 276 (.i1 [.l (.slice aD), .g bE]) (.i1 [.g aD, .l aC, .l aC]) (u2 (M.pu N)):=fz N [XZ N,Ur N,agX N] [O,O,O,O,J ⟨[(10, .val ah (.own 256))],[(256, .own 57 aD)],[],257⟩,O,T,P ⟨[(10, .val ah (.own 272)),(11, .l aC)],[(272, .own 57 aD)],[],273⟩] Tryz.func276
def M.fG(b:List aD.den)(c:bE.den)(d:aD.den):Option Int:=
aqH (M.pu N b c) λa=>(if(!ai (a.2.2=0))then
aa a.2.2
else(if(!(o6 aD a.1 d))then
aa 8
else
aa 0))
def agZ:Fo 241 (.i1 [.l (.slice aD), .g bE, .g aD]) (.i1 [.l aC]) (u3 (M.fG N)):=fz N [agY N] [] Tryz.func241
def M.kh(f:cC.den)(g:Int)(e:Int):Option Int:=
aqH (idx f.2.2 g) λd=>aqH (idx d.2.2.2.2 e) λa=>aqH (M.cy N a.1) λi=>(if(!i)then
aa 2
else
bK (J:=Int) (R:=Int) (Loop (S:=Int×Int) (X:=Int⊕Int) (λc=>(if(ai (c.2<e))then
bK (J:=Int) (R:=(Int×Int)⊕(Int⊕Int)) (aqH (idx d.2.2.2.2 c.2) λj=>(if(ai (j.1=a.1))then
aa (.inr (.inr (.inr 7)))
else
aqH (idx d.2.2.2.2 c.2) λk=>(if(ai (k.2.1=a.2.1))then
aa (.inl (aqJ.wrap (c.1+1)))
else
aa (.inl c.1)))) λl=>aa (.inl (l,aqJ.wrap (c.2+1)))
else
aa (.inr (.inl c.1)))) N (0,0)) λm=>aqH (if(ai (a.2.1<0))then
aa af
else
aa (ai ((d.2.2.2.1.length:Int)<=a.2.1))) λn=>(if n then
aa 6
else
aqH (if(!ai (a.2.2.1=(-1)))then(if(ai (a.2.2.1<0))then
aa af
else(if(ai (e<=a.2.2.1))then
aa af
else
aqH (idx d.2.2.2.2 a.2.2.1) λo=>aa (!ai (o.2.1=a.2.1))))
else
aa ah) λp=>(if p then
aa 9
else
aqH (if(ai (a.2.2.2.1<0))then
aa af
else(if(ai (9<a.2.2.2.1))then
aa af
else
aqH (M.jI N a.2.2.2.2.1) λq=>(if(!q)then
aa af
else
aa (ai (a.2.2.2.2.1.1=a.2.2.2.2.1.2))))) λr=>(if r then
aa 3
else(if(ai (8<=m))then
aa 4
else
aqH (M.kg N a.2.2.2.2.2.2.2) λs=>(if(!s)then
aa 2
else
aqH (M.iJ N f g) λb=>bK (J:=Unit) (R:=Int) ((if(ai (0<(a.2.2.2.2.2.1.length:Int)))then
aqH (M.fG N a.2.2.2.2.2.1 (b.1,(b.2.1,(b.2.2.2.1,(b.2.2.2.2.1,(b.2.2.2.2.2,b.2.2.1))))) (1,0)) λh=>(if(!ai (h=0))then
aa (.inr h)
else
aa (.inl ()))
else
aa (.inl ()))) λv=>aqH (idx d.2.2.2.1 a.2.1) λt=>aqH (M.fG N a.2.2.2.2.2.2.1 (b.1,(b.2.1,(b.2.2.2.1,(b.2.2.2.2.1,(b.2.2.2.2.2,b.2.2.1))))) t.2) λu=>aa u))))))
def ag0:Fo 166 (.i1 [.g cC, .l aC, .l aC]) (.i1 [.l aC]) (u3 (M.kh N)):=fz N [Qw N,Uq N,agN N,agP N,agZ N] [O,O,O,O,O,J ⟨[(9, .l aC)],[],[],336⟩,O,T,P ⟨[(9, .l aC),(10, .l aC)],[],[],352⟩,O,T,J ⟨[(9, .l aC)],[],[],400⟩,X,X,X,X,T,B 62 336,T,B 88 336,T,B 111 336,O,O,O,E 512] Tryz.func166
def M.rb(N:Nat)(b:bg.den)(a:Int):Option Bool:=
aqH (if(ai (0<=a))then
aa (ai (a<(b.2.2.2.1.length:Int)))
else
aa ah) λc=>aa c
def ag1:Fo 168 (.i1 [.g bg, .l aC]) (.i1 [.l .bool]) (u2 (M.rb N)):=fz N [] [O,B 4 32] Tryz.func168
def M.lD(b:List Int)(c:Int):Option (List Int):=
aqH (Loop (S:=Bool×Int×List Int) (X:=Bool×List Int) (λa=>(if(ai (a.2.1<(b.length:Int)))then
aqH (aqH (if(!a.1)then
aqH (idx b a.2.1) λf=>aa (ai (c<=f))
else
aa ah) λg=>(if g then
aqH (aqH (idx b a.2.1) λh=>(if(ai (c<h))then
aqH (cf a.2.2 ([c]:List Int)) λi=>aa i
else
aa a.2.2):Option (List Int)) λj=>aa (af,j)
else
aa (a.1,a.2.2)):Option (Bool×List Int)) λe=>aqH (idx b a.2.1) λk=>aqH (cf e.2 ([k]:List Int)) λl=>aa (.inl (e.1,aqJ.wrap (a.2.1+1),l))
else
aa (.inr (a.1,a.2.2)))) N (ah,0,([]:List Int)):Option (Bool×List Int)) λd=>aqH ((if(!d.1)then
aqH (cf d.2 ([c]:List Int)) λm=>aa m
else
aa d.2):Option (List Int)) λn=>aa n
def ag2:Fo 242 (.i1 [.l (.slice aC), .l aC]) (.w1 3 aC) (u2 (M.lD N)):=fz N [] [O,O,O,R ⟨[(5, .val ah (.own 48)),(6, .l .bool)],[(48, .own 3 aC)],[],49⟩,O,T,P ⟨[(5, .val ah (.own 64)),(6, .l .bool),(7, .l aC)],[(64, .own 3 aC)],[],65⟩,O,T,T,R ⟨[(5, .val ah (.own 129)),(6, .l .bool)],[(129, .own 3 aC)],[64],130⟩,R ⟨[(23, .l .bool)],[],[],129⟩,X,T,R ⟨[(5, .val ah (.own 129))],[(129, .own 3 aC)],[64],130⟩,X,X,X,X,X,X,X,R ⟨[(5, .val ah (.own 49))],[(49, .own 3 aC)],[48],50⟩] Tryz.func242
def M.jB(b:List aD.den):Option ((List Int)×(List Int)×List Int):=
aqH (Loop (S:=Int×(List Int)×(List Int)×List Int) (X:=(List Int)×(List Int)×List Int) (λa=>(if(ai (a.1<(b.length:Int)))then
aqH (aqH (idx b a.1) λc=>aqH ((if(ai (c.1=7))then
aqH (idx b a.1) λh=>aqH (M.lD N a.2.1 h.2) λi=>aa i
else
aa a.2.1):Option (List Int)) λf=>aqH ((if(ai (c.1=8))then
aqH (idx b a.1) λj=>aqH (M.lD N a.2.2.1 j.2) λk=>aa k
else
aa a.2.2.1):Option (List Int)) λg=>aqH (if(ai (36<=c.1))then
aa (ai (c.1<=39))
else
aa ah) λl=>(if l then
aqH (idx b a.1) λm=>aqH (M.lD N a.2.2.2 m.2) λn=>aa (f,g,n)
else
aa (f,g,a.2.2.2)):Option ((List Int)×(List Int)×List Int)) λd=>aa (.inl (aqJ.wrap (a.1+1),d.1,d.2.1,d.2.2))
else
aa (.inr (a.2.1,a.2.2.1,a.2.2.2)))) N (0,([]:List Int),([]:List Int),([]:List Int)):Option ((List Int)×(List Int)×List Int)) λe=>aa (e.1,e.2.1,e.2.2)
def ag3:Fo 169 (.i1 [.l (.slice aD)]) (.j1 [.val ah (.own 0), .val ah (.own 1), .val ah (.own 2)] [.own 3 aC, .own 3 aC, .own 3 aC] 3) (M.jB N):=fz N [ag2 N] [O,O,R ⟨[(5, .val ah (.own 96)),(6, .val ah (.own 97)),(7, .val ah (.own 98))],[(96, .own 3 aC),(97, .own 3 aC),(98, .own 3 aC)],[],99⟩,O,T,P ⟨[(5, .val ah (.own 112)),(6, .val ah (.own 113)),(7, .val ah (.own 114)),(8, .l aC)],[(112, .own 3 aC),(113, .own 3 aC),(114, .own 3 aC)],[],115⟩,O,T,R ⟨[(5, .val ah (.own 179)),(6, .val ah (.own 180)),(7, .val ah (.own 181))],[(179, .own 3 aC),(180, .own 3 aC),(181, .own 3 aC)],[112,113,114],182⟩,O,R ⟨[(5, .val ah (.own 275))],[(275, .own 3 aC)],[112],276⟩,X,R ⟨[(6, .val ah (.own 276))],[(276, .own 3 aC)],[113],277⟩,X,B 44 277] Tryz.func169
def M.nA(b:List Int)(c:Int):Option (List Int):=
aqH (Loop (S:=Bool×Int×List Int) (X:=Bool×List Int) (λa=>(if(ai (a.2.1<(b.length:Int)))then
aqH (aqH (if(!a.1)then
aqH (idx b a.2.1) λf=>aa (ai (c<=f))
else
aa ah) λg=>(if g then
aqH (aqH (idx b a.2.1) λh=>(if(ai (c<h))then
aqH (cf a.2.2 ([c]:List Int)) λi=>aa i
else
aa a.2.2):Option (List Int)) λj=>aa (af,j)
else
aa (a.1,a.2.2)):Option (Bool×List Int)) λe=>aqH (idx b a.2.1) λk=>aqH (cf e.2 ([k]:List Int)) λl=>aa (.inl (e.1,aqJ.wrap (a.2.1+1),l))
else
aa (.inr (a.1,a.2.2)))) N (ah,0,([]:List Int)):Option (Bool×List Int)) λd=>aqH ((if(!d.1)then
aqH (cf d.2 ([c]:List Int)) λm=>aa m
else
aa d.2):Option (List Int)) λn=>aa n
def abe:Fo 170 (.i1 [.l (.slice aC), .l aC]) (.w1 3 aC) (u2 (M.nA N)):=fz N [] [O,O,O,R ⟨[(5, .val ah (.own 48)),(6, .l .bool)],[(48, .own 3 aC)],[],49⟩,O,T,P ⟨[(5, .val ah (.own 64)),(6, .l .bool),(7, .l aC)],[(64, .own 3 aC)],[],65⟩,O,T,T,R ⟨[(5, .val ah (.own 129)),(6, .l .bool)],[(129, .own 3 aC)],[64],130⟩,R ⟨[(23, .l .bool)],[],[],129⟩,X,T,R ⟨[(5, .val ah (.own 129))],[(129, .own 3 aC)],[64],130⟩,X,X,X,X,X,X,X,R ⟨[(5, .val ah (.own 49))],[(49, .own 3 aC)],[48],50⟩] Tryz.func170
def M.lE(b:bg.den)(g:Int):Option (List Int):=
aqH (M.rb N b g) λh=>(if(!h)then
aa ([]:List Int)
else
Loop (S:=Int×List Int) (X:=List Int) (λa=>(if(ai (a.1<(b.2.2.2.2.length:Int)))then
aqH (aqH (aqH (idx b.2.2.2.2 a.1) λi=>(if(!ai (i.2.1=g))then
aa a.2
else
aqH (idx b.2.2.2.2 a.1) λj=>aqH (M.jB N j.2.2.2.2.2.1) λe=>aqH (idx b.2.2.2.2 a.1) λk=>aqH (M.jB N k.2.2.2.2.2.2.1) λf=>aqH (Loop (S:=Int×List Int) (X:=List Int) (λc=>(if(ai (c.1<(e.2.1.length:Int)))then
aqH (aqH (idx e.2.1 c.1) λl=>aqH (M.rb N b l) λm=>(if m then
aqH (idx e.2.1 c.1) λn=>aqH (M.nA N c.2 n) λo=>aa o
else
aa c.2):Option (List Int)) λp=>aa (.inl (aqJ.wrap (c.1+1),p))
else
aa (.inr c.2))) N (0,a.2):Option (List Int)) λq=>Loop (S:=Int×List Int) (X:=List Int) (λd=>(if(ai (d.1<(f.2.1.length:Int)))then
aqH (aqH (idx f.2.1 d.1) λr=>aqH (M.rb N b r) λs=>(if s then
aqH (idx f.2.1 d.1) λt=>aqH (M.nA N d.2 t) λu=>aa u
else
aa d.2):Option (List Int)) λv=>aa (.inl (aqJ.wrap (d.1+1),v))
else
aa (.inr d.2))) N (0,q)):Option (List Int)) λw=>aa w:Option (List Int)) λx=>aa (.inl (aqJ.wrap (a.1+1),x))
else
aa (.inr a.2))) N (0,([]:List Int)))
def W93:Fo 93 (.i1 [.g bg, .l aC]) (.w1 3 aC) (u2 (M.lE N)):=fz N [ag1 N,ag3 N,abe N] [O,O,O,T,O,T,P ⟨[(5, .val ah (.own 128)),(6, .l aC)],[(128, .own 3 aC)],[],129⟩,O,R ⟨[(5, .val ah (.own 209))],[(209, .own 3 aC)],[128],210⟩,R ⟨[(5, .val ah (.own 209))],[(209, .own 3 aC)],[128],210⟩,O,O,O,R ⟨[(5, .val ah (.own 785))],[(785, .own 3 aC)],[128],786⟩,O,T,P ⟨[(5, .val ah (.own 801)),(13, .l aC)],[(801, .own 3 aC)],[128],802⟩,O,T,R ⟨[(5, .val ah (.own 866))],[(866, .own 3 aC)],[801],867⟩,X,X,X,X,O,T,P ⟨[(5, .val ah (.own 802)),(14, .l aC)],[(802, .own 3 aC)],[785],803⟩,O,T,R ⟨[(5, .val ah (.own 867))],[(867, .own 3 aC)],[802],868⟩] Tryz.func93
def M.lF(d:bg.den)(f:Int):Option (List Int):=
aqH (M.lE N d f) λg=>Loop (S:=(List Int)×Int) (X:=List Int) (λa=>(if(ai (a.2<(d.2.2.2.1.length:Int)))then
aqH (Loop (S:=(List Int)×Int) (X:=List Int) (λb=>(if(ai (b.2<(a.1.length:Int)))then
aqH (aqH (idx a.1 b.2) λh=>aqH (M.lE N d h) λe=>Loop (S:=(List Int)×Int) (X:=List Int) (λc=>(if(ai (c.2<(e.length:Int)))then
aqH (idx e c.2) λi=>aqH (M.nA N c.1 i) λj=>aa (.inl (j,aqJ.wrap (c.2+1)))
else
aa (.inr c.1))) N (b.1,0):Option (List Int)) λk=>aa (.inl (k,aqJ.wrap (b.2+1)))
else
aa (.inr b.1))) N (a.1,0):Option (List Int)) λl=>aa (.inl (l,aqJ.wrap (a.2+1)))
else
aa (.inr a.1))) N (g,0)
def ag4:Fo 167 (.i1 [.g bg, .l aC]) (.i1 [.l (.slice aC)]) (u2 (M.lF N)):=fz N [W93 N,abe N] [O,O,T,O,T,P ⟨[(5, .l (.slice aC)),(6, .l aC)],[],[64],112⟩,O,R ⟨[(5, .l (.slice aC))],[],[],192⟩,T,O,O,T,P ⟨[(5, .l (.slice aC)),(8, .l aC)],[],[],240⟩,O,R ⟨[(5, .l (.slice aC))],[],[],304⟩,T,O,O,T,P ⟨[(5, .l (.slice aC)),(10, .l aC)],[],[],432⟩] Tryz.func167
def M.lG(c:cC.den)(a:Int):Option (aG.den):=
aqH (idx c.2.2 a) λb=>aqH (M.cy N b.1) λj=>(if(!j)then
aa (2,(3,(a,0)))
else
aqH (M.eQ N c 3 a b.1) λk=>(if k then
aa (7,(3,(a,0)))
else
aqH (if(!ai (b.2.1=(-1)))then(if(ai (b.2.1<0))then
aa af
else(if(ai (a<=b.2.1))then
aa af
else
aqH (idx c.2.2 b.2.1) λl=>aa (!ai (l.2.1=(-1)))))
else
aa ah) λm=>(if m then
aa (6,(3,(a,0)))
else(if(ai (12<(b.2.2.1.length:Int)))then
aa (4,(3,(a,112)))
else(if(ai (12<(b.2.2.2.1.length:Int)))then
aa (4,(3,(a,212)))
else
aqH (M.jA N c a) λg=>(if(!ai (g.1=0))then
aa g
else
bK (J:=Unit) (R:=aG.den) (Loop (S:=Int) (X:=Unit⊕(aG.den)) (λe=>(if(ai (e<(b.2.2.2.2.length:Int)))then
aqH (M.kh N c a e) λh=>(if(!ai (h=0))then
aa (.inr (.inr (h,(3,(a,aqJ.wrap (300+e))))))
else
aa (.inl (aqJ.wrap (e+1))))
else
aa (.inr (.inl ())))) N 0) λo=>bK (J:=Unit) (R:=aG.den) (Loop (S:=Int) (X:=Unit⊕(aG.den)) (λd=>(if(ai (d<(b.2.2.2.1.length:Int)))then
bK (J:=Unit) (R:=Int⊕(Unit⊕(aG.den))) (aqH (M.lF N b d) λi=>Loop (S:=Int) (X:=Unit⊕(Int⊕(Unit⊕(aG.den)))) (λf=>(if(ai (f<(i.length:Int)))then
aqH (idx i f) λn=>(if(ai (n=d))then
aa (.inr (.inr (.inr (.inr (9,(3,(a,aqJ.wrap (200+d))))))))
else
aa (.inl (aqJ.wrap (f+1))))
else
aa (.inr (.inl ())))) N 0) λp=>aa (.inl (aqJ.wrap (d+1)))
else
aa (.inr (.inl ())))) N 0) λq=>aa (0,(0,(0,0)))))))))
def W92:Fo 92 (.i1 [.g cC, .l aC]) (.i1 [.g aG]) (u2 (M.lG N)):=fz N [Qw N,XY N,agM N,ag0 N,ag4 N] [O,O,O,O,O,T,B 56 352,O,O,O,O,E 608,O,T,L 8 624,X,X,E 608,O,T,L 10 624,O,E 704,T,O,O,T,L 12 784] Tryz.func92
def M.nB(a:cC.den):Option (aG.den):=
(if(ai (8<(a.1.length:Int)))then
aa (4,(1,(8,0)))
else
bK (J:=Unit) (R:=aG.den) (Loop (S:=Int) (X:=Unit⊕(aG.den)) (λb=>(if(ai (b<(a.1.length:Int)))then
aqH (M.mE N a b) λe=>(if(!ai (e.1=0))then
aa (.inr (.inr e))
else
aa (.inl (aqJ.wrap (b+1))))
else
aa (.inr (.inl ())))) N 0) λh=>(if(ai (8<(a.2.1.length:Int)))then
aa (4,(2,(8,0)))
else
bK (J:=Unit) (R:=aG.den) (Loop (S:=Int) (X:=Unit⊕(aG.den)) (λc=>(if(ai (c<(a.2.1.length:Int)))then
aqH (M.lA N a c) λf=>(if(!ai (f.1=0))then
aa (.inr (.inr f))
else
aa (.inl (aqJ.wrap (c+1))))
else
aa (.inr (.inl ())))) N 0) λi=>(if(ai (4<(a.2.2.length:Int)))then
aa (4,(3,(4,0)))
else
bK (J:=Unit) (R:=aG.den) (Loop (S:=Int) (X:=Unit⊕(aG.den)) (λd=>(if(ai (d<(a.2.2.length:Int)))then
aqH (M.lG N a d) λg=>(if(!ai (g.1=0))then
aa (.inr (.inr g))
else
aa (.inl (aqJ.wrap (d+1))))
else
aa (.inr (.inl ())))) N 0) λj=>aa (0,(0,(0,0))))))
def W51:Fo 51 (.i1 [.g cC]) (.i1 [.g aG]) (M.nB N):=fz N [W90 N,W91 N,W92 N] [O,O,E 96,O,T,L 3 112,X,X,O,E 160,O,T,L 5 176,X,X,O,E 224,O,T,L 7 240] Tryz.func51
def M.ov(a:cC.den):Option Bool:=
aqH (M.nB N a) λb=>aa (ai (b.1=0))
def W26:Fo 26 (.i1 [.g cC]) (.i1 [.l .bool]) (M.ov N):=fz N [W51 N] [] Tryz.func26
def M.vg(N:Nat)(a:aE.den):Option (aD.den):=
aa (a.1,a.2.1)
def ag5:Fo 216 (.i1 [.g aE]) (.i1 [.g aD]) (M.vg N):=fz N [] [] Tryz.func216
def M.nC(d:cC.den)(c:List bG.den)(b:List aE.den):Option (Int×Int):=
(if(ai ((b.length:Int)<(c.length:Int)))then
aa ((b.length:Int),5)
else(if(ai ((c.length:Int)<(b.length:Int)))then
aa ((c.length:Int),4)
else
Loop (S:=Int) (X:=Int×Int) (λa=>(if(ai (a<(b.length:Int)))then
aqH (idx b a) λe=>aqH (M.vg N e) λf=>aqH (idx c a) λg=>(if(!(o6 aD f g.2))then
aa (.inr (a,8))
else
aqH (idx b a) λh=>aqH (idx c a) λi=>aqH (M.pT N h.2.2 i.2 d.1) λj=>(if(!j)then
aa (.inr (a,3))
else
aa (.inl (aqJ.wrap (a+1)))))
else
aa (.inr (0,0)))) N 0))
def ag6:Fo 145 (.i1 [.g cC, .l (.slice bG), .l (.slice aE)]) (.i1 [.l aC, .l aC]) (u3 (M.nC N)):=fz N [ag5 N,abc N] [O,O,O,T,O,T,L 8 224] Tryz.func145
def M.qI(N:Nat)(b:cC.den)(c:Int):Option (Int×Int):=
aqH (idx b.2.2 c) λa=>aqH (if(ai (a.2.1<0))then
aa af
else
aa (ai ((b.2.2.length:Int)<=a.2.1))) λd=>(if d then
aa ((-1),0)
else
aa (a.2.1,8))
def ag7:Fo 146 (.i1 [.g cC, .l aC]) (.i1 [.l aC, .l aC]) (u2 (M.qI N)):=fz N [] [O,O,T,B 21 160] Tryz.func146
def M.nD(a:cC.den)(c:Int)(b:gO.den):Option (Int×Int×Int):=
aqH (if(ai (c<0))then
aa af
else
aa (ai ((a.2.2.length:Int)<=c))) λh=>(if h then
aa ((-1),(-1),6)
else
aqH (if(ai (b.1<0))then
aa af
else
aa (ai (109572<b.1))) λi=>(if i then
aa ((-1),(-1),3)
else
aqH (idx a.2.2 c) λj=>aqH (M.nC N a j.2.2.1 b.2.1) λe=>(if(!ai (e.2=0))then
aa ((-1),e.1,e.2)
else
aqH (M.qI N a c) λf=>(if(ai (f.2<(b.2.2.length:Int)))then
aa (f.2,(-1),4)
else
Loop (S:=Int) (X:=Int×Int×Int) (λd=>(if(ai (d<(b.2.2.length:Int)))then
aqH (idx a.2.2 f.1) λk=>aqH (idx b.2.2 d) λl=>aqH (M.nC N a k.2.2.1 l) λg=>(if(!ai (g.2=0))then
aa (.inr (d,g.1,g.2))
else
aa (.inl (aqJ.wrap (d+1))))
else
aa (.inr (0,0,0)))) N 0))))
def W78:Fo 78 (.i1 [.g cC, .l aC, .g gO]) (.i1 [.l aC, .l aC, .l aC]) (u3 (M.nD N)):=fz N [ag6 N,ag7 N] [O,T,B 24 80,T,B 32 80,O,O,O,O,T,O,T,L 13 576] Tryz.func78
def M.pU(a:cC.den)(b:Int)(e:gO.den)(d:Int)(f:Bool):Option (aG.den):=
aqH (M.ov N a) λg=>(if(!g)then
aa (1,((-1),((-1),(-1))))
else
aqH (if(ai (b<0))then
aa af
else(if(ai ((a.2.2.length:Int)<=b))then
aa af
else(if f then(if(ai (d<0))then
aa af
else
aqH (idx a.2.2 b) λh=>aa (ai ((h.2.2.2.1.length:Int)<=d)))
else
aa ah))) λi=>(if i then
aa (6,((-1),((-1),(-1))))
else
aqH (M.nD N a b e) λc=>(if(!ai (c.2.2=0))then
aa (c.2.2,(c.1,((-1),(-1))))
else
aa (0,(0,(0,0))))))
def W41:Fo 41 (.i1 [.g cC, .l aC, .g gO, .l aC, .l .bool]) (.i1 [.g aG]) (u5 (M.pU N)):=fz N [W26 N,W78 N] [O,O,T,B 44 96] Tryz.func41
def M.gy(N:Nat)(b:cC.den)(d:Int):Option (ByteArray×Int×(List bG.den)×(List bG.den)×List cm.den):=
aqH (idx b.2.2 d) λc=>aqH (if(ai (c.2.1<0))then
aa af
else
aa (ai ((b.2.2.length:Int)<=c.2.1))) λe=>(if e then
aa (ByteArray.empty,0,([]:List bG.den),([]:List bG.den),([]:List cm.den))
else
aqH (idx b.2.2 c.2.1) λa=>aa (a.1,a.2.1,a.2.2.1,a.2.2.2.1,a.2.2.2.2))
def W44:Fo 44 (.i1 [.g cC, .l aC]) (.i1 [.val af (.pair (.leaf .str) (.pair (.leaf aC) (.pair (.leaf (.slice bG)) (.pair (.leaf (.slice bG)) (.leaf (.slice cm))))))]) (u2 (M.gy N)):=fz N [] [O,O,T,B 20 144] Tryz.func44
def M.rc(b:List Int)(c:Int):Option Bool:=
Loop (S:=Int) (X:=Bool) (λa=>(if(ai (a<(b.length:Int)))then
aqH (idx b a) λd=>(if(ai (d=c))then
aa (.inr af)
else
aa (.inl (aqJ.wrap (a+1))))
else
aa (.inr ah))) N 0
def W52:Fo 52 (.i1 [.l (.slice aC), .l aC]) (.i1 [.l .bool]) (u2 (M.rc N)):=fz N [] [O,T,O,T,L 5 32] Tryz.func52
def M.qm(c:bg.den)(d:Int)(e:List Int):Option Bool:=
aqH (M.lE N c d) λb=>Loop (S:=Int) (X:=Bool) (λa=>(if(ai (a<(b.length:Int)))then
aqH (idx b a) λf=>aqH (M.rc N e f) λg=>(if(!g)then
aa (.inr ah)
else
aa (.inl (aqJ.wrap (a+1))))
else
aa (.inr af))) N 0
def W53:Fo 53 (.i1 [.g bg, .l aC, .l (.slice aC)]) (.i1 [.l .bool]) (u3 (M.qm N)):=fz N [W52 N,W93 N] [O,O,T,O,T,L 8 112] Tryz.func53
def M.iE(c:bg.den):Option (Int×List Int):=
Loop (S:=List Int) (X:=Int×List Int) (λa=>(if(ai ((a.length:Int)<(c.2.2.2.1.length:Int)))then
aqH (Loop (S:=Int) (X:=Int) (λb=>aqH (if(ai (b<(c.2.2.2.1.length:Int)))then
aqH (M.rc N a b) λe=>(if e then
aa af
else
aqH (M.qm N c b a) λf=>aa (!f))
else
aa ah) λg=>(if g then
aa (.inl (aqJ.wrap (b+1)))
else
aa (.inr b))) N 0:Option Int) λd=>(if(ai (d=(c.2.2.2.1.length:Int)))then
aa (.inr (9,([]:List Int)))
else
aqH (cf a ([d]:List Int)) λh=>aa (.inl h))
else
aa (.inr (0,a)))) N ([]:List Int)
def W27:Fo 27 (.i1 [.g bg]) (.j1 [.val ah (.own 0), .l aC] [.own 3 aC] 1) (M.iE N):=fz N [W52 N,W53 N] [O,O,T,T,P ⟨[(4, .val ah (.own 64))],[(64, .own 3 aC)],[],65⟩,O,T,O,R ⟨[(5, .l aC)],[],[],177⟩,T,L 5 177,T,B 28 177] Tryz.func27
def M.rN(b:List aD.den):Option (Int×List Int):=
aqH (M.iK N b) λa=>aa (a.2.1,a.2.2)
def W97:Fo 97 (.i1 [.l (.slice aD)]) (.j1 [.val ah (.own 0), .l aC] [.own 3 aC] 1) (M.rN N):=fz N [XZ N] [] Tryz.func97
def M.nE(c:List aD.den)(b:Int):Option (List Int):=
aqH (M.iK N c) λd=>aqH (if(!ai (d.2.1=0))then
aa af
else(if(ai (b<0))then
aa af
else
aa (ai ((c.length:Int)<=b)))) λf=>(if f then
aa ([]:List Int)
else
aqH (idx c b) λg=>aqH (M.gQ N g.1) λe=>aqH (ol e 0) λh=>Loop (S:=Int×Int×List Int) (X:=List Int) (λa=>(if(ai (0<=a.2.1))then
aqH (idx a.2.2 a.2.1) λj=>aqH (idx d.2.2 a.1) λi=>aa (.inl (aqJ.wrap (i-1),aqJ.wrap (a.2.1-1),bn a.2.2 a.2.1 a.1))
else
aa (.inr a.2.2))) N (aqJ.wrap (b-1),aqJ.wrap (e-1),h))
def ag9:Fo 174 (.i1 [.l (.slice aD), .l aC]) (.w1 3 aC) (u2 (M.nE N)):=fz N [XZ N,Ur N] [O,O,T,B 29 160,O,O,O,T,O,T,P ⟨[(10, .l aC),(11, .l aC)],[(288, .own 3 aC)],[],417⟩] Tryz.func174
def M.lH(N:Nat)(a:Int):Option (Int×Int):=
(if(ai (a=1))then
aa (0,1)
else(if(ai (a=2))then
aa ((-1000000000000),1000000000000)
else(if(ai (a=3))then
aa ((-1000000000000000),1000000000000000)
else(if(ai (a=4))then
aa ((-1000000000),1000000000)
else(if(ai (a=5))then
aa (0,109572)
else(if(ai (a=6))then
aa (0,15)
else
aa (0,(-1))))))))
def abf:Fo 327 (.i1 [.l aC]) (.i1 [.l aC, .l aC]) (M.lH N):=fz N [] [] Tryz.func327
def M.cE(a:aE.den):Option Bool:=
aqH (M.lH N a.1) λb=>aqH (if(ai (a.2.2<b.1))then
aa af
else
aa (ai (b.2<a.2.2))) λc=>(if c then
aa ah
else(if(ai (a.1=6))then
aqH (if(ai (0<=a.2.1))then
aa (ai (a.2.1<8))
else
aa ah) λd=>aa d
else
aa (ai (a.2.1=0))))
def Np:Fo 298 (.i1 [.g aE]) (.i1 [.l .bool]) (M.cE N):=fz N [abf N] [O,O,T,B 20 160,T,O,T,B 2 208] Tryz.func298
def M.mq(N:Nat)(a:Int):Option Bool:=
aqH (if(ai (1<=a))then(if(ai (a<=8))then
aa af
else(if(ai (36<=a))then
aa (ai (a<=39))
else
aa ah))
else(if(ai (36<=a))then
aa (ai (a<=39))
else
aa ah)) λb=>(if b then
aa af
else
aqH (if(ai (a=14))then
aa af
else(if(ai (a=15))then
aa af
else(if(ai (a=16))then
aa af
else(if(ai (a=33))then
aa af
else
aa (ai (a=34)))))) λc=>aa c)
def aha:Fo 328 (.i1 [.l aC]) (.i1 [.l .bool]) (M.mq N):=fz N [] [O,T,B 16 16,B 2 16] Tryz.func328
def M.lI(a:aD.den)(b:Int):Option Bool:=
aqH (aqH (M.gQ N a.1) λc=>(if(!ai (c=b))then
aa af
else(if(!ai (a.2=0))then
aqH (M.mq N a.1) λd=>aa (!d)
else
aa ah)):Option Bool) λe=>(if e then
aa ah
else
aqH (if(ai (a.1=14))then
aa (ai (a.1=14))
else(if(ai (a.1=15))then
aa (ai (a.1=15))
else
aa (ai (a.1=16)))) λf=>(if f then
aqH (if(ai (0<=a.2))then
aa (ai (a.2<=5))
else
aa ah) λg=>aa g
else(if(ai (a.1=34))then
aqH (if(ai (0<=a.2))then
aa (ai ((aqY a.2 8)<=5))
else
aa ah) λh=>aa h
else(if(ai (a.1=6))then
aa (ai (0<=a.2))
else
aa af))))
def ahb:Fo 299 (.i1 [.g aD, .l aC]) (.i1 [.l .bool]) (u2 (M.lI N)):=fz N [Ur N,aha N] [O,T,B 20 32,T,O,T,R ⟨[(23, .l .bool)],[],[],64⟩,X,T,B 4 64,O,T,B 4 96] Tryz.func299
def M.oO(N:Nat)(a:aD.den)(b:bR.den):Option Bool:=
(if(ai (a.1=7))then
aqH (if(ai (0<=a.2))then
aa (ai (a.2<(b.2.1.length:Int)))
else
aa ah) λc=>aa c
else(if(ai (a.1=8))then
aqH (if(ai (0<=a.2))then(if(ai (a.2<(b.2.2.1.length:Int)))then
aqH (idx b.2.2.1 a.2) λd=>aa (!ai (d.1=0))
else
aa ah)
else
aa ah) λe=>aa e
else(if(ai (a.1=33))then
aqH (if(ai (0<=a.2))then
aa (ai (a.2<(b.2.2.2.2.2.length:Int)))
else
aa ah) λf=>aa f
else(if(ai (a.1=34))then
aa (ai ((aqJ.wrap (aqW a.2 8))<(b.2.2.2.2.2.length:Int)))
else
aqH (if(ai (a.1=36))then
aa (ai (a.1=36))
else(if(ai (a.1=37))then
aa (ai (a.1=37))
else(if(ai (a.1=38))then
aa (ai (a.1=38))
else
aa (ai (a.1=39))))) λg=>(if g then
aqH (if(ai (0<=a.2))then
aa (ai (a.2<(b.2.2.2.2.1.length:Int)))
else
aa ah) λh=>aa h
else
aa af)))))
def ahc:Fo 300 (.i1 [.g aD, .g bR]) (.i1 [.l .bool]) (u2 (M.oO N)):=fz N [] [O,T,O,T,O,T,B 4 112,O,T,B 4 144,O,T,B 4 176,O,O,R ⟨[(65, .l .bool)],[],[],208⟩,X,T,B 4 208] Tryz.func300
def M.ow(N:Nat)(b:Int)(a:aD.den):Option Bool:=
(if(!ai (a.2=0))then
aa ah
else(if(ai (b=36))then
aqH (if(ai (a.1=2))then
aa af
else
aa (ai (a.1=3))) λc=>aa c
else(if(ai (b=39))then
aqH (if(ai (2<=a.1))then
aa (ai (a.1<=5))
else
aa ah) λd=>aa d
else
aa (ai (a.1=1)))))
def ahd:Fo 329 (.i1 [.l aC, .g aD]) (.i1 [.l .bool]) (u2 (M.ow N)):=fz N [] [O,O,T,O,T,O,T,B 4 128,O,T,B 4 160] Tryz.func329
def M.uf(a:aE.den)(b:aD.den):Option Bool:=
aqH (aqH (M.cE N a) λc=>(if c then(if(ai (a.1=b.1))then
aa (ai (a.2.1=b.2))
else
aa ah)
else
aa ah):Option Bool) λd=>aa d
def ahe:Fo 330 (.i1 [.g aE, .g aD]) (.i1 [.l .bool]) (u2 (M.uf N)):=fz N [Np N] [O,B 4 48] Tryz.func330
def M.rO(N:Nat)(c:Int)(a:Int)(b:Int)(d:Bool):Option Int:=
(if(ai (c=36))then
aa (aqJ.wrap (a+b))
else(if(ai (c=37))then
aa (aqJ.wrap (a*b))
else(if(ai (c=38))then(if(ai (a<b))then
aa b
else
aa a)
else
aqH (if d then
aa af
else
aa (ai (a<b))) λe=>(if e then
aa b
else
aa a))))
def ahf:Fo 331 (.i1 [.l aC, .l aC, .l aC, .l .bool]) (.i1 [.l aC]) (u4 (M.rO N)):=fz N [] [O,O,T,B 32 128] Tryz.func331
def M.dm(a:Int)(b:Int):Option (aE.den×Int):=
aqH (M.cE N (a,(0,b))) λc=>(if(!c)then
aa ((0,(0,0)),3)
else
aa ((a,(0,b)),0))
def Jj:Fo 332 (.i1 [.l aC, .l aC]) (.i1 [.g aE, .l aC]) (u2 (M.dm N)):=fz N [Np N] [] Tryz.func332
def M.ox(a:aD.den)(c:bR.den):Option (aE.den×Int):=
aqH (idx c.2.2.2.2.1 a.2) λd=>aqH (M.ow N a.1 d) λi=>(if(!i)then
aa ((0,(0,0)),8)
else
aqH ((if(ai (a.1=37))then
aa 1
else
aa 0):Option Int) λj=>bK (J:=Int) (R:=aE.den×Int) (Loop (S:=Int×Int) (X:=Int⊕(aE.den×Int)) (λb=>(if(ai (b.2<(c.2.2.2.1.length:Int)))then
aqH (idx c.2.2.2.1 b.2) λe=>aqH (if(ai ((e.length:Int)<=a.2))then
aa af
else
aqH (idx e a.2) λk=>aa (ai (k.1=0))) λl=>(if l then
aa (.inr (.inr ((0,(0,0)),6)))
else
aqH (idx e a.2) λm=>aqH (M.uf N m d) λn=>(if(!n)then
aa (.inr (.inr ((0,(0,0)),8)))
else
aqH (idx e a.2) λo=>aqH (M.rO N a.1 b.1 o.2.2 (ai (b.2=0))) λf=>aqH (M.dm N d.1 f) λg=>(if(!ai (g.2=0))then
aa (.inr (.inr ((0,(0,0)),g.2)))
else
aa (.inl (f,aqJ.wrap (b.2+1))))))
else
aa (.inr (.inl b.1)))) N (j,0)) λp=>aqH (if(ai (a.1=39))then
aa (ai ((c.2.2.2.1.length:Int)=0))
else
aa ah) λq=>(if q then
aa ((0,(0,0)),6)
else
aqH (M.dm N d.1 p) λh=>aa (h.1,h.2)))
def ahg:Fo 301 (.i1 [.g aD, .g bR]) (.i1 [.g aE, .l aC]) (u2 (M.ox N)):=fz N [ahd N,ahe N,ahf N,Jj N] [O,O,O,O,R ⟨[(7, .l aC)],[],[],288⟩,X,J ⟨[(7, .l aC)],[],[],288⟩,O,T,P ⟨[(7, .l aC),(8, .l aC)],[],[],304⟩,O,T,T,O,T,B 52 480,X,X,X,X,T,B 94 288] Tryz.func301
def M.dc(a:aD.den)(b:bR.den):Option (aE.den×Int):=
(if(ai (a.1=7))then
aqH (idx b.2.1 a.2) λf=>aqH (M.cE N f) λg=>(if(!g)then
aa ((0,(0,0)),8)
else
aqH (idx b.2.1 a.2) λh=>aa (h,0))
else(if(ai (a.1=8))then
aqH (idx b.2.2.1 a.2) λi=>aqH (M.cE N i) λj=>(if(!j)then
aa ((0,(0,0)),8)
else
aqH (idx b.2.2.1 a.2) λk=>aa (k,0))
else(if(ai (a.1=9))then
aqH (M.dm N 5 b.1) λc=>aa (c.1,c.2)
else(if(ai (a.1=35))then
aqH (M.dm N 2 (b.2.2.2.1.length:Int)) λd=>aa (d.1,d.2)
else(if(ai (a.1=6))then
aqH (M.cE N (6,(aqJ.wrap (aqW a.2 16),aqY a.2 16))) λl=>(if(!l)then
aa ((0,(0,0)),3)
else
aa ((6,(aqJ.wrap (aqW a.2 16),aqY a.2 16)),0))
else
aqH (M.dm N a.1 a.2) λe=>aa (e.1,e.2))))))
def ahh:Fo 302 (.i1 [.g aD, .g bR]) (.i1 [.g aE, .l aC]) (u2 (M.dc N)):=fz N [Np N,Jj N] [] Tryz.func302
def M.dD(N:Nat)(a:Int):Option Bool:=
aqH (if(ai (a=2))then
aa af
else(if(ai (a=3))then
aa af
else
aa (ai (a=4)))) λb=>aa b
def abg:Fo 333 (.i1 [.l aC]) (.i1 [.l .bool]) (M.dD N):=fz N [] [O,B 2 16] Tryz.func333
def M.gj(N:Nat)(a:Bool):Option (aE.den×Int):=
aqH ((if a then
aa 1
else
aa 0):Option Int) λb=>aa ((1,(0,b)),0)
def abh:Fo 334 (.i1 [.l .bool]) (.i1 [.g aE, .l aC]) (M.gj N):=fz N [] [O,O,R ⟨[(4, .l aC)],[],[],48⟩] Tryz.func334
def M.k9(N:Nat)(a:Int):Option Bool:=
aqH (if(ai (0<=a))then
aa (ai (a<=109572))
else
aa ah) λb=>aa b
def X1:Fo 354 (.i1 [.l aC]) (.i1 [.l .bool]) (M.k9 N):=fz N [] [O,B 2 16] Tryz.func354
def M.pw(N:Nat)(a:Int):Option Bool:=
aqH (if(ai ((aqY a 4)=0))then(if(!ai ((aqY a 100)=0))then
aa af
else
aa (ai ((aqY a 400)=0)))
else
aa ah) λb=>aa b
def abi:Fo 376 (.i1 [.l aC]) (.i1 [.l .bool]) (M.pw N):=fz N [] [O,B 2 16] Tryz.func376
def M.gW(a:Int):Option Int:=
aqH (M.pw N a) λb=>(if b then
aa 366
else
aa 365)
def abj:Fo 355 (.i1 [.l aC]) (.i1 [.l aC]) (M.gW N):=fz N [abi N] [] Tryz.func355
def M.eC(b:Int)(a:Int):Option Int:=
(if(ai (a=2))then
aqH (M.pw N b) λc=>(if c then
aa 29
else
aa 28)
else
aqH (if(ai (a=4))then
aa (ai (a=4))
else(if(ai (a=6))then
aa (ai (a=6))
else(if(ai (a=9))then
aa (ai (a=9))
else
aa (ai (a=11))))) λd=>(if d then
aa 30
else
aqH (if(ai (a=1))then
aa (ai (a=1))
else(if(ai (a=3))then
aa (ai (a=3))
else(if(ai (a=5))then
aa (ai (a=5))
else(if(ai (a=7))then
aa (ai (a=7))
else(if(ai (a=8))then
aa (ai (a=8))
else(if(ai (a=10))then
aa (ai (a=10))
else
aa (ai (a=12)))))))) λe=>(if e then
aa 31
else
aa 0)))
def X2:Fo 356 (.i1 [.l aC, .l aC]) (.i1 [.l aC]) (u2 (M.eC N)):=fz N [abi N] [O,T,O,T,O,O,R ⟨[(10, .l .bool)],[],[],64⟩,X,O,B 15 64] Tryz.func356
def M.jJ(d:Int):Option (Int×Int×Int):=
aqH (M.k9 N d) λf=>(if(!f)then
aa (0,0,0)
else
aqH (Loop (S:=Int×Int) (X:=Int×Int) (λa=>aqH (M.gW N a.2) λg=>(if(ai (g<=a.1))then
aqH (M.gW N a.2) λh=>aa (.inl (aqJ.wrap (a.1-h),aqJ.wrap (a.2+1)))
else
aa (.inr (a.1,a.2)))) N (d,1900):Option (Int×Int)) λc=>aqH (Loop (S:=Int×Int) (X:=Int×Int) (λb=>aqH (M.eC N c.2 b.2) λi=>(if(ai (i<=b.1))then
aqH (M.eC N c.2 b.2) λj=>aa (.inl (aqJ.wrap (b.1-j),aqJ.wrap (b.2+1)))
else
aa (.inr (b.1,b.2)))) N (c.1,1):Option (Int×Int)) λe=>aa (c.2,e.2,aqJ.wrap (e.1+1)))
def abk:Fo 335 (.i1 [.l aC]) (.i1 [.l aC, .l aC, .l aC]) (M.jJ N):=fz N [X1 N,abj N,X2 N] [O,O,O,R ⟨[(0, .l aC),(5, .l aC)],[],[],128⟩,T,P ⟨[(0, .l aC),(5, .l aC)],[],[],128⟩,X,X,R ⟨[(0, .l aC),(6, .l aC)],[],[],128⟩,T,P ⟨[(0, .l aC),(6, .l aC)],[],[],128⟩] Tryz.func335
def M.ir(a:aD.den)(b:Int):Option Bool:=
aqH (aqH (M.jI N a) λc=>(if c then(if(ai (a.1<=b))then
aa (ai (b<a.2))
else
aa ah)
else
aa ah):Option Bool) λd=>aa d
def W94:Fo 94 (.i1 [.g aD, .l aC]) (.i1 [.l .bool]) (u2 (M.ir N)):=fz N [Uq N] [O,B 4 32] Tryz.func94
def M.oy(a:fT.den)(c:Int)(b:Int):Option Bool:=
aqH (aqH (M.ir N a.1 c) λd=>(if d then(if(ai (a.2.1<=b))then
aa (ai (b<a.2.2.1))
else
aa ah)
else
aa ah):Option Bool) λe=>aa e
def ahj:Fo 377 (.i1 [.g fT, .l aC, .l aC]) (.i1 [.l .bool]) (u3 (M.oy N)):=fz N [W94 N] [O,B 6 32] Tryz.func377
def M.nF(b:aP.den)(c:Int)(d:Int):Option (Int×Bool):=
Loop (S:=Int) (X:=Int×Bool) (λa=>(if(ai (a<(b.2.2.2.length:Int)))then
aqH (idx b.2.2.2 a) λe=>aqH (M.oy N e c d) λf=>(if f then
aa (.inr (a,af))
else
aa (.inl (aqJ.wrap (a+1))))
else
aa (.inr (0,ah)))) N 0
def ahk:Fo 357 (.i1 [.g aP, .l aC, .l aC]) (.i1 [.l aC, .l .bool]) (u3 (M.nF N)):=fz N [ahj N] [O,T,O,T,L 8 64] Tryz.func357
def M.rP(a:aP.den)(e:Int)(b:aE.den):Option (aE.den×Int):=
aqH (if(!ai (b.1=a.2.1.1))then
aa af
else(if(!ai (b.2.1=a.2.1.2))then
aa af
else(if(ai (a.2.2.1.1<1))then
aa af
else
aa (ai (6<a.2.2.1.1))))) λf=>(if f then
aa ((0,(0,0)),8)
else
aqH (M.nF N a e b.2.2) λc=>(if(!c.2)then
aa ((0,(0,0)),6)
else
aqH (idx a.2.2.2 c.1) λd=>aqH (M.cE N (a.2.2.1.1,(a.2.2.1.2,d.2.2.2))) λg=>(if(!g)then
aa ((0,(0,0)),3)
else
aa ((a.2.2.1.1,(a.2.2.1.2,d.2.2.2)),0))))
def ahl:Fo 336 (.i1 [.g aP, .l aC, .g aE]) (.i1 [.g aE, .l aC]) (u3 (M.rP N)):=fz N [Np N,ahk N] [O,T,B 36 64] Tryz.func336
def M.mM(N:Nat)(a:Int):Option Bool:=
aqH (if(ai (0<=a))then
aa (ai (a<=5))
else
aa ah) λb=>aa b
def Us:Fo 358 (.i1 [.l aC]) (.i1 [.l .bool]) (M.mM N):=fz N [] [O,B 2 16] Tryz.func358
def M.dY(N:Nat)(a:Int)(b:Int):Option Bool:=
aqH (if(ai (b<a))then
aa af
else
aa (ai (a<(aqJ.wrap (0-b))))) λc=>aa c
def Ut:Fo 359 (.i1 [.l aC, .l aC]) (.i1 [.l .bool]) (u2 (M.dY N)):=fz N [] [O,B 4 16] Tryz.func359
def M.jR(N:Nat)(b:Int)(c:Int):Option (Int×Int×Bool):=
aqH ((if(ai (c<0))then
aa (aqP.wrap ((aqP.wrap (aqJ.wrap (0-(aqJ.wrap (c+1)))))+1))
else
aa (aqP.wrap c)):Option Int) λa=>aqH (if(ai (0<(aqJ.wrap (aqP.wrap (aqW a 1000000)))))then
aqH (nU 1000000000000000 (aqJ.wrap (aqP.wrap (aqW a 1000000)))) λd=>aa (ai ((aqJ.wrap d)<b))
else
aa ah) λe=>(if e then
aa (0,0,ah)
else(if(ai (1000000000000000<(aqJ.wrap ((aqJ.wrap ((aqJ.wrap (b*(aqJ.wrap (aqP.wrap (aqW a 1000000)))))+(aqJ.wrap ((aqJ.wrap (aqW b 1000000))*(aqJ.wrap (aqY a 1000000))))))+(aqJ.wrap (aqW (aqJ.wrap ((aqY b 1000000)*(aqJ.wrap (aqY a 1000000)))) 1000000))))))then
aa (0,0,ah)
else(if(ai (c<0))then
aa (aqJ.wrap (0-(aqJ.wrap ((aqJ.wrap ((aqJ.wrap (b*(aqJ.wrap (aqP.wrap (aqW a 1000000)))))+(aqJ.wrap ((aqJ.wrap (aqW b 1000000))*(aqJ.wrap (aqY a 1000000))))))+(aqJ.wrap (aqW (aqJ.wrap ((aqY b 1000000)*(aqJ.wrap (aqY a 1000000)))) 1000000))))),aqJ.wrap (0-(aqY (aqJ.wrap ((aqY b 1000000)*(aqJ.wrap (aqY a 1000000)))) 1000000)),af)
else
aa (aqJ.wrap ((aqJ.wrap ((aqJ.wrap (b*(aqJ.wrap (aqP.wrap (aqW a 1000000)))))+(aqJ.wrap ((aqJ.wrap (aqW b 1000000))*(aqJ.wrap (aqY a 1000000))))))+(aqJ.wrap (aqW (aqJ.wrap ((aqY b 1000000)*(aqJ.wrap (aqY a 1000000)))) 1000000))),aqY (aqJ.wrap ((aqY b 1000000)*(aqJ.wrap (aqY a 1000000)))) 1000000,af))))
def ahm:Fo 360 (.i1 [.l aC, .l aC]) (.i1 [.l aC, .l aC, .l .bool]) (u2 (M.jR N)):=fz N [] [O,O,R ⟨[(7, .l (.int .u64))],[],[],96⟩,X,O,T,B 34 224] Tryz.func360
def M.gR(N:Nat)(c:Int)(a:Int)(d:Int)(e:Bool)(b:Int):Option Int:=
aqH (if(ai (b=0))then(if e then
aa (ai (0<a))
else
aa ah)
else(if(ai (b=1))then(if(!e)then
aa (ai (0<a))
else
aa ah)
else(if(ai (b=3))then
aa (ai (0<a))
else(if(ai (b=4))then
aa (ai ((aqJ.wrap (d-a))<=a))
else(if(ai (b=5))then(if(ai ((aqJ.wrap (d-a))<a))then
aa af
else(if(ai (a=(aqJ.wrap (d-a))))then
aa (ai ((aqY c 2)=1))
else
aa ah))
else
aa ah))))) λg=>aqH ((if g then
aa (aqJ.wrap (c+1))
else
aa c):Option Int) λf=>(if e then
aa (aqJ.wrap (0-f))
else
aa f)
def Uu:Fo 378 (.i1 [.l aC, .l aC, .l aC, .l .bool, .l aC]) (.i1 [.l aC]) (u5 (M.gR N)):=fz N [] [O,O,T,O,B 11 48,R ⟨[(0, .l aC)],[],[],48⟩] Tryz.func378
def M.oz(f:Int)(g:Int)(d:Int):Option Int:=
aqH (Loop (S:=Int×Int) (X:=Int×Int) (λb=>(if(ai (b.2<0))then
aa (.inl (aqJ.wrap (b.1-1),aqJ.wrap (b.2+1000000)))
else
aa (.inr (b.1,b.2)))) N (f,g):Option (Int×Int)) λe=>aqH (Loop (S:=Int×Int) (X:=Int×Int) (λc=>(if(ai (1000000<=c.2))then
aa (.inl (aqJ.wrap (c.1+1),aqJ.wrap (c.2-1000000)))
else
aa (.inr (c.1,c.2)))) N (e.1,e.2):Option (Int×Int)) λa=>(if(ai (0<=a.1))then
aqH (M.gR N a.1 a.2 1000000 ah d) λh=>aa h
else(if(ai (a.2=0))then
aa a.1
else
aqH (M.gR N (aqJ.wrap ((aqJ.wrap (0-a.1))-1)) (aqJ.wrap (1000000-a.2)) 1000000 af d) λi=>aa i))
def ahn:Fo 361 (.i1 [.l aC, .l aC, .l aC]) (.i1 [.l aC]) (u3 (M.oz N)):=fz N [Uu N] [O,R ⟨[(0, .l aC),(1, .l aC)],[],[],16⟩,T,P ⟨[(0, .l aC),(1, .l aC)],[],[],16⟩,X,X,R ⟨[(0, .l aC),(1, .l aC)],[],[],16⟩,T,P ⟨[(0, .l aC),(1, .l aC)],[],[],16⟩] Tryz.func361
def M.nG(b:aP.den)(k:Int)(c:Int)(g:Int):Option (Int×Int):=
aqH (M.mM N g) λl=>(if(!l)then
aa (0,1)
else
aqH (if(!(o6 aD b.2.1 (3,0)))then
aa af
else
aa (!(o6 aD b.2.2.1 (4,0)))) λm=>(if m then
aa (0,8)
else
aqH (M.dY N c 1000000000000000) λn=>(if n then
aa (0,3)
else
bK (J:=Int×Int) (R:=Int×Int) (Loop (S:=Int×Int×Int) (X:=(Int×Int)⊕(Int×Int)) (λa=>(if(ai (a.2.2<(b.2.2.2.length:Int)))then
bK (J:=Int×Int) (R:=(Int×Int×Int)⊕((Int×Int)⊕(Int×Int))) (aqH (idx b.2.2.2 a.2.2) λd=>aqH (idx b.2.2.2 a.2.2) λe=>aqH (if(ai ((if c<e.2.2.1 then c else e.2.2.1)<=(if d.2.1<0 then 0 else d.2.1)))then
aa af
else
aqH (idx b.2.2.2 a.2.2) λo=>aqH (M.ir N o.1 k) λp=>aa (!p)) λq=>(if q then
aa (.inl (a.1,a.2.1))
else
aqH (idx b.2.2.2 a.2.2) λr=>aqH (M.jR N (aqJ.wrap ((if c<e.2.2.1 then c else e.2.2.1)-(if d.2.1<0 then 0 else d.2.1))) r.2.2.2) λf=>(if(!f.2.2)then
aa (.inr (.inr (.inr (0,3))))
else
aa (.inl (aqJ.wrap (a.1+f.1),aqJ.wrap (a.2.1+f.2.1)))))) λh=>aa (.inl (h.1,h.2,aqJ.wrap (a.2.2+1)))
else
aa (.inr (.inl (a.1,a.2.1))))) N (0,0,0)) λi=>aqH (M.oz N i.1 i.2 g) λj=>aqH (M.dY N j 1000000000000000) λs=>(if s then
aa (0,3)
else
aa (j,0)))))
def aho:Fo 337 (.i1 [.g aP, .l aC, .l aC, .l aC]) (.i1 [.l aC, .l aC]) (u4 (M.nG N)):=fz N [W94 N,Us N,Ut N,ahm N,ahn N] [O,O,T,B 31 96,O,O,J ⟨[(10, .l aC),(11, .l aC)],[],[],160⟩,O,T,P ⟨[(10, .l aC),(11, .l aC),(12, .l aC)],[],[],176⟩,O,T,J ⟨[(10, .l aC),(11, .l aC)],[],[],256⟩,O,T,B 69 528] Tryz.func337
def M.jb(c:Int)(d:Int)(a:Int):Option (aE.den×Int):=
(if(!ai (a=0))then
aa ((0,(0,0)),a)
else
aqH (M.dm N c d) λb=>aa (b.1,b.2))
def X3:Fo 338 (.i1 [.l aC, .l aC, .l aC]) (.i1 [.g aE, .l aC]) (u3 (M.jb N)):=fz N [Jj N] [] Tryz.func338
def M.cM(a:aD.den)(b:aE.den)(d:bR.den):Option (aE.den×Int):=
(if(ai (a.1=10))then
aqH (M.dD N b.1) λm=>(if(!m)then
aa ((0,(0,0)),8)
else
aqH (M.dm N b.1 (aqJ.wrap (0-b.2.2))) λe=>aa (e.1,e.2))
else(if(ai (a.1=25))then(if(!ai (b.1=1))then
aa ((0,(0,0)),8)
else
aqH (M.gj N (ai (b.2.2=0))) λf=>aa (f.1,f.2))
else
aqH (if(ai (a.1=31))then
aa (ai (a.1=31))
else
aa (ai (a.1=32))) λn=>(if n then(if(!ai (b.1=5))then
aa ((0,(0,0)),8)
else
aqH (M.jJ N b.2.2) λg=>(if(ai (a.1=31))then
aqH (M.dm N 2 g.1) λh=>aa (h.1,h.2)
else
aqH (M.dm N 2 g.2.1) λi=>aa (i.1,i.2)))
else(if(ai (a.1=33))then
aqH (idx d.2.2.2.2.2 a.2) λo=>aqH (M.rP N o d.1 b) λj=>aa (j.1,j.2)
else
aqH (idx d.2.2.2.2.2 (aqJ.wrap (aqW a.2 8))) λc=>aqH (if(!ai (b.1=3))then
aa af
else(if(!ai (c.2.1.1=3))then
aa af
else(if(!ai (c.2.1.2=0))then
aa af
else(if(!ai (c.2.2.1.1=4))then
aa af
else
aa (!ai (c.2.2.1.2=0)))))) λp=>(if p then
aa ((0,(0,0)),8)
else
aqH (M.nG N c d.1 b.2.2 (aqY a.2 8)) λk=>aqH (M.jb N 3 k.1 k.2) λl=>aa (l.1,l.2))))))
def ahp:Fo 303 (.i1 [.g aD, .g aE, .g bR]) (.i1 [.g aE, .l aC]) (u3 (M.cM N)):=fz N [Jj N,abg N,abh N,abk N,ahl N,aho N,X3 N] [O,T,O,T,O,O,O,O,B 43 176,X,O,T,B 115 352] Tryz.func303
def M.oA(c:Int)(a:Int)(b:Int):Option (aE.den×Int):=
aqH (M.lH N c) λf=>aqH ((if(ai (a<0))then
aa (aqJ.wrap (0-a))
else
aa a):Option Int) λg=>aqH ((if(ai (b<0))then
aa (aqJ.wrap (0-b))
else
aa b):Option Int) λd=>aqH (if(!ai (d=0))then
aqH (nU f.2 d) λh=>aa (ai ((aqJ.wrap h)<g))
else
aa ah) λi=>(if i then
aa ((0,(0,0)),3)
else
aqH (M.dm N c (aqJ.wrap (a*b))) λe=>aa (e.1,e.2))
def ahq:Fo 362 (.i1 [.l aC, .l aC, .l aC]) (.i1 [.g aE, .l aC]) (u3 (M.oA N)):=fz N [abf N,Jj N] [O,O,O,O,R ⟨[(10, .l aC)],[],[],208⟩,X,R ⟨[(11, .l aC)],[],[],208⟩,X,T,B 35 208] Tryz.func362
def M.lJ(N:Nat)(a:Int):Option Int:=
(if(ai (a<0))then
aa (aqJ.wrap (0-a))
else
aa a)
def X4:Fo 383 (.i1 [.l aC]) (.i1 [.l aC]) (M.lJ N):=fz N [] [] Tryz.func383
def M.rQ(d:Int)(e:Int)(c:Int)(g:Int):Option (Int×Int):=
aqH (M.mM N g) λj=>(if(!j)then
aa (0,1)
else(if(ai (c=0))then
aa (0,12)
else
aqH (aqH (M.dY N d 1000000000000000) λk=>(if k then
aa af
else
aqH (M.dY N e 1000000000) λl=>(if l then
aa af
else
aqH (M.dY N c 1000000000) λm=>aa m)):Option Bool) λn=>(if n then
aa (0,3)
else
aqH (M.lJ N d) λf=>aqH (M.lJ N e) λb=>aqH (M.lJ N c) λa=>aqH (if(ai (0<b))then
aqH (nU f a) λo=>aqH (nU 1000000000000000 b) λp=>aa (ai ((aqJ.wrap p)<(aqJ.wrap o)))
else
aa ah) λq=>(if q then
aa (0,3)
else
aqH (sJ f a) λh=>aqH (nU f a) λr=>aqH (nU (aqJ.wrap (h*b)) a) λs=>aqH (sJ (aqJ.wrap (h*b)) a) λt=>aqH (M.gR N (aqJ.wrap ((aqJ.wrap ((aqJ.wrap r)*b))+(aqJ.wrap s))) t a (!ai ((!ai ((ai (d<0))=(ai (e<0))))=(ai (c<0)))) g) λi=>aqH (M.dY N i 1000000000000000) λu=>(if u then
aa (0,3)
else
aa (i,0))))))
def ahr:Fo 379 (.i1 [.l aC, .l aC, .l aC, .l aC]) (.i1 [.l aC, .l aC]) (u4 (M.rQ N)):=fz N [Us N,Ut N,Uu N,X4 N] [O,O,O,T,B 30 112,O,T,B 46 256] Tryz.func379
def M.qn(b:Int)(c:Int)(d:Int):Option (Int×Int):=
aqH (M.rQ N b c 1000000 d) λa=>aa (a.1,a.2)
def ahs:Fo 363 (.i1 [.l aC, .l aC, .l aC]) (.i1 [.l aC, .l aC]) (u3 (M.qn N)):=fz N [ahr N] [] Tryz.func363
def M.fX(N:Nat)(a:Int)(b:Int):Option Bool:=
aqH (if(ai (b<a))then
aa af
else
aa (ai (a<(aqJ.wrap (0-b))))) λc=>aa c
def abl:Fo 380 (.i1 [.l aC, .l aC]) (.i1 [.l .bool]) (u2 (M.fX N)):=fz N [] [O,B 4 16] Tryz.func380
def M.oP(N:Nat)(c:Int)(a:Int):Option (Int×Int):=
aqH (nU c a) λd=>aqH (sJ c a) λb=>(if(ai (b<0))then
aa (aqJ.wrap ((aqJ.wrap d)-1),aqJ.wrap (b+a))
else
aa (aqJ.wrap d,b))
def abm:Fo 381 (.i1 [.l aC, .l aC]) (.i1 [.l aC, .l aC]) (u2 (M.oP N)):=fz N [] [] Tryz.func381
def M.jc(N:Nat)(a:Int)(c:Int)(d:Int)(b:Int):Option Int:=
(if(ai (c=0))then
aa a
else
aqH (if(ai (b=1))then
aa af
else(if(ai (b=2))then(if(ai (a<0))then
aa af
else(if(ai (b=3))then
aa (ai (0<=a))
else
aa ah))
else(if(ai (b=3))then
aa (ai (0<=a))
else
aa ah))) λe=>aqH (aqH (if(ai (b=4))then
aa af
else
aa (ai (b=5))) λf=>(if f then(if(ai (c=(aqJ.wrap (d-c))))then(if(ai (b=4))then(if(ai (0<=a))then
aa af
else(if(ai (b=5))then
aa (!ai ((aqY a 2)=0))
else
aa ah))
else(if(ai (b=5))then
aa (!ai ((aqY a 2)=0))
else
aa ah))
else
aa (ai ((aqJ.wrap (d-c))<c)))
else
aa e):Option Bool) λg=>(if g then
aa (aqJ.wrap (a+1))
else
aa a))
def abn:Fo 382 (.i1 [.l aC, .l aC, .l aC, .l aC]) (.i1 [.l aC]) (u4 (M.jc N)):=fz N [] [O,O,R ⟨[(9, .l .bool)],[],[],48⟩,X,R ⟨[(9, .l .bool)],[],[],48⟩,B 36 48] Tryz.func382
def M.rf(b:Int)(c:Int)(a:Int):Option (Int×Int):=
aqH (if(ai (a<0))then
aa af
else
aa (ai (5<a))) λf=>(if f then
aa (0,1)
else
aqH (aqH (M.fX N b 1000000000) λg=>(if g then
aa af
else
aqH (M.fX N c 1000000000) λh=>aa h):Option Bool) λi=>(if i then
aa (0,3)
else
aqH (M.oP N (aqJ.wrap (b*c)) 1000000) λd=>aqH (M.jc N d.1 d.2 1000000 a) λe=>aqH (M.fX N e 1000000000) λj=>(if j then
aa (0,3)
else
aa (e,0))))
def aht:Fo 364 (.i1 [.l aC, .l aC, .l aC]) (.i1 [.l aC, .l aC]) (u3 (M.rf N)):=fz N [abl N,abm N,abn N] [O,T,B 16 32,T,B 22 32] Tryz.func364
def M.mF(d:Int)(b:Int)(e:Int):Option (Int×Int):=
aqH (if(ai (e<0))then
aa af
else
aa (ai (5<e))) λh=>(if h then
aa (0,1)
else(if(ai (b=0))then
aa (0,12)
else
aqH (aqH (M.fX N d 1000000000000000) λi=>(if i then
aa af
else
aqH (M.fX N b 1000000000000000) λj=>aa j):Option Bool) λk=>(if k then
aa (0,3)
else
aqH ((if(ai (b<0))then
aa (aqJ.wrap (0-d),aqJ.wrap (0-b))
else
aa (d,b)):Option (Int×Int)) λa=>aqH (M.oP N a.1 a.2) λc=>aqH (M.fX N c.1 1001) λl=>(if l then
aa (0,3)
else
aqH (nU (aqJ.wrap (c.2*1000)) a.2) λm=>aqH (sJ (aqJ.wrap (c.2*1000)) a.2) λf=>aqH (nU (aqJ.wrap (f*1000)) a.2) λn=>aqH (sJ (aqJ.wrap (f*1000)) a.2) λo=>aqH (M.jc N (aqJ.wrap ((aqJ.wrap ((aqJ.wrap (c.1*1000000))+(aqJ.wrap ((aqJ.wrap m)*1000))))+(aqJ.wrap n))) o a.2 e) λg=>aqH (M.fX N g 1000000000) λp=>(if p then
aa (0,3)
else
aa (g,0))))))
def ahu:Fo 365 (.i1 [.l aC, .l aC, .l aC]) (.i1 [.l aC, .l aC]) (u3 (M.mF N)):=fz N [abl N,abm N,abn N] [O,T,B 18 32,O,T,B 26 64,R ⟨[(0, .l aC),(1, .l aC)],[],[],64⟩] Tryz.func365
def M.nI(b:Int)(a:Int)(d:Int):Option (Int×Int):=
aqH (M.mM N d) λf=>(if(!f)then
aa (0,1)
else(if(ai (a=0))then
aa (0,12)
else
aqH (aqH (M.dY N b 4611686018427387904) λg=>(if g then
aa af
else
aqH (M.dY N a 4611686018427387904) λh=>aa h):Option Bool) λi=>(if i then
aa (0,3)
else
aqH (M.lJ N b) λe=>aqH (M.lJ N a) λc=>aqH (nU e c) λj=>aqH (sJ e c) λk=>aqH (M.gR N (aqJ.wrap j) k c (!ai ((ai (b<0))=(ai (a<0)))) d) λl=>aa (l,0))))
def ahv:Fo 366 (.i1 [.l aC, .l aC, .l aC]) (.i1 [.l aC, .l aC]) (u3 (M.nI N)):=fz N [Us N,Ut N,Uu N,X4 N] [O,O,O,T,B 20 112] Tryz.func366
def M.mr(b:Int)(a:Int)(c:Int):Option (Int×Int):=
aqH (M.mM N c) λf=>(if(!f)then
aa (0,1)
else(if(ai (a<1))then
aa (0,12)
else
aqH (aqH (M.dY N b 1000000000000000) λg=>(if g then
aa af
else
aa (ai (1000000000000000<a))):Option Bool) λh=>(if h then
aa (0,3)
else
aqH (M.lJ N b) λd=>aqH (nU d a) λi=>aqH (sJ d a) λj=>aqH (M.gR N (aqJ.wrap i) j a (ai (b<0)) c) λe=>aqH (M.dY N (aqJ.wrap (e*a)) 1000000000000000) λk=>(if k then
aa (0,3)
else
aa (aqJ.wrap (e*a),0)))))
def ahw:Fo 367 (.i1 [.l aC, .l aC, .l aC]) (.i1 [.l aC, .l aC]) (u3 (M.mr N)):=fz N [Us N,Ut N,Uu N,X4 N] [O,O,O,T,B 20 112] Tryz.func367
def M.lK(c:aD.den)(a:aE.den)(b:aE.den):Option (aE.den×Int):=
aqH (if(ai (c.1=13))then(if(ai (b.1=2))then(if(ai (a.1=3))then
aa af
else
aa (ai (a.1=2)))
else
aa ah)
else
aa ah) λo=>(if o then
aqH (M.oA N a.1 a.2.2 b.2.2) λd=>aa (d.1,d.2)
else
aqH (if(ai (c.1=14))then(if(ai (b.1=4))then
aa (ai (a.1=3))
else
aa ah)
else
aa ah) λp=>(if p then
aqH (M.qn N a.2.2 b.2.2 c.2) λe=>aqH (M.jb N a.1 e.1 e.2) λf=>aa (f.1,f.2)
else
aqH (if(ai (c.1=14))then(if(ai (b.1=4))then
aa (ai (a.1=4))
else
aa ah)
else
aa ah) λq=>(if q then
aqH (M.rf N a.2.2 b.2.2 c.2) λg=>aqH (M.jb N a.1 g.1 g.2) λh=>aa (h.1,h.2)
else
aqH (if(ai (c.1=15))then(if(ai (a.1=3))then
aa (ai (b.1=3))
else
aa ah)
else
aa ah) λr=>(if r then
aqH (M.mF N a.2.2 b.2.2 c.2) λi=>aqH (M.jb N 4 i.1 i.2) λj=>aa (j.1,j.2)
else
aqH (if(ai (c.1=15))then(if(ai (b.1=2))then(if(ai (a.1=3))then
aa af
else
aa (ai (a.1=2)))
else
aa ah)
else
aa ah) λs=>(if s then
aqH (M.nI N a.2.2 b.2.2 c.2) λk=>aqH (M.jb N a.1 k.1 k.2) λl=>aa (l.1,l.2)
else
aqH (if(ai (c.1=16))then(if(ai (a.1=3))then
aa (ai (b.1=3))
else
aa ah)
else
aa ah) λt=>(if t then
aqH (M.mr N a.2.2 b.2.2 c.2) λm=>aqH (M.jb N a.1 m.1 m.2) λn=>aa (n.1,n.2)
else
aa ((0,(0,0)),8)))))))
def ahx:Fo 339 (.i1 [.g aD, .g aE, .g aE]) (.i1 [.g aE, .l aC]) (u3 (M.lK N)):=fz N [X3 N,ahq N,ahs N,aht N,ahu N,ahv N,ahw N] [O,O,T,T,R ⟨[(22, .l .bool)],[],[],144⟩,X,O,R ⟨[(48, .l .bool)],[],[],144⟩,X,O,R ⟨[(77, .l .bool)],[],[],144⟩,X,O,R ⟨[(108, .l .bool)],[],[],144⟩,X,O,R ⟨[(135, .l .bool)],[],[],144⟩,X,O,B 169 144] Tryz.func339
def M.oB(a:Int)(e:Int)(d:Int):Option (Int×Int):=
aqH (if(ai (a<1900))then
aa af
else(if(ai (2199<a))then
aa af
else(if(ai (d<1))then
aa af
else
aqH (M.eC N a e) λf=>aa (ai (f<d))))) λg=>(if g then
aa (0,3)
else
aqH (Loop (S:=Int×Int) (X:=Int) (λb=>(if(ai (b.2<a))then
aqH (M.gW N b.2) λh=>aa (.inl (aqJ.wrap (b.1+h),aqJ.wrap (b.2+1)))
else
aa (.inr b.1))) N (aqJ.wrap (d-1),1900):Option Int) λi=>Loop (S:=Int×Int) (X:=Int×Int) (λc=>(if(ai (c.2<e))then
aqH (M.eC N a c.2) λj=>aa (.inl (aqJ.wrap (c.1+j),aqJ.wrap (c.2+1)))
else
aa (.inr (c.1,0)))) N (i,1))
def ahy:Fo 384 (.i1 [.l aC, .l aC, .l aC]) (.i1 [.l aC, .l aC]) (u3 (M.oB N)):=fz N [abj N,X2 N] [O,T,B 27 32,O,R ⟨[(8, .l aC)],[],[],80⟩,O,T,P ⟨[(8, .l aC),(9, .l aC)],[],[],96⟩,X,X,T,O,T,P ⟨[(8, .l aC),(10, .l aC)],[],[],96⟩] Tryz.func384
def M.eR(c:Int)(b:Int):Option (Int×Int):=
aqH (aqH (M.k9 N c) λf=>(if(!f)then
aa af
else(if(ai (b<(-3600)))then
aa af
else
aa (ai (3600<b)))):Option Bool) λg=>(if g then
aa (0,3)
else
aqH (M.jJ N c) λa=>aqH (M.eC N (aqJ.wrap (aqW (aqJ.wrap ((aqJ.wrap ((aqJ.wrap ((aqJ.wrap (12*a.1))+a.2.1))-1))+b)) 12)) (aqJ.wrap ((aqY (aqJ.wrap ((aqJ.wrap ((aqJ.wrap ((aqJ.wrap (12*a.1))+a.2.1))-1))+b)) 12)+1))) λd=>aqH (M.oB N (aqJ.wrap (aqW (aqJ.wrap ((aqJ.wrap ((aqJ.wrap ((aqJ.wrap (12*a.1))+a.2.1))-1))+b)) 12)) (aqJ.wrap ((aqY (aqJ.wrap ((aqJ.wrap ((aqJ.wrap ((aqJ.wrap (12*a.1))+a.2.1))-1))+b)) 12)+1)) (if d<a.2.2 then d else a.2.2)) λe=>aa (e.1,e.2))
def abo:Fo 368 (.i1 [.l aC, .l aC]) (.i1 [.l aC, .l aC]) (u2 (M.eR N)):=fz N [abk N,X1 N,X2 N,ahy N] [O,T,B 20 32] Tryz.func368
def M.iu(b:Int)(c:Int):Option Int:=
aqH (aqH (M.k9 N b) λe=>(if(!e)then
aa af
else
aqH (M.k9 N c) λf=>aa (!f)):Option Bool) λg=>(if g then
aa 0
else
Loop (S:=Int) (X:=Int) (λa=>aqH (M.eR N b (aqJ.wrap (12*(aqJ.wrap (a+1))))) λd=>aqH (if(!ai (d.2=0))then
aa af
else
aa (ai (c<d.1))) λh=>(if h then
aa (.inr a)
else
aa (.inl (aqJ.wrap (a+1))))) N 0)
def ahz:Fo 369 (.i1 [.l aC, .l aC]) (.i1 [.l aC]) (u2 (M.iu N)):=fz N [X1 N,abo N] [O,T,B 15 16,O,T,L 5 32,T,O,T,B 30 192] Tryz.func369
def M.mV(c:Int)(b:aE.den)(a:aE.den):Option (aE.den×Int):=
(if(!ai (b.1=5))then
aa ((0,(0,0)),8)
else
aqH (if(ai (c=27))then
aa af
else
aa (ai (c=28))) λi=>(if i then(if(!ai (a.1=2))then
aa ((0,(0,0)),8)
else(if(ai (c=27))then
aqH (M.dm N 5 (aqJ.wrap (b.2.2+a.2.2))) λd=>aa (d.1,d.2)
else
aqH (M.eR N b.2.2 a.2.2) λe=>aqH (M.jb N 5 e.1 e.2) λf=>aa (f.1,f.2)))
else(if(!ai (a.1=5))then
aa ((0,(0,0)),8)
else(if(ai (c=29))then
aqH (M.dm N 2 (aqJ.wrap (a.2.2-b.2.2))) λg=>aa (g.1,g.2)
else
aqH (M.iu N b.2.2 a.2.2) λj=>aqH (M.dm N 2 j) λh=>aa (h.1,h.2)))))
def ahA:Fo 340 (.i1 [.l aC, .g aE, .g aE]) (.i1 [.g aE, .l aC]) (u3 (M.mV N)):=fz N [Jj N,X3 N,abo N,ahz N] [O,O,T,B 19 112] Tryz.func340
def M.dx(b:Int)(a:aE.den)(c:aE.den):Option (aE.den×Int):=
aqH (if(!ai (a.1=c.1))then
aa af
else
aa (!ai (a.2.1=c.2.1))) λn=>(if n then
aa ((0,(0,0)),8)
else(if(ai (b=19))then
aqH (M.gj N (ai (a.2.2=c.2.2))) λd=>aa (d.1,d.2)
else(if(ai (b=20))then
aqH (M.gj N (!ai (a.2.2=c.2.2))) λe=>aa (e.1,e.2)
else
aqH (if(ai (b=23))then
aa (ai (b=23))
else
aa (ai (b=24))) λo=>(if o then(if(!ai (a.1=1))then
aa ((0,(0,0)),8)
else
aqH ((if(ai ((aqJ.wrap (a.2.2+c.2.2))=2))then
aqH (M.gj N af) λf=>aa (f.2,f.1)
else(if(ai (b=24))then
aqH (M.gj N (ai ((aqJ.wrap (a.2.2+c.2.2))=1))) λg=>aa (g.2,g.1)
else
aqH (M.gj N ah) λh=>aa (h.2,h.1))):Option (Int×aE.den)) λi=>aa (i.2,i.1))
else
aqH (if(ai (b=11))then
aa (ai (b=11))
else
aa (ai (b=12))) λp=>(if p then
aqH (M.dD N a.1) λq=>(if(!q)then
aa ((0,(0,0)),8)
else(if(ai (b=11))then
aqH (M.dm N a.1 (aqJ.wrap (a.2.2+c.2.2))) λj=>aa (j.1,j.2)
else
aqH (M.dm N a.1 (aqJ.wrap (a.2.2-c.2.2))) λk=>aa (k.1,k.2)))
else
aqH (aqH (M.dD N a.1) λr=>(if(!r)then
aa (!ai (a.1=5))
else
aa ah):Option Bool) λs=>(if s then
aa ((0,(0,0)),8)
else(if(ai (b=21))then
aqH (M.gj N (ai (a.2.2<c.2.2))) λl=>aa (l.1,l.2)
else(if(ai (b=22))then
aqH (M.gj N (ai (a.2.2<=c.2.2))) λm=>aa (m.1,m.2)
else(if(ai ((ai (b=17))=(ai (a.2.2<c.2.2))))then
aa (a,0)
else
aa (c,0))))))))))
def ahB:Fo 341 (.i1 [.l aC, .g aE, .g aE]) (.i1 [.g aE, .l aC]) (u3 (M.dx N)):=fz N [Jj N,abg N,abh N] [O,T,B 19 64,T,O,T,O,O,O,O,R ⟨[(42, .l .bool)],[],[],144⟩,X,T,O,R ⟨[(7, .l aC)],[(32, .box 71 (.leaf aE))],[],193⟩,X,X,B 70 144,X,T,B 108 144] Tryz.func341
def M.bf(a:aD.den)(b:aE.den)(c:aE.den):Option (aE.den×Int):=
aqH (if(ai (13<=a.1))then
aa (ai (a.1<=16))
else
aa ah) λg=>(if g then
aqH (M.lK N a b c) λd=>aa (d.1,d.2)
else(if(ai (27<=a.1))then
aqH (M.mV N a.1 b c) λe=>aa (e.1,e.2)
else
aqH (M.dx N a.1 b c) λf=>aa (f.1,f.2)))
def ahC:Fo 304 (.i1 [.g aD, .g aE, .g aE]) (.i1 [.g aE, .l aC]) (u3 (M.bf N)):=fz N [ahx N,ahA N,ahB N] [O,T,B 15 80] Tryz.func304
def M.la(b:aD.den)(a:List aE.den)(c:bR.den):Option (aE.den×Int):=
aqH (M.lI N b (a.length:Int)) λl=>(if(!l)then
aa ((0,(0,0)),2)
else
aqH (M.oO N b c) λm=>(if(!m)then
aa ((0,(0,0)),6)
else
bK (J:=Unit) (R:=aE.den×Int) (Loop (S:=Int) (X:=Unit⊕(aE.den×Int)) (λd=>(if(ai (d<(a.length:Int)))then
aqH (idx a d) λn=>aqH (M.cE N n) λo=>(if(!o)then
aa (.inr (.inr ((0,(0,0)),8)))
else
aa (.inl (aqJ.wrap (d+1))))
else
aa (.inr (.inl ())))) N 0) λu=>(if(ai ((a.length:Int)=0))then
aqH (if(ai (36<=b.1))then
aa (ai (b.1<=39))
else
aa ah) λp=>(if p then
aqH (M.ox N b c) λg=>aa (g.1,g.2)
else
aqH (M.dc N b c) λh=>aa (h.1,h.2))
else(if(ai ((a.length:Int)=1))then
aqH (idx a 0) λq=>aqH (M.cM N b q c) λi=>aa (i.1,i.2)
else(if(ai ((a.length:Int)=2))then
aqH (idx a 0) λr=>aqH (idx a 1) λs=>aqH (M.bf N b r s) λj=>aa (j.1,j.2)
else
aqH (idx a 0) λk=>aqH (idx a 1) λe=>aqH (idx a 2) λf=>aqH (if(!ai (k.1=1))then
aa af
else(if(!ai (e.1=f.1))then
aa af
else
aa (!ai (e.2.1=f.2.1)))) λt=>(if t then
aa ((0,(0,0)),8)
else(if(ai (k.2.2=1))then
aa (e,0)
else
aa (f,0))))))))
def ahD:Fo 268 (.i1 [.g aD, .l (.slice aE), .g bR]) (.i1 [.g aE, .l aC]) (u3 (M.la N)):=fz N [Np N,ahb N,ahc N,ahg N,ahh N,ahp N,ahC N] [O,O,O,E 208,O,T,L 8 224,X,X,T,O,T,O,T,T,B 47 272,X,X,X,O,T,B 105 576] Tryz.func268
mutual
def M.fj(B:Nat):Nat->(List aD.den)->Int->bR.den->Option (aE.den×Int)
 |0,_,_,_=>ae
 |N+1,a,c,d=>
  aqH (M.nE B a c) λe=>
  aqH (idx a c) λf=>
  aqH (if(ai (f.1=23))then
  aa af
  else
  (if(ai (f.1=24))then
  aa af
  else
  aa (ai (f.1=26)))) λj=>
  (if j then
  aqH (M.rR B N a c e d) λh=>
  aa (h.1,h.2)
  else
  bK (J:=List aE.den) (R:=aE.den×Int) (Loop (S:=Int×List aE.den) (X:=(List aE.den)⊕(aE.den×Int)) (λb=>
  (if(ai (b.1<(e.length:Int)))then
  aqH (idx e b.1) λk=>
  aqH (M.fj B N a k d) λg=>
  (if(!ai (g.2=0))then
  aa (.inr (.inr ((0,(0,0)),g.2)))
  else
  aqH (cf b.2 ([g.1]:List aE.den)) λl=>
  aa (.inl (aqJ.wrap (b.1+1),l)))
  else
  aa (.inr (.inl b.2)))) B (0,([]:List aE.den))) λm=>
  aqH (idx a c) λn=>
  aqH (M.la B n m d) λi=>
  aa (i.1,i.2))
def M.rR(B:Nat):Nat->(List aD.den)->Int->(List Int)->bR.den->Option (aE.den×Int)
 |0,_,_,_,_=>ae
 |N+1,a,f,d,e=>
  aqH (idx a f) λi=>
  (if(!ai (i.2=0))then
  aa ((0,(0,0)),2)
  else
  aqH (idx d 0) λj=>
  aqH (M.fj B N a j e) λb=>
  (if(!ai (b.2=0))then
  aa ((0,(0,0)),b.2)
  else
  aqH (if(!ai (b.1.1=1))then
  aa af
  else
  aqH (M.cE B b.1) λk=>
  aa (!k)) λl=>
  (if l then
  aa ((0,(0,0)),8)
  else
  aqH (idx a f) λm=>
  (if(ai (m.1=26))then
  (if(ai (b.1.2.2=1))then
  aqH (idx d 1) λn=>
  aqH (M.fj B N a n e) λg=>
  aa (g.1,g.2)
  else
  aqH (idx d 2) λo=>
  aqH (M.fj B N a o e) λh=>
  aa (h.1,h.2))
  else
  aqH (idx a f) λp=>
  (if(ai ((ai (p.1=23))=(ai (b.1.2.2=0))))then
  aa (b.1,0)
  else
  aqH (idx d 1) λq=>
  aqH (M.fj B N a q e) λc=>
  (if(!ai (c.2=0))then
  aa ((0,(0,0)),c.2)
  else
  aqH (if(!ai (c.1.1=1))then
  aa af
  else
  aqH (M.cE B c.1) λr=>
  aa (!r)) λs=>
  (if s then
  aa ((0,(0,0)),8)
  else
  aa (c.1,0))))))))
end
def M.sX(a:List aD.den)(b:Int)(c:bR.den):Option (aE.den×Int):=M.fj N N a b c
def ahE:qc:=⟨.i1 [.l (.slice aD), .l aC, .g bR], .i1 [.g aE, .l aC],u3 (M.sX N)⟩
def ahF(B N:Nat):qc:={inn:=⟨[(0, .l (.slice aD)),(1, .l aC),(2, .g bR)],[],[],0⟩,out:=⟨[(0, .g aE),(1, .l aC)],[],[],0⟩,fn:=λ(x:(List aD.den)×Int×bR.den)=>M.fj B N x.1 x.2.1 x.2.2}
def ahG(B N:Nat):qc:={inn:=⟨[(0, .l (.slice aD)),(1, .l aC),(2, .l (.slice aC)),(3, .g bR)],[],[],0⟩,out:=⟨[(0, .g aE),(1, .l aC)],[],[],0⟩,fn:=λ(x:(List aD.den)×Int×(List Int)×bR.den)=>M.rR B N x.1 x.2.1 x.2.2.1 x.2.2.2}
def KS(B:Nat):∀N,jF Tryz.prog 220 (ahF B N)/\jF Tryz.prog 267 (ahG B N)
 |0=>⟨uc Tryz.func220 (by kernel_rfl) (by kernel_rfl) λ_=>rfl,uc Tryz.func267 (by kernel_rfl) (by kernel_rfl) λ_=>rfl⟩
 |N+1=>⟨fw (en [ck (ag9 B),ck ((KS B N).1),ck ((KS B N).2),ck (ahD B)] ah ah) (N:=B) (.o (.o (.o (.two (.meet ⟨[(31, .l .bool)],[],[],208⟩ .nil .nil) (.o (.join ⟨[(10, .val ah (.own 224))],[(224, .own 71 aE)],[],225⟩ (.o (.two (.loop ⟨[(10, .val ah (.own 240)),(11, .l aC)],[(240, .own 71 aE)],[],241⟩ .nil) .nil)) .nil)))))) Tryz.func220 (by kernel_rfl) λx=>by kernel_rfl,
  fw (en [ck ((KS B N).1),ck (Np B)] ah ah) (N:=B) (.o (.o (.o (.o (.two (.meet ⟨[(41, .l .bool)],[],[],368⟩ .nil .nil) (.o (.o (.o (.o (.two (.meet ⟨[(99, .l .bool)],[],[],848⟩ .nil .nil) .nil)))))))))) Tryz.func267 (by kernel_rfl) λx=>by kernel_rfl⟩
def ahH(N:Nat):jF Tryz.prog 220 (ahE N):=(KS N N).1
def M.mN(a:List aD.den)(d:bR.den):Option (aE.den×Int):=
aqH (M.rN N a) λb=>(if(!ai (b.1=0))then
aa ((0,(0,0)),b.1)
else
aqH (M.sX N a (aqJ.wrap ((a.length:Int)-1)) d) λc=>aa (c.1,c.2))
def abp:Fo 148 (.i1 [.l (.slice aD), .g bR]) (.i1 [.g aE, .l aC]) (u2 (M.mN N)):=fz N [W97 N,ahH N] [] Tryz.func148
def M.qp(b:List Int)(c:Int):Option Int:=
Loop (S:=Int) (X:=Int) (λa=>(if(ai (a<(b.length:Int)))then
aqH (idx b a) λd=>(if(ai (d=c))then
aa (.inr a)
else
aa (.inl (aqJ.wrap (a+1))))
else
aa (.inr (-1)))) N 0
def ahI:Fo 172 (.i1 [.l (.slice aC), .l aC]) (.i1 [.l aC]) (u2 (M.qp N)):=fz N [] [O,T,O,T,L 5 32] Tryz.func172
def M.px(b:bg.den)(e:List Int)(c:Int):Option Int:=
aqH (idx b.2.2.2.2 c) λf=>Loop (S:=Int×Int) (X:=Int) (λa=>aqH (if(ai (0<=a.2))then
aa (ai (a.2<a.1))
else
aa ah) λg=>(if g then
aqH (M.qp N e a.2) λd=>(if(ai (0<=d))then
aa (.inr d)
else
aqH (idx b.2.2.2.2 a.2) λh=>aa (.inl (a.2,h.2.2.1)))
else
aa (.inr (-1)))) N (c,f.2.2.1)
def W96:Fo 96 (.i1 [.g bg, .l (.slice aC), .l aC]) (.i1 [.l aC]) (u3 (M.px N)):=fz N [ahI N] [O,O,T,T,P ⟨[(2, .l aC),(7, .l aC)],[],[],144⟩,T,B 21 144] Tryz.func96
def M.oC(b:bg.den)(c:Int)(d:Int):Option (List Int):=
Loop (S:=Int×List Int) (X:=List Int) (λa=>(if(ai (a.1<(b.2.2.2.2.length:Int)))then
aqH (aqH (aqH (idx b.2.2.2.2 a.1) λe=>(if(ai (e.2.1=c))then
aqH (idx b.2.2.2.2 a.1) λf=>aqH (M.ir N f.2.2.2.2.1 d) λg=>aa g
else
aa ah):Option Bool) λh=>(if h then
aqH (cf a.2 ([a.1]:List Int)) λi=>aa i
else
aa a.2):Option (List Int)) λj=>aa (.inl (aqJ.wrap (a.1+1),j))
else
aa (.inr a.2))) N (0,([]:List Int))
def ahJ:Fo 264 (.i1 [.g bg, .l aC, .l aC]) (.w1 3 aC) (u3 (M.oC N)):=fz N [W94 N] [O,O,T,O,T,P ⟨[(7, .val ah (.own 64)),(8, .l aC)],[(64, .own 3 aC)],[],65⟩,O,T,R ⟨[(7, .val ah (.own 145))],[(145, .own 3 aC)],[64],146⟩,B 33 145] Tryz.func264
def M.nJ(c:bg.den)(e:Int)(f:Int):Option ((List Int)×(List Int)×List Int):=
aqH (M.oC N c e f) λb=>aqH (Loop (S:=Int×(List Int)×List Int) (X:=(List Int)×List Int) (λa=>(if(ai (a.1<(b.length:Int)))then
aqH (idx b a.1) λg=>aqH (M.px N c b g) λh=>aqH (cf a.2.1 ([h]:List Int)) λi=>aqH (idx b a.1) λj=>aqH (idx c.2.2.2.2 j) λk=>aqH (cf a.2.2 ([k.2.2.2.1]:List Int)) λl=>aa (.inl (aqJ.wrap (a.1+1),i,l))
else
aa (.inr (a.2.1,a.2.2)))) N (0,([]:List Int),([]:List Int)):Option ((List Int)×List Int)) λd=>aa (b,d.1,d.2)
def ahK:Fo 218 (.i1 [.g bg, .l aC, .l aC]) (.j1 [.val ah (.own 0), .val ah (.own 1), .val ah (.own 2)] [.own 3 aC, .own 3 aC, .own 3 aC] 3) (u3 (M.nJ N)):=fz N [W96 N,ahJ N] [O,O,O,R ⟨[(10, .val ah (.own 176)),(11, .val ah (.own 177))],[(176, .own 3 aC),(177, .own 3 aC)],[],178⟩,O,T,P ⟨[(10, .val ah (.own 192)),(11, .val ah (.own 193)),(12, .l aC)],[(192, .own 3 aC),(193, .own 3 aC)],[],194⟩] Tryz.func218
def M.nK(b:List Int)(c:List Int):Option Int:=
(if(!ai ((b.length:Int)=(c.length:Int)))then
aa 2
else(if(ai (8<(b.length:Int)))then
aa 4
else
Loop (S:=Int) (X:=Int) (λa=>(if(ai (a<(b.length:Int)))then
aqH (aqH (idx b a) λd=>(if(ai (d<(-1)))then
aa af
else
aqH (idx b a) λe=>aa (ai (a<=e))):Option Bool) λf=>(if f then
aa (.inr 9)
else
aqH (aqH (idx c a) λg=>(if(ai (g<0))then
aa af
else
aqH (idx c a) λh=>aa (ai (9<h))):Option Bool) λi=>(if i then
aa (.inr 3)
else
aa (.inl (aqJ.wrap (a+1)))))
else
aa (.inr 0))) N 0))
def ahL:Fo 265 (.i1 [.l (.slice aC), .l (.slice aC)]) (.i1 [.l aC]) (u2 (M.nK N)):=fz N [] [O,O,O,T,O,T,L 5 160,O,T,T,T,B 32 224,B 44 224] Tryz.func265
def M.pV(b:List Int)(c:Int):Option (List Int):=
Loop (S:=Int×List Int) (X:=List Int) (λa=>(if(ai (a.1<(b.length:Int)))then
aqH (aqH (idx b a.1) λd=>(if(ai (d=c))then
aqH (cf a.2 ([a.1]:List Int)) λe=>aa e
else
aa a.2):Option (List Int)) λf=>aa (.inl (aqJ.wrap (a.1+1),f))
else
aa (.inr a.2))) N (0,([]:List Int))
def ahM:Fo 326 (.i1 [.l (.slice aC), .l aC]) (.w1 3 aC) (u2 (M.pV N)):=fz N [] [O,O,T,O,T,P ⟨[(5, .val ah (.own 64)),(6, .l aC)],[(64, .own 3 aC)],[16],65⟩,O,T,R ⟨[(5, .val ah (.own 129))],[(129, .own 3 aC)],[64],130⟩] Tryz.func326
mutual
def M.gX(B:Nat):Nat->(List Int)->(List Int)->(List Bool)->Int->Option Int
 |0,_,_,_,_=>ae
 |N+1,b,c,d,e=>
  aqH (M.py B N b c d e) λa=>
  (if(ai ((a.length:Int)=0))then
  aa (-1)
  else
  (if(ai (1<(a.length:Int)))then
  aa (-2)
  else
  aqH (idx a 0) λf=>
  aqH (M.eT B N b c d f) λg=>
  aa g))
def M.py(B:Nat):Nat->(List Int)->(List Int)->(List Bool)->Int->Option (List Int)
 |0,_,_,_,_=>ae
 |N+1,e,b,f,g=>
  aqH (M.pV B e g) λc=>
  Loop (S:=Int×List Int) (X:=List Int) (λa=>
  (if(ai (a.1<(c.length:Int)))then
  aqH (aqH (idx c a.1) λh=>
  aqH (M.eT B N e b f h) λi=>
  (if(ai (i=(-1)))then
  aa a.2
  else
  aqH (aqH (if(ai (0<(a.2.length:Int)))then
  aqH (idx c a.1) λj=>
  aqH (idx b j) λk=>
  aqH (idx a.2 0) λl=>
  aqH (idx b l) λm=>
  aa (ai (m<k))
  else
  aa ah) λn=>
  (if n then
  aa ([]:List Int)
  else
  aa a.2):Option (List Int)) λd=>
  aqH (if(ai ((d.length:Int)=0))then
  aa af
  else
  aqH (idx c a.1) λo=>
  aqH (idx b o) λp=>
  aqH (idx d 0) λq=>
  aqH (idx b q) λr=>
  aa (ai (p=r))) λs=>
  (if s then
  aqH (idx c a.1) λt=>
  aqH (cf d ([t]:List Int)) λu=>
  aa u
  else
  aa d)):Option (List Int)) λv=>
  aa (.inl (aqJ.wrap (a.1+1),v))
  else
  aa (.inr a.2))) B (0,([]:List Int))
def M.eT(B:Nat):Nat->(List Int)->(List Int)->(List Bool)->Int->Option Int
 |0,_,_,_,_=>ae
 |N+1,d,e,b,a=>
  aqH (M.gX B N d e b a) λc=>
  aqH (if(ai (c=(-1)))then
  aqH (idx b a) λf=>
  aa f
  else
  aa ah) λg=>
  (if g then
  aa a
  else
  aa c)
end
def M.nL(a:List Int)(b:List Int)(c:List Bool)(d:Int):Option Int:=M.gX N N a b c d
def ahN:qc:=⟨.i1 [.l (.slice aC), .l (.slice aC), .l (.slice .bool), .l aC], .i1 [.l aC],u4 (M.nL N)⟩
def ahO(B N:Nat):qc:={inn:=⟨[(0, .l (.slice aC)),(1, .l (.slice aC)),(2, .l (.slice .bool)),(3, .l aC)],[],[],0⟩,out:=⟨[(0, .l aC)],[],[],0⟩,fn:=λ(x:(List Int)×(List Int)×(List Bool)×Int)=>M.gX B N x.1 x.2.1 x.2.2.1 x.2.2.2}
def ahP(B N:Nat):qc:={inn:=⟨[(0, .l (.slice aC)),(1, .l (.slice aC)),(2, .l (.slice .bool)),(3, .l aC)],[],[],0⟩,out:=⟨[(0, .l (.slice aC))],[],[],0⟩,fn:=λ(x:(List Int)×(List Int)×(List Bool)×Int)=>M.py B N x.1 x.2.1 x.2.2.1 x.2.2.2}
def ahQ(B N:Nat):qc:={inn:=⟨[(0, .l (.slice aC)),(1, .l (.slice aC)),(2, .l (.slice .bool)),(3, .l aC)],[],[],0⟩,out:=⟨[(0, .l aC)],[],[],0⟩,fn:=λ(x:(List Int)×(List Int)×(List Bool)×Int)=>M.eT B N x.1 x.2.1 x.2.2.1 x.2.2.2}
def Gh(B:Nat):∀N,jF Tryz.prog 266 (ahO B N)/\jF Tryz.prog 296 (ahP B N)/\jF Tryz.prog 297 (ahQ B N)
 |0=>⟨uc Tryz.func266 (by kernel_rfl) (by kernel_rfl) λ_=>rfl,uc Tryz.func296 (by kernel_rfl) (by kernel_rfl) λ_=>rfl,uc Tryz.func297 (by kernel_rfl) (by kernel_rfl) λ_=>rfl⟩
 |N+1=>⟨fw (en [ck ((Gh B N).2.1),ck ((Gh B N).2.2)] ah ah) (N:=B) .nil Tryz.func266 (by kernel_rfl) λx=>by kernel_rfl,
  fw (en [ck ((Gh B N).2.2),ck (ahM B)] ah ah) (N:=B) (.o (.o (.o (.two (.o (.two (.loop ⟨[(10, .val ah (.own 128)),(11, .l aC)],[(128, .own 3 aC)],[80],129⟩ (.o (.two (.meet ⟨[(10, .val ah (.own 193))],[(193, .own 3 aC)],[128],194⟩ (.o (.meet ⟨[(10, .val ah (.own 337))],[(337, .own 3 aC)],[128],338⟩ (.meet ⟨[(49, .l .bool)],[],[],337⟩ .nil .nil) (.meet ⟨[(69, .l .bool)],[],[],338⟩ .nil .nil))) .nil) .nil))) .nil)) .nil)))) Tryz.func296 (by kernel_rfl) λx=>by kernel_rfl,
  fw (en [ck ((Gh B N).1)] ah ah) (N:=B) (.o (.o (.two (.meet ⟨[(22, .l .bool)],[],[],112⟩ .nil .nil) .nil))) Tryz.func297 (by kernel_rfl) λx=>by kernel_rfl⟩
def ahR(N:Nat):jF Tryz.prog 266 (ahN N):=(Gh N N).1
end
end
section
noncomputable section
open Tk
variable (N:Nat)
set_option maxRecDepth 100000
set_option linter.unusedVariables false
def M.jS(a:List Int)(b:List Int)(c:List Bool):Option Int:=
aqH (aqH (M.nK N a b) λd=>(if(!ai (d=0))then
aa af
else
aa (!ai ((c.length:Int)=(a.length:Int)))):Option Bool) λe=>(if e then
aa (-1)
else
aqH (M.nL N a b c (-1)) λf=>aa f)
def ahS:Fo 219 (.i1 [.l (.slice aC), .l (.slice aC), .l (.slice .bool)]) (.i1 [.l aC]) (u3 (M.jS N)):=fz N [ahL N,ahR N] [O,T,B 17 16] Tryz.func219
def M.pz(e:bg.den)(f:bR.den)(i:Int)(g:Int):Option (Int×aG.den):=
aqH (M.nJ N e g f.1) λb=>bK (J:=List Bool) (R:=Int×aG.den) (Loop (S:=Int×List Bool) (X:=(List Bool)⊕(Int×aG.den)) (λa=>(if(ai (a.1<(b.1.length:Int)))then
bK (J:=List Bool) (R:=(Int×List Bool)⊕((List Bool)⊕(Int×aG.den))) (aqH (idx b.1 a.1) λj=>aqH (idx e.2.2.2.2 j) λh=>(if(ai ((h.2.2.2.2.2.1.length:Int)=0))then
aqH (cf a.2 ([af]:List Bool)) λk=>aa (.inl k)
else
aqH (M.mN N h.2.2.2.2.2.1 f) λc=>(if(!ai (c.2=0))then
aqH (idx b.1 a.1) λl=>aa (.inr (.inr (.inr (0,(c.2,(i,(g,l)))))))
else
aqH (cf a.2 ([ai (c.1.2.2=1)]:List Bool)) λm=>aa (.inl m)))) λn=>aa (.inl (aqJ.wrap (a.1+1),n))
else
aa (.inr (.inl a.2)))) N (0,([]:List Bool))) λo=>aqH (M.jS N b.2.1 b.2.2 o) λd=>(if(ai (d<0))then
aa (d,(0,(0,(0,0))))
else
aqH (idx b.1 d) λp=>aa (p,(0,(0,(0,0)))))
def ahT:Fo 147 (.i1 [.g bg, .g bR, .l aC, .l aC]) (.i1 [.l aC, .g aG]) (u4 (M.pz N)):=fz N [abp N,ahK N,ahS N] [O,O,O,J ⟨[(13, .val ah (.own 272))],[(272, .own 4 .bool)],[],273⟩,O,T,P ⟨[(13, .val ah (.own 288)),(14, .l aC)],[(288, .own 4 .bool)],[],289⟩,O,T,J ⟨[(13, .val ah (.own 353))],[(353, .own 4 .bool)],[288],354⟩] Tryz.func147
def M.jT(e:bg.den)(f:bR.den)(b:Int)(c:Int):Option (aE.den×Int×aG.den):=
aqH (M.pz N e f b c) λa=>(if(!ai (a.2.1=0))then
aa ((0,(0,0)),0,a.2)
else(if(ai (a.1=(-1)))then
aa ((0,(0,0)),0,(10,(b,(c,(-1)))))
else(if(ai (a.1=(-2)))then
aa ((0,(0,0)),0,(11,(b,(c,(-1)))))
else
aqH (idx e.2.2.2.2 a.1) λg=>aqH (M.mN N g.2.2.2.2.2.2.1 f) λd=>(if(!ai (d.2=0))then
aa ((0,(0,0)),0,(d.2,(b,(c,a.1))))
else
aa (d.1,a.1,(0,(0,(0,0))))))))
def W80:Fo 80 (.i1 [.g bg, .g bR, .l aC, .l aC]) (.i1 [.g aE, .l aC, .g aG]) (u4 (M.jT N)):=fz N [ahT N,abp N] [] Tryz.func80
def M.iy(d:bg.den)(f:bR.den)(i:Int)(j:List Bool):Option (aG.den×(List aE.den)×List Int):=
aqH (ol (d.2.2.2.1.length:Int) (0,(0,0))) λk=>aqH (ol (d.2.2.2.1.length:Int) 0) λl=>aqH (M.iE N d) λg=>bK (J:=Int×(List aE.den)×(List (List aE.den)×(List aD.den×List aP.den))×(List aE.den)×List Int) (R:=aG.den×(List aE.den)×List Int) (Loop (S:=Int×Int×(List aE.den)×(List (List aE.den)×(List aD.den×List aP.den))×(List aE.den)×List Int) (X:=(Int×(List aE.den)×(List (List aE.den)×(List aD.den×List aP.den))×(List aE.den)×List Int)⊕(aG.den×(List aE.den)×List Int)) (λa=>(if(ai (a.1<(g.2.length:Int)))then
bK (J:=Int×(List aE.den)×(List (List aE.den)×(List aD.den×List aP.den))×(List aE.den)×List Int) (R:=(Int×Int×(List aE.den)×(List (List aE.den)×(List aD.den×List aP.den))×(List aE.den)×List Int)⊕((Int×(List aE.den)×(List (List aE.den)×(List aD.den×List aP.den))×(List aE.den)×List Int)⊕(aG.den×(List aE.den)×List Int))) (aqH (idx g.2 a.1) λb=>aqH (idx j b) λm=>(if(!m)then
aa (.inl (a.2.1,a.2.2.1,a.2.2.2.1,a.2.2.2.2.1,a.2.2.2.2.2))
else
aqH (M.jT N d (a.2.1,(a.2.2.1,(a.2.2.2.2.1,a.2.2.2.1))) i b) λe=>(if(!ai (e.2.2.1=0))then
aa (.inr (.inr (.inr (e.2.2,([]:List aE.den),([]:List Int)))))
else
aqH (idx a.2.2.2.2.1 b) λn=>aqH (idx a.2.2.2.2.2 b) λo=>aa (.inl (a.2.1,a.2.2.1,a.2.2.2.1,bn a.2.2.2.2.1 b e.1,bn a.2.2.2.2.2 b e.2.1))))) λc=>aa (.inl (aqJ.wrap (a.1+1),c.1,c.2.1,c.2.2.1,c.2.2.2.1,c.2.2.2.2))
else
aa (.inr (.inl (a.2.1,a.2.2.1,a.2.2.2.1,a.2.2.2.2.1,a.2.2.2.2.2))))) N (0,f.1,f.2.1,f.2.2.2,k,l)) λh=>aa ((0,(0,(0,0))),h.2.2.2.1,h.2.2.2.2)
def W45:Fo 45 (.i1 [.g bg, .g bR, .l aC, .l (.slice .bool)]) (.j1 [.val ah (.own 0), .val ah (.own 1), .g aG] [.own 71 aE, .own 3 aC] 2) (u4 (M.iy N)):=fz N [W27 N,W80 N] [O,O,O,O,J ⟨[],[(16, .box 79 (.pair (.leaf aC) (.pair (.leaf (.slice aE)) (.pair (.junk 1) (.leaf (.pair (.slice (.slice aE)) (.pair (.slice aD) (.slice aP)))))))),(128, .own 71 aE),(208, .own 3 aC)],[],355⟩,O,T,P ⟨[(15, .l aC)],[(16, .box 79 (.pair (.leaf aC) (.pair (.leaf (.slice aE)) (.pair (.junk 1) (.leaf (.pair (.slice (.slice aE)) (.pair (.slice aD) (.slice aP)))))))),(128, .own 71 aE),(208, .own 3 aC)],[],371⟩,O,T,J ⟨[],[(16, .box 79 (.pair (.leaf aC) (.pair (.leaf (.slice aE)) (.pair (.junk 1) (.leaf (.pair (.slice (.slice aE)) (.pair (.slice aD) (.slice aP)))))))),(128, .own 71 aE),(208, .own 3 aC)],[],438⟩] Tryz.func45
def M.pe(N:Nat)(b:cC.den)(a:gO.den)(c:Int):Option (Int×(List aE.den)×List aP.den):=
aqH (idx a.2.2 c) λd=>aa (a.1,d,b.2.1)
def W79:Fo 79 (.i1 [.g cC, .g gO, .l aC]) (.i1 [.val af (.pair (.leaf aC) (.pair (.leaf (.slice aE)) (.pair .nil (.pair .nil (.pair .nil (.leaf (.slice aP)))))))]) (u3 (M.pe N)):=fz N [] [] Tryz.func79
def M.kw(e:cC.den)(h:Int)(f:gO.den)(i:List Bool):Option (aG.den×(List (List aE.den))×List (List Int)):=
aqH (M.gy N e h) λb=>bK (J:=(List (List aE.den))×List (List Int)) (R:=aG.den×(List (List aE.den))×List (List Int)) (Loop (S:=Int×(List (List aE.den))×List (List Int)) (X:=((List (List aE.den))×List (List Int))⊕(aG.den×(List (List aE.den))×List (List Int))) (λa=>(if(ai (a.1<(f.2.2.length:Int)))then
aqH (M.pe N e f a.1) λd=>aqH (M.iy N (b.1,(b.2.1,(b.2.2.1,(b.2.2.2.1,b.2.2.2.2)))) (d.1,(d.2.1,(([]:List aE.den),(([]:List (List aE.den)),(([]:List aD.den),d.2.2))))) a.1 i) λc=>(if(!ai (c.1.1=0))then
aa (.inr (.inr (c.1,([]:List (List aE.den)),([]:List (List Int)))))
else
aqH (cf a.2.1 ([c.2.1]:List (List aE.den))) λj=>aqH (cf a.2.2 ([c.2.2]:List (List Int))) λk=>aa (.inl (aqJ.wrap (a.1+1),j,k)))
else
aa (.inr (.inl (a.2.1,a.2.2))))) N (0,([]:List (List aE.den)),([]:List (List Int)))) λg=>aa ((0,(0,(0,0))),g.1,g.2)
def W42:Fo 42 (.i1 [.g cC, .l aC, .g gO, .l (.slice .bool)]) (.j1 [.val ah (.own 0), .val ah (.own 1), .g aG] [.own 27 (.slice aE), .own 34 (.slice aC)] 2) (u4 (M.kw N)):=fz N [W44 N,W45 N,W79 N] [O,O,O,O,J ⟨[(11, .val ah (.own 192)),(12, .val ah (.own 193))],[(192, .own 27 (.slice aE)),(193, .own 34 (.slice aC))],[],194⟩,O,T,P ⟨[(11, .val ah (.own 208)),(12, .val ah (.own 209)),(14, .l aC)],[(208, .own 27 (.slice aE)),(209, .own 34 (.slice aC))],[],210⟩] Tryz.func42
def M.oQ(b:Int):Option (List Bool):=
aqH (ol b ah) λc=>Loop (S:=Int×List Bool) (X:=List Bool) (λa=>(if(ai (a.1<b))then
aqH (idx a.2 a.1) λd=>aa (.inl (aqJ.wrap (a.1+1),bn a.2 a.1 af))
else
aa (.inr a.2))) N (0,c)
def W43:Fo 43 (.i1 [.l aC]) (.w1 4 .bool) (M.oQ N):=fz N [] [O,O,T,O,T,P ⟨[(4, .l aC)],[(32, .own 4 .bool)],[],81⟩] Tryz.func43
def M.xw(c:cC.den)(f:Int)(d:gO.den)(g:List (List aE.den)):Option (Int×(List aE.den)×(List (List aE.den))×(List aP.den)×List aD.den):=
aqH (M.gy N c f) λe=>aqH (Loop (S:=Int×Int×(List aE.den)×(List (List aE.den))×(List aP.den)×List aD.den) (X:=Int×(List aE.den)×(List (List aE.den))×(List aP.den)×List aD.den) (λa=>(if(ai (a.1<(e.2.2.2.1.length:Int)))then
aqH (idx e.2.2.2.1 a.1) λh=>aqH (cf a.2.2.2.2.2 ([h.2]:List aD.den)) λi=>aa (.inl (aqJ.wrap (a.1+1),a.2.1,a.2.2.1,a.2.2.2.1,a.2.2.2.2.1,i))
else
aa (.inr (a.2.1,a.2.2.1,a.2.2.2.1,a.2.2.2.2.1,a.2.2.2.2.2)))) N (0,d.1,d.2.1,g,c.2.1,([]:List aD.den)):Option (Int×(List aE.den)×(List (List aE.den))×(List aP.den)×List aD.den)) λb=>aa (b.1,b.2.1,b.2.2.1,b.2.2.2.1,b.2.2.2.2)
def W46:Fo 46 (.i1 [.g cC, .l aC, .g gO, .l (.slice (.slice aE))]) (.j1 [.val af (.pair (.leaf aC) (.pair (.leaf (.slice aE)) (.pair .nil (.pair (.leaf (.slice (.slice aE))) (.pair (.own 0) (.leaf (.slice aP)))))))] [.own 57 aD] 1) (u4 (M.xw N)):=fz N [W44 N] [O,O,O,R ⟨[],[(176, .box 79 (.pair (.leaf aC) (.pair (.leaf (.slice aE)) (.pair .nil (.pair (.leaf (.slice (.slice aE))) (.pair (.own 288) (.leaf (.slice aP)))))))),(288, .own 57 aD)],[],290⟩,O,T,P ⟨[(11, .l aC)],[(176, .box 79 (.pair (.leaf aC) (.pair (.leaf (.slice aE)) (.pair .nil (.pair (.leaf (.slice (.slice aE))) (.pair (.own 304) (.leaf (.slice aP)))))))),(304, .own 57 aD)],[],306⟩] Tryz.func46
def M.ug(c:cC.den)(d:Int)(g:gO.den):Option (aG.den×(List aE.den)×(List Int)×List aM.den):=
aqH (M.pU N c d g 0 ah) λi=>(if(!ai (i.1=0))then
aa (i,([]:List aE.den),([]:List Int),([]:List aM.den))
else
aqH (M.gy N c d) λk=>aqH (M.oQ N (k.2.2.2.1.length:Int)) λl=>aqH (M.kw N c d g l) λb=>(if(!ai (b.1.1=0))then
aa (b.1,([]:List aE.den),([]:List Int),([]:List aM.den))
else
aqH (idx c.2.2 d) λj=>aqH (M.xw N c d g b.2.1) λe=>aqH (M.oQ N (j.2.2.2.1.length:Int)) λm=>aqH (M.iy N j (e.1,(e.2.1,(([]:List aE.den),(e.2.2.1,(e.2.2.2.2,e.2.2.2.1))))) (-1) m) λf=>(if(!ai (f.1.1=0))then
aa (f.1,([]:List aE.den),([]:List Int),([]:List aM.den))
else
aqH (Loop (S:=Int×(List aE.den)×(List Int)×List aM.den) (X:=(List aE.den)×(List Int)×List aM.den) (λa=>(if(ai (a.1<(b.2.1.length:Int)))then
aqH (idx b.2.1 a.1) λn=>aqH (idx b.2.2 a.1) λo=>aqH (cf a.2.2.2 ([(n,o)]:List aM.den)) λp=>aa (.inl (aqJ.wrap (a.1+1),a.2.1,a.2.2.1,p))
else
aa (.inr (a.2.1,a.2.2.1,a.2.2.2)))) N (0,f.2.1,f.2.2,([]:List aM.den)):Option ((List aE.den)×(List Int)×List aM.den)) λh=>aa ((0,(0,(0,0))),h.1,h.2.1,h.2.2))))
def W21:Fo 21 (.i1 [.g cC, .l aC, .g gO]) (.j1 [.val af (.pair (.own 0) (.pair (.own 1) (.own 2))), .g aG] [.own 71 aE, .own 3 aC, .own 90 aM] 3) (u3 (M.ug N)):=fz N [W41 N,W42 N,W43 N,W44 N,W45 N,W46 N] [O,O,O,O,O,O,O,O,O,R ⟨[],[(816, .own 71 aE),(817, .own 3 aC),(1056, .box 37 (.pair (.own 816) (.pair (.own 817) (.own 1088)))),(1088, .own 90 aM)],[],1092⟩,O,T,P ⟨[(17, .l aC)],[(816, .own 71 aE),(817, .own 3 aC),(1056, .box 37 (.pair (.own 816) (.pair (.own 817) (.own 1104)))),(1104, .own 90 aM)],[],1108⟩] Tryz.func21
def M.xx(b:cC.den)(c:Int)(d:gO.den):Option (aG.den×(List aE.den)×(List Int)×List aM.den):=
aqH (M.ug N b c d) λa=>aa (a.1,a.2.1,a.2.2.1,a.2.2.2)
def W9:Fo 9 (.i1 [.g cC, .l aC, .g gO]) (.j1 [.val af (.pair (.own 0) (.pair (.own 1) (.own 2))), .g aG] [.own 71 aE, .own 3 aC, .own 90 aM] 3) (u3 (M.xx N)):=fz N [W21 N] [] Tryz.func9
def M.oR(b:List aE.den)(c:List aE.den):Option Bool:=
(if(!ai ((b.length:Int)=(c.length:Int)))then
aa ah
else
Loop (S:=Int) (X:=Bool) (λa=>aqH (if(ai (a<(b.length:Int)))then
aa (ai (a<(c.length:Int)))
else
aa ah) λd=>(if d then
aqH (idx b a) λe=>aqH (idx c a) λf=>(if(!(o6 aE e f))then
aa (.inr ah)
else
aa (.inl (aqJ.wrap (a+1))))
else
aa (.inr af))) N 0)
def W22:Fo 22 (.i1 [.l (.slice aE), .l (.slice aE)]) (.i1 [.l .bool]) (u2 (M.oR N)):=fz N [] [O,O,T,O,T,L 5 112,T,B 20 112] Tryz.func22
def M.ri(b:List Int)(c:List Int):Option Bool:=
(if(!ai ((b.length:Int)=(c.length:Int)))then
aa ah
else
Loop (S:=Int) (X:=Bool) (λa=>aqH (if(ai (a<(b.length:Int)))then
aa (ai (a<(c.length:Int)))
else
aa ah) λd=>(if d then
aqH (idx b a) λe=>aqH (idx c a) λf=>(if(!ai (e=f))then
aa (.inr ah)
else
aa (.inl (aqJ.wrap (a+1))))
else
aa (.inr af))) N 0)
def W23:Fo 23 (.i1 [.l (.slice aC), .l (.slice aC)]) (.i1 [.l .bool]) (u2 (M.ri N)):=fz N [] [O,O,T,O,T,L 5 112,T,B 20 112] Tryz.func23
def M.kF(a:aM.den)(b:aM.den):Option Bool:=
aqH (aqH (M.oR N a.1 b.1) λc=>(if c then
aqH (M.ri N a.2 b.2) λd=>aa d
else
aa ah):Option Bool) λe=>aa e
def W47:Fo 47 (.i1 [.g aM, .g aM]) (.i1 [.l .bool]) (u2 (M.kF N)):=fz N [W22 N,W23 N] [O,B 4 48] Tryz.func47
def M.jU(b:List aM.den)(c:List aM.den):Option Bool:=
(if(!ai ((b.length:Int)=(c.length:Int)))then
aa ah
else
Loop (S:=Int) (X:=Bool) (λa=>aqH (if(ai (a<(b.length:Int)))then
aa (ai (a<(c.length:Int)))
else
aa ah) λd=>(if d then
aqH (idx b a) λe=>aqH (idx c a) λf=>aqH (M.kF N e f) λg=>(if(!g)then
aa (.inr ah)
else
aa (.inl (aqJ.wrap (a+1))))
else
aa (.inr af))) N 0)
def W24:Fo 24 (.i1 [.l (.slice aM), .l (.slice aM)]) (.i1 [.l .bool]) (u2 (M.jU N)):=fz N [W47 N] [O,O,T,O,T,L 5 112,T,B 20 112] Tryz.func24
def M.qs(a:ue.den)(b:ue.den):Option Bool:=
aqH (aqH (M.oR N a.1 b.1) λc=>(if c then
aqH (M.ri N a.2.1 b.2.1) λd=>(if d then
aqH (M.jU N a.2.2 b.2.2) λe=>aa e
else
aa ah)
else
aa ah):Option Bool) λf=>aa f
def W10:Fo 10 (.i1 [.g ue, .g ue]) (.i1 [.l .bool]) (u2 (M.qs N)):=fz N [W22 N,W23 N,W24 N] [O,B 4 48] Tryz.func10
def M.nM(c:cC.den)(e:Int)(d:gO.den):Option Bool:=
aqH (aqH (M.oo N c) λf=>(if(!f)then
aa af
else
aqH (M.m7 N d) λg=>aa (!g)):Option Bool) λh=>(if h then
aqH (M.oM N) λi=>aa i
else
aqH (M.lz N c e d) λa=>aqH (M.xx N c e d) λb=>aqH (aqH (M.qs N (a.2.1,(a.2.2.1,a.2.2.2)) (b.2.1,(b.2.2.1,b.2.2.2))) λj=>(if j then(if(o6 aG a.1 b.1)then
aqH (M.oM N) λk=>aa k
else
aa ah)
else
aa ah):Option Bool) λl=>aa l)
def W3:Fo 3 (.i1 [.g cC, .l aC, .g gO]) (.i1 [.l .bool]) (u3 (M.nM N)):=fz N [W5 N,W6 N,W7 N,W8 N,W9 N,W10 N] [O,T,B 18 48,O,O,B 6 400] Tryz.func3
end
end
section
theorem aH{n:Int}(h0: -9223372036854775808<=n)(h1:n<=9223372036854775807):aqJ.wrap n=n:=by
 simp[IntKind.wrap,ase,IntKind.signed];omega
theorem aF{α:Type}{l:List α}{k:Nat}(h:k<l.length):idx l (k:Int)=aa l[k]:=by
 grind [idx]
theorem vY{α:Type}{a:α}{l:List α}:idx (a::l) 0=aa a:=rfl
theorem br{α:Type}{l m:List α}(h:l.length+m.length<=4294967296):cf l m=aa (l++m):=al h
def xy{S X:Type}{body:S->Option (S⊕X)}(I:S->Prop)(μ:S->Nat)(Q:X->Prop)
 (step:∀s,I s->(∃s',body s=aa (.inl s')/\I s'/\μ s'<μ s)\/∃x,body s=aa (.inr x)/\Q x):
 ∀N s,I s->μ s<N->∃x,Loop body N s=aa x/\Q x
 |0,_,_,h=>absurd h (by omega)
 |N+1,s,hi,aI=>by
  rcases step s hi with⟨s',hb,jn,hm⟩|⟨x,hb,hq⟩
  .obtain⟨x,hx,hq⟩:=xy I μ Q step N s' jn (by omega)
   grind [Loop]
  grind [Loop]
def Jk{S X:Type}{body:S->Option (S⊕X)}(st:Nat->S){x:X}(m:Nat)(hs:∀i,i<m->body (st i)=aa (.inl (st (i+1))))(he:body (st m)=aa (.inr x)){N:Nat}(hN:m<N):Loop body N (st 0)=aa x:=by
 have:∀k i N,i+k=m->k<N->Loop body N (st i)=aa x:=by
  intro k
  induction k with
  |zero=>rintro i (_|N) hi hN;all_goals grind [Loop]
  |succ k ih=>
   rintro i (_|N) hi hN
   all_goals grind [Loop]
 grind
def rS{S X:Type}{body:S->Option (S⊕X)}{N:Nat}{s0:S}(st:Nat->S)(m:Nat)(x:X)(h0:s0=st 0)(hs:∀i,i<m->body (st i)=aa (.inl (st (i+1))))(he:body (st m)=aa (.inr x))(hN:m<N):Loop body N s0=aa x:=by
 rw[h0];exact Jk st m hs he hN
def aJ:Nat:=18446744073709551616
section
variable {α:Type}
def Bz(n:Nat)(C:Nat->α)(k:Nat)(v:α):((arK n).map C).set k v=(arK n).map (λj=>if j=k then v else C j):=by
 apply List.ext_getElem (by simp)
 grind
def qt(n:Nat)(p:Nat->Bool):(arK (n+1)).filter p=(arK n).filter p++(if p n=af then[n]else[]):=by
 grind [List.range_succ]
end
end
end Go.Proofs.YtfjgcenlllgonaaGreatDoor
