/- Joined texts: ModelA ModelB Plain Wq PD RA RB RC RD RE RF RI. -/
import Derived.Test.YtfeahmiobbjklaaGreatDoorU7
import Derived.Test.YtfeahmiobbjklaaGreatDoorU1
import Derived.Test.YtfeahmiobbjklaaGreatDoorU4
set_option linter.defProp false
open _root_.Decidable renaming decide->ai
open _root_.Bool renaming false->ah,true->af
open _root_.Option renaming none->ae,some->aa,bind->aiz,map_eq_some_iff->ajp
open _root_.ByteArray renaming empty->ajO
open _root_.Int renaming tdiv->aiR,tmod->ai3
open _root_.Go.IntKind renaming i64->aiB,u64->aiD
open _root_.List renaming range->aiM,mem_cons->ai7,pairwise_cons->aiT,getElem_mem->aiF,getElem_of_mem->aiV,getElem?_eq_getElem->aiE
open _root_.Classical renaming propDecidable->ai6
open _root_.Nat renaming le_refl->aiH
namespace Go.Proofs.YtfeahmiobbjklaaGreatDoor
open Go Go.RowKit
set_option maxRecDepth 100000
set_option linter.unusedSimpArgs false
set_option linter.unusedVariables false
set_option linter.defProp false
section
noncomputable section
open Tk
variable (N:Nat)
set_option maxRecDepth 100000
set_option linter.unusedVariables false
def M.oV(b:List Int):Option Int:=
Loop (S:=Int) (X:=Int) (λa=>(if(ai (a<(b.length:Int)))then
aiz (idx b a) λc=>(if(!ai (c=0))then
aa (.inr c)
else
aa (.inl (aiB.wrap (a+1))))
else
aa (.inr 0))) N 0
def aba:Fo 189 (.i1 [.l (.slice aA)]) (.i1 [.l aA]) (M.oV N):=fz N [] [O,O,T,O,T,L 8 80] Tryz.func189
def M.cmp_isNaN_int(N:Nat)(a:Int):Option Bool:=
aa (!ai (a=a))
def abb:Fo 260 (.i1 [.l aA]) (.i1 [.l .bool]) (M.cmp_isNaN_int N):=fz N [] [] Tryz.func260
def M.cmp_Compare_int(a:Int)(b:Int):Option Int:=
aiz (M.cmp_isNaN_int N a) λd=>aiz (M.cmp_isNaN_int N b) λc=>(if d then(if c then
aa 0
else
aa (-1))
else(if c then
aa 1
else(if(ai (a<b))then
aa (-1)
else(if(ai (b<a))then
aa 1
else
aa 0))))
def abc:Fo 190 (.i1 [.l aA, .l aA]) (.i1 [.l aA]) (u2 (M.cmp_Compare_int N)):=fz N [abb N] [] Tryz.func190
def M.de(a:az.den)(b:az.den):Option Int:=
aiz (M.cZ N (aiD.wrap a.1)) λc=>aiz (M.cZ N (aiD.wrap b.1)) λd=>aiz (M.cmp_Compare_int N c d) λe=>aiz (M.cmp_Compare_int N a.1 b.1) λf=>aiz (M.cmp_Compare_int N a.2 b.2) λg=>aiz (M.oV N ([e,f,g]:List Int)) λh=>aa h
def abd:Fo 188 (.i1 [.g az, .g az]) (.i1 [.l aA]) (u2 (M.de N)):=fz N [aba N,abc N,Wf N] [] Tryz.func188
def M.fU(m:Int)(g:List (az.den×Bool)):Option (List (az.den×Bool)):=
rk (S:=(List (az.den×Bool))×(List (az.den×Bool))×List az.den) (R:=List (az.den×Bool)) (λb k2=>(if(b.2.1).isEmpty then
Loop (S:=(List (az.den×Bool))×List az.den) (X:=List (az.den×Bool)) (λd=>(if(ai (0<(d.2.length:Int)))then
aiz (Loop (S:=Int×(List (az.den×Bool))×List az.den) (X:=(List (az.den×Bool))×List az.den) (λc=>(if(ai (c.1<(d.2.length:Int)))then
aiz (aiz (idx d.2 c.1) λe=>Loop (S:=Int×(List (az.den×Bool))×List az.den) (X:=(List (az.den×Bool))×List az.den) (λa=>(if(ai (a.1<m))then
aiz (aiz (rA .i64 1 a.1) λh=>(if(!((bV az a.2.1 (e.1,aJ .xor .i64 e.2 h)).getD ah))then
aa (a.2.1,a.2.2)
else
aiz (M.lS N e (e.1,aJ .xor .i64 e.2 h)) λf=>aiz (if f.2 then
aa (!((bV az a.2.1 f.1).getD ah))
else
aa ah) λn=>(if n then
aiz (cz a.2.2 ([f.1]:List az.den)) λo=>aa (q6 az a.2.1 f.1 af,o)
else
aa (a.2.1,a.2.2))):Option ((List (az.den×Bool))×List az.den)) λi=>aa (.inl (aiB.wrap (a.1+1),i.1,i.2))
else
aa (.inr (a.2.1,a.2.2)))) N (0,c.2.1,c.2.2):Option ((List (az.den×Bool))×List az.den)) λj=>aa (.inl (aiB.wrap (c.1+1),j.1,j.2))
else
aa (.inr (c.2.1,c.2.2)))) N (0,d.1,([]:List az.den)):Option ((List (az.den×Bool))×List az.den)) λk=>aa (.inl (k.1,k.2))
else
aa (.inr d.1))) N (b.1,b.2.2)
else
OW (λp=>p∈b.2.1) λl=>aiz (cz b.2.2 ([l.1]:List az.den)) λq=>k2 (b.1,mT az b.2.1 l.1,q))) N (g,g,([]:List az.den))
def S0:Fo 117 (.j1 [.val ah (.own 0), .l aA] [.smap 200 az ah .bool ae] 1) (.j1 [] [.smap 200 az ah .bool ae] 2) (u2 (M.fU N)):=fz N [aa9 N] [O,T,O,T,K ⟨[(4, .val ah (.own 49))],[(0, .smap 200 az ah .bool (aa 34)),(49, .own 119 az)],[],51⟩,X,X,T,P ⟨[(4, .val ah (.own 83))],[(0, .smap 200 az ah .bool ae),(83, .own 119 az)],[49],85⟩,O,T,O,R ⟨[(6, .val ah (.own 149))],[(0, .smap 200 az ah .bool ae),(149, .own 119 az)],[],151⟩,O,T,P ⟨[(6, .val ah (.own 197)),(28, .l aA)],[(0, .smap 200 az ah .bool ae),(197, .own 119 az)],[],199⟩,O,O,R ⟨[(6, .val ah (.own 215))],[(0, .smap 200 az ah .bool ae),(215, .own 119 az)],[197],217⟩,T,O,O,T,P ⟨[(6, .val ah (.own 311)),(33, .l aA)],[(0, .smap 200 az ah .bool ae),(311, .own 119 az)],[197],313⟩,O,O,T,R ⟨[(6, .val ah (.own 329))],[(0, .smap 200 az ah .bool ae),(329, .own 119 az)],[311],331⟩,O,O,O,O,B 60 729] Tryz.func117
def M.bl(e:List az.den):Option (List az.den):=zh (λa b c d=>M.de N (a,b) (c,d)) e
def S3:pj:=⟨.j1 [.val ah (.own 0), .fn 188 []] [.own 119 az] 1, .j1 [] [.own 119 az] 2,M.bl N⟩
def S4(N:Nat):gZ Tryz.prog 187 (S3 N):=FG (abd N)
def M.iG(g:Int)(d:List (az.den×Bool)):Option ((List (az.den×Bool))×List az.den):=
rk (S:=(List (az.den×Bool))×(List (az.den×Bool))×List az.den) (R:=(List (az.den×Bool))×List az.den) (λa k2=>(if(a.2.1).isEmpty then
aiz (M.bl N a.2.2) λh=>aa (a.1,h)
else
OW (λp=>p∈a.2.1) λb=>aiz (aiz (Loop (S:=Bool×Int) (X:=Bool) (λc=>(if(ai (c.2<g))then
aiz (aiz (rA .i64 1 c.2) λe=>aiz (rA .i64 1 c.2) λf=>aiz (if(!(lA az (aJ .andNot .i64 b.1.1 e,aJ .andNot .i64 b.1.2 f) b.1))then
aa ((bV az a.1 (aJ .andNot .i64 b.1.1 e,aJ .andNot .i64 b.1.2 f)).getD ah)
else
aa ah) λi=>(if i then
aa ah
else
aa c.1):Option Bool) λj=>aa (.inl (j,aiB.wrap (c.2+1)))
else
aa (.inr c.1))) N (af,0):Option Bool) λk=>(if k then
aiz (cz a.2.2 ([b.1]:List az.den)) λl=>aa l
else
aa a.2.2):Option (List az.den)) λm=>k2 (a.1,mT az a.2.1 b.1,m))) N (d,d,([]:List az.den))
def S5:Fo 118 (.j1 [.val ah (.own 0), .l aA] [.smap 200 az ah .bool ae] 1) (.j1 [.val ah (.own 1)] [.smap 200 az ah .bool ae, .own 119 az] 3) (u2 (M.iG N)):=fz N [S4 N] [O,O,T,O,T,K ⟨[(5, .val ah (.own 65))],[(0, .smap 200 az ah .bool (aa 50)),(65, .own 119 az)],[],67⟩,O,O,R ⟨[(5, .val ah (.own 99))],[(99, .own 119 az)],[65],100⟩,O,O,R ⟨[(7, .l .bool)],[],[],179⟩,O,T,P ⟨[(7, .l .bool),(17, .l aA)],[],[],211⟩,O,O,T,R ⟨[(7, .l .bool)],[],[],227⟩,O,O,B 38 467] Tryz.func118
def M.jy(h:List Int)(p:Int):Option (List az.den):=
aiz (M.iF N p) λe=>aiz (rA .i64 1 e) λf=>aiz (Loop (S:=Int×(List (Int×Bool))×List (az.den×Bool)) (X:=(List (Int×Bool))×List (az.den×Bool)) (λb=>(if(ai (b.1<(h.length:Int)))then
aiz (aiz (idx h b.1) λd=>aiz (if(ai (0<=d))then
aa (ai (d<f))
else
aa ah) λq=>(if q then
aa (oj aA b.2.1 d af,q6 az b.2.2 (aiB.wrap (f-1),d) af)
else
aa (b.2.1,b.2.2)):Option ((List (Int×Bool))×List (az.den×Bool))) λi=>aa (.inl (aiB.wrap (b.1+1),i.1,i.2))
else
aa (.inr (b.2.1,b.2.2)))) N (0,([]:List (Int×Bool)),([]:List (az.den×Bool))):Option ((List (Int×Bool))×List (az.den×Bool))) λj=>aiz (M.fU N e j.2) λr=>aiz (M.iG N e r) λk=>Loop (S:=Int×(List (Int×Bool))×List az.den) (X:=List az.den) (λc=>(if(ai (c.1<(k.2.length:Int)))then
aiz (aiz (aiz (idx k.2 c.1) λl=>aiz (Loop (S:=Bool×Int×List (Int×Bool)) (X:=Bool×List (Int×Bool)) (λa=>(if(ai (a.2.1<f))then
aiz (aiz (if((bV aA a.2.2 a.2.1).getD ah)then
aiz (M.fL N l a.2.1) λs=>aa s
else
aa ah) λt=>(if t then
aa (af,pz aA a.2.2 a.2.1)
else
aa (a.1,a.2.2)):Option (Bool×List (Int×Bool))) λm=>aa (.inl (m.1,aiB.wrap (a.2.1+1),m.2))
else
aa (.inr (a.1,a.2.2)))) N (ah,0,c.2.1):Option (Bool×List (Int×Bool))) λg=>(if g.1 then
aiz (cz c.2.2 ([l]:List az.den)) λu=>aa (g.2,u)
else
aa (g.2,c.2.2)):Option ((List (Int×Bool))×List az.den)) λn=>aa (n.1,n.2):Option ((List (Int×Bool))×List az.den)) λo=>aa (.inl (aiB.wrap (c.1+1),o.1,o.2))
else
aa (.inr c.2.2))) N (0,j.1,([]:List az.den))
def W74:Fo 74 (.i1 [.l (.slice aA), .l aA]) (.w1 119 az) (u2 (M.jy N)):=fz N [W45 N,aa7 N,S0 N,S5 N] [O,O,O,O,O,R ⟨[],[(112, .map 199 aA ah .bool),(144, .smap 200 az ah .bool ae)],[],178⟩,O,T,P ⟨[(23, .l aA)],[(112, .map 199 aA ah .bool),(144, .smap 200 az ah .bool ae)],[],226⟩,O,O,T,R ⟨[],[(112, .map 199 aA ah .bool),(144, .smap 200 az ah .bool ae)],[],244⟩,O,B 33 290,X,X,X,O,O,T,O,T,P ⟨[(10, .val ah (.own 322)),(49, .l aA)],[(112, .map 199 aA ah .bool),(322, .own 119 az)],[],324⟩,O,O,R ⟨[(10, .val ah (.own 340))],[(112, .map 199 aA ah .bool),(340, .own 119 az)],[322],342⟩,R ⟨[(10, .val ah (.own 340))],[(112, .map 199 aA ah .bool),(340, .own 119 az)],[322],342⟩,O,O,R ⟨[(13, .l .bool)],[(112, .map 199 aA ah .bool)],[],421⟩,O,T,P ⟨[(13, .l .bool),(54, .l aA)],[(112, .map 199 aA ah .bool)],[],453⟩,O,O,T,R ⟨[(13, .l .bool)],[(112, .map 199 aA ah .bool)],[],470⟩,O,B 64 501] Tryz.func74
def M.gD(d:List Int)(i:List Int)(j:Int):Option (List aM.den):=
aiz (cz ([(-2),(-1)]:List Int) i) λe=>Loop (S:=Int×List aM.den) (X:=List aM.den) (λb=>(if(ai (b.1<(e.length:Int)))then
aiz (aiz (aiz (idx e b.1) λf=>aiz (Loop (S:=Int×List Int) (X:=List Int) (λa=>(if(ai (a.1<(d.length:Int)))then
aiz (aiz (idx d a.1) λk=>(if(ai (k=f))then
aiz (cz a.2 ([a.1]:List Int)) λl=>aa l
else
aa a.2):Option (List Int)) λm=>aa (.inl (aiB.wrap (a.1+1),m))
else
aa (.inr a.2))) N (0,([]:List Int)):Option (List Int)) λg=>(if(ai ((g.length:Int)=0))then
aa b.2
else
aiz (M.jy N g j) λh=>Loop (S:=Int×List aM.den) (X:=List aM.den) (λc=>(if(ai (c.1<(h.length:Int)))then
aiz (idx h c.1) λn=>aiz (cz c.2 ([(n,f)]:List aM.den)) λo=>aa (.inl (aiB.wrap (c.1+1),o))
else
aa (.inr c.2))) N (0,b.2)):Option (List aM.den)) λp=>aa p:Option (List aM.den)) λq=>aa (.inl (aiB.wrap (b.1+1),q))
else
aa (.inr b.2))) N (0,([]:List aM.den))
def W44:Fo 44 (.i1 [.l (.slice aA), .l (.slice aA), .l aA]) (.w1 121 aM) (u3 (M.gD N)):=fz N [W74 N] [O,O,O,T,O,T,P ⟨[(8, .val ah (.own 144)),(21, .l aA)],[(144, .own 121 aM)],[],145⟩,O,O,R ⟨[(8, .val ah (.own 161))],[(161, .own 121 aM)],[144],162⟩,R ⟨[(8, .val ah (.own 161))],[(161, .own 121 aM)],[144],162⟩,O,O,R ⟨[(11, .val ah (.own 225))],[(225, .own 3 aA)],[],226⟩,O,T,P ⟨[(11, .val ah (.own 273)),(27, .l aA)],[(273, .own 3 aA)],[],274⟩,O,O,T,R ⟨[(11, .val ah (.own 290))],[(290, .own 3 aA)],[273],291⟩,X,X,X,X,O,O,T,P ⟨[(8, .val ah (.own 354)),(47, .l aA)],[(354, .own 121 aM)],[144],355⟩] Tryz.func44
def M.jk(g:cT.den)(h:Int)(d:Int)(i:Int):Option (Int×Int×(List (List az.den))×(List Int)×List aM.den):=
aiz (M.eZ N g) λn=>(if(!(lA aI n (0,(0,(0,0)))))then
aa (0,1,([]:List (List az.den)),([]:List Int),([]:List aM.den))
else
aiz (if(ai (h<0))then
aa af
else
aa (ai ((g.2.2.length:Int)<=h))) λo=>(if o then
aa (0,6,([]:List (List az.den)),([]:List Int),([]:List aM.den))
else
aiz (idx g.2.2 h) λj=>aiz (if(ai (d<0))then
aa af
else
aa (ai ((j.2.2.2.1.length:Int)<=d))) λp=>(if p then
aa (0,6,([]:List (List az.den)),([]:List Int),([]:List aM.den))
else
aiz (if(ai (i<0))then
aa af
else
aa (ai (109572<i))) λq=>(if q then
aa (0,3,([]:List (List az.den)),([]:List Int),([]:List aM.den))
else
aiz (M.gC N j d i) λb=>aiz (nu (b.1.length:Int) 0) λr=>aiz (Loop (S:=Int×Int×(List Int)×(List (List az.den))×List Int) (X:=Int×(List Int)×(List (List az.den))×List Int) (λa=>(if(ai (a.1<(b.1.length:Int)))then
aiz (aiz (idx b.1 a.1) λl=>aiz (idx a.2.2.1 a.1) λx=>aiz (idx j.2.2.2.2 l) λk=>(if(ai ((k.2.2.2.2.2.1.length:Int)=0))then
aa (a.2.1,bg a.2.2.1 a.1 (-1),a.2.2.2.1,a.2.2.2.2)
else
aiz (M.eF N a.2.2.2.1 k.2.2.2.2.2.1) λm=>aiz ((if(ai (m<0))then
aiz (M.bM N k.2.2.2.2.2.1) λs=>aiz (cz a.2.2.2.1 ([s]:List (List az.den))) λt=>aiz (cz a.2.2.2.2 ([l]:List Int)) λu=>aa ((a.2.2.2.1.length:Int),a.2.1,t,u)
else
aa (m,a.2.1,a.2.2.2.1,a.2.2.2.2)):Option (Int×Int×(List (List az.den))×List Int)) λe=>aiz (idx (bg a.2.2.1 a.1 (-1)) a.1) λy=>aa (e.2.1,bg (bg a.2.2.1 a.1 (-1)) a.1 e.1,e.2.2.1,e.2.2.2)):Option (Int×(List Int)×(List (List az.den))×List Int)) λf=>aa (.inl (aiB.wrap (a.1+1),f.1,f.2.1,f.2.2.1,f.2.2.2))
else
aa (.inr (a.2.1,a.2.2.1,a.2.2.2.1,a.2.2.2.2)))) N (0,d,r,([]:List (List az.den)),([]:List Int)):Option (Int×(List Int)×(List (List az.den))×List Int)) λc=>aiz (M.cD N b.1 b.2.1 b.2.2 c.2.1 (c.2.2.1.length:Int)) λv=>aiz (M.gD N v b.1 (c.2.2.1.length:Int)) λw=>aa (c.1,0,c.2.2.1,c.2.2.2,w)))))
def W19:Fo 19 (.i1 [.g cT, .l aA, .l aA, .l aA]) (.j1 [.val af (.pair (.leaf aA) (.pair (.own 0) (.pair (.own 1) (.own 2)))), .l aA] [.own 43 (.slice az), .own 3 aA, .own 121 aM] 3) (u4 (M.jk N)):=fz N [W28 N,W40 N,W41 N,W42 N,W43 N,W44 N] [O,O,T,B 34 112,O,T,B 49 224,T,B 56 224,O,O,O,R ⟨[],[(256, .box 26 (.pair (.leaf aA) (.pair (.own 528) (.pair (.own 529) .nil)))),(496, .own 3 aA),(528, .own 43 (.slice az)),(529, .own 3 aA)],[],532⟩,O,T,P ⟨[(73, .l aA)],[(256, .box 26 (.pair (.leaf aA) (.pair (.own 576) (.pair (.own 577) .nil)))),(496, .own 3 aA),(576, .own 43 (.slice az)),(577, .own 3 aA)],[],580⟩,O,O,T,R ⟨[],[(256, .box 26 (.pair (.leaf aA) (.pair (.own 596) (.pair (.own 597) .nil)))),(496, .own 3 aA),(596, .own 43 (.slice az)),(597, .own 3 aA)],[576,577],600⟩,O,O,O,O,O,R ⟨[(19, .l aA)],[(256, .box 26 (.pair (.leaf aA) (.pair (.own 980) (.pair (.own 981) .nil)))),(980, .own 43 (.slice az)),(981, .own 3 aA)],[576,577],983⟩] Tryz.func19
def M.dY(N:Nat)(a:List Int):Option Int:=
aa (a.length:Int)
def W97:Fo 97 (.i1 [.l (.slice aA)]) (.i1 [.l aA]) (M.dY N):=fz N [] [] Tryz.func97
def M.dG(N:Nat)(a:List Int)(b:Int)(c:Int):Option Bool:=
aiz (idx a b) λd=>aiz (idx a c) λe=>aa (ai (d<e))
def Wg:Fo 393 (.i1 [.l (.slice aA), .l aA, .l aA]) (.i1 [.l .bool]) (u3 (M.dG N)):=fz N [] [] Tryz.func393
def M.lG(N:Nat)(a:List Int):Option (Int×List Int):=
aiz (idx a (aiB.wrap ((a.length:Int)-1))) λb=>aiz (gI a 0 (aiB.wrap ((a.length:Int)-1))) λc=>aa (b,c)
def abf:Fo 394 (.j1 [.ptr 0 [] 0] [.box 184 (.own 1), .own 3 aA] 2) ⟨[(0, .ifc 3 (.l aA))],[(0, .box 184 (.own 2)),(2, .own 3 aA)],[],4⟩ (M.lG N):=fz N [] [] Tryz.func394
def M.k6(d:aP.den):Option (List (List Int)):=
aiz (nu (d.2.2.2.1.length:Int) ([]:List Int)) λf=>aiz (Loop (S:=Int×List (List Int)) (X:=List (List Int)) (λb=>(if(ai (b.1<(d.2.2.2.2.length:Int)))then
aiz (aiz (idx d.2.2.2.2 b.1) λc=>aiz (if(ai (0<=c.2.1))then
aa (ai (c.2.1<(b.2.length:Int)))
else
aa ah) λg=>(if g then
aiz (idx b.2 c.2.1) λn=>aiz (idx b.2 c.2.1) λh=>aiz (M.fy N c (b.2.length:Int)) λi=>aiz (cz h i) λj=>aiz (idx b.2 c.2.1) λo=>(if ai (c.2.1=c.2.1)then
aiz (idx b.2 c.2.1) λp=>aa (sy b.2 c.2.1 (λq=>j))
else ae)
else
aa b.2):Option (List (List Int))) λk=>aa (.inl (aiB.wrap (b.1+1),k))
else
aa (.inr b.2))) N (0,f):Option (List (List Int))) λe=>Loop (S:=Int×List (List Int)) (X:=List (List Int)) (λa=>(if(ai (a.1<(e.length:Int)))then
aiz (idx a.2 a.1) λr=>aiz (idx a.2 a.1) λl=>aiz (M.iE N l) λm=>aiz (idx a.2 a.1) λs=>(if ai (a.1=a.1)then
aiz (idx a.2 a.1) λt=>aa (.inl (aiB.wrap (a.1+1),sy a.2 a.1 (λu=>m)))
else ae)
else
aa (.inr a.2))) N (0,e)
def Wh:pj:=⟨.i1 [.g aP], .j1 [.val ah (.own 0)] [.deep 23 (.sl 3 (.leaf aA))] 1,M.k6 N⟩
def Wi(N:Nat):gZ Tryz.prog 95 (Wh N):=fw (en [ck (Wa N),ck (Mn N)] af ah) (N:=N) (.o (.o (.meet ⟨[],[(80, .deep 23 (.sl 3 (.leaf aA)))],[],113⟩ (.o (.two (.loop ⟨[(15, .l aA)],[(80, .deep 23 (.sl 3 (.leaf aA)))],[],177⟩ (.o (.o (.two (.meet ⟨[],[(80, .deep 23 (.sl 3 (.leaf aA)))],[],194⟩ (.o (.meet ⟨[(28, .l .bool)],[],[],257⟩ .nil .nil)) .nil) .nil)))) .nil)) (.two (.o (.two (.loop ⟨[(46, .l aA)],[(80, .deep 23 (.sl 3 (.leaf aA)))],[],162⟩ .nil) .nil)) .nil)))) Tryz.func95 (by kernel_rfl) λx=>by kernel_rfl
def M.jm(N:Nat)(a:Int)(b:List Int):Option (List Int):=
aiz (cz b ([a]:List Int)) λc=>aa c
def S6:Fo 395 (.j1 [.ptr 0 [] 0, .ifc 3 (.l aA)] [.box 184 (.own 1), .own 3 aA] 2) ⟨[],[(0, .box 184 (.own 2)),(2, .own 3 aA)],[],4⟩ (u2 (M.jm N)):=fz N [] [] Tryz.func395
def M.cR(N:Nat)(b:Int)(c:Int)(a:List Int):Option (List Int):=
aiz (idx a c) λd=>aiz (idx a b) λe=>aiz (idx a b) λf=>aiz (idx (bg a b d) c) λg=>aa (bg (bg a b d) c e)
def FI:Fo 396 (.j1 [.val ah (.own 0), .l aA, .l aA] [.own 3 aA] 1) (.j1 [] [.own 3 aA] 2) (u3 (M.cR N)):=fz N [] [] Tryz.func396
def M.fV(b:Int)(c:List Int):Option (List Int):=
Loop (S:=Int×List Int) (X:=List Int) (λa=>aiz (if(ai ((aiB.wrap (aiR (aiB.wrap (a.1-1)) 2))=a.1))then
aa af
else
aiz (M.dG N a.2 a.1 (aiB.wrap (aiR (aiB.wrap (a.1-1)) 2))) λd=>aa (!d)) λe=>(if e then
aa (.inr a.2)
else
aiz (M.cR N (aiB.wrap (aiR (aiB.wrap (a.1-1)) 2)) a.1 a.2) λf=>aa (.inl (aiB.wrap (aiR (aiB.wrap (a.1-1)) 2),f)))) N (b,c)
def S7:Fo 164 (.j1 [.ifc 183 (.ptr 0 [] 0), .l aA] [.box 184 (.own 1), .own 3 aA] 2) (.j1 [] [.box 184 (.own 1), .own 3 aA] 4) (u2 (M.fV N)):=fz N [Wg N,FI N] [T,P ⟨[(1, .l aA)],[(1, .own 3 aA)],[],3⟩,T,O,T,B 17 67] Tryz.func164
def M.cX(b:Int)(c:List Int):Option (List Int):=
aiz (M.jm N b c) λa=>aiz (M.dY N a) λd=>aiz (M.fV N (aiB.wrap (d-1)) a) λe=>aa e
def Wj:Fo 96 (.j1 [.ifc 183 (.ptr 0 [] 0), .ifc 3 (.l aA)] [.box 184 (.own 1), .own 3 aA] 2) ⟨[],[(0, .box 184 (.own 2)),(2, .own 3 aA)],[],4⟩ (u2 (M.cX N)):=fz N [W97 N,S7 N,S6 N] [] Tryz.func96
def M.fc(c:Int)(d:Int)(f:List Int):Option (Bool×List Int):=
aiz (Loop (S:=Int×List Int) (X:=Int×List Int) (λa=>aiz (if(ai (d<=(aiB.wrap ((aiB.wrap (2*a.1))+1))))then
aa af
else
aa (ai ((aiB.wrap ((aiB.wrap (2*a.1))+1))<0))) λg=>(if g then
aa (.inr (a.1,a.2))
else
aiz (aiz (if(ai ((aiB.wrap ((aiB.wrap ((aiB.wrap (2*a.1))+1))+1))<d))then
aiz (M.dG N a.2 (aiB.wrap ((aiB.wrap ((aiB.wrap (2*a.1))+1))+1)) (aiB.wrap ((aiB.wrap (2*a.1))+1))) λh=>aa h
else
aa ah) λi=>(if i then
aa (aiB.wrap ((aiB.wrap ((aiB.wrap (2*a.1))+1))+1))
else
aa (aiB.wrap ((aiB.wrap (2*a.1))+1))):Option Int) λb=>aiz (M.dG N a.2 b a.1) λj=>(if(!j)then
aa (.inr (a.1,a.2))
else
aiz (M.cR N a.1 b a.2) λk=>aa (.inl (b,k))))) N (c,f):Option (Int×List Int)) λe=>aa (ai (c<e.1),e.2)
def S8:Fo 165 (.j1 [.ifc 183 (.ptr 0 [] 0), .l aA, .l aA] [.box 184 (.own 1), .own 3 aA] 2) (.j1 [.l .bool] [.box 184 (.own 1), .own 3 aA] 4) (u3 (M.fc N)):=fz N [Wg N,FI N] [O,O,T,R ⟨[(7, .l aA)],[(1, .own 3 aA)],[],51⟩,P ⟨[(7, .l aA)],[(1, .own 3 aA)],[],51⟩,T,O,T,B 21 115,O,R ⟨[(9, .l aA)],[],[],147⟩,O,B 33 195] Tryz.func165
def M.fG(a:List Int):Option (Int×List Int):=
aiz (M.dY N a) λb=>aiz (M.cR N 0 (aiB.wrap (b-1)) a) λd=>aiz (M.fc N 0 (aiB.wrap (b-1)) d) λe=>aiz (M.lG N e.2) λc=>aa (c.1,c.2)
def Wk:Fo 98 (.j1 [.ifc 183 (.ptr 0 [] 0)] [.box 184 (.own 1), .own 3 aA] 2) ⟨[(0, .ifc 3 (.l aA))],[(0, .box 184 (.own 2)),(2, .own 3 aA)],[],4⟩ (M.fG N):=fz N [W97 N,S8 N,abf N,FI N] [] Tryz.func98
def M.bo(s:aP.den):Option (Int×List Int):=
aiz (aiz (M.k6 N s) λt=>aa t:Option (List (List Int))) λg=>aiz (nu (g.length:Int) ([]:List Int)) λu=>aiz (nu (g.length:Int) 0) λv=>aiz (aiz (Loop (S:=Int×(List (List Int))×(List Int)×List Int) (X:=(List (List Int))×(List Int)×List Int) (λa=>(if(ai (a.1<(g.length:Int)))then
aiz (aiz (aiz (idx g a.1) λh=>aiz (idx a.2.2.1 a.1) λF=>aiz (Loop (S:=Int×List (List Int)) (X:=List (List Int)) (λc=>(if(ai (c.1<(h.length:Int)))then
aiz (idx h c.1) λd=>aiz (idx c.2 d) λG=>aiz (idx c.2 d) λw=>aiz (cz w ([a.1]:List Int)) λx=>aiz (idx c.2 d) λH=>(if ai (d=d)then
aiz (idx c.2 d) λI=>aa (.inl (aiB.wrap (c.1+1),sy c.2 d (λQ=>x)))
else ae)
else
aa (.inr c.2))) N (0,a.2.1):Option (List (List Int))) λo=>(if(ai ((h.length:Int)=0))then
aiz (M.cX N a.1 a.2.2.2) λy=>aa (o,bg a.2.2.1 a.1 (h.length:Int),y)
else
aa (o,bg a.2.2.1 a.1 (h.length:Int),a.2.2.2)):Option ((List (List Int))×(List Int)×List Int)) λi=>aa (i.1,i.2.1,i.2.2):Option ((List (List Int))×(List Int)×List Int)) λj=>aa (.inl (aiB.wrap (a.1+1),j.1,j.2.1,j.2.2))
else
aa (.inr (a.2.1,a.2.2.1,a.2.2.2)))) N (0,u,v,([]:List Int)):Option ((List (List Int))×(List Int)×List Int)) λk=>aa (k.1,k.2.1,k.2.2):Option ((List (List Int))×(List Int)×List Int)) λl=>aiz (Loop (S:=(List Int)×(List Int)×List Int) (X:=(List Int)×List Int) (λf=>aiz (M.dY N f.2.2) λz=>(if(ai (0<z))then
aiz (M.fG N f.2.2) λm=>aiz (cz f.2.1 ([m.1]:List Int)) λA=>aiz (idx l.1 m.1) λp=>Loop (S:=Int×(List Int)×List Int) (X:=((List Int)×(List Int)×List Int)⊕((List Int)×List Int)) (λb=>(if(ai (b.1<(p.length:Int)))then
aiz (aiz (idx p b.1) λe=>aiz (idx b.2.1 e) λn=>aiz (idx b.2.1 e) λU=>aiz (idx (bg b.2.1 e (aiB.wrap (n-1))) e) λC=>(if(ai (C=0))then
aiz (M.cX N e b.2.2) λD=>aa (bg b.2.1 e (aiB.wrap (n-1)),D)
else
aa (bg b.2.1 e (aiB.wrap (n-1)),b.2.2)):Option ((List Int)×List Int)) λq=>aa (.inl (aiB.wrap (b.1+1),q.1,q.2))
else
aa (.inr (.inl (b.2.1,A,b.2.2))))) N (0,f.1,m.2)
else
aa (.inr (f.2.1,f.2.2)))) N (l.2.1,([]:List Int),l.2.2):Option ((List Int)×List Int)) λr=>(if(ai ((r.1.length:Int)<(g.length:Int)))then
aa (9,([]:List Int))
else
aa (0,r.1))
def S60:pj:=⟨.i1 [.g aP], .j1 [.val ah (.own 0), .l aA] [.own 3 aA] 1,M.bo N⟩
def W60(N:Nat):gZ Tryz.prog 60 (S60 N):=fw (en [ck (Wi N),ck (Wj N),ck (W97 N),ck (Wk N)] af ah) (N:=N) (.o (.meet ⟨[(4, .l (.slice (.slice aA)))],[],[],48⟩ .nil (.o (.o (.o (.meet ⟨[(5, .l (.slice (.slice aA)))],[(144, .own 3 aA),(192, .box 184 (.own 224)),(224, .own 3 aA)],[80,176],227⟩ (.o (.meet ⟨[(5, .l (.slice (.slice aA)))],[(144, .own 3 aA),(192, .box 184 (.own 272)),(272, .own 3 aA)],[80,176],275⟩ (.loop ⟨[(29, .l aA)],[(80, .deep 23 (.sl 3 (.leaf aA))),(144, .own 3 aA),(192, .box 184 (.own 272)),(272, .own 3 aA)],[176],276⟩ (.o (.o (.meet ⟨[],[(80, .deep 23 (.sl 3 (.leaf aA))),(144, .own 3 aA),(192, .box 184 (.own 292)),(292, .own 3 aA)],[272],296⟩ (.meet ⟨[],[(80, .deep 23 (.sl 3 (.leaf aA))),(144, .own 3 aA),(192, .box 184 (.own 292)),(292, .own 3 aA)],[272],296⟩ (.o (.o (.meet ⟨[],[(80, .deep 23 (.sl 3 (.leaf aA)))],[],469⟩ (.o (.two (.loop ⟨[(41, .l aA)],[(80, .deep 23 (.sl 3 (.leaf aA)))],[],517⟩ .nil) .nil)) .nil))) .nil) .nil)))) .nil)) (.o (.meet ⟨[(12, .val ah (.own 243))],[(192, .box 184 (.own 244)),(243, .own 3 aA),(244, .own 3 aA)],[144,224],246⟩ (.two (.loop ⟨[(12, .val ah (.own 243))],[(144, .own 3 aA),(192, .box 184 (.own 244)),(243, .own 3 aA),(244, .own 3 aA)],[224],247⟩ (.o (.two (.o (.o (.o (.two (.loop ⟨[(86, .l aA)],[(144, .own 3 aA),(192, .box 184 (.own 647)),(647, .own 3 aA)],[361],650⟩ (.o (.o (.two (.meet ⟨[],[(144, .own 3 aA),(192, .box 184 (.own 666)),(666, .own 3 aA)],[647],669⟩ .nil .nil) .nil)))) .nil)))) .nil))) .nil) .nil)))))))) Tryz.func60 (by kernel_rfl) λx=>by kernel_rfl
def M.cY(d:cT.den)(e:Int)(g:Int):Option (aP.den×(List Int)×(List bE.den)×List Int):=
aiz (idx d.2.2 e) λb=>aiz (nu (b.2.2.2.1.length:Int) (0,(([]:List (List az.den)),(([]:List Int),([]:List aM.den))))) λh=>aiz (nu (b.2.2.2.1.length:Int) 0) λi=>aiz (M.bo N b) λj=>aiz (Loop (S:=Int×(List bE.den)×List Int) (X:=(List bE.den)×List Int) (λa=>(if(ai (a.1<(b.2.2.2.1.length:Int)))then
aiz (M.jk N d e a.1 g) λc=>aiz (idx a.2.1 a.1) λk=>aiz (idx a.2.2 a.1) λl=>aa (.inl (aiB.wrap (a.1+1),bg a.2.1 a.1 (c.1,(c.2.2.1,(c.2.2.2.1,c.2.2.2.2))),bg a.2.2 a.1 c.2.1))
else
aa (.inr (a.2.1,a.2.2)))) N (0,h,i):Option ((List bE.den)×List Int)) λf=>aa (b,j.2,f.1,f.2)
def W30:Fo 30 (.i1 [.g cT, .l aA, .l aA]) (.j1 [.val af (.pair (.leaf aP) (.pair (.own 0) (.pair (.own 1) (.own 2))))] [.own 3 aA, .own 26 bE, .own 36 aA] 3) (u3 (M.cY N)):=fz N [W19 N,W60 N] [O,O,O,O,R ⟨[],[(208, .own 26 bE),(272, .own 36 aA)],[],450⟩,O,T,P ⟨[(34, .l aA)],[(208, .own 26 bE),(272, .own 36 aA)],[],514⟩] Tryz.func30
def M.gE(b:bE.den)(d:Int):Option (Int×Bool):=
Loop (S:=Int) (X:=Int×Bool) (λa=>(if(ai (a<(b.2.2.2.length:Int)))then
aiz (idx b.2.2.2 a) λc=>aiz (M.fL N c.1 d) λe=>(if e then
aa (.inr (c.2,af))
else
aa (.inl (aiB.wrap (a+1))))
else
aa (.inr (0,ah)))) N 0
def W20:Fo 20 (.i1 [.g bE, .l aA]) (.i1 [.l aA, .l .bool]) (u2 (M.gE N)):=fz N [W45 N] [O,T,O,T,L 11 112] Tryz.func20
def M.jz(N:Nat)(b:bE.den)(a:Int):Option Int:=
aiz (if(ai (a<0))then
aa af
else
aa (ai ((b.2.2.1.length:Int)<=a))) λc=>(if c then
aa (-1)
else
aiz (idx b.2.2.1 a) λd=>aa d)
def W99:Fo 99 (.i1 [.g bE, .l aA]) (.i1 [.l aA]) (u2 (M.jz N)):=fz N [] [O,T,B 13 32] Tryz.func99
def M.fe(b:dM.den)(d:Int)(g:eN.den):Option (aB.den×Int×Int):=
aiz (idx b.2.2.2 d) λh=>(if(!ai (h=0))then
aiz (idx b.2.2.2 d) λi=>aa ((0,(0,0)),(-1),i)
else
aiz (idx b.2.2.1 d) λe=>aiz (M.cQ N e g) λc=>(if(!ai (c.2.2=0))then
aiz (M.jz N e c.2.1) λj=>aa ((0,(0,0)),j,c.2.2)
else
aiz (M.gE N e c.1) λa=>aiz (if(!a.2)then
aa af
else
aa (ai (a.1=(-1)))) λk=>(if k then
aa ((0,(0,0)),(-1),10)
else(if(ai (a.1=(-2)))then
aa ((0,(0,0)),(-1),11)
else
aiz (idx b.1.2.2.2.2 a.1) λl=>aiz (M.dW N l.2.2.2.2.2.2.1 g) λf=>(if(!ai (f.2=0))then
aa ((0,(0,0)),a.1,f.2)
else
aa (f.1,a.1,0))))))
def W61:Fo 61 (.i1 [.g dM, .l aA, .g eN]) (.i1 [.g aB, .l aA, .l aA]) (u3 (M.fe N)):=fz N [W10 N,W20 N,V0 N,W99 N] [O,O,O,O,O,O,T,B 58 608] Tryz.func61
def M.fA(c:dM.den)(e:eN.den)(g:Int):Option (aI.den×(List aB.den)×List Int):=
aiz (nu (c.1.2.2.2.1.length:Int) (0,(0,0))) λh=>aiz (nu (c.1.2.2.2.1.length:Int) 0) λi=>b9 (J:=(List aB.den)×List Int) (R:=aI.den×(List aB.den)×List Int) (Loop (S:=Int×(List aB.den)×List Int) (X:=((List aB.den)×List Int)⊕(aI.den×(List aB.den)×List Int)) (λa=>(if(ai (a.1<(c.2.1.length:Int)))then
aiz (idx c.2.1 a.1) λb=>aiz (M.fe N c b (e.1,(e.2.1,(a.2.1,e.2.2.2)))) λd=>(if(!ai (d.2.2=0))then
aa (.inr (.inr ((d.2.2,(g,(b,d.2.1))),([]:List aB.den),([]:List Int))))
else
aiz (idx a.2.1 b) λj=>aiz (idx a.2.2 b) λk=>aa (.inl (aiB.wrap (a.1+1),bg a.2.1 b d.1,bg a.2.2 b d.2.1)))
else
aa (.inr (.inl (a.2.1,a.2.2))))) N (0,h,i)) λf=>aa ((0,(0,(0,0))),f.1,f.2)
def W31:Fo 31 (.i1 [.g dM, .g eN, .l aA]) (.j1 [.val ah (.own 0), .val ah (.own 1), .g aI] [.own 40 aB, .own 3 aA] 2) (u3 (M.fA N)):=fz N [W61 N] [O,O,O,J ⟨[],[(144, .own 40 aB),(256, .own 3 aA)],[],290⟩,O,T,P ⟨[(29, .l aA)],[(144, .own 40 aB),(256, .own 3 aA)],[],354⟩] Tryz.func31
def M.cr(b:cT.den)(g:Int)(c:dT.den):Option (aI.den×(List aB.den)×(List Int)×List aD.den):=
aiz (M.eZ N b) λo=>(if(!(lA aI o (0,(0,(0,0)))))then
aa ((1,((-1),((-1),(-1)))),([]:List aB.den),([]:List Int),([]:List aD.den))
else
aiz (if(ai (g<0))then
aa af
else
aa (ai ((b.2.2.length:Int)<=g))) λp=>(if p then
aa ((6,((-1),((-1),(-1)))),([]:List aB.den),([]:List Int),([]:List aD.den))
else
aiz (M.b8 N b g c) λm=>(if(!ai (m.2.2=0))then
aa ((m.2.2,(m.1,((-1),(-1)))),([]:List aB.den),([]:List Int),([]:List aD.den))
else
b9 (J:=Int×(List aB.den)×(List aT.den)×(List aD.den)×(List (List aB.den))×List az.den) (R:=aI.den×(List aB.den)×(List Int)×List aD.den) (aiz (idx b.2.2 g) λi=>aiz (if(ai (0<=i.2.1))then
aa (ai (i.2.1<(b.2.2.length:Int)))
else
aa ah) λq=>(if q then
aiz (aiz (idx b.2.2 i.2.1) λn=>Loop (S:=Int×Int×(List aB.den)×(List aT.den)×List az.den) (X:=Int×(List aB.den)×(List aT.den)×List az.den) (λd=>(if(ai (d.1<(n.2.2.2.1.length:Int)))then
aiz (idx n.2.2.2.1 d.1) λr=>aiz (cz d.2.2.2.2 ([r.2]:List az.den)) λs=>aa (.inl (aiB.wrap (d.1+1),d.2.1,d.2.2.1,d.2.2.2.1,s))
else
aa (.inr (d.2.1,d.2.2.1,d.2.2.2.1,d.2.2.2.2)))) N (0,c.1,c.2.1,b.2.1,([]:List az.den)):Option (Int×(List aB.den)×(List aT.den)×List az.den)) λe=>(if(ai (0<(c.2.2.length:Int)))then
aiz (M.cY N b i.2.1 c.1) λj=>Loop (S:=Int×Int×(List aB.den)×(List aT.den)×(List az.den)×(List aD.den)×List (List aB.den)) (X:=(Int×(List aB.den)×(List aT.den)×(List aD.den)×(List (List aB.den))×List az.den)⊕(aI.den×(List aB.den)×(List Int)×List aD.den)) (λa=>(if(ai (a.1<(c.2.2.length:Int)))then
aiz (idx c.2.2 a.1) λt=>aiz (M.fA N (j.1,(j.2.1,(j.2.2.1,j.2.2.2))) (c.1,(t,(([]:List aB.den),(([]:List (List aB.den)),(([]:List az.den),b.2.1))))) a.1) λh=>(if(!(lA aI h.1 (0,(0,(0,0)))))then
aa (.inr (.inr (h.1,([]:List aB.den),([]:List Int),([]:List aD.den))))
else
aiz (cz a.2.2.2.2.2.1 ([(h.2.1,h.2.2)]:List aD.den)) λu=>aiz (cz a.2.2.2.2.2.2 ([h.2.1]:List (List aB.den))) λv=>aa (.inl (aiB.wrap (a.1+1),a.2.1,a.2.2.1,a.2.2.2.1,a.2.2.2.2.1,u,v)))
else
aa (.inr (.inl (a.2.1,a.2.2.1,a.2.2.2.1,a.2.2.2.2.2.1,a.2.2.2.2.2.2,a.2.2.2.2.1))))) N (0,e.1,e.2.1,e.2.2.1,e.2.2.2,([]:List aD.den),([]:List (List aB.den)))
else
aa (.inl (e.1,e.2.1,e.2.2.1,([]:List aD.den),([]:List (List aB.den)),e.2.2.2)))
else
aa (.inl (c.1,c.2.1,b.2.1,([]:List aD.den),([]:List (List aB.den)),([]:List az.den))))) λf=>aiz (M.cY N b g c.1) λk=>aiz (M.fA N (k.1,(k.2.1,(k.2.2.1,k.2.2.2))) (f.1,(f.2.1,(([]:List aB.den),(f.2.2.2.2.1,(f.2.2.2.2.2,f.2.2.1))))) (-1)) λl=>(if(!(lA aI l.1 (0,(0,(0,0)))))then
aa (l.1,([]:List aB.den),([]:List Int),([]:List aD.den))
else
aa ((0,(0,(0,0))),l.2.1,l.2.2,f.2.2.2.1)))))
def W15:Fo 15 (.i1 [.g cT, .l aA, .g dT]) (.j1 [.val af (.pair (.own 0) (.pair (.own 1) (.own 2))), .g aI] [.own 40 aB, .own 3 aA, .own 63 aD] 3) (u3 (M.cr N)):=fz N [W28 N,W29 N,W30 N,W31 N] [O,O,T,B 40 128,O,O,O,J ⟨[],[(336, .box 55 (.pair .nil (.pair .nil (.own 496)))),(464, .box 32 (.pair (.leaf aA) (.pair (.leaf (.slice aB)) (.pair .nil (.pair (.own 497) (.pair (.own 498) (.leaf (.slice aT)))))))),(496, .own 63 aD),(497, .own 27 (.slice aB)),(498, .own 74 az)],[],501⟩,O,R ⟨[(78, .l .bool)],[],[],608⟩,X,T,R ⟨[],[(464, .box 32 (.pair (.leaf aA) (.pair (.leaf (.slice aB)) (.pair .nil (.pair .nil (.pair (.own 608) (.leaf (.slice aT)))))))),(608, .own 74 az)],[],610⟩,O,T,P ⟨[(86, .l aA)],[(464, .box 32 (.pair (.leaf aA) (.pair (.leaf (.slice aB)) (.pair .nil (.pair .nil (.pair (.own 736) (.leaf (.slice aT)))))))),(736, .own 74 az)],[],738⟩,X,X,O,T,O,O,T,P ⟨[(110, .l aA)],[(336, .box 55 (.pair .nil (.pair .nil (.own 850)))),(464, .box 32 (.pair (.leaf aA) (.pair (.leaf (.slice aB)) (.pair .nil (.pair (.own 851) (.pair (.own 608) (.leaf (.slice aT)))))))),(608, .own 74 az),(850, .own 63 aD),(851, .own 27 (.slice aB))],[],855⟩] Tryz.func15
def M.sK(N:Nat)(a:List az.den):Option (List aP.den):=
aa ([((⟨#[104,111,117,115,101]⟩:ByteArray),((-1),(([((⟨#[97]⟩:ByteArray),(3,0))]:List bF.den),(([((⟨#[100]⟩:ByteArray),(3,0))]:List bF.den),([((⟨#[98,97,115,101]⟩:ByteArray),(0,((-1),(0,((0,109573),(([]:List az.den),(a,ajO)))))))]:List da.den)))))]:List aP.den)
def W22:Fo 22 (.i1 [.l (.slice az)]) (.j1 [.val af (.pair .nil (.pair .nil (.own 0)))] [.own 68 aP] 1) (M.sK N):=fz N [] [] Tryz.func22
def M.mP(b:List Int)(c:List Int):Option Bool:=
(if(!ai ((b.length:Int)=(c.length:Int)))then
aa ah
else
Loop (S:=Int) (X:=Bool) (λa=>aiz (if(ai (a<(b.length:Int)))then
aa (ai (a<(c.length:Int)))
else
aa ah) λd=>(if d then
aiz (idx b a) λe=>aiz (idx c a) λf=>(if(!ai (e=f))then
aa (.inr ah)
else
aa (.inl (aiB.wrap (a+1))))
else
aa (.inr af))) N 0)
def W23:Fo 23 (.i1 [.l (.slice aA), .l (.slice aA)]) (.i1 [.l .bool]) (u2 (M.mP N)):=fz N [] [O,O,T,O,T,L 5 112,T,B 20 112] Tryz.func23
def M.l4:Option Bool:=
aiz (M.cQ N (0,(([([(1,1)]:List az.den),([(1,0)]:List az.den)]:List (List az.den)),(([]:List Int),([]:List aM.den)))) (0,(([]:List aB.den),(([]:List aB.den),(([]:List (List aB.den)),(([]:List az.den),([]:List aT.den))))))) λb=>aiz (M.cQ N (0,(([([(1,1)]:List az.den),([(2,5)]:List az.den)]:List (List az.den)),(([]:List Int),([]:List aM.den)))) (0,(([]:List aB.den),(([]:List aB.den),(([]:List (List aB.den)),(([]:List az.den),([]:List aT.den))))))) λc=>aiz (M.sK N ([(7,0)]:List az.den)) λd=>aiz (M.cr N (([]:List dL.den),(([]:List aT.den),d)) 0 (36525,(([(3,(0,1250))]:List aB.den),([]:List (List aB.den))))) λa=>aiz (if(ai (b.1=1))then(if(ai (b.2.1=(-1)))then(if(ai (b.2.2=0))then(if(ai (c.1=0))then(if(ai (c.2.1=1))then(if(ai (c.2.2=8))then(if(ai (a.1.1=0))then(if(ai ((a.2.1.length:Int)=1))then
aiz (idx a.2.1 0) λe=>(if(ai (e.2.2=1250))then
aiz (M.mP N a.2.2.1 ([0]:List Int)) λf=>aa f
else
aa ah)
else
aa ah)
else
aa ah)
else
aa ah)
else
aa ah)
else
aa ah)
else
aa ah)
else
aa ah)
else
aa ah) λg=>aa g
def W9:Fo 9 (.i1 []) (.i1 [.l .bool]) (λ(x:Unit)=>M.l4 N):=fz N [W10 N,W15 N,W22 N,W23 N] [O,O,O,O,O,O,B 0 816] Tryz.func9
def M.pX(N:Nat)(a:az.den):Option Bool:=
aiz (if(ai (0<=a.1))then(if(ai (a.1<=a.2))then
aa (ai (a.2<=109573))
else
aa ah)
else
aa ah) λb=>aa b
def M.mW(a:az.den)(b:Int):Option Bool:=
aiz (aiz (M.pX N a) λc=>(if c then(if(ai (a.1<=b))then
aa (ai (b<a.2))
else
aa ah)
else
aa ah):Option Bool) λd=>aa d
def M.jW(a:aP.den):Option Bool:=
aiz (if(ai (80<(a.1.size:Int)))then
aa af
else(if(ai (14<(a.2.2.1.length:Int)))then
aa af
else(if(ai (14<(a.2.2.2.1.length:Int)))then
aa af
else
aa (ai (60<(a.2.2.2.2.length:Int)))))) λf=>(if f then
aa ah
else
b9 (J:=Unit) (R:=Bool) (Loop (S:=Int) (X:=Unit⊕Bool) (λc=>(if(ai (c<(a.2.2.1.length:Int)))then
aiz (idx a.2.2.1 c) λg=>(if(ai (80<(g.1.size:Int)))then
aa (.inr (.inr ah))
else
aa (.inl (aiB.wrap (c+1))))
else
aa (.inr (.inl ())))) N 0) λj=>b9 (J:=Unit) (R:=Bool) (Loop (S:=Int) (X:=Unit⊕Bool) (λd=>(if(ai (d<(a.2.2.2.1.length:Int)))then
aiz (idx a.2.2.2.1 d) λh=>(if(ai (80<(h.1.size:Int)))then
aa (.inr (.inr ah))
else
aa (.inl (aiB.wrap (d+1))))
else
aa (.inr (.inl ())))) N 0) λk=>Loop (S:=Int) (X:=Bool) (λe=>(if(ai (e<(a.2.2.2.2.length:Int)))then
aiz (idx a.2.2.2.2 e) λb=>aiz (if(ai (80<(b.1.size:Int)))then
aa af
else(if(ai (80<(b.2.2.2.2.2.2.2.size:Int)))then
aa af
else(if(ai (50<(b.2.2.2.2.2.1.length:Int)))then
aa af
else
aa (ai (50<(b.2.2.2.2.2.2.1.length:Int)))))) λi=>(if i then
aa (.inr ah)
else
aa (.inl (aiB.wrap (e+1))))
else
aa (.inr af))) N 0)
def W27:Fo 27 (.i1 [.g aP]) (.i1 [.l .bool]) (M.jW N):=fz N [] [O,T,B 28 32,E 32,O,T,L 3 48,X,X,E 32,O,T,L 4 48,X,X,T,O,T,L 5 48,O,T,T,O,B 92 240] Tryz.func27
def M.lT(a:cT.den):Option Bool:=
aiz (if(ai (9<(a.1.length:Int)))then
aa af
else(if(ai (9<(a.2.1.length:Int)))then
aa af
else
aa (ai (5<(a.2.2.length:Int))))) λh=>(if h then
aa ah
else
b9 (J:=Unit) (R:=Bool) (Loop (S:=Int) (X:=Unit⊕Bool) (λb=>(if(ai (b<(a.1.length:Int)))then
b9 (J:=Unit) (R:=Int⊕(Unit⊕Bool)) (aiz (aiz (idx a.1 b) λi=>(if(ai (80<(i.1.size:Int)))then
aa af
else
aiz (idx a.1 b) λj=>aa (ai (20<(j.2.length:Int)))):Option Bool) λk=>(if k then
aa (.inr (.inr (.inr ah)))
else
Loop (S:=Int) (X:=Unit⊕(Int⊕(Unit⊕Bool))) (λe=>aiz (idx a.1 b) λl=>(if(ai (e<(l.2.length:Int)))then
aiz (idx a.1 b) λm=>aiz (idx m.2 e) λn=>(if(ai (80<(n.size:Int)))then
aa (.inr (.inr (.inr (.inr ah))))
else
aa (.inl (aiB.wrap (e+1))))
else
aa (.inr (.inl ())))) N 0)) λt=>aa (.inl (aiB.wrap (b+1)))
else
aa (.inr (.inl ())))) N 0) λu=>b9 (J:=Unit) (R:=Bool) (Loop (S:=Int×Int) (X:=Unit⊕Bool) (λc=>(if(ai (c.2<(a.2.1.length:Int)))then
aiz (idx a.2.1 c.2) λf=>aiz (aiz (idx a.2.1 c.2) λo=>(if(ai (80<(o.1.size:Int)))then
aa af
else
aa (ai (150<(aiB.wrap (c.1+(f.2.2.2.length:Int)))))):Option Bool) λp=>(if p then
aa (.inr (.inr ah))
else
aa (.inl (aiB.wrap (c.1+(f.2.2.2.length:Int)),aiB.wrap (c.2+1))))
else
aa (.inr (.inl ())))) N (0,0)) λv=>Loop (S:=Int×Int) (X:=Bool) (λd=>(if(ai (d.2<(a.2.2.length:Int)))then
aiz (idx a.2.2 d.2) λg=>aiz (if(ai (60<(aiB.wrap (d.1+(g.2.2.2.2.length:Int)))))then
aa af
else
aiz (idx a.2.2 d.2) λq=>aiz (M.jW N q) λr=>aa (!r)) λs=>(if s then
aa (.inr ah)
else
aa (.inl (aiB.wrap (d.1+(g.2.2.2.2.length:Int)),aiB.wrap (d.2+1))))
else
aa (.inr af))) N (0,0))
def W13:Fo 13 (.i1 [.g cT]) (.i1 [.l .bool]) (M.lT N):=fz N [W27 N] [O,T,B 24 32,O,O,E 64,O,T,L 5 80,O,E 160,T,T,B 49 160,O,T,L 6 176,X,X,X,X,X,E 64,O,T,P ⟨[(3, .l aA),(7, .l aA)],[],[],80⟩,O,T,T,O,B 99 320,X,X,X,T,O,T,P ⟨[(4, .l aA),(8, .l aA)],[],[],80⟩,O,T,T,O,B 126 320] Tryz.func13
def M.k7(a:dT.den):Option Bool:=
aiz (if(ai (14<(a.2.1.length:Int)))then
aa af
else
aa (ai (10<(a.2.2.length:Int)))) λc=>(if c then
aa ah
else
Loop (S:=Int) (X:=Bool) (λb=>(if(ai (b<(a.2.2.length:Int)))then
aiz (idx a.2.2 b) λd=>(if(ai (14<(d.length:Int)))then
aa (.inr ah)
else
aa (.inl (aiB.wrap (b+1))))
else
aa (.inr af))) N 0)
def W14:Fo 14 (.i1 [.g dT]) (.i1 [.l .bool]) (M.k7 N):=fz N [] [O,T,B 13 32,T,O,T,L 3 48] Tryz.func14
def M.nG(N:Nat)(a:Int):Option Bool:=
aiz (if(ai (97<=a))then
aa (ai (a<=122))
else
aa ah) λb=>aa b
def M.pY(N:Nat)(a:Int):Option Bool:=
aiz (if(ai (48<=a))then
aa (ai (a<=57))
else
aa ah) λb=>aa b
def M.rM(a:Int):Option Bool:=
aiz (aiz (M.nG N a) λb=>(if b then
aa af
else
aiz (M.pY N a) λc=>(if c then
aa af
else
aa (ai (a=95)))):Option Bool) λd=>aa d
def M.mX(N:Nat):Option (List ByteArray):=
aa ([(⟨#[105,102]⟩:ByteArray),(⟨#[116,104,101,110]⟩:ByteArray),(⟨#[101,108,115,101]⟩:ByteArray),(⟨#[111,114]⟩:ByteArray),(⟨#[97,110,100]⟩:ByteArray),(⟨#[110,111,116]⟩:ByteArray),(⟨#[116,114,117,101]⟩:ByteArray),(⟨#[102,97,108,115,101]⟩:ByteArray),(⟨#[116,111,100,97,121]⟩:ByteArray),(⟨#[115,104,97,114,101]⟩:ByteArray),(⟨#[100,105,118]⟩:ByteArray),(⟨#[114,111,117,110,100]⟩:ByteArray),(⟨#[109,105,110]⟩:ByteArray),(⟨#[109,97,120]⟩:ByteArray),(⟨#[112,108,117,115]⟩:ByteArray),(⟨#[109,111,110,116,104,115]⟩:ByteArray),(⟨#[100,97,121,115]⟩:ByteArray),(⟨#[121,101,97,114,115]⟩:ByteArray),(⟨#[121,101,97,114]⟩:ByteArray),(⟨#[109,111,110,116,104]⟩:ByteArray),(⟨#[116,97,98]⟩:ByteArray),(⟨#[98,97,110,100]⟩:ByteArray),(⟨#[99,111,117,110,116]⟩:ByteArray),(⟨#[115,117,109]⟩:ByteArray),(⟨#[97,108,108]⟩:ByteArray),(⟨#[97,110,121]⟩:ByteArray),(⟨#[109,111,115,116]⟩:ByteArray),(⟨#[101,110,117,109]⟩:ByteArray),(⟨#[116,97,98,108,101]⟩:ByteArray),(⟨#[114,111,119]⟩:ByteArray),(⟨#[115,99,111,112,101]⟩:ByteArray),(⟨#[109,101,109,98,101,114,115]⟩:ByteArray),(⟨#[105,110,112,117,116]⟩:ByteArray),(⟨#[100,101,102]⟩:ByteArray),(⟨#[114,117,108,101]⟩:ByteArray),(⟨#[111,102]⟩:ByteArray),(⟨#[111,118,101,114]⟩:ByteArray),(⟨#[112,114,105,111]⟩:ByteArray),(⟨#[102,114,111,109]⟩:ByteArray),(⟨#[116,111]⟩:ByteArray),(⟨#[101,110,100]⟩:ByteArray),(⟨#[119,104,101,110]⟩:ByteArray),(⟨#[105,115]⟩:ByteArray),(⟨#[115,114,99]⟩:ByteArray),(⟨#[98,111,111,108]⟩:ByteArray),(⟨#[105,110,116]⟩:ByteArray),(⟨#[109,111,110,101,121]⟩:ByteArray),(⟨#[114,97,116,101]⟩:ByteArray),(⟨#[100,97,116,101]⟩:ByteArray),(⟨#[100,111,119,110]⟩:ByteArray),(⟨#[117,112]⟩:ByteArray),(⟨#[122,101,114,111]⟩:ByteArray),(⟨#[97,119,97,121]⟩:ByteArray),(⟨#[104,97,108,102]⟩:ByteArray),(⟨#[101,118,101,110]⟩:ByteArray)]:List ByteArray)
def M.km(a:ByteArray):Option Bool:=
aiz (if(ai ((a.size:Int)=0))then
aa af
else(if(ai (16<(a.size:Int)))then
aa af
else
aiz (lr a 0) λe=>aiz (M.nG N e) λf=>aa (!f))) λg=>(if g then
aa ah
else
b9 (J:=Unit) (R:=Bool) (Loop (S:=Int) (X:=Unit⊕Bool) (λb=>(if(ai (b<(a.size:Int)))then
aiz (lr a b) λh=>aiz (M.rM N h) λi=>(if(!i)then
aa (.inr (.inr ah))
else
aa (.inl (aiB.wrap (b+1))))
else
aa (.inr (.inl ())))) N 0) λk=>aiz (M.mX N) λd=>Loop (S:=Int) (X:=Bool) (λc=>(if(ai (c<(d.length:Int)))then
aiz (idx d c) λj=>(if(ai (j=a))then
aa (.inr ah)
else
aa (.inl (aiB.wrap (c+1))))
else
aa (.inr af))) N 0)
def M.fM(N:Nat)(a:az.den)(b:List dL.den):Option Bool:=
(if(ai (a.1=6))then
aiz (if(ai (0<=a.2))then
aa (ai (a.2<(b.length:Int)))
else
aa ah) λc=>aa c
else
aiz (if(ai (1<=a.1))then(if(ai (a.1<=5))then
aa (ai (a.2=0))
else
aa ah)
else
aa ah) λd=>aa d)
def M.oW(a:az.den)(b:List dL.den):Option (Int×Int):=
aiz (M.fM N a b) λc=>(if(!c)then
aa (0,(-1))
else(if(ai (a.1=1))then
aa (0,1)
else(if(ai (a.1=2))then
aa ((-1000000000000),1000000000000)
else(if(ai (a.1=3))then
aa ((-1000000000000000),1000000000000000)
else(if(ai (a.1=4))then
aa ((-1000000000),1000000000)
else(if(ai (a.1=5))then
aa (0,109572)
else
aiz (idx b a.2) λd=>aa (0,aiB.wrap ((d.2.length:Int)-1))))))))
def M.gF(b:List bF.den):Option (List az.den):=
Loop (S:=Int×List az.den) (X:=List az.den) (λa=>(if(ai (a.1<(b.length:Int)))then
aiz (idx b a.1) λc=>aiz (cz a.2 ([c.2]:List az.den)) λd=>aa (.inl (aiB.wrap (a.1+1),d))
else
aa (.inr a.2))) N (0,([]:List az.den))
def M.mo(a:cT.den)(d:Int):Option ((List dL.den)×(List aT.den)×Bool×(List az.den)×(List az.den)×List az.den):=
aiz (if(ai (d<0))then
aa af
else
aa (ai ((a.2.2.length:Int)<=d))) λg=>(if g then
aa (([]:List dL.den),([]:List aT.den),ah,([]:List az.den),([]:List az.den),([]:List az.den))
else
aiz (idx a.2.2 d) λc=>aiz (M.gF N c.2.2.1) λe=>aiz (M.gF N c.2.2.2.1) λf=>aiz (aiz (if(ai (0<=c.2.1))then
aa (ai (c.2.1<(a.2.2.length:Int)))
else
aa ah) λh=>(if h then
aiz (idx a.2.2 c.2.1) λi=>aiz (M.gF N i.2.2.2.1) λj=>aa (e,f,a.1,a.2.1,af,j)
else
aa (e,f,a.1,a.2.1,ah,([]:List az.den))):Option ((List az.den)×(List az.den)×(List dL.den)×(List aT.den)×Bool×List az.den)) λb=>aa (b.2.2.1,b.2.2.2.1,b.2.2.2.2.1,b.1,b.2.1,b.2.2.2.2.2))
def M.nR(N:Nat)(a:Int):Option Bool:=
aiz (if(ai (1<=a))then(if(ai (a<=8))then
aa af
else(if(ai (36<=a))then
aa (ai (a<=39))
else
aa ah))
else(if(ai (36<=a))then
aa (ai (a<=39))
else
aa ah)) λb=>(if b then
aa af
else
aiz (if(ai (a=14))then
aa af
else(if(ai (a=15))then
aa af
else(if(ai (a=16))then
aa af
else(if(ai (a=33))then
aa af
else
aa (ai (a=34)))))) λc=>aa c)
def M.dw(N:Nat)(a:Int):Option (az.den):=
aa (a,0)
def M.mH(a:az.den)(c:bI.den):Option Bool:=
aiz (if(ai (a.1=1))then
aa (ai (a.1=1))
else(if(ai (a.1=2))then
aa (ai (a.1=2))
else(if(ai (a.1=3))then
aa (ai (a.1=3))
else(if(ai (a.1=4))then
aa (ai (a.1=4))
else
aa (ai (a.1=5)))))) λd=>(if d then
aiz (M.dw N a.1) λe=>aiz (M.oW N e c.1) λb=>aiz (if(ai (b.1<=a.2))then
aa (ai (a.2<=b.2))
else
aa ah) λf=>aa f
else
aiz (if(ai (a.1=14))then
aa (ai (a.1=14))
else(if(ai (a.1=15))then
aa (ai (a.1=15))
else
aa (ai (a.1=16)))) λg=>(if g then
aiz (if(ai (0<=a.2))then
aa (ai (a.2<=5))
else
aa ah) λh=>aa h
else(if(ai (a.1=34))then
aiz (if(ai (0<=a.2))then
aa (ai ((ai3 a.2 8)<=5))
else
aa ah) λi=>aa i
else(if(ai (a.1=6))then
aa (ai (0<=a.2))
else
aa af))))
def M.bC(N:Nat)(a:az.den)(b:bI.den):Option Bool:=
(if(ai (a.1=6))then
aiz (if(ai ((aiB.wrap (aiR a.2 16))<(b.1.length:Int)))then
aiz (idx b.1 (aiB.wrap (aiR a.2 16))) λc=>aa (ai ((ai3 a.2 16)<(c.2.length:Int)))
else
aa ah) λd=>aa d
else(if(ai (a.1=7))then
aiz (if(ai (0<=a.2))then
aa (ai (a.2<(b.2.2.1.length:Int)))
else
aa ah) λe=>aa e
else(if(ai (a.1=8))then
aiz (if(ai (0<=a.2))then
aa (ai (a.2<(b.2.2.2.1.length:Int)))
else
aa ah) λf=>aa f
else(if(ai (a.1=33))then
aiz (if(ai (0<=a.2))then
aa (ai (a.2<(b.2.1.length:Int)))
else
aa ah) λg=>aa g
else(if(ai (a.1=34))then
aa (ai ((aiB.wrap (aiR a.2 8))<(b.2.1.length:Int)))
else(if(ai (a.1=35))then
aa b.2.2.2.2.2
else
aiz (if(ai (a.1=36))then
aa (ai (a.1=36))
else(if(ai (a.1=37))then
aa (ai (a.1=37))
else(if(ai (a.1=38))then
aa (ai (a.1=38))
else
aa (ai (a.1=39))))) λh=>(if h then
aiz (if b.2.2.2.2.2 then(if(ai (0<=a.2))then
aa (ai (a.2<(b.2.2.2.2.1.length:Int)))
else
aa ah)
else
aa ah) λi=>aa i
else
aa af)))))))
def M.k8(N:Nat)(a:Int):Option Bool:=
aiz (if(ai (a=2))then
aa af
else(if(ai (a=3))then
aa af
else
aa (ai (a=4)))) λb=>aa b
def M.ij(a:Int):Option Bool:=
aiz (aiz (M.k8 N a) λb=>(if b then
aa af
else
aa (ai (a=5))):Option Bool) λc=>aa c
def M.cq(a:az.den)(c:bI.den):Option (az.den×Bool):=
aiz ((if(ai (a.1=6))then
aa (6,aiB.wrap (aiR a.2 16))
else(if(ai (a.1=7))then
aiz (idx c.2.2.1 a.2) λe=>aa e
else(if(ai (a.1=8))then
aiz (idx c.2.2.2.1 a.2) λf=>aa f
else(if(ai (a.1=9))then
aiz (M.dw N 5) λg=>aa g
else(if(ai (a.1=35))then
aiz (M.dw N 2) λh=>aa h
else
aiz (if(ai (a.1=36))then
aa (ai (a.1=36))
else(if(ai (a.1=37))then
aa (ai (a.1=37))
else(if(ai (a.1=38))then
aa (ai (a.1=38))
else
aa (ai (a.1=39))))) λi=>(if i then
aiz (idx c.2.2.2.2.1 a.2) λj=>aa j
else
aiz (M.dw N a.1) λk=>aa k)))))):Option (az.den)) λb=>aiz (M.fM N b c.1) λd=>aiz (if(ai (a.1=36))then(if d then(if(ai (b.1=2))then
aa af
else
aa (ai (b.1=3)))
else
aa ah)
else
aiz (if(ai (a.1=37))then
aa (ai (a.1=37))
else
aa (ai (a.1=38))) λl=>(if l then(if d then
aa (ai (b.1=1))
else
aa ah)
else(if(ai (a.1=39))then(if d then
aiz (M.ij N b.1) λm=>aa m
else
aa ah)
else
aa d))) λn=>aa (b,n)
def M.dv(b:az.den)(a:az.den)(d:bI.den):Option (az.den×Bool):=
(if(ai (b.1=10))then
aiz (M.k8 N a.1) λh=>aa (a,h)
else(if(ai (b.1=25))then
aa (a,ai (a.1=1))
else
aiz (if(ai (b.1=31))then
aa (ai (b.1=31))
else
aa (ai (b.1=32))) λi=>(if i then
aiz (M.dw N 2) λj=>aa (j,ai (a.1=5))
else(if(ai (b.1=33))then
aiz (idx d.2.1 b.2) λc=>aiz (aiz (M.fM N c.2.1 d.1) λk=>(if k then
aiz (M.fM N c.2.2.1 d.1) λl=>(if l then
aa ((lA az a c.2.1),c.2.2.1)
else
aa (ah,c.2.2.1))
else
aa (ah,c.2.2.1)):Option (Bool×az.den)) λe=>aa (e.2,e.1)
else
aiz (idx d.2.1 (aiB.wrap (aiR b.2 8))) λf=>aiz ((if(ai (a.1=3))then
aiz (M.dw N 3) λm=>(if(lA az f.2.1 m)then
aiz (M.dw N 4) λn=>aa ((lA az f.2.2.1 n),a)
else
aa (ah,a))
else
aa (ah,a)):Option (Bool×az.den)) λg=>aa (g.2,g.1)))))
def M.k9(f:Int)(a:Int)(b:Int):Option (az.den×Bool):=
(if(ai (f=13))then
aiz (aiz (M.dw N a) λc=>(if(ai (b=2))then(if(ai (a=2))then
aa (af,c)
else
aa (ai (a=3),c))
else
aa (ah,c)):Option (Bool×az.den)) λg=>aa (g.2,g.1)
else(if(ai (f=14))then
aiz (aiz (M.dw N a) λd=>(if(ai (b=4))then(if(ai (a=3))then
aa (af,d)
else
aa (ai (a=4),d))
else
aa (ah,d)):Option (Bool×az.den)) λh=>aa (h.2,h.1)
else
aiz (if(ai (a=3))then
aa (ai (b=3))
else
aa ah) λj=>(if j then
aiz (M.dw N 4) λk=>aa (k,af)
else
aiz (aiz (M.dw N a) λe=>(if(ai (b=2))then(if(ai (a=2))then
aa (af,e)
else
aa (ai (a=3),e))
else
aa (ah,e)):Option (Bool×az.den)) λi=>aa (i.2,i.1))))
def M.gS(a:Int)(b:az.den)(c:az.den):Option (az.den×Bool):=
aiz (if(ai (a=11))then
aa (ai (a=11))
else
aa (ai (a=12))) λn=>(if n then
aiz ((if(lA az b c)then
aiz (M.k8 N b.1) λo=>aa (o,b)
else
aa (ah,b)):Option (Bool×az.den)) λd=>aa (d.2,d.1)
else
aiz (if(ai (a=13))then
aa (ai (a=13))
else(if(ai (a=14))then
aa (ai (a=14))
else
aa (ai (a=15)))) λp=>(if p then
aiz (M.k9 N a b.1 c.1) λe=>aa (e.1,e.2)
else(if(ai (a=16))then
aiz ((if(ai (b.1=3))then
aa (ai (c.1=3),b)
else
aa (ah,b)):Option (Bool×az.den)) λf=>aa (f.2,f.1)
else
aiz (if(ai (a=17))then
aa (ai (a=17))
else
aa (ai (a=18))) λq=>(if q then
aiz ((if(lA az b c)then
aiz (M.ij N b.1) λr=>aa (r,b)
else
aa (ah,b)):Option (Bool×az.den)) λg=>aa (g.2,g.1)
else
aiz (if(ai (a=19))then
aa (ai (a=19))
else
aa (ai (a=20))) λs=>(if s then
aiz (M.dw N 1) λt=>aa (t,(lA az b c))
else
aiz (if(ai (a=21))then
aa (ai (a=21))
else
aa (ai (a=22))) λu=>(if u then
aiz (aiz (M.dw N 1) λh=>(if(lA az b c)then
aiz (M.ij N b.1) λv=>aa (v,h)
else
aa (ah,h)):Option (Bool×az.den)) λi=>aa (i.2,i.1)
else
aiz (if(ai (a=23))then
aa (ai (a=23))
else
aa (ai (a=24))) λw=>(if w then
aiz ((if(ai (b.1=1))then
aa (ai (c.1=1),b)
else
aa (ah,b)):Option (Bool×az.den)) λj=>aa (j.2,j.1)
else
aiz (if(ai (a=27))then
aa (ai (a=27))
else
aa (ai (a=28))) λx=>(if x then
aiz ((if(ai (b.1=5))then
aa (ai (c.1=2),b)
else
aa (ah,b)):Option (Bool×az.den)) λk=>aa (k.2,k.1)
else
aiz (aiz (M.dw N 2) λl=>(if(ai (b.1=5))then
aa (ai (c.1=5),l)
else
aa (ah,l)):Option (Bool×az.den)) λm=>aa (m.2,m.1)))))))))
def M.bc(b:az.den)(a:List az.den)(c:bI.den):Option (az.den×Int):=
aiz (if(!ai (b.2=0))then
aiz (M.nR N b.1) λi=>aa (!i)
else
aa ah) λj=>(if j then
aa ((0,0),2)
else
aiz (M.mH N b c) λk=>(if(!k)then
aa ((0,0),3)
else
aiz (M.bC N b c) λl=>(if(!l)then
aa ((0,0),6)
else
aiz ((if(ai ((a.length:Int)=0))then
aiz (M.cq N b c) λd=>aa (d.2,d.1)
else(if(ai ((a.length:Int)=1))then
aiz (idx a 0) λm=>aiz (M.dv N b m c) λe=>aa (e.2,e.1)
else(if(ai ((a.length:Int)=2))then
aiz (idx a 0) λn=>aiz (idx a 1) λo=>aiz (M.gS N b.1 n o) λf=>aa (f.2,f.1)
else
aiz (idx a 1) λg=>aiz (idx a 0) λp=>(if(ai (p.1=1))then
aiz (idx a 1) λq=>aiz (idx a 2) λr=>aa ((lA az q r),g)
else
aa (ah,g))))):Option (Bool×az.den)) λh=>(if(!h.1)then
aa ((0,0),8)
else
aa (h.2,0)))))
def M.nS(b:aP.den)(c:Int)(d:Int):Option (List Int):=
Loop (S:=Int×List Int) (X:=List Int) (λa=>(if(ai (a.1<(b.2.2.2.2.length:Int)))then
aiz (aiz (aiz (idx b.2.2.2.2 a.1) λe=>(if(ai (e.2.1=c))then
aiz (idx b.2.2.2.2 a.1) λf=>aiz (M.mW N f.2.2.2.2.1 d) λg=>aa g
else
aa ah):Option Bool) λh=>(if h then
aiz (cz a.2 ([a.1]:List Int)) λi=>aa i
else
aa a.2):Option (List Int)) λj=>aa (.inl (aiB.wrap (a.1+1),j))
else
aa (.inr a.2))) N (0,([]:List Int))
def M.pZ(b:List Int)(c:Int):Option Int:=
Loop (S:=Int) (X:=Int) (λa=>(if(ai (a<(b.length:Int)))then
aiz (idx b a) λd=>(if(ai (d=c))then
aa (.inr a)
else
aa (.inl (aiB.wrap (a+1))))
else
aa (.inr (-1)))) N 0
def M.oX(b:aP.den)(e:List Int)(c:Int):Option Int:=
aiz (idx b.2.2.2.2 c) λf=>Loop (S:=Int×Int) (X:=Int) (λa=>aiz (if(ai (0<=a.2))then
aa (ai (a.2<a.1))
else
aa ah) λg=>(if g then
aiz (M.pZ N e a.2) λd=>(if(ai (0<=d))then
aa (.inr d)
else
aiz (idx b.2.2.2.2 a.2) λh=>aa (.inl (a.2,h.2.2.1)))
else
aa (.inr (-1)))) N (c,f.2.2.1)
def M.oY(c:aP.den)(e:Int)(f:Int):Option ((List Int)×(List Int)×List Int):=
aiz (M.nS N c e f) λb=>aiz (Loop (S:=Int×(List Int)×List Int) (X:=(List Int)×List Int) (λa=>(if(ai (a.1<(b.length:Int)))then
aiz (idx b a.1) λg=>aiz (M.oX N c b g) λh=>aiz (cz a.2.1 ([h]:List Int)) λi=>aiz (idx b a.1) λj=>aiz (idx c.2.2.2.2 j) λk=>aiz (cz a.2.2 ([k.2.2.2.1]:List Int)) λl=>aa (.inl (aiB.wrap (a.1+1),i,l))
else
aa (.inr (a.2.1,a.2.2)))) N (0,([]:List Int),([]:List Int)):Option ((List Int)×List Int)) λd=>aa (b,d.1,d.2)
def M.rN(b:List az.den)(c:List az.den):Option Bool:=
(if(!ai ((b.length:Int)=(c.length:Int)))then
aa ah
else
Loop (S:=Int) (X:=Bool) (λa=>aiz (if(ai (a<(b.length:Int)))then
aa (ai (a<(c.length:Int)))
else
aa ah) λd=>(if d then
aiz (idx b a) λe=>aiz (idx c a) λf=>(if(!(lA az e f))then
aa (.inr ah)
else
aa (.inl (aiB.wrap (a+1))))
else
aa (.inr af))) N 0)
def M.oZ(b:List (List az.den))(c:List az.den):Option Int:=
Loop (S:=Int) (X:=Int) (λa=>(if(ai (a<(b.length:Int)))then
aiz (idx b a) λd=>aiz (M.rN N d c) λe=>(if e then
aa (.inr a)
else
aa (.inl (aiB.wrap (a+1))))
else
aa (.inr (-1)))) N 0
def M.mY(b:List Int)(c:List Int):Option Int:=
(if(!ai ((b.length:Int)=(c.length:Int)))then
aa 2
else(if(ai (8<(b.length:Int)))then
aa 4
else
Loop (S:=Int) (X:=Int) (λa=>(if(ai (a<(b.length:Int)))then
aiz (aiz (idx b a) λd=>(if(ai (d<(-1)))then
aa af
else
aiz (idx b a) λe=>aa (ai (a<=e))):Option Bool) λf=>(if f then
aa (.inr 9)
else
aiz (aiz (idx c a) λg=>(if(ai (g<0))then
aa af
else
aiz (idx c a) λh=>aa (ai (9<h))):Option Bool) λi=>(if i then
aa (.inr 3)
else
aa (.inl (aiB.wrap (a+1)))))
else
aa (.inr 0))) N 0))
def M.p3(b:List Int)(c:Int):Option (List Int):=
Loop (S:=Int×List Int) (X:=List Int) (λa=>(if(ai (a.1<(b.length:Int)))then
aiz (aiz (idx b a.1) λd=>(if(ai (d=c))then
aiz (cz a.2 ([a.1]:List Int)) λe=>aa e
else
aa a.2):Option (List Int)) λf=>aa (.inl (aiB.wrap (a.1+1),f))
else
aa (.inr a.2))) N (0,([]:List Int))
mutual
def M.gG(B:Nat):Nat->(List Int)->(List Int)->(List Bool)->Int->Option Int
 |0,_,_,_,_=>ae
 |N+1,b,c,d,e=>
  aiz (M.o4 B N b c d e) λa=>
  (if(ai ((a.length:Int)=0))then
  aa (-1)
  else
  (if(ai (1<(a.length:Int)))then
  aa (-2)
  else
  aiz (idx a 0) λf=>
  aiz (M.dR B N b c d f) λg=>
  aa g))
def M.o4(B:Nat):Nat->(List Int)->(List Int)->(List Bool)->Int->Option (List Int)
 |0,_,_,_,_=>ae
 |N+1,e,b,f,g=>
  aiz (M.p3 B e g) λc=>
  Loop (S:=Int×List Int) (X:=List Int) (λa=>
  (if(ai (a.1<(c.length:Int)))then
  aiz (aiz (idx c a.1) λh=>
  aiz (M.dR B N e b f h) λi=>
  (if(ai (i=(-1)))then
  aa a.2
  else
  aiz (aiz (if(ai (0<(a.2.length:Int)))then
  aiz (idx c a.1) λj=>
  aiz (idx b j) λk=>
  aiz (idx a.2 0) λl=>
  aiz (idx b l) λm=>
  aa (ai (m<k))
  else
  aa ah) λn=>
  (if n then
  aa ([]:List Int)
  else
  aa a.2):Option (List Int)) λd=>
  aiz (if(ai ((d.length:Int)=0))then
  aa af
  else
  aiz (idx c a.1) λo=>
  aiz (idx b o) λp=>
  aiz (idx d 0) λq=>
  aiz (idx b q) λr=>
  aa (ai (p=r))) λs=>
  (if s then
  aiz (idx c a.1) λt=>
  aiz (cz d ([t]:List Int)) λu=>
  aa u
  else
  aa d)):Option (List Int)) λv=>
  aa (.inl (aiB.wrap (a.1+1),v))
  else
  aa (.inr a.2))) B (0,([]:List Int))
def M.dR(B:Nat):Nat->(List Int)->(List Int)->(List Bool)->Int->Option Int
 |0,_,_,_,_=>ae
 |N+1,d,e,b,a=>
  aiz (M.gG B N d e b a) λc=>
  aiz (if(ai (c=(-1)))then
  aiz (idx b a) λf=>
  aa f
  else
  aa ah) λg=>
  (if g then
  aa a
  else
  aa c)
end
def M.mZ(a:List Int)(b:List Int)(c:List Bool)(d:Int):Option Int:=M.gG N N a b c d
def M.la(a:List Int)(b:List Int)(c:List Bool):Option Int:=
aiz (aiz (M.mY N a b) λd=>(if(!ai (d=0))then
aa af
else
aa (!ai ((c.length:Int)=(a.length:Int)))):Option Bool) λe=>(if e then
aa (-1)
else
aiz (M.mZ N a b c (-1)) λf=>aa f)
def M.p4(N:Nat)(a:Int):Option Int:=
(if(ai (a<0))then
aa 0
else(if(ai (8<a))then
aa 8
else
aa a))
def M.rO(b:Int):Option Int:=
Loop (S:=Int×Int) (X:=Int) (λa=>(if(ai (a.2<b))then
aa (.inl (aiB.wrap (a.1*2),aiB.wrap (a.2+1)))
else
aa (.inr a.1))) N (1,0)
def M.nT(b:List Int)(d:Int):Option (List Bool):=
aiz (M.rO N d) λe=>aiz (nu e ah) λf=>Loop (S:=Int×List Bool) (X:=List Bool) (λa=>(if(ai (a.1<(b.length:Int)))then
aiz (aiz (aiz (idx b a.1) λg=>(if(ai (0<=g))then
aiz (idx b a.1) λh=>aa (ai (h<(a.2.length:Int)))
else
aa ah):Option Bool) λi=>(if i then
aiz (idx b a.1) λc=>aiz (idx a.2 c) λk=>aa (bg a.2 c af)
else
aa a.2):Option (List Bool)) λj=>aa (.inl (aiB.wrap (a.1+1),j))
else
aa (.inr a.2))) N (0,f)
def M.rP(b:Int):Option Int:=
Loop (S:=Int×Int) (X:=Int) (λa=>(if(ai (0<a.1))then
aa (.inl (aiB.wrap (aiR a.1 2),aiB.wrap (a.2+(ai3 a.1 2))))
else
aa (.inr a.2))) N (b,0)
def M.jM(N:Nat)(a:az.den)(b:Int):Option Bool:=
aa (ai ((aJ .and .i64 b a.1)=a.2))
def M.p5(c:az.den)(b:List Bool)(d:List Bool):Option Bool:=
Loop (S:=Int) (X:=Bool) (λa=>(if(ai (a<(b.length:Int)))then
aiz (aiz (M.jM N c a) λe=>(if e then
aiz (idx b a) λf=>(if f then
aiz (idx d a) λg=>aa (!g)
else
aa ah)
else
aa ah):Option Bool) λh=>(if h then
aa (.inr af)
else
aa (.inl (aiB.wrap (a+1))))
else
aa (.inr ah))) N 0
def M.jX(c:az.den)(b:List Bool):Option Bool:=
Loop (S:=Int) (X:=Bool) (λa=>(if(ai (a<(b.length:Int)))then
aiz (aiz (M.jM N c a) λd=>(if d then
aiz (idx b a) λe=>aa (!e)
else
aa ah):Option Bool) λf=>(if f then
aa (.inr ah)
else
aa (.inl (aiB.wrap (a+1))))
else
aa (.inr af))) N 0
end
end
section
noncomputable section
open Tk
variable (N:Nat)
set_option maxRecDepth 100000
set_option linter.unusedVariables false
def M.p6(b:az.den)(c:List Bool):Option Bool:=
aiz (M.jX N b c) λd=>(if(!d)then
aa ah
else
Loop (S:=Int) (X:=Bool) (λa=>(if(ai (a<(c.length:Int)))then
aiz (if(!ai ((aJ .and .i64 b.1 a)=0))then
aiz (M.jX N (aJ .andNot .i64 b.1 a,aJ .andNot .i64 b.2 a) c) λe=>aa e
else
aa ah) λf=>(if f then
aa (.inr ah)
else
aa (.inl (aiB.wrap (a*2))))
else
aa (.inr af))) N 1)
def M.na(l:List Int)(m:Int):Option (List az.den):=
aiz (M.p4 N m) λf=>aiz (M.nT N l f) λe=>aiz (nu (e.length:Int) ah) λn=>Loop (S:=Int×(List Bool)×List az.den) (X:=List az.den) (λd=>(if(ai (d.1<=f))then
aiz (Loop (S:=Int×(List Bool)×List az.den) (X:=(List Bool)×List az.den) (λa=>(if(ai (a.1<(e.length:Int)))then
aiz (aiz (aiz (M.rP N a.1) λo=>(if(!ai (o=d.1))then
aa (a.2.1,a.2.2)
else
Loop (S:=Int×(List Bool)×List az.den) (X:=(List Bool)×List az.den) (λb=>(if(ai (b.1<=a.1))then
aiz (aiz (aiz (if(!ai ((aJ .and .i64 b.1 a.1)=b.1))then
aa af
else
aiz (M.p5 N (a.1,b.1) e b.2.1) λp=>(if(!p)then
aa af
else
aiz (M.p6 N (a.1,b.1) e) λq=>aa (!q))) λr=>(if r then
aa (b.2.1,b.2.2)
else
aiz (Loop (S:=Int×List Bool) (X:=List Bool) (λc=>(if(ai (c.1<(e.length:Int)))then
aiz (aiz (idx c.2 c.1) λs=>(if s then
aiz (idx c.2 c.1) λx=>aa (bg c.2 c.1 af)
else
aiz (M.jM N (a.1,b.1) c.1) λt=>aiz (idx c.2 c.1) λy=>aa (bg c.2 c.1 t)):Option (List Bool)) λu=>aa (.inl (aiB.wrap (c.1+1),u))
else
aa (.inr c.2))) N (0,b.2.1):Option (List Bool)) λv=>aiz (cz b.2.2 ([(a.1,b.1)]:List az.den)) λw=>aa (v,w)):Option ((List Bool)×List az.den)) λg=>aa (g.1,g.2):Option ((List Bool)×List az.den)) λh=>aa (.inl (aiB.wrap (b.1+1),h.1,h.2))
else
aa (.inr (b.2.1,b.2.2)))) N (0,a.2.1,a.2.2)):Option ((List Bool)×List az.den)) λi=>aa (i.1,i.2):Option ((List Bool)×List az.den)) λj=>aa (.inl (aiB.wrap (a.1+1),j.1,j.2))
else
aa (.inr (a.2.1,a.2.2)))) N (0,d.2.1,d.2.2):Option ((List Bool)×List az.den)) λk=>aa (.inl (aiB.wrap (d.1+1),k.1,k.2))
else
aa (.inr d.2.2))) N (0,n,([]:List az.den))
def M.lH(u:cT.den)(v:Int)(p:Int)(w:Int):Option (Int×(List (List az.den))×(List Int)×List aM.den):=
aiz (idx u.2.2 v) λi=>aiz (M.oY N i p w) λd=>aiz (Loop (S:=Int×Int×(List (List az.den))×List Int) (X:=Int×(List (List az.den))×List Int) (λb=>(if(ai (b.1<(d.1.length:Int)))then
aiz (aiz (idx d.1 b.1) λx=>aiz (idx i.2.2.2.2 x) λm=>aiz (if(ai (0<(m.2.2.2.2.2.1.length:Int)))then
aiz (M.oZ N b.2.2.1 m.2.2.2.2.2.1) λy=>aa (ai (y<0))
else
aa ah) λz=>(if z then
aiz (cz ([]:List az.den) m.2.2.2.2.2.1) λA=>aiz (cz b.2.2.1 ([A]:List (List az.den))) λC=>aiz (idx d.1 b.1) λD=>aiz (cz b.2.2.2 ([D]:List Int)) λF=>aa (b.2.1,C,F)
else
aa (b.2.1,b.2.2.1,b.2.2.2)):Option (Int×(List (List az.den))×List Int)) λn=>aa (.inl (aiB.wrap (b.1+1),n.1,n.2.1,n.2.2))
else
aa (.inr (b.2.1,b.2.2.1,b.2.2.2)))) N (0,p,([]:List (List az.den)),([]:List Int)):Option (Int×(List (List az.den))×List Int)) λf=>aiz (Loop (S:=Int×List Int) (X:=List Int) (λh=>aiz (rA .i64 1 (f.2.1.length:Int)) λG=>(if(ai (h.1<G))then
aiz (aiz (Loop (S:=Int×List Bool) (X:=List Bool) (λg=>(if(ai (g.1<(d.1.length:Int)))then
aiz (aiz (idx d.1 g.1) λH=>aiz (idx i.2.2.2.2 H) λq=>(if(ai ((q.2.2.2.2.2.1.length:Int)=0))then
aiz (cz g.2 ([af]:List Bool)) λI=>aa I
else
aiz (M.oZ N f.2.1 q.2.2.2.2.2.1) λQ=>aiz (xS .i64 h.1 Q) λU=>aiz (cz g.2 ([ai ((aJ .and .i64 U 1)=1)]:List Bool)) λV=>aa V):Option (List Bool)) λW=>aa (.inl (aiB.wrap (g.1+1),W))
else
aa (.inr g.2))) N (0,([]:List Bool)):Option (List Bool)) λY=>aiz (M.la N d.2.1 d.2.2 Y) λo=>aiz ((if(ai (0<=o))then
aiz (idx d.1 o) λZ=>aa Z
else
aa o):Option Int) λj28=>aiz (cz h.2 ([j28]:List Int)) λl30=>aa l30:Option (List Int)) λj17=>aa (.inl (aiB.wrap (h.1+1),j17))
else
aa (.inr h.2))) N (0,([]:List Int)):Option (List Int)) λr=>aiz (Loop (S:=Int×Int×(List (List az.den))×(List Int)×List aM.den) (X:=Int×(List (List az.den))×(List Int)×List aM.den) (λa=>(if(ai (a.1<(i.2.2.2.2.length:Int)))then
aiz (aiz (aiz (Loop (S:=Int×List Int) (X:=List Int) (λe=>(if(ai (e.1<(r.length:Int)))then
aiz (aiz (idx r e.1) λx38=>(if(ai (x38=a.1))then
aiz (cz e.2 ([e.1]:List Int)) λl39=>aa l39
else
aa e.2):Option (List Int)) λj37=>aa (.inl (aiB.wrap (e.1+1),j37))
else
aa (.inr e.2))) N (0,([]:List Int)):Option (List Int)) λs=>(if(ai ((s.length:Int)=0))then
aa (a.2.1,a.2.2.1,a.2.2.2.1,a.2.2.2.2)
else
aiz (M.na N s (f.2.1.length:Int)) λt=>Loop (S:=Int×Int×(List (List az.den))×(List Int)×List aM.den) (X:=Int×(List (List az.den))×(List Int)×List aM.den) (λc=>(if(ai (c.1<(t.length:Int)))then
aiz (idx t c.1) λx42=>aiz (cz c.2.2.2.2 ([(x42,a.1)]:List aM.den)) λl43=>aa (.inl (aiB.wrap (c.1+1),c.2.1,c.2.2.1,c.2.2.2.1,l43))
else
aa (.inr (c.2.1,c.2.2.1,c.2.2.2.1,c.2.2.2.2)))) N (0,a.2.1,a.2.2.1,a.2.2.2.1,a.2.2.2.2)):Option (Int×(List (List az.den))×(List Int)×List aM.den)) λj=>aa (j.1,j.2.1,j.2.2.1,j.2.2.2):Option (Int×(List (List az.den))×(List Int)×List aM.den)) λk=>aa (.inl (aiB.wrap (a.1+1),k.1,k.2.1,k.2.2.1,k.2.2.2))
else
aa (.inr (a.2.1,a.2.2.1,a.2.2.2.1,a.2.2.2.2)))) N ((-2),f.1,f.2.1,f.2.2,([]:List aM.den)):Option (Int×(List (List az.den))×(List Int)×List aM.den)) λl=>aa (l.1,l.2.1,l.2.2.1,l.2.2.2)
def M.l5(b:List aB.den)(c:List aB.den):Option Bool:=
(if(!ai ((b.length:Int)=(c.length:Int)))then
aa ah
else
Loop (S:=Int) (X:=Bool) (λa=>aiz (if(ai (a<(b.length:Int)))then
aa (ai (a<(c.length:Int)))
else
aa ah) λd=>(if d then
aiz (idx b a) λe=>aiz (idx c a) λf=>(if(!(lA aB e f))then
aa (.inr ah)
else
aa (.inl (aiB.wrap (a+1))))
else
aa (.inr af))) N 0)
def W37:Fo 37 (.i1 [.l (.slice aB), .l (.slice aB)]) (.i1 [.l .bool]) (u2 (M.l5 N)):=fz N [] [O,O,T,O,T,L 5 112,T,B 20 112] Tryz.func37
def M.iH(a:aD.den)(b:aD.den):Option Bool:=
aiz (aiz (M.l5 N a.1 b.1) λc=>(if c then
aiz (M.mP N a.2 b.2) λd=>aa d
else
aa ah):Option Bool) λe=>aa e
def W68:Fo 68 (.i1 [.g aD, .g aD]) (.i1 [.l .bool]) (u2 (M.iH N)):=fz N [W23 N,W37 N] [O,B 4 48] Tryz.func68
def M.gT(b:List aD.den)(c:List aD.den):Option Bool:=
(if(!ai ((b.length:Int)=(c.length:Int)))then
aa ah
else
Loop (S:=Int) (X:=Bool) (λa=>aiz (if(ai (a<(b.length:Int)))then
aa (ai (a<(c.length:Int)))
else
aa ah) λd=>(if d then
aiz (idx b a) λe=>aiz (idx c a) λf=>aiz (M.iH N e f) λg=>(if(!g)then
aa (.inr ah)
else
aa (.inl (aiB.wrap (a+1))))
else
aa (.inr af))) N 0)
def W38:Fo 38 (.i1 [.l (.slice aD), .l (.slice aD)]) (.i1 [.l .bool]) (u2 (M.gT N)):=fz N [W68 N] [O,O,T,O,T,L 5 112,T,B 20 112] Tryz.func38
def M.nI(a:qQ.den)(b:qQ.den):Option Bool:=
aiz (aiz (M.l5 N a.1 b.1) λc=>(if c then
aiz (M.mP N a.2.1 b.2.1) λd=>(if d then
aiz (M.gT N a.2.2 b.2.2) λe=>aa e
else
aa ah)
else
aa ah):Option Bool) λf=>aa f
def W17:Fo 17 (.i1 [.g qQ, .g qQ]) (.i1 [.l .bool]) (u2 (M.nI N)):=fz N [W23 N,W37 N,W38 N] [O,B 4 48] Tryz.func17
def M.cH(a:cT.den)(b:Int)(e:dT.den)(f:Bool)(d:Int):Option (aI.den):=
aiz (M.eZ N a) λg=>(if(!ai (g.1=0))then
aa (1,((-1),((-1),(-1))))
else
aiz (if(ai (b<0))then
aa af
else(if(ai ((a.2.2.length:Int)<=b))then
aa af
else(if f then(if(ai (d<0))then
aa af
else
aiz (idx a.2.2 b) λh=>aa (ai ((h.2.2.2.1.length:Int)<=d)))
else
aa ah))) λi=>(if i then
aa (6,((-1),((-1),(-1))))
else
aiz (M.b8 N a b e) λc=>(if(!ai (c.2.2=0))then
aa (c.2.2,(c.1,((-1),(-1))))
else
aa (0,(0,(0,0))))))
def W46:Fo 46 (.i1 [.g cT, .l aA, .g dT, .l .bool, .l aA]) (.i1 [.g aI]) (u5 (M.cH N)):=fz N [W28 N,W29 N] [O,O,T,B 47 160] Tryz.func46
def M.jY(N:Nat)(d:cT.den)(f:Int):Option (aP.den×aP.den×(List Bool)×List Bool):=
aiz (idx d.2.2 f) λc=>aiz (nu (c.2.2.2.1.length:Int) ah) λe=>aiz ((if(ai (0<=c.2.1))then
aiz (idx d.2.2 c.2.1) λb=>aiz (nu (b.2.2.2.1.length:Int) ah) λg=>aa (c,b.1,b.2.1,b.2.2.1,b.2.2.2.1,b.2.2.2.2,e,g)
else
aa (c,ajO,0,([]:List bF.den),([]:List bF.den),([]:List da.den),e,([]:List Bool))):Option (aP.den×ByteArray×Int×(List bF.den)×(List bF.den)×(List da.den)×(List Bool)×List Bool)) λa=>aa (a.1,(a.2.1,(a.2.2.1,(a.2.2.2.1,(a.2.2.2.2.1,a.2.2.2.2.2.1)))),a.2.2.2.2.2.2.1,a.2.2.2.2.2.2.2)
def W47:Fo 47 (.i1 [.g cT, .l aA]) (.j1 [.ptr 0 [] 0] [.box 128 (.pair (.leaf aP) (.pair (.leaf aP) (.pair (.own 1) (.own 2)))), .own 4 .bool, .own 4 .bool] 3) (u2 (M.jY N)):=fz N [] [O,O,O,R ⟨[],[(128, .box 128 (.pair (.leaf aP) (.pair (.pair (.leaf .str) (.pair (.leaf aA) (.pair (.leaf (.slice bF)) (.pair (.leaf (.slice bF)) (.leaf (.slice da)))))) (.pair (.own 272) (.own 336))))),(272, .own 4 .bool),(336, .own 4 .bool)],[],339⟩] Tryz.func47
def M.fN(c:aP.den)(g:eN.den)(i:Int)(h:Int):Option (Int×aI.den):=
aiz (M.gC N c h g.1) λb=>aiz (nu (b.1.length:Int) ah) λj=>b9 (J:=List Bool) (R:=Int×aI.den) (Loop (S:=Int×List Bool) (X:=(List Bool)⊕(Int×aI.den)) (λa=>(if(ai (a.1<(b.1.length:Int)))then
b9 (J:=List Bool) (R:=(Int×List Bool)⊕((List Bool)⊕(Int×aI.den))) (aiz (idx b.1 a.1) λd=>aiz (idx c.2.2.2.2 d) λk=>(if(ai ((k.2.2.2.2.2.1.length:Int)=0))then
aiz (idx a.2 a.1) λp=>aa (.inl (bg a.2 a.1 af))
else
aiz (idx c.2.2.2.2 d) λl=>aiz (M.dW N l.2.2.2.2.2.1 g) λe=>(if(!ai (e.2=0))then
aa (.inr (.inr (.inr (0,(e.2,(i,(h,d)))))))
else
aiz (idx a.2 a.1) λq=>aa (.inl (bg a.2 a.1 (ai (e.1.2.2=1))))))) λm=>aa (.inl (aiB.wrap (a.1+1),m))
else
aa (.inr (.inl a.2)))) N (0,j)) λn=>aiz (M.cC N b.2.1 b.2.2 n) λf=>(if(ai (f<0))then
aa (f,(0,(0,(0,0))))
else
aiz (idx b.1 f) λo=>aa (o,(0,(0,(0,0)))))
def Wl:Fo 119 (.i1 [.g aP, .g eN, .l aA, .l aA]) (.i1 [.l aA, .g aI]) (u4 (M.fN N)):=fz N [V0 N,W40 N,W73 N] [O,O,O,J ⟨[],[(288, .own 4 .bool)],[],321⟩,O,T,P ⟨[(33, .l aA)],[(288, .own 4 .bool)],[],369⟩,O,O,T,J ⟨[],[(288, .own 4 .bool)],[],386⟩] Tryz.func119
def M.eH(h:aP.den)(i:Int)(c:Int)(d:List aB.den)(e:List aT.den)(g:List Bool):Option (aI.den×Int×(List aB.den)×(List aT.den)×(List Bool)×(List Int)×List aB.den):=
aiz (nu (h.2.2.2.1.length:Int) (0,(0,0))) λn=>aiz (nu (h.2.2.2.1.length:Int) 0) λo=>aiz (M.bo N h) λk=>b9 (J:=(List aB.den)×List Int) (R:=aI.den×Int×(List aB.den)×(List aT.den)×(List Bool)×(List Int)×List aB.den) (Loop (S:=Int×(List aB.den)×List Int) (X:=((List aB.den)×List Int)⊕(aI.den×Int×(List aB.den)×(List aT.den)×(List Bool)×(List Int)×List aB.den)) (λa=>(if(ai (a.1<(k.2.length:Int)))then
b9 (J:=(List aB.den)×List Int) (R:=(Int×(List aB.den)×List Int)⊕(((List aB.den)×List Int)⊕(aI.den×Int×(List aB.den)×(List aT.den)×(List Bool)×(List Int)×List aB.den))) (aiz (idx k.2 a.1) λb=>aiz (idx g b) λp=>(if(!p)then
aa (.inl (a.2.1,a.2.2))
else
aiz (M.fN N h (c,(d,(a.2.1,(([]:List (List aB.den)),(([]:List az.den),e))))) i b) λf=>(if(!ai (f.2.1=0))then
aa (.inr (.inr (.inr (f.2,c,d,e,g,([]:List Int),a.2.1))))
else(if(ai (f.1=(-1)))then
aa (.inr (.inr (.inr ((10,(i,(b,(-1)))),c,d,e,g,([]:List Int),a.2.1))))
else(if(ai (f.1=(-2)))then
aa (.inr (.inr (.inr ((11,(i,(b,(-1)))),c,d,e,g,([]:List Int),a.2.1))))
else
aiz (idx h.2.2.2.2 f.1) λq=>aiz (M.dW N q.2.2.2.2.2.2.1 (c,(d,(a.2.1,(([]:List (List aB.den)),(([]:List az.den),e)))))) λj=>(if(!ai (j.2=0))then
aa (.inr (.inr (.inr ((j.2,(i,(b,f.1))),c,d,e,g,([]:List Int),a.2.1))))
else
aiz (idx a.2.1 b) λr=>aiz (idx a.2.2 b) λs=>aa (.inl (bg a.2.1 b j.1,bg a.2.2 b f.1)))))))) λl=>aa (.inl (aiB.wrap (a.1+1),l.1,l.2))
else
aa (.inr (.inl (a.2.1,a.2.2))))) N (0,n,o)) λm=>aa ((0,(0,(0,0))),c,d,e,g,m.2,m.1)
def Wm:Fo 75 (.j1 [.g aP, .ptr 0 [] 0, .l aA, .val ah (.own 1)] [.box 32 (.pair (.leaf aA) (.pair (.leaf (.slice aB)) (.pair .nil (.pair .nil (.pair .nil (.leaf (.slice aT))))))), .own 4 .bool] 2) (.j1 [.val ah (.own 2), .g aI] [.box 32 (.pair (.leaf aA) (.pair (.leaf (.slice aB)) (.pair (.own 3) (.pair .nil (.pair .nil (.leaf (.slice aT))))))), .own 4 .bool, .own 3 aA, .own 40 aB] 6) (u6 (M.eH N)):=fz N [V0 N,W60 N,Wl N] [O,O,O,O,J ⟨[],[(114, .own 40 aB),(226, .own 3 aA)],[],372⟩,O,T,P ⟨[(37, .l aA)],[(114, .own 40 aB),(226, .own 3 aA)],[],420⟩,O,O,T,J ⟨[],[(114, .own 40 aB),(226, .own 3 aA)],[],438⟩] Tryz.func75
def M.eI(j:aP.den)(k:Int)(c:Int)(d:List aB.den)(e:List aT.den)(f:List (List aB.den))(g:List az.den)(i:List Bool):Option (aI.den×Int×(List aB.den)×(List aT.den)×(List (List aB.den))×(List az.den)×(List Bool)×(List Int)×List aB.den):=
aiz (nu (j.2.2.2.1.length:Int) (0,(0,0))) λp=>aiz (nu (j.2.2.2.1.length:Int) 0) λq=>aiz (M.bo N j) λm=>b9 (J:=(List aB.den)×List Int) (R:=aI.den×Int×(List aB.den)×(List aT.den)×(List (List aB.den))×(List az.den)×(List Bool)×(List Int)×List aB.den) (Loop (S:=Int×(List aB.den)×List Int) (X:=((List aB.den)×List Int)⊕(aI.den×Int×(List aB.den)×(List aT.den)×(List (List aB.den))×(List az.den)×(List Bool)×(List Int)×List aB.den)) (λa=>(if(ai (a.1<(m.2.length:Int)))then
b9 (J:=(List aB.den)×List Int) (R:=(Int×(List aB.den)×List Int)⊕(((List aB.den)×List Int)⊕(aI.den×Int×(List aB.den)×(List aT.den)×(List (List aB.den))×(List az.den)×(List Bool)×(List Int)×List aB.den))) (aiz (idx m.2 a.1) λb=>aiz (idx i b) λr=>(if(!r)then
aa (.inl (a.2.1,a.2.2))
else
aiz (M.fN N j (c,(d,(a.2.1,(f,(g,e))))) k b) λh=>(if(!ai (h.2.1=0))then
aa (.inr (.inr (.inr (h.2,c,d,e,f,g,i,([]:List Int),a.2.1))))
else(if(ai (h.1=(-1)))then
aa (.inr (.inr (.inr ((10,(k,(b,(-1)))),c,d,e,f,g,i,([]:List Int),a.2.1))))
else(if(ai (h.1=(-2)))then
aa (.inr (.inr (.inr ((11,(k,(b,(-1)))),c,d,e,f,g,i,([]:List Int),a.2.1))))
else
aiz (idx j.2.2.2.2 h.1) λs=>aiz (M.dW N s.2.2.2.2.2.2.1 (c,(d,(a.2.1,(f,(g,e)))))) λl=>(if(!ai (l.2=0))then
aa (.inr (.inr (.inr ((l.2,(k,(b,h.1))),c,d,e,f,g,i,([]:List Int),a.2.1))))
else
aiz (idx a.2.1 b) λt=>aiz (idx a.2.2 b) λu=>aa (.inl (bg a.2.1 b l.1,bg a.2.2 b h.1)))))))) λn=>aa (.inl (aiB.wrap (a.1+1),n.1,n.2))
else
aa (.inr (.inl (a.2.1,a.2.2))))) N (0,p,q)) λo=>aa ((0,(0,(0,0))),c,d,e,f,g,i,o.2,o.1)
def Wn:Fo 75 (.j1 [.g aP, .ptr 0 [] 0, .l aA, .val ah (.own 3)] [.box 32 (.pair (.leaf aA) (.pair (.leaf (.slice aB)) (.pair .nil (.pair (.own 1) (.pair (.own 2) (.leaf (.slice aT))))))), .own 27 (.slice aB), .own 74 az, .own 4 .bool] 4) (.j1 [.val ah (.own 4), .g aI] [.box 32 (.pair (.leaf aA) (.pair (.leaf (.slice aB)) (.pair (.own 5) (.pair (.own 1) (.pair (.own 2) (.leaf (.slice aT))))))), .own 27 (.slice aB), .own 74 az, .own 4 .bool, .own 3 aA, .own 40 aB] 10) (λ(x:aP.den×Int×Int×(List aB.den)×(List aT.den)×(List (List aB.den))×(List az.den)×List Bool)=>M.eI N x.1 x.2.1 x.2.2.1 x.2.2.2.1 x.2.2.2.2.1 x.2.2.2.2.2.1 x.2.2.2.2.2.2.1 x.2.2.2.2.2.2.2):=fz N [V0 N,W60 N,Wl N] [O,O,O,O,J ⟨[],[(116, .own 40 aB),(228, .own 3 aA)],[],374⟩,O,T,P ⟨[(37, .l aA)],[(116, .own 40 aB),(228, .own 3 aA)],[],422⟩,O,O,T,J ⟨[],[(116, .own 40 aB),(228, .own 3 aA)],[],440⟩] Tryz.func75
def M.ko(j:cT.den)(r:Int)(g:dT.den)(h:aP.den)(f:aP.den)(k:List Bool)(l:List Bool):Option (Int×(List aB.den)×(List aT.den)×aI.den×aP.den×aP.den×(List Bool)×(List Bool)×(List aB.den)×(List Int)×(List aD.den)×(List (List aB.den))×List az.den):=
aiz (Loop (S:=Int×Int×(List aB.den)×(List aT.den)×List az.den) (X:=Int×(List aB.den)×(List aT.den)×List az.den) (λb=>(if(ai (b.1<(f.2.2.2.1.length:Int)))then
aiz (idx f.2.2.2.1 b.1) λm=>aiz (cz b.2.2.2.2 ([m.2]:List az.den)) λn=>aa (.inl (aiB.wrap (b.1+1),b.2.1,b.2.2.1,b.2.2.2.1,n))
else
aa (.inr (b.2.1,b.2.2.1,b.2.2.2.1,b.2.2.2.2)))) N (0,g.1,g.2.1,j.2.1,([]:List az.den)):Option (Int×(List aB.den)×(List aT.den)×List az.den)) λi=>b9 (J:=(List Bool)×Int×(List aB.den)×(List aT.den)×(List az.den)×(List (List aB.den))×List aD.den) (R:=Int×(List aB.den)×(List aT.den)×aI.den×aP.den×aP.den×(List Bool)×(List Bool)×(List aB.den)×(List Int)×(List aD.den)×(List (List aB.den))×List az.den) (Loop (S:=Int×(List Bool)×Int×(List aB.den)×(List aT.den)×(List az.den)×(List (List aB.den))×List aD.den) (X:=((List Bool)×Int×(List aB.den)×(List aT.den)×(List az.den)×(List (List aB.den))×List aD.den)⊕(Int×(List aB.den)×(List aT.den)×aI.den×aP.den×aP.den×(List Bool)×(List Bool)×(List aB.den)×(List Int)×(List aD.den)×(List (List aB.den))×List az.den)) (λa=>(if(ai (a.1<(g.2.2.length:Int)))then
aiz (idx g.2.2 a.1) λo=>aiz (M.eH N f a.1 g.1 o j.2.1 a.2.1) λe=>(if(!ai (e.1.1=0))then
aa (.inr (.inr (0,([]:List aB.den),([]:List aT.den),e.1,h,f,k,e.2.2.2.2.1,([]:List aB.den),([]:List Int),([]:List aD.den),([]:List (List aB.den)),([]:List az.den))))
else
aiz (cz a.2.2.2.2.2.2.1 ([e.2.2.2.2.2.2]:List (List aB.den))) λp=>aiz (cz a.2.2.2.2.2.2.2 ([(e.2.2.2.2.2.2,e.2.2.2.2.2.1)]:List aD.den)) λq=>aa (.inl (aiB.wrap (a.1+1),e.2.2.2.2.1,a.2.2.1,a.2.2.2.1,a.2.2.2.2.1,a.2.2.2.2.2.1,p,q)))
else
aa (.inr (.inl (a.2.1,a.2.2.1,a.2.2.2.1,a.2.2.2.2.1,a.2.2.2.2.2.1,a.2.2.2.2.2.2.1,a.2.2.2.2.2.2.2))))) N (0,l,i.1,i.2.1,i.2.2.1,i.2.2.2,([]:List (List aB.den)),([]:List aD.den))) λd=>aiz (M.eI N h (-1) d.2.1 d.2.2.1 d.2.2.2.1 d.2.2.2.2.2.1 d.2.2.2.2.1 k) λc=>(if(!ai (c.1.1=0))then
aa (0,([]:List aB.den),([]:List aT.den),c.1,h,f,c.2.2.2.2.2.2.1,d.1,([]:List aB.den),([]:List Int),([]:List aD.den),([]:List (List aB.den)),([]:List az.den))
else
aa (c.2.1,c.2.2.1,c.2.2.2.1,(0,(0,(0,0))),h,f,c.2.2.2.2.2.2.1,d.1,c.2.2.2.2.2.2.2.2,c.2.2.2.2.2.2.2.1,d.2.2.2.2.2.2,c.2.2.2.2.1,c.2.2.2.2.2.1))
def Wo:Fo 48 (.j1 [.g cT, .l aA, .g dT, .ptr 0 [] 0] [.box 128 (.pair (.leaf aP) (.pair (.leaf aP) (.pair (.own 1) (.own 2)))), .own 4 .bool, .own 4 .bool] 3) (.j1 [.val af (.pair (.own 3) (.pair (.own 4) (.own 5))), .val af (.pair (.leaf aA) (.pair (.leaf (.slice aB)) (.pair (.own 3) (.pair (.own 6) (.pair (.own 7) (.leaf (.slice aT))))))), .g aI] [.box 128 (.pair (.leaf aP) (.pair (.leaf aP) (.pair (.own 1) (.own 2)))), .own 4 .bool, .own 4 .bool, .own 40 aB, .own 3 aA, .own 63 aD, .own 27 (.slice aB), .own 74 az] 11) (λ(x:cT.den×Int×dT.den×aP.den×aP.den×(List Bool)×List Bool)=>M.ko N x.1 x.2.1 x.2.2.1 x.2.2.2.1 x.2.2.2.2.1 x.2.2.2.2.2.1 x.2.2.2.2.2.2):=fz N [Wm N,Wn N] [O,O,O,R ⟨[],[(195, .box 32 (.pair (.leaf aA) (.pair (.leaf (.slice aB)) (.pair .nil (.pair .nil (.pair (.own 243) (.leaf (.slice aT)))))))),(243, .own 74 az)],[],245⟩,O,T,P ⟨[(35, .l aA)],[(195, .box 32 (.pair (.leaf aA) (.pair (.leaf (.slice aB)) (.pair .nil (.pair .nil (.pair (.own 355) (.leaf (.slice aT)))))))),(355, .own 74 az)],[],357⟩,X,X,J ⟨[],[(2, .own 4 .bool),(195, .box 32 (.pair (.leaf aA) (.pair (.leaf (.slice aB)) (.pair .nil (.pair (.own 245) (.pair (.own 243) (.leaf (.slice aT)))))))),(227, .box 55 (.pair .nil (.pair .nil (.own 246)))),(243, .own 74 az),(245, .own 27 (.slice aB)),(246, .own 63 aD)],[],251⟩,O,T,P ⟨[(50, .l aA)],[(2, .own 4 .bool),(195, .box 32 (.pair (.leaf aA) (.pair (.leaf (.slice aB)) (.pair .nil (.pair (.own 309) (.pair (.own 243) (.leaf (.slice aT)))))))),(227, .box 55 (.pair .nil (.pair .nil (.own 310)))),(243, .own 74 az),(309, .own 27 (.slice aB)),(310, .own 63 aD)],[],315⟩] Tryz.func48
def M.jn(e:cT.den)(f:Int)(g:dT.den):Option (aI.den×(List aB.den)×(List Int)×List aD.den):=
aiz (M.cH N e f g ah 0) λh=>(if(!ai (h.1=0))then
aa (h,([]:List aB.den),([]:List Int),([]:List aD.den))
else
aiz (M.jY N e f) λc=>aiz (Loop (S:=Int×List Bool) (X:=List Bool) (λa=>(if(ai (a.1<(c.2.2.1.length:Int)))then
aiz (idx a.2 a.1) λk=>aa (.inl (aiB.wrap (a.1+1),bg a.2 a.1 af))
else
aa (.inr a.2))) N (0,c.2.2.1):Option (List Bool)) λi=>aiz (Loop (S:=Int×List Bool) (X:=List Bool) (λb=>(if(ai (b.1<(c.2.2.2.length:Int)))then
aiz (idx b.2 b.1) λl=>aa (.inl (aiB.wrap (b.1+1),bg b.2 b.1 af))
else
aa (.inr b.2))) N (0,c.2.2.2):Option (List Bool)) λj=>aiz (M.ko N e f g c.1 c.2.1 i j) λd=>aa (d.2.2.2.1,d.2.2.2.2.2.2.2.2.1,d.2.2.2.2.2.2.2.2.2.1,d.2.2.2.2.2.2.2.2.2.2.1))
def W21:Fo 21 (.i1 [.g cT, .l aA, .g dT]) (.j1 [.val af (.pair (.own 0) (.pair (.own 1) (.own 2))), .g aI] [.own 40 aB, .own 3 aA, .own 63 aD] 3) (u3 (M.jn N)):=fz N [W46 N,W47 N,Wo N] [O,O,O,R ⟨[],[(241, .own 4 .bool)],[],273⟩,O,T,P ⟨[(32, .l aA)],[(241, .own 4 .bool)],[],369⟩,X,X,R ⟨[],[(242, .own 4 .bool)],[],274⟩,O,T,P ⟨[(47, .l aA)],[(242, .own 4 .bool)],[],370⟩] Tryz.func21
def M.iB(c:cT.den)(e:Int)(d:dT.den):Option Bool:=
aiz (aiz (M.lT N c) λf=>(if(!f)then
aa af
else
aiz (M.k7 N d) λg=>aa (!g)):Option Bool) λh=>(if h then
aiz (M.l4 N) λi=>aa i
else
aiz (M.cr N c e d) λa=>aiz (M.jn N c e d) λb=>aiz (aiz (M.nI N (a.2.1,(a.2.2.1,a.2.2.2)) (b.2.1,(b.2.2.1,b.2.2.2))) λj=>(if j then(if(lA aI a.1 b.1)then
aiz (M.l4 N) λk=>aa k
else
aa ah)
else
aa ah):Option Bool) λl=>aa l)
def W6:Fo 6 (.i1 [.g cT, .l aA, .g dT]) (.i1 [.l .bool]) (u3 (M.iB N)):=fz N [W9 N,W13 N,W14 N,W15 N,W17 N,W21 N] [O,T,B 18 48,O,O,B 6 400] Tryz.func6
end
end
section
theorem bH{n:Int}(h0: -9223372036854775808<=n)(h1:n<=9223372036854775807):aiB.wrap n=n:=by
 simp[IntKind.wrap,IntKind.bits,IntKind.signed];omega
theorem aC{α:Type}{l:List α}{k:Nat}(h:k<l.length):idx l (k:Int)=aa l[k]:=by
 grind [idx]
theorem sL{α:Type}{a:α}{l:List α}:idx (a::l) 0=aa a:=rfl
theorem eJ{α:Type}{l m:List α}(h:l.length+m.length<=4294967296):cz l m=aa (l++m):=al h
def ua{S X:Type}{body:S->Option (S⊕X)}(I:S->Prop)(μ:S->Nat)(Q:X->Prop)
 (step:∀s,I s->(∃s',body s=aa (.inl s')/\I s'/\μ s'<μ s)\/∃x,body s=aa (.inr x)/\Q x):
 ∀N s,I s->μ s<N->∃x,Loop body N s=aa x/\Q x
 |0,_,_,h=>absurd h (by omega)
 |N+1,s,hi,aH=>by
  rcases step s hi with⟨s',hb,kF,hm⟩|⟨x,hb,hq⟩
  .obtain⟨x,hx,hq⟩:=ua I μ Q step N s' kF (by omega)
   grind [Loop]
  grind [Loop]
def FJ{S X:Type}{body:S->Option (S⊕X)}(st:Nat->S){x:X}(m:Nat)(hs:∀i,i<m->body (st i)=aa (.inl (st (i+1))))(he:body (st m)=aa (.inr x)){N:Nat}(hN:m<N):Loop body N (st 0)=aa x:=by
 have:∀k i N,i+k=m->k<N->Loop body N (st i)=aa x:=by
  intro k
  induction k with
  |zero=>rintro i (_|N) hi hN;all_goals grind [Loop]
  |succ k ih=>
   rintro i (_|N) hi hN
   all_goals grind [Loop]
 grind
def vK{S X:Type}{body:S->Option (S⊕X)}{N:Nat}{s0:S}(st:Nat->S)(m:Nat)(x:X)(h0:s0=st 0)(hs:∀i,i<m->body (st i)=aa (.inl (st (i+1))))(he:body (st m)=aa (.inr x))(hN:m<N):Loop body N s0=aa x:=by
 rw[h0];exact FJ st m hs he hN
def aU:Nat:=18446744073709551616
section
variable {α:Type}
theorem lU(n:Nat)(C:Nat->α)(k:Nat)(v:α):((aiM n).map C).set k v=(aiM n).map (λj=>if j=k then v else C j):=by
 apply List.ext_getElem (by simp)
 grind
theorem lb(n:Nat)(p:Nat->Bool):(aiM (n+1)).filter p=(aiM n).filter p++(if p n=af then[n]else[]):=by
 grind [List.range_succ]
end
end
end Go.Proofs.YtfeahmiobbjklaaGreatDoor
section
open _root_.Bool renaming false->ah,true->af,false_eq_true->aiK,not_true->ajR
open _root_.Option renaming none->ae,some->aa,bind_some->aiA,some->aj8
open _root_.Go.IntKind renaming i64->aiB
open _root_.List renaming replicate->aiG,take_append_getElem->aiU
open _root_.Sum renaming inr->ajy
namespace Go.Proofs.YtfeahmiobbjklaaGreatDoor
open Go Go.RowKit
def Wp{α:Type}(m:Option α)(Q:α->Prop):Prop:=∃x,m=aa x/\Q x
def Wp.some{α:Type}{x:α}{Q:α->Prop}(h:Q x):Wp (aa x) Q:=⟨x,rfl,h⟩
theorem Wp.of{α:Type}{m:Option α}{x:α}{Q:α->Prop}(e:m=aj8 x)(h:Q x):Wp m Q:=⟨x,e,h⟩
def Wp.eq{α:Type}{m:Option α}{x:α}(h:Wp m (· =x)):m=aj8 x:=by obtain⟨y,e,rfl⟩:=h;exact e
def Wp.mono{α:Type}{m:Option α}{Q Q':α->Prop}(h:Wp m Q)(hq:∀x,Q x->Q' x):Wp m Q':=by obtain⟨x,e,h⟩:=h;exact⟨x,e,hq x h⟩
def Wp.bind{α β:Type}{m:Option α}{k:α->Option β}{Q:β->Prop}(h:Wp m λx=>Wp (k x) Q):Wp (m.bind k) Q:=by
 obtain⟨x,e,h⟩:=h;rw[e];exact h
def Wp.ba{α β:Type}{m:Option α}{k:α->Option β}{Q:β->Prop}{x:α}(e:m=aj8 x)(h:Wp (k x) Q):Wp (m.bind k) Q:=by
 rw[e];exact h
theorem Wp.seq{α β:Type}{m:Option α}{k:α->Option β}{Q:β->Prop}(A:α->Prop)(h:Wp m A)(hk:∀x,A x->Wp (k x) Q):Wp (m.bind k) Q:= .bind (h.mono hk)
def Wp.ite{α:Type}{c:Prop}[Decidable c]{a b:Option α}{Q:α->Prop}(ha:c->Wp a Q)(hb:¬c->Wp b Q):Wp (if c then a else b) Q:=by
 grind
def Wp.dec{α:Type}{c:Prop}[Decidable c]{a b:Option α}{Q:α->Prop}(ha:c->Wp a Q)(hb:¬c->Wp b Q):Wp (if decide c=af then a else b) Q:=by
 grind
def Wp.iM{α:Type}{c:Prop}[Decidable c]{a b:Option α}{Q:α->Prop}(ha:¬c->Wp a Q)(hb:c->Wp b Q):Wp (if(!decide c)=af then a else b) Q:=by
 grind
def uN{J R:Type}(k:J->Option R)(Q:R->Prop):J⊕R->Prop
 | .inl j=>Wp (k j) Q
 | .inr r=>Q r
def Wp.join{J R:Type}{m:Option (J⊕R)}{k:J->Option R}{Q:R->Prop}(h:Wp m (uN k Q)):Wp (b9 m k) Q:=by
 obtain⟨x,e,h⟩:=h;unfold b9;rw[e]
 cases x with
 |inl j=>exact h
 |inr r=>exact⟨r,rfl,h⟩
def zi{S X:Type}(I:S->Prop)(μ:S->Nat)(s:S)(Q:X->Prop):S⊕X->Prop
 | .inl s'=>I s'/\μ s'<μ s
 | .inr x=>Q x
def Wp.loop{S X:Type}{body:S->Option (S⊕X)}{N:Nat}{s0:S}{Q:X->Prop}(I:S->Prop)(μ:S->Nat)(h0:I s0)(hN:μ s0<N)(step:∀s,I s->Wp (body s) (zi I μ s Q)):Wp (Loop body N s0) Q:=
 ua I μ Q (λs hs=>by
  obtain⟨x,e,h⟩:=step s hs
  cases x with
  |inl s'=>exact .inl ⟨s',e,h⟩
  |inr x=>exact .inr ⟨x,e,h⟩) N s0 h0 hN
theorem Wp.idx{α:Type}{l:List α}{i:Int}{Q:α->Prop}(k:Nat)(hi:i=k)(hk:k<l.length)(h:Q l[k]):Wp (idx l i) Q:=by
 subst hi;exact⟨_,aC hk,h⟩
theorem Wp.ub{α:Type}{l m:List α}{Q:List α->Prop}(hl:l.length+m.length<=4294967296)(h:Q (l++m)):Wp (cz l m) Q:=⟨_,eJ hl,h⟩
def vL{α:Type}{l:List α}{i j:Int}(a b:Nat)(hi:i=a)(hj:j=b)(h:a<=b)(hb:b<=l.length):gI l i j=aj8 ((l.take b).drop a):=by
 grind [gI]
def oB{α:Type}{l:List α}{b:Nat}(hb:b<=l.length):gI l 0 (b:Int)=aj8 (l.take b):=by
 have:=vL (l:=l) 0 b rfl rfl (Nat.zero_le _) hb
 grind
def aQ{k:Nat}(h:k<9223372036854775807):aiB.wrap ((k:Int)+1)=((k+1:Nat):Int):=by rw[bH]<;>omega
def wT{k:Nat}(h:k<=9223372036854775807):aiB.wrap (k:Int)=(k:Int):=by rw[bH]<;>omega
end Go.Proofs.YtfeahmiobbjklaaGreatDoor
namespace Go.Proofs.YtfeahmiobbjklaaGreatDoor
open Go Go.RowKit
section
variable {α β:Type}
theorem jZ{x:α}{Q:α->Prop}:Wp (aa x) Q↔Q x:=⟨λ⟨y,e,h⟩=>by grind,λh=>⟨x,rfl,h⟩⟩
theorem sM{Q:α->Prop}:Wp (ae:Option α) Q↔False:=⟨λ⟨y,e,h⟩=>(by cases e),False.elim⟩
def wp_bind{m:Option α}{k:α->Option β}{Q:β->Prop}:Wp (m.bind k) Q↔Wp m λx=>Wp (k x) Q:=by
 cases m with
 |none=>simp only[Option.bind_none,sM]
 |some x=>simp only[aiA,jZ]
def Mo{c:Prop}[Decidable c]{a b:Option α}{Q:α->Prop}:Wp (if c then a else b) Q↔(c->Wp a Q)/\(¬c->Wp b Q):=by
 grind
def Mp{c:Prop}[Decidable c]{a b:Option α}{Q:α->Prop}:Wp (if decide c=af then a else b) Q↔(c->Wp a Q)/\(¬c->Wp b Q):=by
 grind
def Hi{c:Prop}[Decidable c]{a b:Option α}{Q:α->Prop}:Wp (if(!decide c)=af then a else b) Q↔(¬c->Wp a Q)/\(c->Wp b Q):=by
 grind
def Mq{c:Bool}{a b:Option α}{Q:α->Prop}:Wp (if(!c)=af then a else b) Q↔(c=ah->Wp a Q)/\(c=af->Wp b Q):=by
 grind
def wp_map{m:Option α}{f:α->β}{Q:β->Prop}:Wp (m.map f) Q↔Wp m λx=>Q (f x):=by
 cases m with
 |none=>simp only[Option.map_none,sM]
 |some x=>simp only[Option.map_some,jZ]
def Hj{J R:Type}{m:Option (J⊕R)}{k:J->Option R}{Q:R->Prop}:Wp (b9 m k) Q↔Wp m (uN k Q):=by
 cases m with
 |none=>exact⟨λ⟨_,e,_⟩=>(by cases e),λ⟨_,e,_⟩=>(by cases e)⟩
 |some s=>cases s with
  |inl j=>rw[jZ];exact Iff.rfl
  |inr r=>exact(jZ (x:=r)).trans (jZ (x:=ajy r) (Q:=uN k Q)).symm
def zj{J R:Type}{k:J->Option R}{Q:R->Prop}{j:J}:uN k Q (.inl j)=Wp (k j) Q:=rfl
def zk{J R:Type}{k:J->Option R}{Q:R->Prop}{r:R}:uN k Q (.inr r)=Q r:=rfl
theorem fH{l:List α}{i:Int}{Q:α->Prop}:Wp (idx l i) Q↔∃h:0<=i/\i<(l.length:Int),Q (l[i.toNat]'(by omega)):=by
 by_cases h:0<=i/\i<(l.length:Int)
 .grind [idx,jZ]
 .refine⟨λ⟨y,e,_⟩=>?_,λg=>absurd g.1 h⟩
  grind [gX]
def sN{s:ByteArray}{i:Int}{Q:Int->Prop}:Wp (lr s i) Q↔∃h:0<=i/\i<(s.size:Int),Q ((s[i.toNat]'(by omega)).toNat:Int):=by
 unfold lr;rw[wp_map];by_cases h:0<=i/\i<(s.size:Int)
 .grind [jZ]
 .refine⟨λ⟨y,e,_⟩=>?_,λg=>absurd g.1 h⟩
  grind
theorem p7{l m:List α}{Q:List α->Prop}:Wp (cz l m) Q↔l.length+m.length<=4294967296/\Q (l++m):=by
 grind [cz,jZ,sM]
def wp_cut{l:List α}{i j:Int}{Q:List α->Prop}:Wp (gI l i j) Q↔(0<=i/\i<=j/\j<=l.length)/\Q ((l.take j.toNat).drop i.toNat):=by
 grind [gI,jZ,sM]
def nc{m:Int}{z:α}{Q:List α->Prop}:Wp (nu m z) Q↔(0<=m/\m<=4294967296)/\Q (aiG m.toNat z):=by
 grind [nu,jZ,sM]
def Q4{m:Option α}{x:α}:Wp m (· =x)↔m=aa x:=⟨λ⟨_,e,h⟩=>h▸e,λe=>⟨x,e,rfl⟩⟩
def Wp.getD{m:Option α}{Q:α->Prop}(h:Wp m Q)(d:α):m=aj8 (m.getD d)/\Q (m.getD d):=by
 obtain⟨x,e,h⟩:=h
 grind
end
def FK{S X:Type}(wU:S->Int)(m k:Nat)(J:Nat->S->Prop)(Q:X->Prop):S⊕X->Prop
 | .inl s=>k<m/\wU s=((k+1:Nat):Int)/\J (k+1) s
 | .inr x=>Q x
def bw{S X:Type}{wU:S->Int}{m k:Nat}{J:Nat->S->Prop}{Q:X->Prop}{s:S}:FK wU m k J Q (.inl s)=(k<m/\wU s=((k+1:Nat):Int)/\J (k+1) s):=rfl
def bf{S X:Type}{wU:S->Int}{m k:Nat}{J:Nat->S->Prop}{Q:X->Prop}{x:X}:FK wU m k J Q (.inr x)=Q x:=rfl
def Wp.count{S X:Type}{body:S->Option (S⊕X)}{s0:S}{Q:X->Prop}(wU:S->Int)(m:Nat)(J:Nat->S->Prop)(hm:m<=9223372036854775807)(h0:wU s0=0)(hJ:J 0 s0)
 (step:∀k s,k<=m->wU s=(k:Int)->J k s->Wp (body s) (FK wU m k J Q)):Wp (Loop body aU s0) Q:=by
 refine Wp.loop (λs=>∃k:Nat,wU s=k/\k<=m/\J k s) (λs=>m-(wU s).toNat) ⟨0,h0,Nat.zero_le _,hJ⟩ (by unfold aU;omega) λs hs=>?_
 obtain⟨k,hi,hk,hj⟩:=hs
 refine(step k s hk hi hj).mono λr hr=>?_
 cases r with
 |inl s'=>
  obtain⟨h1,h2,h3⟩:=hr;exact⟨⟨k+1,h2,h1,h3⟩,by grind⟩
 |inr x=>exact hr
def cK{k:Nat}{m:Nat}(hm:m<=9223372036854775807)(h:k<m):aiB.wrap ((k:Int)+1)=((k+1:Nat):Int):=aQ (by omega)
def o5{k m:Nat}(h:k<m):decide ((k:Int)<(m:Int))=af:=ao (by omega)
def FL{k m:Nat}(h:k<m):((k:Int)<(m:Int))=True:=eq_true (by omega)
def wV{m:Nat}:((m:Int)<(m:Int))=False:=eq_false (by omega)
def dx{α:Type}(f:Nat->Option α):Nat->Option α
 |0=>ae
 |m+1=>(dx f m).or (f m)
theorem cu{α:Type}{f:Nat->Option α}:∀{m:Nat},dx f m=ae↔∀k,k<m->f k=ae
 |0=>by simp[dx]
 |m+1=>by
  rw[dx,Option.or_eq_none_iff,cu]
  grind
theorem gM{α:Type}{f:Nat->Option α}{x:α}:∀{m:Nat},dx f m=aa x->∃k,k<m/\f k=aa x/\∀j,j<k->f j=ae
 |0,h=>by cases h
 |m+1,h=>by
  rw[dx]at h
  cases e:dx f m with
  |none=>grind [cu]
  |some y=>
   rw[e]at h;cases h;obtain⟨k,hk,h1,h2⟩:=gM e
   grind
theorem gH{α:Type}{f:Nat->Option α}{x:α}{k:Nat}(hx:f k=aa x)(hn:∀j,j<k->f j=ae):∀{m:Nat},k<m->dx f m=aa x
 |0,h=>by omega
 |m+1,h=>by
  rw[dx]
  rcases Nat.lt_succ_iff_lt_or_eq.1 h with h1|rfl
  .rw[gH hx hn h1];rfl
  .rw[cu.2 hn];exact hx
def Q5{S X C:Type}(wU:S->Int)(acc:S->C)(k:Nat)(c:C)(I:Nat->C->Prop):S⊕X->Prop
 | .inl s=>wU s=((k+1:Nat):Int)/\acc s=c/\I (k+1) c
 | .inr _=>False
def Q6{S X:Type}(Q:X->Prop):S⊕X->Prop
 | .inl _=>False
 | .inr x=>Q x
def Jz{S X C:Type}{wU:S->Int}{acc:S->C}{k:Nat}{c:C}{I:Nat->C->Prop}{s:S}:Q5 (X:=X) wU acc k c I (.inl s)=(wU s=((k+1:Nat):Int)/\acc s=c/\I (k+1) c):=rfl
def JA{S X:Type}{Q:X->Prop}{x:X}:Q6 (S:=S) Q (.inr x)=Q x:=rfl
def Wp.fold{S X C α:Type}{body:S->Option (S⊕X)}{s0:S}{Q:X->Prop}(wU:S->Int)(acc:S->C)(l:List α)(F:C->α->C)(c0:C)(I:Nat->C->Prop)(hm:l.length<=9223372036854775807)(h0:wU s0=0)(hc:acc s0=c0)(hI:I 0 c0)
 (step:∀k s(h:k<l.length),wU s=(k:Int)->I k (acc s)->Wp (body s) (Q5 wU acc k (F (acc s) l[k]) I))
 (fin:∀s,wU s=(l.length:Int)->acc s=l.foldl F c0->I l.length (acc s)->Wp (body s) (Q6 Q)):Wp (Loop body aU s0) Q:=by
 refine Wp.count wU l.length (λk s=>acc s=(l.take k).foldl F c0/\I k (acc s)) hm h0 ⟨by rw[hc];rfl,hc▸hI⟩ λk s hk hs hJ=>?_
 rcases Nat.lt_or_ge k l.length with aH|hge
 .refine(step k s aH hs hJ.2).mono λr hr=>?_
  cases r with
  |inl s'=>
   obtain⟨h1,h2,h3⟩:=hr;refine⟨aH,h1,?_,h2▸h3⟩
   grind [aiU]
  |inr x=>exact hr.elim
 .obtain rfl:k=l.length:=by omega
  rw[List.take_length]at hJ
  refine(fin s hs hJ.1 hJ.2).mono λr hr=>?_
  cases r with
  |inl s'=>exact hr.elim
  |inr x=>exact hr
def W_:type_of% @Classical.not_not/\type_of% @jZ/\type_of% @wp_bind/\type_of% @Mp/\type_of% @Hi/\type_of% @Mq/\type_of% @Mo/\type_of% @Hj/\type_of% @zj/\type_of% @zk/\type_of% @if_true.{1}/\type_of% @if_false.{1}/\type_of% @ite_true.{1}/\type_of% @ite_false.{1}/\type_of% @aiK/\type_of% @Bool.true_eq_false/\type_of% @decide_true/\type_of% @decide_false/\type_of% @decide_eq_decide/\type_of% @true_eq_decide_iff/\type_of% @false_eq_decide_iff/\type_of% @ax/\type_of% @decide_eq_false_iff_not/\type_of% @true_implies/\type_of% @false_implies/\type_of% @and_true/\type_of% @true_and/\type_of% @and_false/\type_of% @false_and/\type_of% @or_true/\type_of% @true_or/\type_of% @or_false/\type_of% @false_or/\type_of% @not_true_eq_false/\type_of% @not_false_eq_true/\type_of% @ajR/\type_of% @Bool.not_false/\type_of% @Bool.not_eq_true/\type_of% @Bool.not_eq_false/\type_of% @Bool.not_eq_eq_eq_not:=
 ⟨@Classical.not_not,@jZ,@wp_bind,@Mp,@Hi,@Mq,@Mo,@Hj,@zj,@zk,@if_true.{1},@if_false.{1},@ite_true.{1},@ite_false.{1},@aiK,@Bool.true_eq_false,@decide_true,@decide_false,@decide_eq_decide,@true_eq_decide_iff,@false_eq_decide_iff,@ax,@decide_eq_false_iff_not,@true_implies,@false_implies,@and_true,@true_and,@and_false,@false_and,@or_true,@true_or,@or_false,@false_or,@not_true_eq_false,@not_false_eq_true,@ajR,@Bool.not_false,@Bool.not_eq_true,@Bool.not_eq_false,@Bool.not_eq_eq_eq_not⟩
end Go.Proofs.YtfeahmiobbjklaaGreatDoor
end
namespace Go.Proofs.YtfeahmiobbjklaaGreatDoor
open Go Go.RowKit
set_option maxRecDepth 100000
set_option linter.unusedSimpArgs false
set_option linter.unusedVariables false
set_option linter.defProp false
namespace L
abbrev Ty:Type:=az.den
abbrev eX(l:List Nat):List Int:=l.map (λn:Nat=>(n:Int))
def ar(op:Int):Int:=
 if(1<=op/\op<=9)\/(35<=op/\op<=39)then 0 else if op=10\/op=25\/(31<=op/\op<=34)then 1 else if(11<=op/\op<=24)\/(27<=op/\op<=30)then 2 else if op=26 then 3 else-1
def p8(op:Int):ar op<=3:=by unfold ar;omega
def p9(a:Int)(i:Nat)(sk:List Nat):Nat:=if a=0 then i else sk.getD (sk.length-a.toNat) 0
def kq:List Ty->Nat->List Nat->List Nat->(Nat×Int)⊕(List Nat×List Nat)
 |[],_,st,sk=> .inr (st,sk)
 |n::e,i,st,sk=>
  if ar n.1<0 then .inl (i,2)else if(sk.length:Int)<ar n.1 then .inl (i,5)else
  if 12<sk.length-(ar n.1).toNat+1 then .inl (i,16)else kq e (i+1) (st++[p9 (ar n.1) i sk]) (sk.take (sk.length-(ar n.1).toNat)++[p9 (ar n.1) i sk])
def q8(e:List Ty):Int×Int×List Int:=
 if 48<e.length then(0,4,[])else if e.length=0 then(0,5,[])else match kq e 0 [] []with
  | .inl (i,c)=>(i,c,[])
  | .inr (st,sk)=>if 1<sk.length then(e.length,4,[])else(0,0,eX st)
def lq(t:Ty)(n:Nat):Prop:=(1<=(t.1:Int)/\(t.1:Int)<=5/\(t.2:Int)=0)\/((t.1:Int)=6/\0<=(t.2:Int)/\(t.2:Int)<n)
instance(t:Ty)(n:Nat):Decidable (lq t n):=by unfold lq;infer_instance
def VR(r:Ty):Prop:=0<=(r.1:Int)/\(r.1:Int)<=r.2/\(r.2:Int)<=109573
instance(r:Ty):Decidable (VR r):=by unfold VR;infer_instance
def AQ(a b:Ty):lA az a b=decide (a=b):=by
 grind [lA]
end L
section
namespace L
abbrev En:Type:=dL.den
abbrev S9:Type:=aT.den
abbrev Rw:Type:=jJ.den
abbrev Fd:Type:=bF.den
abbrev Lw:Type:=cT.den
abbrev fY:Type:=aP.den
abbrev fZ:Type:=da.den
def C6(c:Int):M.nG aU c=aa (decide (97<=c/\c<=122)):=by
 apply Wp.eq;unfold M.nG;simp only[W_,au,av,reduceCtorEq];omega
def Mr(c:Int):M.pY aU c=aa (decide (48<=c/\c<=57)):=by
 apply Wp.eq;unfold M.pY;simp only[W_,au,av,reduceCtorEq];omega
def PB(c:Int):M.rM aU c=aa (decide ((97<=c/\c<=122)\/(48<=c/\c<=57)\/c=95)):=by
 apply Wp.eq;unfold M.rM;simp only[C6,Mr,W_,au,av,reduceCtorEq];omega
noncomputable def nU(s:ByteArray):Bool:=(M.km aU s).getD ah
def jo{β:Type}(l:List (ByteArray×β))(nm:ByteArray):Prop:=∃x∈l,x.1=nm
noncomputable instance{β:Type}(l:List (ByteArray×β))(nm:ByteArray):Decidable (jo l nm):=ai6 _
noncomputable instance(m:ByteArray)(l:List ByteArray):Decidable (m∈l):=ai6 _
def fB{p:Nat->Prop}{k:Nat}(h:∀j,j<k->p j)(hk:p k):∀j,j<k+1->p j:=(by grind)
open Classical in
def bX(t:Ty)(E:List En):M.fM aU t E=aa (decide (lq t E.length)):=by
 obtain⟨(k:Int),(e:Int)⟩:=t;apply Wp.eq;unfold M.fM;simp only[W_,au,av,reduceCtorEq];simp only[lq];grind
def Wq(r:Ty):M.pX aU r=aa (decide (VR r)):=by
 obtain⟨(k:Int),(e:Int)⟩:=r;apply Wp.eq;unfold M.pX;simp only[W_,au,av,reduceCtorEq];simp only[VR];grind
def Je(t:Ty)(E:List En):Int×Int:=
 if¬lq t E.length then(0,-1)else if(t.1:Int)=1 then(0,1)else if(t.1:Int)=2 then(-1000000000000,1000000000000)else if(t.1:Int)=3 then(-1000000000000000,1000000000000000)else if(t.1:Int)=4 then(-1000000000,1000000000)else if(t.1:Int)=5 then(0,109572)
 else(0,aiB.wrap ((((E[(t.2:Int).toNat]?).map λe=>(e.2.length:Int)).getD 0)-1))
def Ta(t:Ty)(E:List En):M.oW aU t E=aa (Je t E):=by
 obtain⟨(k:Int),(e:Int)⟩:=t;apply Wp.eq;unfold M.oW Je;simp only[bX,W_,au,av,reduceCtorEq];by_cases hv:lq (k,e) E.length
 .simp only[hv,not_true_eq_false,if_false,false_implies,true_implies,true_and];refine⟨λh=>by rw[al h],λh1=>⟨λh=>by rw[aj h1,al h],λh2=>⟨λh=>by rw[aj h1,aj h2,al h],λh3=>⟨λh=>by rw[aj h1,aj h2,aj h3,al h],λh4=>⟨(by grind),λh5=>?_⟩⟩⟩⟩⟩;simp only[lq]at hv;dsimp only[aA,Row.den]at*
  have hi:e.toNat<E.length:=by omega
  refine fH.2 ⟨by omega,?_⟩
  grind
 grind
def El(n:Int)(t:Ty)(E:List En):Prop:=(Je t E).1<=n/\n<=(Je t E).2
instance(n:Int)(t:Ty)(E:List En):Decidable (El n t E):=by unfold El;infer_instance
def wW(x:Rw)(t:S9)(E:List En):Prop:=¬VR x.1\/(x.1.1:Int)=x.1.2\/(x.2.2.1:Int)<=x.2.1\/¬El x.2.1 t.2.1 E\/¬El (aiB.wrap ((x.2.2.1:Int)-1)) t.2.1 E\/¬El x.2.2.2 t.2.2.1 E
instance(x:Rw)(t:S9)(E:List En):Decidable (wW x t E):=by unfold wW;infer_instance
def uO(a b:Rw):Prop:=VR a.1/\VR b.1/\((a.1.1:Int)<a.1.2/\(a.1.1:Int)<b.1.2/\(b.1.1:Int)<a.1.2/\(b.1.1:Int)<b.1.2)/\(a.2.1:Int)<a.2.2.1/\(a.2.1:Int)<b.2.2.1/\(b.2.1:Int)<a.2.2.1/\(b.2.1:Int)<b.2.2.1
instance(a b:Rw):Decidable (uO a b):=by simp only[uO];dsimp only[aA,Row.den]at*;infer_instance
open Classical in
noncomputable def AR(t:S9)(E:List En)(k:Nat):Option (Int×Int):=match t.2.2.2[k]? with
 |none=>ae
 |some x=>if wW x t E then aa ((k:Int),3)else if∃y∈t.2.2.2.take k,uO y x then aa ((k:Int),11)else ae
noncomputable def q9(t:S9)(E:List En):Int×Int:=
 if 64<t.2.2.2.length then(64,4)else if¬(lq t.2.1 E.length/\lq t.2.2.1 E.length)then(-1,8)else(dx (AR t E) t.2.2.2.length).getD (0,0)
end L
end
namespace L
abbrev sa:Type:=bI.den
theorem aO(op:Int):M.nR aU op=aa (decide ((1<=op/\op<=8)\/(14<=op/\op<=16)\/op=33\/op=34\/(36<=op/\op<=39))):=by
 apply Wp.eq;unfold M.nR;simp only[W_,au,av,reduceCtorEq];omega
def aR(k:Int):M.k8 aU k=aa (decide (k=2\/k=3\/k=4)):=by
 apply Wp.eq;unfold M.k8;simp only[W_,au,av,reduceCtorEq];omega
def aN(k:Int):M.ij aU k=aa (decide (k=2\/k=3\/k=4\/k=5)):=by
 apply Wp.eq;unfold M.ij;simp only[aR,W_,au,av,reduceCtorEq];omega
def bm(k:Int):M.dw aU k=aa ((k,(0:Int)):Ty):=rfl
def C7(op m:Int)(s:sa):Prop:=(1<=op/\op<=5->El m (op,(0:Int)) s.1)/\(14<=op/\op<=16->0<=m/\m<=5)/\(op=34->0<=m/\ai3 m 8<=5)/\(op=6->0<=m)
instance(op m:Int)(s:sa):Decidable (C7 op m s):=by unfold C7;infer_instance
def wX(n:Ty)(s:sa):M.mH aU n s=aa (decide (C7 n.1 n.2 s)):=by
 obtain⟨(op:Int),(m:Int)⟩:=n;apply Wp.eq;unfold M.mH;simp only[bm,Ta,W_,au,av,reduceCtorEq];unfold C7 El;dsimp only[aA,Row.den]at*;omega
def PC(op m:Int)(s:sa):Prop:=
 (op=6->aiB.wrap (aiR m 16)<(s.1.length:Int)/\ai3 m 16<(((s.1[(aiB.wrap (aiR m 16)).toNat]?).map λe=>(e.2.length:Int)).getD 0))/\
 (op=7->0<=m/\m<(s.2.2.1.length:Int))/\(op=8->0<=m/\m<(s.2.2.2.1.length:Int))/\(op=33->0<=m/\m<(s.2.1.length:Int))/\(op=34->aiB.wrap (aiR m 8)<(s.2.1.length:Int))/\
 (35<=op/\op<=39->s.2.2.2.2.2=af)/\(36<=op/\op<=39->0<=m/\m<(s.2.2.2.2.1.length:Int))
instance(op m:Int)(s:sa):Decidable (PC op m s):=by unfold PC;infer_instance
theorem Hk{m k:Int}(h0:0<=m)(h1:m<=9223372036854775807)(hk:0<k):0<=aiB.wrap (aiR m k):=by
 have h2:0<=aiR m k:=Int.tdiv_nonneg h0 (by omega)
 have h3:aiR m k<=m:=by rw[Int.tdiv_eq_ediv_of_nonneg h0];exact Int.ediv_le_self _ h0
 grind [bH]
def Tc(n:Ty)(s:sa)(hm:(n.2:Int)<=9223372036854775807)(hr:C7 n.1 n.2 s):M.bC aU n s=aa (decide (PC n.1 n.2 s)):=by
 obtain⟨(op:Int),(m:Int)⟩:=n;apply Wp.eq;unfold M.bC;simp only[W_,au,av,reduceCtorEq];unfold PC;unfold C7 at hr;dsimp only[aA,Row.den]at*;refine⟨λh6=>⟨λh=>?_,λh=>?_⟩,λh6=>?_⟩
 .have h0:=Hk (k:=16) (hr.2.2.2 h6) hm (by omega);refine fH.2 ⟨⟨h0,h⟩,?_⟩
  grind
 .grind
 simp only[h6,W_,au,av,reduceCtorEq]
 cases h5:s.2.2.2.2.2<;>simp only[imp_false,W_,au,av,reduceCtorEq]<;>omega
def Mt{op m:Int}{s:sa}(hf:PC op m s):Wp (M.cq aU (op,m) s) λ_=>True:=by
 unfold M.cq;simp only[bm,aN,bX,W_,au,av,reduceCtorEq];unfold PC at hf;dsimp only[aA,Row.den]at*
 refine λh6=>⟨λh7=>?_,λh7=>⟨λh8=>?_,λh8=>λh9 h35=>?_⟩⟩
 .exact fH.2 ⟨hf.2.1 h7,trivial⟩
 .grind [fH]
 .by_cases h:36<=op/\op<=39
  .have:Wp (idx s.2.2.2.2.1 m) λ_=>True:=fH.2 ⟨hf.2.2.2.2.2.2 h,trivial⟩
   grind
  grind
def FM{op m:Int}{a:Ty}{s:sa}(hm:m<=9223372036854775807)(h1:ar op=1)(hr:C7 op m s)(hf:PC op m s):Wp (M.dv aU (op,m) a s) λ_=>True:=by
 have q7:op=10\/op=25\/(31<=op/\op<=34):=by
  clear hr hf;unfold ar at h1;omega
 unfold M.dv;simp only[bm,aR,bX,W_,au,av,reduceCtorEq];unfold PC at hf;unfold C7 at hr;dsimp only[aA,Row.den]at*
 grind [fH,Hk]
def FN(op a b:Int):Wp (M.k9 aU op a b) λ_=>True:=by
 unfold M.k9;simp only[bm,W_,au,av,reduceCtorEq]
def FO(op:Int)(a b:Ty):Wp (M.gS aU op a b) λ_=>True:=by
 obtain⟨r,e,_⟩:=FN op a.1 b.1;unfold M.gS
 repeat' first|exact Wp.some trivial|exact⟨_,aR _,trivial⟩|exact⟨_,aN _,trivial⟩|exact⟨_,bm _,trivial⟩|exact⟨_,e,trivial⟩|refine Wp.seq (λ_=>True) ?_ λ_ _=>?_|refine Wp.dec (λ_=>?_) λ_=>?_|refine Wp.ite (λ_=>?_) λ_=>?_
noncomputable def Mu(n:Ty)(l:List Ty)(s:sa):Ty×Int:=(M.bc aU n l s).getD (((0:Int),(0:Int)),(0:Int))
def Mv{n:Ty}{l:List Ty}{s:sa}(hw:WF az n)(hl:(l.length:Int)=ar n.1):M.bc aU n l s=aa (Mu n l s):=by
 refine(Wp.getD (Q:=λ_=>True) ?_ _).1;have hm:(n.2:Int)<=9223372036854775807:=hw.2.2;have h3:=p8 n.1
 have key:Wp (M.mH aU n s) λx=>x=af->Wp (M.bC aU n s) λx=>x=af->((l.length:Int)=0->Wp (M.cq aU n s) λ_=>True)/\(¬(l.length:Int)=0->((l.length:Int)=1->Wp (idx l 0) λx=>Wp (M.dv aU n x s) λ_=>True)/\
  (¬(l.length:Int)=1->((l.length:Int)=2->Wp (idx l 0) λx=>Wp (idx l 1) λx_1=>Wp (M.gS aU n.1 x x_1) λ_=>True)/\(¬(l.length:Int)=2->Wp (idx l 1) λ_=>Wp (idx l 0) λx=>(x.1:Int)=1->Wp (idx l 1) λ_=>Wp (idx l 2) λ_=>True))):=by
  rw[wX]
  refine .some λhr=>?_
  have hr:C7 n.1 n.2 s:=an hr;rw[Tc n s hm hr]
  refine .some λhf=>?_
  have hf:PC n.1 n.2 s:=an hf;exact⟨λ_=>Mt hf,λh0=>⟨λh1=>fH.2 ⟨by omega,FM hm (by omega) hr hf⟩,λh1=>⟨λh2=>fH.2 ⟨by omega,fH.2 ⟨by omega,FO ..⟩⟩,λh2=>fH.2 ⟨by omega,fH.2 ⟨by omega,λ_=>fH.2 ⟨by omega,fH.2 ⟨by omega,trivial⟩⟩⟩⟩⟩⟩⟩
 unfold M.bc;simp only[aO,W_,au,av,reduceCtorEq]
 grind
noncomputable def rp(s:sa):List Ty->Nat->List Ty->(Nat×Int)⊕List Ty
 |[],_,mg=> .inr mg
 |n::e,i,mg=>
  if(Mu n (mg.drop (mg.length-(ar n.1).toNat)) s).2≠0 then .inl (i,(Mu n (mg.drop (mg.length-(ar n.1).toNat)) s).2)
  else rp s e (i+1) (mg.take (mg.length-(ar n.1).toNat)++[(Mu n (mg.drop (mg.length-(ar n.1).toNat)) s).1])
noncomputable def JB(e:List Ty)(s:sa):Ty×Int×Int:=
 if(q8 e).2.1≠0 then(((0:Int),(0:Int)),(q8 e).1,(q8 e).2.1)else match rp s e 0 []with
  | .inl (i,c)=>(((0:Int),(0:Int)),(i:Int),c)
  | .inr mg=>(mg.headD ((0:Int),(0:Int)),0,0)
def PD{e:List Ty}(h:(q8 e).2.1=0):e.length<=48/\e≠[]/\∃st sk,kq e 0 [] []= .inr (st,sk):=by
 unfold q8 at h;split at h
 .cases h
 split at h
 .cases h
 rename_i h1 h2;refine⟨by omega,λe=>h2 (by rw[e];rfl),?_⟩;split at h
 .rename_i c hc;exfalso
  have:∀(e:List Ty)(i:Nat)(st sk:List Nat)(j:Nat),kq e i st sk≠ .inl (j,0):=by
   intro e
   induction e with
   |nil=>intro i st sk j h;cases h
   |cons n e ih=>
    grind [kq]
  grind
 grind
end L
namespace L
def ins(n:Int):List Int->List Int
 |[]=>[n]
 |x::l=>if x<n then x::ins n l else if x=n then x::l else n::x::l
def Mw(n x:Int)(l:List Int):ins n (x::l)=if x<n then x::ins n l else if x=n then x::l else n::x::l:=rfl
theorem nJ{n y:Int}:∀{l:List Int},y∈ins n l↔y=n\/y∈l
 |[]=>by simp[ins]
 |x::l=>by
  unfold ins;split
  .rw[ai7,nJ,ai7]
   grind
  grind
def o6(p:Int->Bool)(e:List Ty):List Int:=e.foldl (λl n=>if p n.1=af then ins n.2 l else l) []
def uP(op:Int):Bool:=decide (op=8)
def uc(n:Nat)(l:List Int):Prop:=l.Pairwise (· < ·)/\∀x∈l,0<=x/\x<(n:Int)
theorem uc.nil{n:Nat}:uc n []:=⟨.nil,λ_ h=>by cases h⟩
def Td{l:List Int}:∀{a b:Int},l.Pairwise (· < ·)->(∀x∈l,a<=x/\x<b)->(l.length:Int)<=max 0 (b-a):=by
 induction l with
 |nil=>grind
 |cons x l ih=>
  intro a b hp hb;obtain⟨h1,h2⟩:=aiT.1 hp;have hx:=hb x (List.mem_cons_self ..);have:=ih (a:=x+1) (b:=b) h2 (by grind)
  grind
theorem uc.len{n:Nat}{l:List Int}(h:uc n l):l.length<=n:=by
 have:=Td h.1 h.2;omega
def FP{n:Int}:∀{l:List Int},l.Pairwise (· < ·)->(ins n l).Pairwise (· < ·)
 |[],_=>List.pairwise_singleton ..
 |x::l,h=>by
  obtain⟨h1,h2⟩:=aiT.1 h;rw[Mw];split
  .exact aiT.2 ⟨λy hy=>by grind [nJ],FP h2⟩
  grind [aiT]
theorem uc.ins{n:Nat}{x:Int}{l:List Int}(h:uc n l)(hx:0<=x/\x<(n:Int)):uc n (ins x l):=
 ⟨FP h.1,λy hy=>by rcases nJ.1 hy with rfl|hy;exact hx;exact h.2 y hy⟩
def oC(n:Nat)(out l:List Int):List Int:=l.foldl (λo x=>if 0<=x/\x<(n:Int)then ins x o else o) out
theorem uc.oC{n:Nat}:∀{l out:List Int},uc n out->uc n (oC n out l)
 |[],_,h=>h
 |x::l,out,h=>by
  show uc n (L.oC n (if 0<=x/\x<(n:Int)then L.ins x out else out) l)
  refine uc.oC ?_;split
  .exact h.ins ‹_›
  .exact h
def nV(s:fY)(d:Int):List Int:=
 if 0<=d/\d<(s.2.2.2.1.length:Int)then s.2.2.2.2.foldl (λout r=>if(r.2.1:Int)=d then oC s.2.2.2.1.length (oC s.2.2.2.1.length out (o6 uP r.2.2.2.2.2.1)) (o6 uP r.2.2.2.2.2.2.1)else out) []else[]
def nf(s:fY)(d:Int):uc s.2.2.2.1.length (nV s d):=by
 unfold nV;split
 .suffices∀(rs:List fZ)(out:List Int),uc s.2.2.2.1.length out->uc s.2.2.2.1.length (rs.foldl (λout r=>if(r.2.1:Int)=d then oC s.2.2.2.1.length (oC s.2.2.2.1.length out (o6 uP r.2.2.2.2.2.1)) (o6 uP r.2.2.2.2.2.2.1)else out) out)from this _ _ .nil
  intro rs
  induction rs with
  |nil=>grind
  |cons r rs ih=>
   grind [uc.oC]
 .exact .nil
def stepT(s:fY)(out:List Int):List Int:=out.foldl (λo x=>(nV s x).foldl (λo y=>ins y o) o) out
def lu(s:fY):Nat->List Int->List Int
 |0,out=>out
 |n+1,out=>stepT s (lu s n out)
def Kz(s:fY)(d:Int):List Int:=lu s s.2.2.2.1.length (nV s d)
def uc.Mx{n:Nat}:∀{l out:List Int},(∀x∈l,0<=x/\x<(n:Int))->uc n out->uc n (l.foldl (λo y=>L.ins y o) out)
 |[],_,_,h=>h
 |x::l,out,hx,h=>uc.Mx (l:=l) (out:=L.ins x out) (by grind) (h.ins (hx x (List.mem_cons_self ..)))
def qR(s:fY){out:List Int}(h:uc s.2.2.2.1.length out):uc s.2.2.2.1.length (stepT s out):=by
 unfold stepT
 suffices∀(l o:List Int),uc s.2.2.2.1.length o->uc s.2.2.2.1.length (l.foldl (λo x=>(nV s x).foldl (λo y=>ins y o) o) o)from this _ _ h
 intro l
 induction l with
 |nil=>grind
 |cons x l ih=>intro o h;exact ih _ (h.Mx (nf s x).2)
end L
namespace L
def nW(s:fY):Prop:=s.1.size<=80/\s.2.2.1.length<=14/\s.2.2.2.1.length<=14/\s.2.2.2.2.length<=60/\(∀f∈s.2.2.1,f.1.size<=80)/\(∀f∈s.2.2.2.1,f.1.size<=80)/\∀r∈s.2.2.2.2,r.1.size<=80/\r.2.2.2.2.2.2.2.size<=80/\r.2.2.2.2.2.1.length<=50/\r.2.2.2.2.2.2.1.length<=50
def fI(l:Lw):Prop:=l.1.length<=9/\l.2.1.length<=9/\l.2.2.length<=5/\(∀e∈l.1,e.1.size<=80/\e.2.length<=20/\∀m∈e.2,m.size<=80)/\(∀t∈l.2.1,t.1.size<=80)/\∀s∈l.2.2,nW s
def rQ{α:Type}{l:List α}{p:α->Prop}(h:∀j,j<l.length->∀h:j<l.length,p l[j]):∀x∈l,p x:=λx hx=>by
 grind [aiV]
def JC(s:fY)(hw:WF aP s):Wp (M.jW aU s) λr=>r=af->nW s:=by
 have w1:=hw.2.2.1.1;have w2:=hw.2.2.2.1.1;have w3:=hw.2.2.2.2.1;unfold maxLen at w1 w2 w3;unfold M.jW;simp only[W_,au,av,reduceCtorEq]
 refine λh1 h2 h3 h4=>?_
 refine Wp.count (λs=>s) s.2.2.1.length (λk _=>∀j,j<k->∀h:j<s.2.2.1.length,(s.2.2.1[j].1:ByteArray).size<=80) w1 rfl (λj hj=>by omega) λk c hk hs hA=>?_
 obtain rfl:c=_:=hs;simp only[W_,au,av,reduceCtorEq,bw,bf];refine⟨λaH=>?_,λhge=>?_⟩
 .have aH:k<s.2.2.1.length:=by omega
  simp only[aC aH,cK w1 aH,W_,au,av,reduceCtorEq]
  grind
 have hA:=λj(hj:j<s.2.2.1.length)=>hA j (by omega)
 refine Wp.count (λs=>s) s.2.2.2.1.length (λk _=>∀j,j<k->∀h:j<s.2.2.2.1.length,(s.2.2.2.1[j].1:ByteArray).size<=80) w2 rfl (λj hj=>by omega) λk c hk hs hB=>?_
 obtain rfl:c=_:=hs;simp only[W_,au,av,reduceCtorEq,bw,bf];refine⟨λaH=>?_,λhge=>?_⟩
 .have aH:k<s.2.2.2.1.length:=by omega
  simp only[aC aH,cK w2 aH,W_,au,av,reduceCtorEq]
  grind
 have hB:=λj(hj:j<s.2.2.2.1.length)=>hB j (by omega)
 refine Wp.count (λs=>s) s.2.2.2.2.length (λk _=>∀j,j<k->∀h:j<s.2.2.2.2.length,(s.2.2.2.2[j].1:ByteArray).size<=80/\(s.2.2.2.2[j].2.2.2.2.2.2.2:ByteArray).size<=80/\s.2.2.2.2[j].2.2.2.2.2.1.length<=50/\s.2.2.2.2[j].2.2.2.2.2.2.1.length<=50) w3 rfl (λj hj=>by omega) λk c hk hs hC=>?_
 obtain rfl:c=_:=hs;simp only[W_,au,av,reduceCtorEq,bw,bf];refine⟨λaH=>?_,λhge=>?_⟩
 .have aH:k<s.2.2.2.2.length:=by omega
  simp only[aC aH,cK w3 aH,W_,au,av,reduceCtorEq]
  exact λh1 h2 h3 h4=>⟨aH,fB hC (by omega)⟩
 exact⟨by omega,by omega,by omega,by omega,rQ hA,rQ hB,rQ λj hj=>hC j (by omega)⟩
def JD(l:Lw)(hw:WF cT l):Wp (M.lT aU l) λr=>r=af->fI l:=by
 have w1:=hw.1.1;have w2:=hw.2.1.1;have w3:=hw.2.2.1;unfold maxLen at w1 w2 w3;unfold M.lT;simp only[W_,au,av,reduceCtorEq]
 refine λh1 h2 h3=>?_
 refine Wp.count (λs=>s) l.1.length (λk _=>∀j,j<k->∀h:j<l.1.length,(l.1[j].1:ByteArray).size<=80/\l.1[j].2.length<=20/\∀m∈l.1[j].2,ByteArray.size m<=80) w1 rfl (λj hj=>by omega) λk c hk hs hA=>?_
 obtain rfl:c=_:=hs;simp only[W_,au,av,reduceCtorEq,bw,bf];refine⟨λaH=>?_,λhge=>?_⟩
 .have aH:k<l.1.length:=by omega
  simp only[aC aH,cK w1 aH,W_,au,av,reduceCtorEq]
  refine λg1 g2=>?_
  refine Wp.count (λs=>s) l.1[k].2.length (λi _=>∀j,j<i->∀h:j<l.1[k].2.length,ByteArray.size l.1[k].2[j]<=80) (by omega) rfl (λj hj=>by omega) λi c hi hs hB=>?_
  obtain rfl:c=_:=hs;simp only[W_,au,av,reduceCtorEq,bw,bf];refine⟨λqS=>?_,λqS=>⟨aH,fB hA λ_=>⟨by omega,by omega,rQ λj hj=>hB j (by omega)⟩⟩⟩
  have qS:i<l.1[k].2.length:=by omega
  simp only[aC qS,cK (m:=l.1[k].2.length) (by omega) qS,W_,au,av,reduceCtorEq]
  grind
 have hA:=λj(hj:j<l.1.length)=>hA j (by omega)
 refine Wp.count (λs=>s.2) l.2.1.length (λk _=>∀j,j<k->∀h:j<l.2.1.length,(l.2.1[j].1:ByteArray).size<=80) w2 rfl (λj hj=>by omega) λk c hk hs hB=>?_
 obtain⟨c1,c2⟩:=c;dsimp only at hs;subst hs;simp only[W_,au,av,reduceCtorEq,bw,bf];refine⟨λaH=>?_,λhge=>?_⟩
 .have aH:k<l.2.1.length:=by omega
  simp only[aC aH,cK w2 aH,W_,au,av,reduceCtorEq]
  grind
 have hB:=λj(hj:j<l.2.1.length)=>hB j (by omega)
 refine Wp.count (λs=>s.2) l.2.2.length (λk _=>∀j,j<k->∀h:j<l.2.2.length,nW l.2.2[j]) w3 rfl (λj hj=>by omega) λk c hk hs hC=>?_
 obtain⟨c1,c2⟩:=c;dsimp only at hs;subst hs;simp only[W_,au,av,reduceCtorEq,bw,bf];refine⟨λaH=>?_,λhge=>?_⟩
 .have aH:k<l.2.2.length:=by omega
  simp only[aC aH,cK w3 aH,W_,au,av,reduceCtorEq]
  refine λh=>(JC _ (hw.2.2.2 _ (aiF aH))).mono (by grind)
 exact⟨by omega,by omega,by omega,rQ hA,rQ hB,rQ λj hj=>hC j (by omega)⟩
abbrev LE:Type:=aI.den
def C8:LE:=((0:Int),((0:Int),((0:Int),(0:Int))))
def sO(sec:Int)(k:Int):Option (Int×Int)->LE
 |none=>C8
 |some (c,e)=>(c,(sec,(k,e)))
noncomputable def My(ms:List ByteArray)(i:Nat):Option (Int×Int):=match ms[i]? with
 |none=>ae
 |some m=>if nU m=ah then aa (2,100+(i:Int))else if m∈ms.take i then aa (7,100+(i:Int))else ae
noncomputable def pq(l:Lw)(k:Nat):Option (Int×Int):=match l.1[k]? with
 |none=>ae
 |some x=>if nU x.1=ah then aa (2,0)else if jo (l.1.take k) x.1 then aa (7,0)else if x.2.length=0 then aa (5,0)else if 16<x.2.length then aa (4,116)else dx (My x.2) x.2.length
def sP{k:Nat}{a:Int}(h:k<=100000)(ha:0<=a/\a<=1000):aiB.wrap (a+(k:Int))=a+(k:Int):=bH (by omega) (by omega)
end L
namespace L
noncomputable def ud(l:Lw)(k:Nat):Option (Int×Int):=match l.2.1[k]? with
 |none=>ae
 |some x=>if nU x.1=ah then aa (2,0)else if jo l.1 x.1\/jo (l.2.1.take k) x.1 then aa (7,0)else if(q9 x l.1).2=0 then ae else aa ((q9 x l.1).2,if 0<=(q9 x l.1).1 then 100+(q9 x l.1).1 else 0)
noncomputable def Mz(l:Lw)(x:fY)(i:Nat):Option (Int×Int):=match x.2.2.1[i]? with
 |none=>ae
 |some f=>if nU f.1=ah then aa (2,100+(i:Int))else if jo (x.2.2.1.take i) f.1 then aa (7,100+(i:Int))else if¬lq f.2 l.1.length then aa (8,100+(i:Int))else ae
noncomputable def MA(l:Lw)(x:fY)(i:Nat):Option (Int×Int):=match x.2.2.2.1[i]? with
 |none=>ae
 |some f=>if nU f.1=ah then aa (2,200+(i:Int))else if jo x.2.2.1 f.1\/jo (x.2.2.2.1.take i) f.1 then aa (7,200+(i:Int))else if¬lq f.2 l.1.length then aa (8,200+(i:Int))else ae
noncomputable def JE(l:Lw)(x:fY):Option (Int×Int):=(dx (Mz l x) x.2.2.1.length).or (dx (MA l x) x.2.2.2.1.length)
def plain(s:ByteArray):Prop:=(∀i,∀h:i<s.size,32<=(s[i].toNat:Int)/\(s[i].toNat:Int)<=126/\(s[i].toNat:Int)≠34)/\s.size<=64
noncomputable instance(s:ByteArray):Decidable (plain s):=ai6 _
def wY(f:List Fd)(hf:f.length<=100000):M.gF aU f=aa (f.map (·.2)):=by
 apply Wp.eq;unfold M.gF
 refine Wp.fold (λs=>s.1) (λs=>s.2) f (λ(o:List Ty)x=>o++[x.2]) [] (λk c=>c.length<=k) (by omega) rfl rfl (aiH _) (λk s aH hs hI=>?_) λs hs hc hI=>?_
 .obtain⟨i,o⟩:=s;dsimp only at hs hI;subst hs;simp only[FL aH,aC aH,cK (m:=f.length) (by omega) aH,W_,au,av,reduceCtorEq,Jz]
  grind [p7]
 .obtain⟨i,o⟩:=s;dsimp only at hs hc;subst hs;simp only[wV,W_,au,av,reduceCtorEq,JA];rw[hc]
  have:∀(f:List Fd)(o:List Ty),f.foldl (λ(o:List Ty)x=>o++[x.2]) o=o++f.map (·.2):=by
   intro f
   induction f with
   |nil=>intro o;simp
   |cons x f ih=>grind
  rw[this];rfl
def gp(l:Lw)(x:fY):sa:=(l.1,(l.2.1,(x.2.2.1.map (·.2),(x.2.2.2.1.map (·.2),(match l.2.2[(x.2.1:Int).toNat]? with
 |some y=>if 0<=(x.2.1:Int)then y.2.2.2.1.map (·.2)else[]
 |none=>[],decide (0<=(x.2.1:Int)/\(x.2.1:Int)<(l.2.2.length:Int)))))))
def PE(l:Lw)(k:Nat)(hk:k<l.2.2.length)(hs:∀s∈l.2.2,s.2.2.1.length<=100000/\s.2.2.2.1.length<=100000):M.mo aU l (k:Int)=aa ((gp l l.2.2[k]).1,(gp l l.2.2[k]).2.1,(gp l l.2.2[k]).2.2.2.2.2,(gp l l.2.2[k]).2.2.1,(gp l l.2.2[k]).2.2.2.1,(gp l l.2.2[k]).2.2.2.2.1):=by
 apply Wp.eq;unfold M.mo;have h1:=hs _ (aiF hk);simp only[show¬(k:Int)<0 by omega,show¬(l.2.2.length:Int)<=(k:Int) by omega,aC hk,wY _ h1.1,wY _ h1.2,W_,au,av,reduceCtorEq];unfold gp;generalize l.2.2[k]=x at*;obtain⟨x1,(x2:Int),x3,x4,x5⟩:=x;dsimp only[aA,Row.den]at*;refine⟨λh=>⟨λh'=>?_,λh'=>?_⟩,λh=>?_⟩
 .refine fH.2 ⟨by omega,?_⟩
  have hi:x2.toNat<l.2.2.length:=by omega
  simp only[wY _ (hs _ (aiF hi)).2,W_,au,av,reduceCtorEq,aiE hi,h,h',if_true]
 .rw[List.getElem?_eq_none (by omega)];simp only[h',W_,au,av,reduceCtorEq]
 .simp only[h,W_,au,av,reduceCtorEq]
  split<;>rfl
end L
namespace L
noncomputable def wZ(e:List Ty)(s:sa)(want:Ty):Int:=if(JB e s).2.2≠0 then(JB e s).2.2 else if(JB e s).1≠want then 8 else 0
def JF(x:fY)(k:Nat)(d:Int):Nat:=(x.2.2.2.2.take k).countP λr=>decide ((r.2.1:Int)=d)
def ue(x:fY)(k:Nat)(r:fZ):Prop:=(r.2.2.1:Int)≠-1/\((r.2.2.1:Int)<0\/(k:Int)<=r.2.2.1\/∃y,x.2.2.2.2[(r.2.2.1:Int).toNat]? =aa y/\(y.2.1:Int)≠r.2.1)
noncomputable instance(x:fY)(k:Nat)(r:fZ):Decidable (ue x k r):=ai6 _
noncomputable def uf(l:Lw)(x:fY)(k:Nat)(r:fZ):Int:=
 if nU r.1=ah then 2 else if jo (x.2.2.2.2.take k) r.1 then 7 else if¬(0<=(r.2.1:Int)/\(r.2.1:Int)<(x.2.2.2.1.length:Int))then 6 else if ue x k r then 9 else
 if(r.2.2.2.1:Int)<0\/9<(r.2.2.2.1:Int)\/¬VR r.2.2.2.2.1\/(r.2.2.2.2.1.1:Int)=r.2.2.2.2.1.2 then 3 else if 8<=JF x k r.2.1 then 4 else if¬plain r.2.2.2.2.2.2.2 then 2 else
 if 0<r.2.2.2.2.2.1.length/\wZ r.2.2.2.2.2.1 (gp l x) ((1:Int),(0:Int))≠0 then wZ r.2.2.2.2.2.1 (gp l x) ((1:Int),(0:Int))else
 match x.2.2.2.1[(r.2.1:Int).toNat]? with
 |some d=>wZ r.2.2.2.2.2.2.1 (gp l x) d.2
 |none=>0
noncomputable def FQ(l:Lw)(x:fY)(k:Nat):Option (Int×Int):=match x.2.2.2.2[k]? with
 |none=>ae
 |some r=>if uf l x k r≠0 then aa (uf l x k r,300+(k:Int))else ae
noncomputable def JG(x:fY)(d:Nat):Option (Int×Int):=if(d:Int)∈Kz x d then aa (9,200+(d:Int))else ae
def qa(l:Lw)(k:Nat)(x:fY):Prop:=(x.2.1:Int)≠-1/\((x.2.1:Int)<0\/(k:Int)<=x.2.1\/∃y,l.2.2[(x.2.1:Int).toNat]? =aa y/\(y.2.1:Int)≠-1)
noncomputable instance(l:Lw)(k:Nat)(x:fY):Decidable (qa l k x):=ai6 _
noncomputable def vi(l:Lw)(k:Nat):Option (Int×Int):=match l.2.2[k]? with
 |none=>ae
 |some x=>
  if nU x.1=ah then aa (2,0)else if jo l.1 x.1\/jo l.2.1 x.1\/jo (l.2.2.take k) x.1 then aa (7,0)else if qa l k x then aa (6,0)else
  if 12<x.2.2.1.length then aa (4,112)else if 12<x.2.2.2.1.length then aa (4,212)else((JE l x).or (dx (FQ l x) x.2.2.2.2.length)).or (dx (JG x) x.2.2.2.1.length)
theorem MB{l:Lw}{x:fY}{e:Int×Int}(h:JE l x=aa e):e.1≠0:=by
 grind [gM,JE,Mz,MA,Option.or_eq_some_iff]
def PF(x:fY)(d:Int):uc x.2.2.2.1.length (Kz x d):=by
 have:∀m,uc x.2.2.2.1.length (lu x m (nV x d)):=λm=>by
  induction m with
  |zero=>exact nf x d
  |succ m ih=>exact qR x ih
 exact this _
noncomputable def w4(l:Lw):LE:=
 if 8<l.1.length then((4:Int),((1:Int),((8:Int),(0:Int))))else match dx (λk=>(pq l k).map λe=>(k,e)) l.1.length with
 |some (k,e)=>sO 1 (k:Int) (aa e)
 |none=>if 8<l.2.1.length then((4:Int),((2:Int),((8:Int),(0:Int))))else match dx (λk=>(ud l k).map λe=>(k,e)) l.2.1.length with
  |some (k,e)=>sO 2 (k:Int) (aa e)
  |none=>if 4<l.2.2.length then((4:Int),((3:Int),((4:Int),(0:Int))))else match dx (λk=>(vi l k).map λe=>(k,e)) l.2.2.length with
   |some (k,e)=>sO 3 (k:Int) (aa e)
   |none=>C8
theorem rR{f:Nat->Option (Int×Int)}(hf:∀i e,f i=aa e->e.1≠0){m:Nat}{e:Int×Int}(h:dx f m=aa e):e.1≠0:=by
 grind [gM]
theorem ug{l:Lw}{k:Nat}{e:Int×Int}(h:pq l k=aa e):e.1≠0:=by
 grind [pq,rR,My]
def C9{l:Lw}{k:Nat}{e:Int×Int}(h:ud l k=aa e):e.1≠0:=by
 grind [ud]
theorem Da{l:Lw}{k:Nat}{e:Int×Int}(h:vi l k=aa e):e.1≠0:=by
 unfold vi at h
 repeat' split at h
 all_goals first|cases h|skip
 all_goals first|simp;done|skip
 rcases Option.or_eq_some_iff.1 h with h|⟨_,h⟩
 .rcases Option.or_eq_some_iff.1 h with h|⟨_,h⟩
  all_goals grind [MB,rR,FQ]
 grind [rR,JG]
def Te{f:Nat->Option (Int×Int)}{k:Nat}{e:Int×Int}(h:f k=aa e):(λk=>(f k).map λe=>(k,e)) k=aa (k,e):=by simp[h]
def Valid(l:Lw):Prop:=(w4 l).1=0
noncomputable instance(l:Lw):Decidable (Valid l):=ai6 _
theorem Valid.scopes{l:Lw}(h:Valid l):l.1.length<=8/\l.2.1.length<=8/\l.2.2.length<=4/\(∀k,k<l.1.length->pq l k=ae)/\(∀k,k<l.2.1.length->ud l k=ae)/\∀k,k<l.2.2.length->vi l k=ae:=by
 unfold Valid w4 at h;split at h
 .cases h
 split at h
 .rename_i k e hf;obtain⟨j,_,hj,_⟩:=gM hf;obtain⟨e',vA,h2⟩:=ajp.1 hj;cases h2;exact absurd h (ug vA)
 rename_i hA;split at h
 .cases h
 split at h
 .rename_i k e hf;obtain⟨j,_,hj,_⟩:=gM hf;obtain⟨e',vA,h2⟩:=ajp.1 hj;cases h2;exact absurd h (C9 vA)
 rename_i hB;split at h
 .cases h
 split at h
 .rename_i k e hf;obtain⟨j,_,hj,_⟩:=gM hf;obtain⟨e',vA,h2⟩:=ajp.1 hj;cases h2;exact absurd h (Da vA)
 rename_i hC;exact⟨by omega,by omega,by omega,λk hk=>by simpa using cu.1 hA k hk,λk hk=>by simpa using cu.1 hB k hk,λk hk=>by simpa using cu.1 hC k hk⟩
def Valid.scope{l:Lw}(h:Valid l)(k:Nat)(hk:k<l.2.2.length):nU l.2.2[k].1=af/\¬jo (l.2.2.take k) l.2.2[k].1/\¬qa l k l.2.2[k]/\l.2.2[k].2.2.1.length<=12/\l.2.2[k].2.2.2.1.length<=12/\JE l l.2.2[k]=ae/\
 (∀i,∀hi:i<l.2.2[k].2.2.2.2.length,uf l l.2.2[k] i l.2.2[k].2.2.2.2[i]=0)/\∀d:Nat,d<l.2.2[k].2.2.2.1.length->¬(d:Int)∈Kz l.2.2[k] d:=by
 have h:=h.scopes.2.2.2.2.2 k hk;unfold vi at h;rw[aiE hk]at h
 grind [cu,FQ,JG]
end L
namespace L
def ff{α:Type}(p:α->Bool)(l:List α):Int:=if l.findIdx p<l.length then((l.findIdx p:Nat):Int)else-1
def sQ{α:Type}{p:α->Bool}{l:List α}{k:Nat}(hk:k<l.length)(hp:p l[k]=af)(hn:∀j,j<k->∀h:j<l.length,p l[j]=ah):ff p l=(k:Int):=by
 grind [ff]
def zn{α:Type}{p:α->Bool}{l:List α}(hn:∀j,∀h:j<l.length,p l[j]=ah):ff p l= -1:=by
 grind [ff]
theorem fW{α:Type}{p:α->Bool}{l:List α}:0<=ff p l↔∃x∈l,p x=af:=by
 grind [ff]
def w5{α Y:Type}{l:List α}{y:Y}{p:α->Bool}{body:Int×Y->Option ((Int×Y)⊕(Int×Y))}(hl:l.length<=maxLen)
 (hb:∀k,∀h:k<l.length,body ((k:Int),y)=if p l[k]=af then aa (.inr ((k:Int),y))else aa (.inl (aiB.wrap ((k:Int)+1),y)))
 (he:body ((l.length:Int),y)=aa (.inr ((-1:Int),y))):Loop body aU ((0:Int),y)=aa (ff p l,y):=by
 apply Wp.eq
 refine Wp.count (λs=>s.1) l.length (λk s=>s.2=y/\∀j,j<k->∀h:j<l.length,p l[j]=ah) hl rfl ⟨rfl,λj hj=>by omega⟩ λk c hk hs hJ=>?_
 obtain⟨c1,c2⟩:=c;obtain⟨h1,hJ⟩:=hJ;obtain rfl:c2=y:=h1;obtain rfl:c1=_:=hs
 rcases Nat.lt_or_ge k l.length with aH|hge
 .rw[hb k aH];simp only[W_,au,av,reduceCtorEq,bw,bf,cK hl aH];exact⟨λh=>by rw[sQ aH h hJ],(by grind)⟩
 .obtain rfl:k=l.length:=by omega
  rw[he];simp only[W_,au,av,reduceCtorEq,bf];rw[zn λj h=>hJ j h h]
def sR{α:Type}{l:List α}{p:α->Bool}{body:Int->Option (Int⊕Int)}(hl:l.length<=maxLen)
 (hb:∀k,∀h:k<l.length,body (k:Int)=if p l[k]=af then aa (.inr (k:Int))else aa (.inl (aiB.wrap ((k:Int)+1))))
 (he:body (l.length:Int)=aa (.inr (-1:Int))):Loop body aU (0:Int)=aa (ff p l):=by
 apply Wp.eq
 refine Wp.count (λs=>s) l.length (λk _=>∀j,j<k->∀h:j<l.length,p l[j]=ah) hl rfl (λj hj=>by omega) λk c hk hs hJ=>?_
 obtain rfl:c=_:=hs
 rcases Nat.lt_or_ge k l.length with aH|hge
 .rw[hb k aH];simp only[W_,au,av,reduceCtorEq,bw,bf,cK hl aH];exact⟨λh=>by rw[sQ aH h hJ],(by grind)⟩
 .obtain rfl:k=l.length:=by omega
  rw[he];simp only[W_,au,av,reduceCtorEq,bf];rw[zn λj h=>hJ j h h]
def l7(r:Row)(x:r.den):lA r x x=af:=by unfold lA;simp
end L
end Go.Proofs.YtfeahmiobbjklaaGreatDoor
