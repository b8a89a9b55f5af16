/- Joined texts: ModelA ModelB Plain Wq PD RA RB RC RD RE RF RI. -/
import Derived.Test.YtfeahmiobbjklaaGreatDoorU7
import Derived.Test.YtfeahmiobbjklaaGreatDoorU1
import Derived.Test.YtfeahmiobbjklaaGreatDoorU4
set_option linter.defProp false
open _root_.Decidable renaming decide->ah
open _root_.Bool renaming false->ag,true->af
open _root_.Option renaming none->ae,some->aa,bind->agu
open _root_.ByteArray renaming empty->ahK
open _root_.Int renaming tdiv->agN,tmod->aha
open _root_.Go.IntKind renaming i64->agw,u64->agy
open _root_.List renaming range->agG,mem_cons->agY,pairwise_cons->agO,getElem_mem->agA,getElem_of_mem->agS,getElem?_eq_getElem->agz
open _root_.Classical renaming propDecidable->ag1
open _root_.Nat renaming le_refl->agB
namespace Go.Proofs.YtfeahmiobbjklaaGreatDoor
open Go Go.RowKit
set_option maxRecDepth 100000
set_option linter.unusedSimpArgs false
set_option linter.unusedVariables false
set_option linter.defProp false
section
noncomputable section
open Tk
variable (N:Nat)
set_option maxRecDepth 100000
set_option linter.unusedVariables false
def M.om(b:List Int):Option Int:=
Loop (S:=Int) (X:=Int) (λa=>(if(ah (a<(b.length:Int)))then
agu (idx b a) λc=>(if(!ah (c=0))then
aa (.inr c)
else
aa (.inl (agw.wrap (a+1))))
else
aa (.inr 0))) N 0
def Y7:Fo 189 (.i1 [.l (.slice az)]) (.i1 [.l az]) (M.om N):=fz N [] [O,O,T,O,T,L 8 80] Tryz.func189
def M.cmp_isNaN_int(N:Nat)(a:Int):Option Bool:=
aa (!ah (a=a))
def Y8:Fo 260 (.i1 [.l az]) (.i1 [.l .bool]) (M.cmp_isNaN_int N):=fz N [] [] Tryz.func260
def M.cmp_Compare_int(a:Int)(b:Int):Option Int:=
agu (M.cmp_isNaN_int N a) λd=>agu (M.cmp_isNaN_int N b) λc=>(if d then(if c then
aa 0
else
aa (-1))
else(if c then
aa 1
else(if(ah (a<b))then
aa (-1)
else(if(ah (b<a))then
aa 1
else
aa 0))))
def Y9:Fo 190 (.i1 [.l az, .l az]) (.i1 [.l az]) (u2 (M.cmp_Compare_int N)):=fz N [Y8 N] [] Tryz.func190
def M.cS(a:ay.den)(b:ay.den):Option Int:=
agu (M.cM N (agy.wrap a.1)) λc=>agu (M.cM N (agy.wrap b.1)) λd=>agu (M.cmp_Compare_int N c d) λe=>agu (M.cmp_Compare_int N a.1 b.1) λf=>agu (M.cmp_Compare_int N a.2 b.2) λg=>agu (M.om N ([e,f,g]:List Int)) λh=>aa h
def Za:Fo 188 (.i1 [.g ay, .g ay]) (.i1 [.l az]) (u2 (M.cS N)):=fz N [Y7 N,Y9 N,Ug N] [] Tryz.func188
def M.fC(m:Int)(g:List (ay.den×Bool)):Option (List (ay.den×Bool)):=
qz (S:=(List (ay.den×Bool))×(List (ay.den×Bool))×List ay.den) (R:=List (ay.den×Bool)) (λb k2=>(if(b.2.1).isEmpty then
Loop (S:=(List (ay.den×Bool))×List ay.den) (X:=List (ay.den×Bool)) (λd=>(if(ah (0<(d.2.length:Int)))then
agu (Loop (S:=Int×(List (ay.den×Bool))×List ay.den) (X:=(List (ay.den×Bool))×List ay.den) (λc=>(if(ah (c.1<(d.2.length:Int)))then
agu (agu (idx d.2 c.1) λe=>Loop (S:=Int×(List (ay.den×Bool))×List ay.den) (X:=(List (ay.den×Bool))×List ay.den) (λa=>(if(ah (a.1<m))then
agu (agu (qK .i64 1 a.1) λh=>(if(!((bR ay a.2.1 (e.1,aG .xor .i64 e.2 h)).getD ag))then
aa (a.2.1,a.2.2)
else
agu (M.lp N e (e.1,aG .xor .i64 e.2 h)) λf=>agu (if f.2 then
aa (!((bR ay a.2.1 f.1).getD ag))
else
aa ag) λn=>(if n then
agu (cm a.2.2 ([f.1]:List ay.den)) λo=>aa (qs ay a.2.1 f.1 af,o)
else
aa (a.2.1,a.2.2))):Option ((List (ay.den×Bool))×List ay.den)) λi=>aa (.inl (agw.wrap (a.1+1),i.1,i.2))
else
aa (.inr (a.2.1,a.2.2)))) N (0,c.2.1,c.2.2):Option ((List (ay.den×Bool))×List ay.den)) λj=>aa (.inl (agw.wrap (c.1+1),j.1,j.2))
else
aa (.inr (c.2.1,c.2.2)))) N (0,d.1,([]:List ay.den)):Option ((List (ay.den×Bool))×List ay.den)) λk=>aa (.inl (k.1,k.2))
else
aa (.inr d.1))) N (b.1,b.2.2)
else
Nd (λp=>p∈b.2.1) λl=>agu (cm b.2.2 ([l.1]:List ay.den)) λq=>k2 (b.1,mj ay b.2.1 l.1,q))) N (g,g,([]:List ay.den))
def Q2:Fo 117 (.j1 [.val ag (.own 0), .l az] [.smap 200 ay ag .bool ae] 1) (.j1 [] [.smap 200 ay ag .bool ae] 2) (u2 (M.fC N)):=fz N [Y6 N] [O,T,O,T,K ⟨[(4, .val ag (.own 49))],[(0, .smap 200 ay ag .bool (aa 34)),(49, .own 119 ay)],[],51⟩,X,X,T,P ⟨[(4, .val ag (.own 83))],[(0, .smap 200 ay ag .bool ae),(83, .own 119 ay)],[49],85⟩,O,T,O,R ⟨[(6, .val ag (.own 149))],[(0, .smap 200 ay ag .bool ae),(149, .own 119 ay)],[],151⟩,O,T,P ⟨[(6, .val ag (.own 197)),(28, .l az)],[(0, .smap 200 ay ag .bool ae),(197, .own 119 ay)],[],199⟩,O,O,R ⟨[(6, .val ag (.own 215))],[(0, .smap 200 ay ag .bool ae),(215, .own 119 ay)],[197],217⟩,T,O,O,T,P ⟨[(6, .val ag (.own 311)),(33, .l az)],[(0, .smap 200 ay ag .bool ae),(311, .own 119 ay)],[197],313⟩,O,O,T,R ⟨[(6, .val ag (.own 329))],[(0, .smap 200 ay ag .bool ae),(329, .own 119 ay)],[311],331⟩,O,O,O,O,B 60 729] Tryz.func117
def M.bf(e:List ay.den):Option (List ay.den):=yt (λa b c d=>M.cS N (a,b) (c,d)) e
def Q3:oH:=⟨.j1 [.val ag (.own 0), .fn 188 []] [.own 119 ay] 1, .j1 [] [.own 119 ay] 2,M.bf N⟩
def Q4(N:Nat):gD Tryz.prog 187 (Q3 N):=EI (Za N)
def M.gZ(g:Int)(d:List (ay.den×Bool)):Option ((List (ay.den×Bool))×List ay.den):=
qz (S:=(List (ay.den×Bool))×(List (ay.den×Bool))×List ay.den) (R:=(List (ay.den×Bool))×List ay.den) (λa k2=>(if(a.2.1).isEmpty then
agu (M.bf N a.2.2) λh=>aa (a.1,h)
else
Nd (λp=>p∈a.2.1) λb=>agu (agu (Loop (S:=Bool×Int) (X:=Bool) (λc=>(if(ah (c.2<g))then
agu (agu (qK .i64 1 c.2) λe=>agu (qK .i64 1 c.2) λf=>agu (if(!(lH ay (aG .andNot .i64 b.1.1 e,aG .andNot .i64 b.1.2 f) b.1))then
aa ((bR ay a.1 (aG .andNot .i64 b.1.1 e,aG .andNot .i64 b.1.2 f)).getD ag)
else
aa ag) λi=>(if i then
aa ag
else
aa c.1):Option Bool) λj=>aa (.inl (j,agw.wrap (c.2+1)))
else
aa (.inr c.1))) N (af,0):Option Bool) λk=>(if k then
agu (cm a.2.2 ([b.1]:List ay.den)) λl=>aa l
else
aa a.2.2):Option (List ay.den)) λm=>k2 (a.1,mj ay a.2.1 b.1,m))) N (d,d,([]:List ay.den))
def Q5:Fo 118 (.j1 [.val ag (.own 0), .l az] [.smap 200 ay ag .bool ae] 1) (.j1 [.val ag (.own 1)] [.smap 200 ay ag .bool ae, .own 119 ay] 3) (u2 (M.gZ N)):=fz N [Q4 N] [O,O,T,O,T,K ⟨[(5, .val ag (.own 65))],[(0, .smap 200 ay ag .bool (aa 50)),(65, .own 119 ay)],[],67⟩,O,O,R ⟨[(5, .val ag (.own 99))],[(99, .own 119 ay)],[65],100⟩,O,O,R ⟨[(7, .l .bool)],[],[],179⟩,O,T,P ⟨[(7, .l .bool),(17, .l az)],[],[],211⟩,O,O,T,R ⟨[(7, .l .bool)],[],[],227⟩,O,O,B 38 467] Tryz.func118
def M.ja(h:List Int)(p:Int):Option (List ay.den):=
agu (M.gY N p) λe=>agu (qK .i64 1 e) λf=>agu (Loop (S:=Int×(List (Int×Bool))×List (ay.den×Bool)) (X:=(List (Int×Bool))×List (ay.den×Bool)) (λb=>(if(ah (b.1<(h.length:Int)))then
agu (agu (idx h b.1) λd=>agu (if(ah (0<=d))then
aa (ah (d<f))
else
aa ag) λq=>(if q then
aa (nF az b.2.1 d af,qs ay b.2.2 (agw.wrap (f-1),d) af)
else
aa (b.2.1,b.2.2)):Option ((List (Int×Bool))×List (ay.den×Bool))) λi=>aa (.inl (agw.wrap (b.1+1),i.1,i.2))
else
aa (.inr (b.2.1,b.2.2)))) N (0,([]:List (Int×Bool)),([]:List (ay.den×Bool))):Option ((List (Int×Bool))×List (ay.den×Bool))) λj=>agu (M.fC N e j.2) λr=>agu (M.gZ N e r) λk=>Loop (S:=Int×(List (Int×Bool))×List ay.den) (X:=List ay.den) (λc=>(if(ah (c.1<(k.2.length:Int)))then
agu (agu (agu (idx k.2 c.1) λl=>agu (Loop (S:=Bool×Int×List (Int×Bool)) (X:=Bool×List (Int×Bool)) (λa=>(if(ah (a.2.1<f))then
agu (agu (if((bR az a.2.2 a.2.1).getD ag)then
agu (M.fq N l a.2.1) λs=>aa s
else
aa ag) λt=>(if t then
aa (af,oP az a.2.2 a.2.1)
else
aa (a.1,a.2.2)):Option (Bool×List (Int×Bool))) λm=>aa (.inl (m.1,agw.wrap (a.2.1+1),m.2))
else
aa (.inr (a.1,a.2.2)))) N (ag,0,c.2.1):Option (Bool×List (Int×Bool))) λg=>(if g.1 then
agu (cm c.2.2 ([l]:List ay.den)) λu=>aa (g.2,u)
else
aa (g.2,c.2.2)):Option ((List (Int×Bool))×List ay.den)) λn=>aa (n.1,n.2):Option ((List (Int×Bool))×List ay.den)) λo=>aa (.inl (agw.wrap (c.1+1),o.1,o.2))
else
aa (.inr c.2.2))) N (0,j.1,([]:List ay.den))
def W74:Fo 74 (.i1 [.l (.slice az), .l az]) (.w1 119 ay) (u2 (M.ja N)):=fz N [W45 N,Y4 N,Q2 N,Q5 N] [O,O,O,O,O,R ⟨[],[(112, .map 199 az ag .bool),(144, .smap 200 ay ag .bool ae)],[],178⟩,O,T,P ⟨[(23, .l az)],[(112, .map 199 az ag .bool),(144, .smap 200 ay ag .bool ae)],[],226⟩,O,O,T,R ⟨[],[(112, .map 199 az ag .bool),(144, .smap 200 ay ag .bool ae)],[],244⟩,O,B 33 290,X,X,X,O,O,T,O,T,P ⟨[(10, .val ag (.own 322)),(49, .l az)],[(112, .map 199 az ag .bool),(322, .own 119 ay)],[],324⟩,O,O,R ⟨[(10, .val ag (.own 340))],[(112, .map 199 az ag .bool),(340, .own 119 ay)],[322],342⟩,R ⟨[(10, .val ag (.own 340))],[(112, .map 199 az ag .bool),(340, .own 119 ay)],[322],342⟩,O,O,R ⟨[(13, .l .bool)],[(112, .map 199 az ag .bool)],[],421⟩,O,T,P ⟨[(13, .l .bool),(54, .l az)],[(112, .map 199 az ag .bool)],[],453⟩,O,O,T,R ⟨[(13, .l .bool)],[(112, .map 199 az ag .bool)],[],470⟩,O,B 64 501] Tryz.func74
def M.fW(d:List Int)(i:List Int)(j:Int):Option (List aK.den):=
agu (cm ([(-2),(-1)]:List Int) i) λe=>Loop (S:=Int×List aK.den) (X:=List aK.den) (λb=>(if(ah (b.1<(e.length:Int)))then
agu (agu (agu (idx e b.1) λf=>agu (Loop (S:=Int×List Int) (X:=List Int) (λa=>(if(ah (a.1<(d.length:Int)))then
agu (agu (idx d a.1) λk=>(if(ah (k=f))then
agu (cm a.2 ([a.1]:List Int)) λl=>aa l
else
aa a.2):Option (List Int)) λm=>aa (.inl (agw.wrap (a.1+1),m))
else
aa (.inr a.2))) N (0,([]:List Int)):Option (List Int)) λg=>(if(ah ((g.length:Int)=0))then
aa b.2
else
agu (M.ja N g j) λh=>Loop (S:=Int×List aK.den) (X:=List aK.den) (λc=>(if(ah (c.1<(h.length:Int)))then
agu (idx h c.1) λn=>agu (cm c.2 ([(n,f)]:List aK.den)) λo=>aa (.inl (agw.wrap (c.1+1),o))
else
aa (.inr c.2))) N (0,b.2)):Option (List aK.den)) λp=>aa p:Option (List aK.den)) λq=>aa (.inl (agw.wrap (b.1+1),q))
else
aa (.inr b.2))) N (0,([]:List aK.den))
def W44:Fo 44 (.i1 [.l (.slice az), .l (.slice az), .l az]) (.w1 121 aK) (u3 (M.fW N)):=fz N [W74 N] [O,O,O,T,O,T,P ⟨[(8, .val ag (.own 144)),(21, .l az)],[(144, .own 121 aK)],[],145⟩,O,O,R ⟨[(8, .val ag (.own 161))],[(161, .own 121 aK)],[144],162⟩,R ⟨[(8, .val ag (.own 161))],[(161, .own 121 aK)],[144],162⟩,O,O,R ⟨[(11, .val ag (.own 225))],[(225, .own 3 az)],[],226⟩,O,T,P ⟨[(11, .val ag (.own 273)),(27, .l az)],[(273, .own 3 az)],[],274⟩,O,O,T,R ⟨[(11, .val ag (.own 290))],[(290, .own 3 az)],[273],291⟩,X,X,X,X,O,O,T,P ⟨[(8, .val ag (.own 354)),(47, .l az)],[(354, .own 121 aK)],[144],355⟩] Tryz.func44
def M.eX(g:dv.den)(h:Int)(d:Int)(i:Int):Option (Int×Int×(List (List ay.den))×(List Int)×List aK.den):=
agu (M.fB N g) λn=>(if(!(lH aR n (0,(0,(0,0)))))then
aa (0,1,([]:List (List ay.den)),([]:List Int),([]:List aK.den))
else
agu (if(ah (h<0))then
aa af
else
aa (ah ((g.2.2.length:Int)<=h))) λo=>(if o then
aa (0,6,([]:List (List ay.den)),([]:List Int),([]:List aK.den))
else
agu (idx g.2.2 h) λj=>agu (if(ah (d<0))then
aa af
else
aa (ah ((j.2.2.2.1.length:Int)<=d))) λp=>(if p then
aa (0,6,([]:List (List ay.den)),([]:List Int),([]:List aK.den))
else
agu (if(ah (i<0))then
aa af
else
aa (ah (109572<i))) λq=>(if q then
aa (0,3,([]:List (List ay.den)),([]:List Int),([]:List aK.den))
else
agu (M.iZ N j d i) λb=>agu (oM (b.1.length:Int) 0) λr=>agu (Loop (S:=Int×Int×(List Int)×(List (List ay.den))×List Int) (X:=Int×(List Int)×(List (List ay.den))×List Int) (λa=>(if(ah (a.1<(b.1.length:Int)))then
agu (agu (idx b.1 a.1) λl=>agu (idx a.2.2.1 a.1) λx=>agu (idx j.2.2.2.2 l) λk=>(if(ah ((k.2.2.2.2.2.1.length:Int)=0))then
aa (a.2.1,bm a.2.2.1 a.1 (-1),a.2.2.2.1,a.2.2.2.2)
else
agu (M.dU N a.2.2.2.1 k.2.2.2.2.2.1) λm=>agu ((if(ah (m<0))then
agu (M.bH N k.2.2.2.2.2.1) λs=>agu (cm a.2.2.2.1 ([s]:List (List ay.den))) λt=>agu (cm a.2.2.2.2 ([l]:List Int)) λu=>aa ((a.2.2.2.1.length:Int),a.2.1,t,u)
else
aa (m,a.2.1,a.2.2.2.1,a.2.2.2.2)):Option (Int×Int×(List (List ay.den))×List Int)) λe=>agu (idx (bm a.2.2.1 a.1 (-1)) a.1) λy=>aa (e.2.1,bm (bm a.2.2.1 a.1 (-1)) a.1 e.1,e.2.2.1,e.2.2.2)):Option (Int×(List Int)×(List (List ay.den))×List Int)) λf=>aa (.inl (agw.wrap (a.1+1),f.1,f.2.1,f.2.2.1,f.2.2.2))
else
aa (.inr (a.2.1,a.2.2.1,a.2.2.2.1,a.2.2.2.2)))) N (0,d,r,([]:List (List ay.den)),([]:List Int)):Option (Int×(List Int)×(List (List ay.den))×List Int)) λc=>agu (M.cq N b.1 b.2.1 b.2.2 c.2.1 (c.2.2.1.length:Int)) λv=>agu (M.fW N v b.1 (c.2.2.1.length:Int)) λw=>aa (c.1,0,c.2.2.1,c.2.2.2,w)))))
def W19:Fo 19 (.i1 [.g dv, .l az, .l az, .l az]) (.j1 [.val af (.pair (.leaf az) (.pair (.own 0) (.pair (.own 1) (.own 2)))), .l az] [.own 43 (.slice ay), .own 3 az, .own 121 aK] 3) (u4 (M.eX N)):=fz N [W28 N,W40 N,W41 N,W42 N,W43 N,W44 N] [O,O,T,B 34 112,O,T,B 49 224,T,B 56 224,O,O,O,R ⟨[],[(256, .box 26 (.pair (.leaf az) (.pair (.own 528) (.pair (.own 529) .nil)))),(496, .own 3 az),(528, .own 43 (.slice ay)),(529, .own 3 az)],[],532⟩,O,T,P ⟨[(73, .l az)],[(256, .box 26 (.pair (.leaf az) (.pair (.own 576) (.pair (.own 577) .nil)))),(496, .own 3 az),(576, .own 43 (.slice ay)),(577, .own 3 az)],[],580⟩,O,O,T,R ⟨[],[(256, .box 26 (.pair (.leaf az) (.pair (.own 596) (.pair (.own 597) .nil)))),(496, .own 3 az),(596, .own 43 (.slice ay)),(597, .own 3 az)],[576,577],600⟩,O,O,O,O,O,R ⟨[(19, .l az)],[(256, .box 26 (.pair (.leaf az) (.pair (.own 980) (.pair (.own 981) .nil)))),(980, .own 43 (.slice ay)),(981, .own 3 az)],[576,577],983⟩] Tryz.func19
def M.dI(N:Nat)(a:List Int):Option Int:=
aa (a.length:Int)
def Zb:Fo 97 (.i1 [.l (.slice az)]) (.i1 [.l az]) (M.dI N):=fz N [] [] Tryz.func97
def M.dm(N:Nat)(a:List Int)(b:Int)(c:Int):Option Bool:=
agu (idx a b) λd=>agu (idx a c) λe=>aa (ah (d<e))
def Uh:Fo 393 (.i1 [.l (.slice az), .l az, .l az]) (.i1 [.l .bool]) (u3 (M.dm N)):=fz N [] [] Tryz.func393
def M.k8(N:Nat)(a:List Int):Option (Int×List Int):=
agu (idx a (agw.wrap ((a.length:Int)-1))) λb=>agu (ga a 0 (agw.wrap ((a.length:Int)-1))) λc=>aa (b,c)
def Zc:Fo 394 (.j1 [.ptr 0 [] 0] [.box 184 (.own 1), .own 3 az] 2) ⟨[(0, .ifc 3 (.l az))],[(0, .box 184 (.own 2)),(2, .own 3 az)],[],4⟩ (M.k8 N):=fz N [] [] Tryz.func394
def M.kE(d:br.den):Option (List (List Int)):=
agu (oM (d.2.2.2.1.length:Int) ([]:List Int)) λf=>agu (Loop (S:=Int×List (List Int)) (X:=List (List Int)) (λb=>(if(ah (b.1<(d.2.2.2.2.length:Int)))then
agu (agu (idx d.2.2.2.2 b.1) λc=>agu (if(ah (0<=c.2.1))then
aa (ah (c.2.1<(b.2.length:Int)))
else
aa ag) λg=>(if g then
agu (idx b.2 c.2.1) λn=>agu (idx b.2 c.2.1) λh=>agu (M.eW N c (b.2.length:Int)) λi=>agu (cm h i) λj=>agu (idx b.2 c.2.1) λo=>(if ah (c.2.1=c.2.1)then
agu (idx b.2 c.2.1) λp=>aa (rK b.2 c.2.1 (λq=>j))
else ae)
else
aa b.2):Option (List (List Int))) λk=>aa (.inl (agw.wrap (b.1+1),k))
else
aa (.inr b.2))) N (0,f):Option (List (List Int))) λe=>Loop (S:=Int×List (List Int)) (X:=List (List Int)) (λa=>(if(ah (a.1<(e.length:Int)))then
agu (idx a.2 a.1) λr=>agu (idx a.2 a.1) λl=>agu (M.gX N l) λm=>agu (idx a.2 a.1) λs=>(if ah (a.1=a.1)then
agu (idx a.2 a.1) λt=>aa (.inl (agw.wrap (a.1+1),rK a.2 a.1 (λu=>m)))
else ae)
else
aa (.inr a.2))) N (0,e)
def Ui:oH:=⟨.i1 [.g br], .j1 [.val ag (.own 0)] [.deep 23 (.sl 3 (.leaf az))] 1,M.kE N⟩
def Uj(N:Nat):gD Tryz.prog 95 (Ui N):=fw (en [ck (Uc N),ck (K3 N)] af ag) (N:=N) (.o (.o (.meet ⟨[],[(80, .deep 23 (.sl 3 (.leaf az)))],[],113⟩ (.o (.two (.loop ⟨[(15, .l az)],[(80, .deep 23 (.sl 3 (.leaf az)))],[],177⟩ (.o (.o (.two (.meet ⟨[],[(80, .deep 23 (.sl 3 (.leaf az)))],[],194⟩ (.o (.meet ⟨[(28, .l .bool)],[],[],257⟩ .nil .nil)) .nil) .nil)))) .nil)) (.two (.o (.two (.loop ⟨[(46, .l az)],[(80, .deep 23 (.sl 3 (.leaf az)))],[],162⟩ .nil) .nil)) .nil)))) Tryz.func95 (by kernel_rfl) λx=>by kernel_rfl
def M.iO(N:Nat)(a:Int)(b:List Int):Option (List Int):=
agu (cm b ([a]:List Int)) λc=>aa c
def Q6:Fo 395 (.j1 [.ptr 0 [] 0, .ifc 3 (.l az)] [.box 184 (.own 1), .own 3 az] 2) ⟨[],[(0, .box 184 (.own 2)),(2, .own 3 az)],[],4⟩ (u2 (M.iO N)):=fz N [] [] Tryz.func395
def M.cC(N:Nat)(b:Int)(c:Int)(a:List Int):Option (List Int):=
agu (idx a c) λd=>agu (idx a b) λe=>agu (idx a b) λf=>agu (idx (bm a b d) c) λg=>aa (bm (bm a b d) c e)
def EK:Fo 396 (.j1 [.val ag (.own 0), .l az, .l az] [.own 3 az] 1) (.j1 [] [.own 3 az] 2) (u3 (M.cC N)):=fz N [] [] Tryz.func396
def M.fD(b:Int)(c:List Int):Option (List Int):=
Loop (S:=Int×List Int) (X:=List Int) (λa=>agu (if(ah ((agw.wrap (agN (agw.wrap (a.1-1)) 2))=a.1))then
aa af
else
agu (M.dm N a.2 a.1 (agw.wrap (agN (agw.wrap (a.1-1)) 2))) λd=>aa (!d)) λe=>(if e then
aa (.inr a.2)
else
agu (M.cC N (agw.wrap (agN (agw.wrap (a.1-1)) 2)) a.1 a.2) λf=>aa (.inl (agw.wrap (agN (agw.wrap (a.1-1)) 2),f)))) N (b,c)
def Q7:Fo 164 (.j1 [.ifc 183 (.ptr 0 [] 0), .l az] [.box 184 (.own 1), .own 3 az] 2) (.j1 [] [.box 184 (.own 1), .own 3 az] 4) (u2 (M.fD N)):=fz N [Uh N,EK N] [T,P ⟨[(1, .l az)],[(1, .own 3 az)],[],3⟩,T,O,T,B 17 67] Tryz.func164
def M.cK(b:Int)(c:List Int):Option (List Int):=
agu (M.iO N b c) λa=>agu (M.dI N a) λd=>agu (M.fD N (agw.wrap (d-1)) a) λe=>aa e
def Uk:Fo 96 (.j1 [.ifc 183 (.ptr 0 [] 0), .ifc 3 (.l az)] [.box 184 (.own 1), .own 3 az] 2) ⟨[],[(0, .box 184 (.own 2)),(2, .own 3 az)],[],4⟩ (u2 (M.cK N)):=fz N [Zb N,Q7 N,Q6 N] [] Tryz.func96
def M.eG(c:Int)(d:Int)(f:List Int):Option (Bool×List Int):=
agu (Loop (S:=Int×List Int) (X:=Int×List Int) (λa=>agu (if(ah (d<=(agw.wrap ((agw.wrap (2*a.1))+1))))then
aa af
else
aa (ah ((agw.wrap ((agw.wrap (2*a.1))+1))<0))) λg=>(if g then
aa (.inr (a.1,a.2))
else
agu (agu (if(ah ((agw.wrap ((agw.wrap ((agw.wrap (2*a.1))+1))+1))<d))then
agu (M.dm N a.2 (agw.wrap ((agw.wrap ((agw.wrap (2*a.1))+1))+1)) (agw.wrap ((agw.wrap (2*a.1))+1))) λh=>aa h
else
aa ag) λi=>(if i then
aa (agw.wrap ((agw.wrap ((agw.wrap (2*a.1))+1))+1))
else
aa (agw.wrap ((agw.wrap (2*a.1))+1))):Option Int) λb=>agu (M.dm N a.2 b a.1) λj=>(if(!j)then
aa (.inr (a.1,a.2))
else
agu (M.cC N a.1 b a.2) λk=>aa (.inl (b,k))))) N (c,f):Option (Int×List Int)) λe=>aa (ah (c<e.1),e.2)
def Q8:Fo 165 (.j1 [.ifc 183 (.ptr 0 [] 0), .l az, .l az] [.box 184 (.own 1), .own 3 az] 2) (.j1 [.l .bool] [.box 184 (.own 1), .own 3 az] 4) (u3 (M.eG N)):=fz N [Uh N,EK N] [O,O,T,R ⟨[(7, .l az)],[(1, .own 3 az)],[],51⟩,P ⟨[(7, .l az)],[(1, .own 3 az)],[],51⟩,T,O,T,B 21 115,O,R ⟨[(9, .l az)],[],[],147⟩,O,B 33 195] Tryz.func165
def M.fg(a:List Int):Option (Int×List Int):=
agu (M.dI N a) λb=>agu (M.cC N 0 (agw.wrap (b-1)) a) λd=>agu (M.eG N 0 (agw.wrap (b-1)) d) λe=>agu (M.k8 N e.2) λc=>aa (c.1,c.2)
def Ul:Fo 98 (.j1 [.ifc 183 (.ptr 0 [] 0)] [.box 184 (.own 1), .own 3 az] 2) ⟨[(0, .ifc 3 (.l az))],[(0, .box 184 (.own 2)),(2, .own 3 az)],[],4⟩ (M.fg N):=fz N [Zb N,Q8 N,Zc N,EK N] [] Tryz.func98
def M.bW(s:br.den):Option (Int×List Int):=
agu (agu (M.kE N s) λt=>aa t:Option (List (List Int))) λg=>agu (oM (g.length:Int) ([]:List Int)) λu=>agu (oM (g.length:Int) 0) λv=>agu (agu (Loop (S:=Int×(List (List Int))×(List Int)×List Int) (X:=(List (List Int))×(List Int)×List Int) (λa=>(if(ah (a.1<(g.length:Int)))then
agu (agu (agu (idx g a.1) λh=>agu (idx a.2.2.1 a.1) λF=>agu (Loop (S:=Int×List (List Int)) (X:=List (List Int)) (λc=>(if(ah (c.1<(h.length:Int)))then
agu (idx h c.1) λd=>agu (idx c.2 d) λG=>agu (idx c.2 d) λw=>agu (cm w ([a.1]:List Int)) λx=>agu (idx c.2 d) λH=>(if ah (d=d)then
agu (idx c.2 d) λI=>aa (.inl (agw.wrap (c.1+1),rK c.2 d (λQ=>x)))
else ae)
else
aa (.inr c.2))) N (0,a.2.1):Option (List (List Int))) λo=>(if(ah ((h.length:Int)=0))then
agu (M.cK N a.1 a.2.2.2) λy=>aa (o,bm a.2.2.1 a.1 (h.length:Int),y)
else
aa (o,bm a.2.2.1 a.1 (h.length:Int),a.2.2.2)):Option ((List (List Int))×(List Int)×List Int)) λi=>aa (i.1,i.2.1,i.2.2):Option ((List (List Int))×(List Int)×List Int)) λj=>aa (.inl (agw.wrap (a.1+1),j.1,j.2.1,j.2.2))
else
aa (.inr (a.2.1,a.2.2.1,a.2.2.2)))) N (0,u,v,([]:List Int)):Option ((List (List Int))×(List Int)×List Int)) λk=>aa (k.1,k.2.1,k.2.2):Option ((List (List Int))×(List Int)×List Int)) λl=>agu (Loop (S:=(List Int)×(List Int)×List Int) (X:=(List Int)×List Int) (λf=>agu (M.dI N f.2.2) λz=>(if(ah (0<z))then
agu (M.fg N f.2.2) λm=>agu (cm f.2.1 ([m.1]:List Int)) λA=>agu (idx l.1 m.1) λp=>Loop (S:=Int×(List Int)×List Int) (X:=((List Int)×(List Int)×List Int)⊕((List Int)×List Int)) (λb=>(if(ah (b.1<(p.length:Int)))then
agu (agu (idx p b.1) λe=>agu (idx b.2.1 e) λn=>agu (idx b.2.1 e) λU=>agu (idx (bm b.2.1 e (agw.wrap (n-1))) e) λC=>(if(ah (C=0))then
agu (M.cK N e b.2.2) λD=>aa (bm b.2.1 e (agw.wrap (n-1)),D)
else
aa (bm b.2.1 e (agw.wrap (n-1)),b.2.2)):Option ((List Int)×List Int)) λq=>aa (.inl (agw.wrap (b.1+1),q.1,q.2))
else
aa (.inr (.inl (b.2.1,A,b.2.2))))) N (0,f.1,m.2)
else
aa (.inr (f.2.1,f.2.2)))) N (l.2.1,([]:List Int),l.2.2):Option ((List Int)×List Int)) λr=>(if(ah ((r.1.length:Int)<(g.length:Int)))then
aa (9,([]:List Int))
else
aa (0,r.1))
def S60:oH:=⟨.i1 [.g br], .j1 [.val ag (.own 0), .l az] [.own 3 az] 1,M.bW N⟩
def W60(N:Nat):gD Tryz.prog 60 (S60 N):=fw (en [ck (Uj N),ck (Uk N),ck (Zb N),ck (Ul N)] af ag) (N:=N) (.o (.meet ⟨[(4, .l (.slice (.slice az)))],[],[],48⟩ .nil (.o (.o (.o (.meet ⟨[(5, .l (.slice (.slice az)))],[(144, .own 3 az),(192, .box 184 (.own 224)),(224, .own 3 az)],[80,176],227⟩ (.o (.meet ⟨[(5, .l (.slice (.slice az)))],[(144, .own 3 az),(192, .box 184 (.own 272)),(272, .own 3 az)],[80,176],275⟩ (.loop ⟨[(29, .l az)],[(80, .deep 23 (.sl 3 (.leaf az))),(144, .own 3 az),(192, .box 184 (.own 272)),(272, .own 3 az)],[176],276⟩ (.o (.o (.meet ⟨[],[(80, .deep 23 (.sl 3 (.leaf az))),(144, .own 3 az),(192, .box 184 (.own 292)),(292, .own 3 az)],[272],296⟩ (.meet ⟨[],[(80, .deep 23 (.sl 3 (.leaf az))),(144, .own 3 az),(192, .box 184 (.own 292)),(292, .own 3 az)],[272],296⟩ (.o (.o (.meet ⟨[],[(80, .deep 23 (.sl 3 (.leaf az)))],[],469⟩ (.o (.two (.loop ⟨[(41, .l az)],[(80, .deep 23 (.sl 3 (.leaf az)))],[],517⟩ .nil) .nil)) .nil))) .nil) .nil)))) .nil)) (.o (.meet ⟨[(12, .val ag (.own 243))],[(192, .box 184 (.own 244)),(243, .own 3 az),(244, .own 3 az)],[144,224],246⟩ (.two (.loop ⟨[(12, .val ag (.own 243))],[(144, .own 3 az),(192, .box 184 (.own 244)),(243, .own 3 az),(244, .own 3 az)],[224],247⟩ (.o (.two (.o (.o (.o (.two (.loop ⟨[(86, .l az)],[(144, .own 3 az),(192, .box 184 (.own 647)),(647, .own 3 az)],[361],650⟩ (.o (.o (.two (.meet ⟨[],[(144, .own 3 az),(192, .box 184 (.own 666)),(666, .own 3 az)],[647],669⟩ .nil .nil) .nil)))) .nil)))) .nil))) .nil) .nil)))))))) Tryz.func60 (by kernel_rfl) λx=>by kernel_rfl
def M.cL(d:dv.den)(e:Int)(g:Int):Option (br.den×(List Int)×(List bA.den)×List Int):=
agu (idx d.2.2 e) λb=>agu (oM (b.2.2.2.1.length:Int) (0,(([]:List (List ay.den)),(([]:List Int),([]:List aK.den))))) λh=>agu (oM (b.2.2.2.1.length:Int) 0) λi=>agu (M.bW N b) λj=>agu (Loop (S:=Int×(List bA.den)×List Int) (X:=(List bA.den)×List Int) (λa=>(if(ah (a.1<(b.2.2.2.1.length:Int)))then
agu (M.eX N d e a.1 g) λc=>agu (idx a.2.1 a.1) λk=>agu (idx a.2.2 a.1) λl=>aa (.inl (agw.wrap (a.1+1),bm a.2.1 a.1 (c.1,(c.2.2.1,(c.2.2.2.1,c.2.2.2.2))),bm a.2.2 a.1 c.2.1))
else
aa (.inr (a.2.1,a.2.2)))) N (0,h,i):Option ((List bA.den)×List Int)) λf=>aa (b,j.2,f.1,f.2)
def W30:Fo 30 (.i1 [.g dv, .l az, .l az]) (.j1 [.val af (.pair (.leaf br) (.pair (.own 0) (.pair (.own 1) (.own 2))))] [.own 3 az, .own 26 bA, .own 36 az] 3) (u3 (M.cL N)):=fz N [W19 N,W60 N] [O,O,O,O,R ⟨[],[(208, .own 26 bA),(272, .own 36 az)],[],450⟩,O,T,P ⟨[(34, .l az)],[(208, .own 26 bA),(272, .own 36 az)],[],514⟩] Tryz.func30
def M.dh(b:bA.den)(d:Int):Option (Int×Bool):=
Loop (S:=Int) (X:=Int×Bool) (λa=>(if(ah (a<(b.2.2.2.length:Int)))then
agu (idx b.2.2.2 a) λc=>agu (M.fq N c.1 d) λe=>(if e then
aa (.inr (c.2,af))
else
aa (.inl (agw.wrap (a+1))))
else
aa (.inr (0,ag)))) N 0
def W20:Fo 20 (.i1 [.g bA, .l az]) (.i1 [.l az, .l .bool]) (u2 (M.dh N)):=fz N [W45 N] [O,T,O,T,L 11 112] Tryz.func20
def M.jb(N:Nat)(b:bA.den)(a:Int):Option Int:=
agu (if(ah (a<0))then
aa af
else
aa (ah ((b.2.2.1.length:Int)<=a))) λc=>(if c then
aa (-1)
else
agu (idx b.2.2.1 a) λd=>aa d)
def W99:Fo 99 (.i1 [.g bA, .l az]) (.i1 [.l az]) (u2 (M.jb N)):=fz N [] [O,T,B 13 32] Tryz.func99
def M.eH(b:dx.den)(d:Int)(g:ik.den):Option (aA.den×Int×Int):=
agu (idx b.2.2.2 d) λh=>(if(!ah (h=0))then
agu (idx b.2.2.2 d) λi=>aa ((0,(0,0)),(-1),i)
else
agu (idx b.2.2.1 d) λe=>agu (M.bS N e g) λc=>(if(!ah (c.2.2=0))then
agu (M.jb N e c.2.1) λj=>aa ((0,(0,0)),j,c.2.2)
else
agu (M.dh N e c.1) λa=>agu (if(!a.2)then
aa af
else
aa (ah (a.1=(-1)))) λk=>(if k then
aa ((0,(0,0)),(-1),10)
else(if(ah (a.1=(-2)))then
aa ((0,(0,0)),(-1),11)
else
agu (idx b.1.2.2.2.2 a.1) λl=>agu (M.gJ N l.2.2.2.2.2.2.1 g) λf=>(if(!ah (f.2=0))then
aa ((0,(0,0)),a.1,f.2)
else
aa (f.1,a.1,0))))))
def W61:Fo 61 (.i1 [.g dx, .l az, .g ik]) (.i1 [.g aA, .l az, .l az]) (u3 (M.eH N)):=fz N [Yr N,W20 N,W24 N,W99 N] [O,O,O,O,O,O,T,B 58 608] Tryz.func61
def M.eY(c:dx.den)(e:ik.den)(g:Int):Option (aR.den×(List aA.den)×List Int):=
agu (oM (c.1.2.2.2.1.length:Int) (0,(0,0))) λh=>agu (oM (c.1.2.2.2.1.length:Int) 0) λi=>cd (J:=(List aA.den)×List Int) (R:=aR.den×(List aA.den)×List Int) (Loop (S:=Int×(List aA.den)×List Int) (X:=((List aA.den)×List Int)⊕(aR.den×(List aA.den)×List Int)) (λa=>(if(ah (a.1<(c.2.1.length:Int)))then
agu (idx c.2.1 a.1) λb=>agu (M.eH N c b (e.1,(e.2.1,(a.2.1,e.2.2.2)))) λd=>(if(!ah (d.2.2=0))then
aa (.inr (.inr ((d.2.2,(g,(b,d.2.1))),([]:List aA.den),([]:List Int))))
else
agu (idx a.2.1 b) λj=>agu (idx a.2.2 b) λk=>aa (.inl (agw.wrap (a.1+1),bm a.2.1 b d.1,bm a.2.2 b d.2.1)))
else
aa (.inr (.inl (a.2.1,a.2.2))))) N (0,h,i)) λf=>aa ((0,(0,(0,0))),f.1,f.2)
def W31:Fo 31 (.i1 [.g dx, .g ik, .l az]) (.j1 [.val ag (.own 0), .val ag (.own 1), .g aR] [.own 40 aA, .own 3 az] 2) (u3 (M.eY N)):=fz N [W61 N] [O,O,O,J ⟨[],[(144, .own 40 aA),(256, .own 3 az)],[],290⟩,O,T,P ⟨[(29, .l az)],[(144, .own 40 aA),(256, .own 3 az)],[],354⟩] Tryz.func31
def M.ct(b:dv.den)(g:Int)(c:fi.den):Option (aR.den×(List aA.den)×(List Int)×List aE.den):=
agu (M.fB N b) λo=>(if(!(lH aR o (0,(0,(0,0)))))then
aa ((1,((-1),((-1),(-1)))),([]:List aA.den),([]:List Int),([]:List aE.den))
else
agu (if(ah (g<0))then
aa af
else
aa (ah ((b.2.2.length:Int)<=g))) λp=>(if p then
aa ((6,((-1),((-1),(-1)))),([]:List aA.den),([]:List Int),([]:List aE.den))
else
agu (M.cQ N b g c) λm=>(if(!ah (m.2.2=0))then
aa ((m.2.2,(m.1,((-1),(-1)))),([]:List aA.den),([]:List Int),([]:List aE.den))
else
cd (J:=Int×(List aA.den)×(List bn.den)×(List aE.den)×(List (List aA.den))×List ay.den) (R:=aR.den×(List aA.den)×(List Int)×List aE.den) (agu (idx b.2.2 g) λi=>agu (if(ah (0<=i.2.1))then
aa (ah (i.2.1<(b.2.2.length:Int)))
else
aa ag) λq=>(if q then
agu (agu (idx b.2.2 i.2.1) λn=>Loop (S:=Int×Int×(List aA.den)×(List bn.den)×List ay.den) (X:=Int×(List aA.den)×(List bn.den)×List ay.den) (λd=>(if(ah (d.1<(n.2.2.2.1.length:Int)))then
agu (idx n.2.2.2.1 d.1) λr=>agu (cm d.2.2.2.2 ([r.2]:List ay.den)) λs=>aa (.inl (agw.wrap (d.1+1),d.2.1,d.2.2.1,d.2.2.2.1,s))
else
aa (.inr (d.2.1,d.2.2.1,d.2.2.2.1,d.2.2.2.2)))) N (0,c.1,c.2.1,b.2.1,([]:List ay.den)):Option (Int×(List aA.den)×(List bn.den)×List ay.den)) λe=>(if(ah (0<(c.2.2.length:Int)))then
agu (M.cL N b i.2.1 c.1) λj=>Loop (S:=Int×Int×(List aA.den)×(List bn.den)×(List ay.den)×(List aE.den)×List (List aA.den)) (X:=(Int×(List aA.den)×(List bn.den)×(List aE.den)×(List (List aA.den))×List ay.den)⊕(aR.den×(List aA.den)×(List Int)×List aE.den)) (λa=>(if(ah (a.1<(c.2.2.length:Int)))then
agu (idx c.2.2 a.1) λt=>agu (M.eY N (j.1,(j.2.1,(j.2.2.1,j.2.2.2))) (c.1,(t,(([]:List aA.den),(([]:List (List aA.den)),(([]:List ay.den),b.2.1))))) a.1) λh=>(if(!(lH aR h.1 (0,(0,(0,0)))))then
aa (.inr (.inr (h.1,([]:List aA.den),([]:List Int),([]:List aE.den))))
else
agu (cm a.2.2.2.2.2.1 ([(h.2.1,h.2.2)]:List aE.den)) λu=>agu (cm a.2.2.2.2.2.2 ([h.2.1]:List (List aA.den))) λv=>aa (.inl (agw.wrap (a.1+1),a.2.1,a.2.2.1,a.2.2.2.1,a.2.2.2.2.1,u,v)))
else
aa (.inr (.inl (a.2.1,a.2.2.1,a.2.2.2.1,a.2.2.2.2.2.1,a.2.2.2.2.2.2,a.2.2.2.2.1))))) N (0,e.1,e.2.1,e.2.2.1,e.2.2.2,([]:List aE.den),([]:List (List aA.den)))
else
aa (.inl (e.1,e.2.1,e.2.2.1,([]:List aE.den),([]:List (List aA.den)),e.2.2.2)))
else
aa (.inl (c.1,c.2.1,b.2.1,([]:List aE.den),([]:List (List aA.den)),([]:List ay.den))))) λf=>agu (M.cL N b g c.1) λk=>agu (M.eY N (k.1,(k.2.1,(k.2.2.1,k.2.2.2))) (f.1,(f.2.1,(([]:List aA.den),(f.2.2.2.2.1,(f.2.2.2.2.2,f.2.2.1))))) (-1)) λl=>(if(!(lH aR l.1 (0,(0,(0,0)))))then
aa (l.1,([]:List aA.den),([]:List Int),([]:List aE.den))
else
aa ((0,(0,(0,0))),l.2.1,l.2.2,f.2.2.2.1)))))
def W15:Fo 15 (.i1 [.g dv, .l az, .g fi]) (.j1 [.val af (.pair (.own 0) (.pair (.own 1) (.own 2))), .g aR] [.own 40 aA, .own 3 az, .own 63 aE] 3) (u3 (M.ct N)):=fz N [W28 N,W29 N,W30 N,W31 N] [O,O,T,B 40 128,O,O,O,J ⟨[],[(336, .box 55 (.pair .nil (.pair .nil (.own 496)))),(464, .box 32 (.pair (.leaf az) (.pair (.leaf (.slice aA)) (.pair .nil (.pair (.own 497) (.pair (.own 498) (.leaf (.slice bn)))))))),(496, .own 63 aE),(497, .own 27 (.slice aA)),(498, .own 74 ay)],[],501⟩,O,R ⟨[(78, .l .bool)],[],[],608⟩,X,T,R ⟨[],[(464, .box 32 (.pair (.leaf az) (.pair (.leaf (.slice aA)) (.pair .nil (.pair .nil (.pair (.own 608) (.leaf (.slice bn)))))))),(608, .own 74 ay)],[],610⟩,O,T,P ⟨[(86, .l az)],[(464, .box 32 (.pair (.leaf az) (.pair (.leaf (.slice aA)) (.pair .nil (.pair .nil (.pair (.own 736) (.leaf (.slice bn)))))))),(736, .own 74 ay)],[],738⟩,X,X,O,T,O,O,T,P ⟨[(110, .l az)],[(336, .box 55 (.pair .nil (.pair .nil (.own 850)))),(464, .box 32 (.pair (.leaf az) (.pair (.leaf (.slice aA)) (.pair .nil (.pair (.own 851) (.pair (.own 608) (.leaf (.slice bn)))))))),(608, .own 74 ay),(850, .own 63 aE),(851, .own 27 (.slice aA))],[],855⟩] Tryz.func15
def M.rW(N:Nat)(a:List ay.den):Option (List br.den):=
aa ([((⟨#[104,111,117,115,101]⟩:ByteArray),((-1),(([((⟨#[97]⟩:ByteArray),(3,0))]:List bB.den),(([((⟨#[100]⟩:ByteArray),(3,0))]:List bB.den),([((⟨#[98,97,115,101]⟩:ByteArray),(0,((-1),(0,((0,109573),(([]:List ay.den),(a,ahK)))))))]:List cX.den)))))]:List br.den)
def W22:Fo 22 (.i1 [.l (.slice ay)]) (.j1 [.val af (.pair .nil (.pair .nil (.own 0)))] [.own 68 br] 1) (M.rW N):=fz N [] [] Tryz.func22
def M.me(b:List Int)(c:List Int):Option Bool:=
(if(!ah ((b.length:Int)=(c.length:Int)))then
aa ag
else
Loop (S:=Int) (X:=Bool) (λa=>agu (if(ah (a<(b.length:Int)))then
aa (ah (a<(c.length:Int)))
else
aa ag) λd=>(if d then
agu (idx b a) λe=>agu (idx c a) λf=>(if(!ah (e=f))then
aa (.inr ag)
else
aa (.inl (agw.wrap (a+1))))
else
aa (.inr af))) N 0)
def Zd:Fo 23 (.i1 [.l (.slice az), .l (.slice az)]) (.i1 [.l .bool]) (u2 (M.me N)):=fz N [] [O,O,T,O,T,L 5 112,T,B 20 112] Tryz.func23
def M.iP:Option Bool:=
agu (M.bS N (0,(([([(1,1)]:List ay.den),([(1,0)]:List ay.den)]:List (List ay.den)),(([]:List Int),([]:List aK.den)))) (0,(([]:List aA.den),(([]:List aA.den),(([]:List (List aA.den)),(([]:List ay.den),([]:List bn.den))))))) λb=>agu (M.bS N (0,(([([(1,1)]:List ay.den),([(2,5)]:List ay.den)]:List (List ay.den)),(([]:List Int),([]:List aK.den)))) (0,(([]:List aA.den),(([]:List aA.den),(([]:List (List aA.den)),(([]:List ay.den),([]:List bn.den))))))) λc=>agu (M.rW N ([(7,0)]:List ay.den)) λd=>agu (M.ct N (([]:List dD.den),(([]:List bn.den),d)) 0 (36525,(([(3,(0,1250))]:List aA.den),([]:List (List aA.den))))) λa=>agu (if(ah (b.1=1))then(if(ah (b.2.1=(-1)))then(if(ah (b.2.2=0))then(if(ah (c.1=0))then(if(ah (c.2.1=1))then(if(ah (c.2.2=8))then(if(ah (a.1.1=0))then(if(ah ((a.2.1.length:Int)=1))then
agu (idx a.2.1 0) λe=>(if(ah (e.2.2=1250))then
agu (M.me N a.2.2.1 ([0]:List Int)) λf=>aa f
else
aa ag)
else
aa ag)
else
aa ag)
else
aa ag)
else
aa ag)
else
aa ag)
else
aa ag)
else
aa ag)
else
aa ag) λg=>aa g
def W9:Fo 9 (.i1 []) (.i1 [.l .bool]) (λ(x:Unit)=>M.iP N):=fz N [Yr N,W15 N,W22 N,Zd N] [O,O,O,O,O,O,B 0 816] Tryz.func9
def M.ph(N:Nat)(a:ay.den):Option Bool:=
agu (if(ah (0<=a.1))then(if(ah (a.1<=a.2))then
aa (ah (a.2<=109573))
else
aa ag)
else
aa ag) λb=>aa b
def M.mq(a:ay.den)(b:Int):Option Bool:=
agu (agu (M.ph N a) λc=>(if c then(if(ah (a.1<=b))then
aa (ah (b<a.2))
else
aa ag)
else
aa ag):Option Bool) λd=>aa d
def M.jE(a:br.den):Option Bool:=
agu (if(ah (80<(a.1.size:Int)))then
aa af
else(if(ah (14<(a.2.2.1.length:Int)))then
aa af
else(if(ah (14<(a.2.2.2.1.length:Int)))then
aa af
else
aa (ah (60<(a.2.2.2.2.length:Int)))))) λf=>(if f then
aa ag
else
cd (J:=Unit) (R:=Bool) (Loop (S:=Int) (X:=Unit⊕Bool) (λc=>(if(ah (c<(a.2.2.1.length:Int)))then
agu (idx a.2.2.1 c) λg=>(if(ah (80<(g.1.size:Int)))then
aa (.inr (.inr ag))
else
aa (.inl (agw.wrap (c+1))))
else
aa (.inr (.inl ())))) N 0) λj=>cd (J:=Unit) (R:=Bool) (Loop (S:=Int) (X:=Unit⊕Bool) (λd=>(if(ah (d<(a.2.2.2.1.length:Int)))then
agu (idx a.2.2.2.1 d) λh=>(if(ah (80<(h.1.size:Int)))then
aa (.inr (.inr ag))
else
aa (.inl (agw.wrap (d+1))))
else
aa (.inr (.inl ())))) N 0) λk=>Loop (S:=Int) (X:=Bool) (λe=>(if(ah (e<(a.2.2.2.2.length:Int)))then
agu (idx a.2.2.2.2 e) λb=>agu (if(ah (80<(b.1.size:Int)))then
aa af
else(if(ah (80<(b.2.2.2.2.2.2.2.size:Int)))then
aa af
else(if(ah (50<(b.2.2.2.2.2.1.length:Int)))then
aa af
else
aa (ah (50<(b.2.2.2.2.2.2.1.length:Int)))))) λi=>(if i then
aa (.inr ag)
else
aa (.inl (agw.wrap (e+1))))
else
aa (.inr af))) N 0)
def W27:Fo 27 (.i1 [.g br]) (.i1 [.l .bool]) (M.jE N):=fz N [] [O,T,B 28 32,E 32,O,T,L 3 48,X,X,E 32,O,T,L 4 48,X,X,T,O,T,L 5 48,O,T,T,O,B 92 240] Tryz.func27
def M.lq(a:dv.den):Option Bool:=
agu (if(ah (9<(a.1.length:Int)))then
aa af
else(if(ah (9<(a.2.1.length:Int)))then
aa af
else
aa (ah (5<(a.2.2.length:Int))))) λh=>(if h then
aa ag
else
cd (J:=Unit) (R:=Bool) (Loop (S:=Int) (X:=Unit⊕Bool) (λb=>(if(ah (b<(a.1.length:Int)))then
cd (J:=Unit) (R:=Int⊕(Unit⊕Bool)) (agu (agu (idx a.1 b) λi=>(if(ah (80<(i.1.size:Int)))then
aa af
else
agu (idx a.1 b) λj=>aa (ah (20<(j.2.length:Int)))):Option Bool) λk=>(if k then
aa (.inr (.inr (.inr ag)))
else
Loop (S:=Int) (X:=Unit⊕(Int⊕(Unit⊕Bool))) (λe=>agu (idx a.1 b) λl=>(if(ah (e<(l.2.length:Int)))then
agu (idx a.1 b) λm=>agu (idx m.2 e) λn=>(if(ah (80<(n.size:Int)))then
aa (.inr (.inr (.inr (.inr ag))))
else
aa (.inl (agw.wrap (e+1))))
else
aa (.inr (.inl ())))) N 0)) λt=>aa (.inl (agw.wrap (b+1)))
else
aa (.inr (.inl ())))) N 0) λu=>cd (J:=Unit) (R:=Bool) (Loop (S:=Int×Int) (X:=Unit⊕Bool) (λc=>(if(ah (c.2<(a.2.1.length:Int)))then
agu (idx a.2.1 c.2) λf=>agu (agu (idx a.2.1 c.2) λo=>(if(ah (80<(o.1.size:Int)))then
aa af
else
aa (ah (150<(agw.wrap (c.1+(f.2.2.2.length:Int)))))):Option Bool) λp=>(if p then
aa (.inr (.inr ag))
else
aa (.inl (agw.wrap (c.1+(f.2.2.2.length:Int)),agw.wrap (c.2+1))))
else
aa (.inr (.inl ())))) N (0,0)) λv=>Loop (S:=Int×Int) (X:=Bool) (λd=>(if(ah (d.2<(a.2.2.length:Int)))then
agu (idx a.2.2 d.2) λg=>agu (if(ah (60<(agw.wrap (d.1+(g.2.2.2.2.length:Int)))))then
aa af
else
agu (idx a.2.2 d.2) λq=>agu (M.jE N q) λr=>aa (!r)) λs=>(if s then
aa (.inr ag)
else
aa (.inl (agw.wrap (d.1+(g.2.2.2.2.length:Int)),agw.wrap (d.2+1))))
else
aa (.inr af))) N (0,0))
def W13:Fo 13 (.i1 [.g dv]) (.i1 [.l .bool]) (M.lq N):=fz N [W27 N] [O,T,B 24 32,O,O,E 64,O,T,L 5 80,O,E 160,T,T,B 49 160,O,T,L 6 176,X,X,X,X,X,E 64,O,T,P ⟨[(3, .l az),(7, .l az)],[],[],80⟩,O,T,T,O,B 99 320,X,X,X,T,O,T,P ⟨[(4, .l az),(8, .l az)],[],[],80⟩,O,T,T,O,B 126 320] Tryz.func13
def M.kF(a:fi.den):Option Bool:=
agu (if(ah (14<(a.2.1.length:Int)))then
aa af
else
aa (ah (10<(a.2.2.length:Int)))) λc=>(if c then
aa ag
else
Loop (S:=Int) (X:=Bool) (λb=>(if(ah (b<(a.2.2.length:Int)))then
agu (idx a.2.2 b) λd=>(if(ah (14<(d.length:Int)))then
aa (.inr ag)
else
aa (.inl (agw.wrap (b+1))))
else
aa (.inr af))) N 0)
def W14:Fo 14 (.i1 [.g fi]) (.i1 [.l .bool]) (M.kF N):=fz N [] [O,T,B 13 32,T,O,T,L 3 48] Tryz.func14
def M.hZ(N:Nat)(b:dv.den)(d:Int):Option (ByteArray×Int×(List bB.den)×(List bB.den)×List cX.den):=
agu (idx b.2.2 d) λc=>agu (if(ah (c.2.1<0))then
aa af
else
aa (ah ((b.2.2.length:Int)<=c.2.1))) λe=>(if e then
aa (ahK,0,([]:List bB.den),([]:List bB.den),([]:List cX.den))
else
agu (idx b.2.2 c.2.1) λa=>aa (a.1,a.2.1,a.2.2.1,a.2.2.2.1,a.2.2.2.2))
def W39:Fo 39 (.i1 [.g dv, .l az]) (.i1 [.val af (.pair (.leaf .str) (.pair (.leaf az) (.pair (.leaf (.slice bB)) (.pair (.leaf (.slice bB)) (.leaf (.slice cX))))))]) (u2 (M.hZ N)):=fz N [] [O,O,T,B 20 144] Tryz.func39
def M.qd(c:dv.den)(f:Int)(d:fi.den)(g:List (List aA.den)):Option (Int×(List aA.den)×(List (List aA.den))×(List bn.den)×List ay.den):=
agu (M.hZ N c f) λe=>agu (Loop (S:=Int×Int×(List aA.den)×(List (List aA.den))×(List bn.den)×List ay.den) (X:=Int×(List aA.den)×(List (List aA.den))×(List bn.den)×List ay.den) (λa=>(if(ah (a.1<(e.2.2.2.1.length:Int)))then
agu (idx e.2.2.2.1 a.1) λh=>agu (cm a.2.2.2.2.2 ([h.2]:List ay.den)) λi=>aa (.inl (agw.wrap (a.1+1),a.2.1,a.2.2.1,a.2.2.2.1,a.2.2.2.2.1,i))
else
aa (.inr (a.2.1,a.2.2.1,a.2.2.2.1,a.2.2.2.2.1,a.2.2.2.2.2)))) N (0,d.1,d.2.1,g,c.2.1,([]:List ay.den)):Option (Int×(List aA.den)×(List (List aA.den))×(List bn.den)×List ay.den)) λb=>aa (b.1,b.2.1,b.2.2.1,b.2.2.2.1,b.2.2.2.2)
def W18:Fo 18 (.i1 [.g dv, .l az, .g fi, .l (.slice (.slice aA))]) (.j1 [.val af (.pair (.leaf az) (.pair (.leaf (.slice aA)) (.pair .nil (.pair (.leaf (.slice (.slice aA))) (.pair (.own 0) (.leaf (.slice bn)))))))] [.own 74 ay] 1) (u4 (M.qd N)):=fz N [W39 N] [O,O,O,R ⟨[],[(176, .box 32 (.pair (.leaf az) (.pair (.leaf (.slice aA)) (.pair .nil (.pair (.leaf (.slice (.slice aA))) (.pair (.own 288) (.leaf (.slice bn)))))))),(288, .own 74 ay)],[],290⟩,O,T,P ⟨[(11, .l az)],[(176, .box 32 (.pair (.leaf az) (.pair (.leaf (.slice aA)) (.pair .nil (.pair (.leaf (.slice (.slice aA))) (.pair (.own 304) (.leaf (.slice bn)))))))),(304, .own 74 ay)],[],306⟩] Tryz.func18
def M.mS(N:Nat)(a:Int):Option Bool:=
agu (if(ah (97<=a))then
aa (ah (a<=122))
else
aa ag) λb=>aa b
def M.pj(N:Nat)(a:Int):Option Bool:=
agu (if(ah (48<=a))then
aa (ah (a<=57))
else
aa ag) λb=>aa b
def M.qW(a:Int):Option Bool:=
agu (agu (M.mS N a) λb=>(if b then
aa af
else
agu (M.pj N a) λc=>(if c then
aa af
else
aa (ah (a=95)))):Option Bool) λd=>aa d
def M.mr(N:Nat):Option (List ByteArray):=
aa ([(⟨#[105,102]⟩:ByteArray),(⟨#[116,104,101,110]⟩:ByteArray),(⟨#[101,108,115,101]⟩:ByteArray),(⟨#[111,114]⟩:ByteArray),(⟨#[97,110,100]⟩:ByteArray),(⟨#[110,111,116]⟩:ByteArray),(⟨#[116,114,117,101]⟩:ByteArray),(⟨#[102,97,108,115,101]⟩:ByteArray),(⟨#[116,111,100,97,121]⟩:ByteArray),(⟨#[115,104,97,114,101]⟩:ByteArray),(⟨#[100,105,118]⟩:ByteArray),(⟨#[114,111,117,110,100]⟩:ByteArray),(⟨#[109,105,110]⟩:ByteArray),(⟨#[109,97,120]⟩:ByteArray),(⟨#[112,108,117,115]⟩:ByteArray),(⟨#[109,111,110,116,104,115]⟩:ByteArray),(⟨#[100,97,121,115]⟩:ByteArray),(⟨#[121,101,97,114,115]⟩:ByteArray),(⟨#[121,101,97,114]⟩:ByteArray),(⟨#[109,111,110,116,104]⟩:ByteArray),(⟨#[116,97,98]⟩:ByteArray),(⟨#[98,97,110,100]⟩:ByteArray),(⟨#[99,111,117,110,116]⟩:ByteArray),(⟨#[115,117,109]⟩:ByteArray),(⟨#[97,108,108]⟩:ByteArray),(⟨#[97,110,121]⟩:ByteArray),(⟨#[109,111,115,116]⟩:ByteArray),(⟨#[101,110,117,109]⟩:ByteArray),(⟨#[116,97,98,108,101]⟩:ByteArray),(⟨#[114,111,119]⟩:ByteArray),(⟨#[115,99,111,112,101]⟩:ByteArray),(⟨#[109,101,109,98,101,114,115]⟩:ByteArray),(⟨#[105,110,112,117,116]⟩:ByteArray),(⟨#[100,101,102]⟩:ByteArray),(⟨#[114,117,108,101]⟩:ByteArray),(⟨#[111,102]⟩:ByteArray),(⟨#[111,118,101,114]⟩:ByteArray),(⟨#[112,114,105,111]⟩:ByteArray),(⟨#[102,114,111,109]⟩:ByteArray),(⟨#[116,111]⟩:ByteArray),(⟨#[101,110,100]⟩:ByteArray),(⟨#[119,104,101,110]⟩:ByteArray),(⟨#[105,115]⟩:ByteArray),(⟨#[115,114,99]⟩:ByteArray),(⟨#[98,111,111,108]⟩:ByteArray),(⟨#[105,110,116]⟩:ByteArray),(⟨#[109,111,110,101,121]⟩:ByteArray),(⟨#[114,97,116,101]⟩:ByteArray),(⟨#[100,97,116,101]⟩:ByteArray),(⟨#[100,111,119,110]⟩:ByteArray),(⟨#[117,112]⟩:ByteArray),(⟨#[122,101,114,111]⟩:ByteArray),(⟨#[97,119,97,121]⟩:ByteArray),(⟨#[104,97,108,102]⟩:ByteArray),(⟨#[101,118,101,110]⟩:ByteArray)]:List ByteArray)
def M.jP(a:ByteArray):Option Bool:=
agu (if(ah ((a.size:Int)=0))then
aa af
else(if(ah (16<(a.size:Int)))then
aa af
else
agu (kS a 0) λe=>agu (M.mS N e) λf=>aa (!f))) λg=>(if g then
aa ag
else
cd (J:=Unit) (R:=Bool) (Loop (S:=Int) (X:=Unit⊕Bool) (λb=>(if(ah (b<(a.size:Int)))then
agu (kS a b) λh=>agu (M.qW N h) λi=>(if(!i)then
aa (.inr (.inr ag))
else
aa (.inl (agw.wrap (b+1))))
else
aa (.inr (.inl ())))) N 0) λk=>agu (M.mr N) λd=>Loop (S:=Int) (X:=Bool) (λc=>(if(ah (c<(d.length:Int)))then
agu (idx d c) λj=>(if(ah (j=a))then
aa (.inr ag)
else
aa (.inl (agw.wrap (c+1))))
else
aa (.inr af))) N 0)
def M.fu(N:Nat)(a:ay.den)(b:List dD.den):Option Bool:=
(if(ah (a.1=6))then
agu (if(ah (0<=a.2))then
aa (ah (a.2<(b.length:Int)))
else
aa ag) λc=>aa c
else
agu (if(ah (1<=a.1))then(if(ah (a.1<=5))then
aa (ah (a.2=0))
else
aa ag)
else
aa ag) λd=>aa d)
def M.oo(a:ay.den)(b:List dD.den):Option (Int×Int):=
agu (M.fu N a b) λc=>(if(!c)then
aa (0,(-1))
else(if(ah (a.1=1))then
aa (0,1)
else(if(ah (a.1=2))then
aa ((-1000000000000),1000000000000)
else(if(ah (a.1=3))then
aa ((-1000000000000000),1000000000000000)
else(if(ah (a.1=4))then
aa ((-1000000000),1000000000)
else(if(ah (a.1=5))then
aa (0,109572)
else
agu (idx b a.2) λd=>aa (0,agw.wrap ((d.2.length:Int)-1))))))))
def M.fX(b:List bB.den):Option (List ay.den):=
Loop (S:=Int×List ay.den) (X:=List ay.den) (λa=>(if(ah (a.1<(b.length:Int)))then
agu (idx b a.1) λc=>agu (cm a.2 ([c.2]:List ay.den)) λd=>aa (.inl (agw.wrap (a.1+1),d))
else
aa (.inr a.2))) N (0,([]:List ay.den))
def M.lM(a:dv.den)(d:Int):Option ((List dD.den)×(List bn.den)×Bool×(List ay.den)×(List ay.den)×List ay.den):=
agu (if(ah (d<0))then
aa af
else
aa (ah ((a.2.2.length:Int)<=d))) λg=>(if g then
aa (([]:List dD.den),([]:List bn.den),ag,([]:List ay.den),([]:List ay.den),([]:List ay.den))
else
agu (idx a.2.2 d) λc=>agu (M.fX N c.2.2.1) λe=>agu (M.fX N c.2.2.2.1) λf=>agu (agu (if(ah (0<=c.2.1))then
aa (ah (c.2.1<(a.2.2.length:Int)))
else
aa ag) λh=>(if h then
agu (idx a.2.2 c.2.1) λi=>agu (M.fX N i.2.2.2.1) λj=>aa (e,f,a.1,a.2.1,af,j)
else
aa (e,f,a.1,a.2.1,ag,([]:List ay.den))):Option ((List ay.den)×(List ay.den)×(List dD.den)×(List bn.den)×Bool×List ay.den)) λb=>aa (b.2.2.1,b.2.2.2.1,b.2.2.2.2.1,b.1,b.2.1,b.2.2.2.2.2))
def M.ni(N:Nat)(a:Int):Option Bool:=
agu (if(ah (1<=a))then(if(ah (a<=8))then
aa af
else(if(ah (36<=a))then
aa (ah (a<=39))
else
aa ag))
else(if(ah (36<=a))then
aa (ah (a<=39))
else
aa ag)) λb=>(if b then
aa af
else
agu (if(ah (a=14))then
aa af
else(if(ah (a=15))then
aa af
else(if(ah (a=16))then
aa af
else(if(ah (a=33))then
aa af
else
aa (ah (a=34)))))) λc=>aa c)
def M.da(N:Nat)(a:Int):Option (ay.den):=
aa (a,0)
def M.l4(a:ay.den)(c:bJ.den):Option Bool:=
agu (if(ah (a.1=1))then
aa (ah (a.1=1))
else(if(ah (a.1=2))then
aa (ah (a.1=2))
else(if(ah (a.1=3))then
aa (ah (a.1=3))
else(if(ah (a.1=4))then
aa (ah (a.1=4))
else
aa (ah (a.1=5)))))) λd=>(if d then
agu (M.da N a.1) λe=>agu (M.oo N e c.1) λb=>agu (if(ah (b.1<=a.2))then
aa (ah (a.2<=b.2))
else
aa ag) λf=>aa f
else
agu (if(ah (a.1=14))then
aa (ah (a.1=14))
else(if(ah (a.1=15))then
aa (ah (a.1=15))
else
aa (ah (a.1=16)))) λg=>(if g then
agu (if(ah (0<=a.2))then
aa (ah (a.2<=5))
else
aa ag) λh=>aa h
else(if(ah (a.1=34))then
agu (if(ah (0<=a.2))then
aa (ah ((aha a.2 8)<=5))
else
aa ag) λi=>aa i
else(if(ah (a.1=6))then
aa (ah (0<=a.2))
else
aa af))))
def M.bx(N:Nat)(a:ay.den)(b:bJ.den):Option Bool:=
(if(ah (a.1=6))then
agu (if(ah ((agw.wrap (agN a.2 16))<(b.1.length:Int)))then
agu (idx b.1 (agw.wrap (agN a.2 16))) λc=>aa (ah ((aha a.2 16)<(c.2.length:Int)))
else
aa ag) λd=>aa d
else(if(ah (a.1=7))then
agu (if(ah (0<=a.2))then
aa (ah (a.2<(b.2.2.1.length:Int)))
else
aa ag) λe=>aa e
else(if(ah (a.1=8))then
agu (if(ah (0<=a.2))then
aa (ah (a.2<(b.2.2.2.1.length:Int)))
else
aa ag) λf=>aa f
else(if(ah (a.1=33))then
agu (if(ah (0<=a.2))then
aa (ah (a.2<(b.2.1.length:Int)))
else
aa ag) λg=>aa g
else(if(ah (a.1=34))then
aa (ah ((agw.wrap (agN a.2 8))<(b.2.1.length:Int)))
else(if(ah (a.1=35))then
aa b.2.2.2.2.2
else
agu (if(ah (a.1=36))then
aa (ah (a.1=36))
else(if(ah (a.1=37))then
aa (ah (a.1=37))
else(if(ah (a.1=38))then
aa (ah (a.1=38))
else
aa (ah (a.1=39))))) λh=>(if h then
agu (if b.2.2.2.2.2 then(if(ah (0<=a.2))then
aa (ah (a.2<(b.2.2.2.2.1.length:Int)))
else
aa ag)
else
aa ag) λi=>aa i
else
aa af)))))))
def M.kG(N:Nat)(a:Int):Option Bool:=
agu (if(ah (a=2))then
aa af
else(if(ah (a=3))then
aa af
else
aa (ah (a=4)))) λb=>aa b
def M.gK(a:Int):Option Bool:=
agu (agu (M.kG N a) λb=>(if b then
aa af
else
aa (ah (a=5))):Option Bool) λc=>aa c
def M.b8(a:ay.den)(c:bJ.den):Option (ay.den×Bool):=
agu ((if(ah (a.1=6))then
aa (6,agw.wrap (agN a.2 16))
else(if(ah (a.1=7))then
agu (idx c.2.2.1 a.2) λe=>aa e
else(if(ah (a.1=8))then
agu (idx c.2.2.2.1 a.2) λf=>aa f
else(if(ah (a.1=9))then
agu (M.da N 5) λg=>aa g
else(if(ah (a.1=35))then
agu (M.da N 2) λh=>aa h
else
agu (if(ah (a.1=36))then
aa (ah (a.1=36))
else(if(ah (a.1=37))then
aa (ah (a.1=37))
else(if(ah (a.1=38))then
aa (ah (a.1=38))
else
aa (ah (a.1=39))))) λi=>(if i then
agu (idx c.2.2.2.2.1 a.2) λj=>aa j
else
agu (M.da N a.1) λk=>aa k)))))):Option (ay.den)) λb=>agu (M.fu N b c.1) λd=>agu (if(ah (a.1=36))then(if d then(if(ah (b.1=2))then
aa af
else
aa (ah (b.1=3)))
else
aa ag)
else
agu (if(ah (a.1=37))then
aa (ah (a.1=37))
else
aa (ah (a.1=38))) λl=>(if l then(if d then
aa (ah (b.1=1))
else
aa ag)
else(if(ah (a.1=39))then(if d then
agu (M.gK N b.1) λm=>aa m
else
aa ag)
else
aa d))) λn=>aa (b,n)
def M.c9(b:ay.den)(a:ay.den)(d:bJ.den):Option (ay.den×Bool):=
(if(ah (b.1=10))then
agu (M.kG N a.1) λh=>aa (a,h)
else(if(ah (b.1=25))then
aa (a,ah (a.1=1))
else
agu (if(ah (b.1=31))then
aa (ah (b.1=31))
else
aa (ah (b.1=32))) λi=>(if i then
agu (M.da N 2) λj=>aa (j,ah (a.1=5))
else(if(ah (b.1=33))then
agu (idx d.2.1 b.2) λc=>agu (agu (M.fu N c.2.1 d.1) λk=>(if k then
agu (M.fu N c.2.2.1 d.1) λl=>(if l then
aa ((lH ay a c.2.1),c.2.2.1)
else
aa (ag,c.2.2.1))
else
aa (ag,c.2.2.1)):Option (Bool×ay.den)) λe=>aa (e.2,e.1)
else
agu (idx d.2.1 (agw.wrap (agN b.2 8))) λf=>agu ((if(ah (a.1=3))then
agu (M.da N 3) λm=>(if(lH ay f.2.1 m)then
agu (M.da N 4) λn=>aa ((lH ay f.2.2.1 n),a)
else
aa (ag,a))
else
aa (ag,a)):Option (Bool×ay.den)) λg=>aa (g.2,g.1)))))
def M.kH(f:Int)(a:Int)(b:Int):Option (ay.den×Bool):=
(if(ah (f=13))then
agu (agu (M.da N a) λc=>(if(ah (b=2))then(if(ah (a=2))then
aa (af,c)
else
aa (ah (a=3),c))
else
aa (ag,c)):Option (Bool×ay.den)) λg=>aa (g.2,g.1)
else(if(ah (f=14))then
agu (agu (M.da N a) λd=>(if(ah (b=4))then(if(ah (a=3))then
aa (af,d)
else
aa (ah (a=4),d))
else
aa (ag,d)):Option (Bool×ay.den)) λh=>aa (h.2,h.1)
else
agu (if(ah (a=3))then
aa (ah (b=3))
else
aa ag) λj=>(if j then
agu (M.da N 4) λk=>aa (k,af)
else
agu (agu (M.da N a) λe=>(if(ah (b=2))then(if(ah (a=2))then
aa (af,e)
else
aa (ah (a=3),e))
else
aa (ag,e)):Option (Bool×ay.den)) λi=>aa (i.2,i.1))))
def M.gv(a:Int)(b:ay.den)(c:ay.den):Option (ay.den×Bool):=
agu (if(ah (a=11))then
aa (ah (a=11))
else
aa (ah (a=12))) λn=>(if n then
agu ((if(lH ay b c)then
agu (M.kG N b.1) λo=>aa (o,b)
else
aa (ag,b)):Option (Bool×ay.den)) λd=>aa (d.2,d.1)
else
agu (if(ah (a=13))then
aa (ah (a=13))
else(if(ah (a=14))then
aa (ah (a=14))
else
aa (ah (a=15)))) λp=>(if p then
agu (M.kH N a b.1 c.1) λe=>aa (e.1,e.2)
else(if(ah (a=16))then
agu ((if(ah (b.1=3))then
aa (ah (c.1=3),b)
else
aa (ag,b)):Option (Bool×ay.den)) λf=>aa (f.2,f.1)
else
agu (if(ah (a=17))then
aa (ah (a=17))
else
aa (ah (a=18))) λq=>(if q then
agu ((if(lH ay b c)then
agu (M.gK N b.1) λr=>aa (r,b)
else
aa (ag,b)):Option (Bool×ay.den)) λg=>aa (g.2,g.1)
else
agu (if(ah (a=19))then
aa (ah (a=19))
else
aa (ah (a=20))) λs=>(if s then
agu (M.da N 1) λt=>aa (t,(lH ay b c))
else
agu (if(ah (a=21))then
aa (ah (a=21))
else
aa (ah (a=22))) λu=>(if u then
agu (agu (M.da N 1) λh=>(if(lH ay b c)then
agu (M.gK N b.1) λv=>aa (v,h)
else
aa (ag,h)):Option (Bool×ay.den)) λi=>aa (i.2,i.1)
else
agu (if(ah (a=23))then
aa (ah (a=23))
else
aa (ah (a=24))) λw=>(if w then
agu ((if(ah (b.1=1))then
aa (ah (c.1=1),b)
else
aa (ag,b)):Option (Bool×ay.den)) λj=>aa (j.2,j.1)
else
agu (if(ah (a=27))then
aa (ah (a=27))
else
aa (ah (a=28))) λx=>(if x then
agu ((if(ah (b.1=5))then
aa (ah (c.1=2),b)
else
aa (ag,b)):Option (Bool×ay.den)) λk=>aa (k.2,k.1)
else
agu (agu (M.da N 2) λl=>(if(ah (b.1=5))then
aa (ah (c.1=5),l)
else
aa (ag,l)):Option (Bool×ay.den)) λm=>aa (m.2,m.1)))))))))
def M.aW(b:ay.den)(a:List ay.den)(c:bJ.den):Option (ay.den×Int):=
agu (if(!ah (b.2=0))then
agu (M.ni N b.1) λi=>aa (!i)
else
aa ag) λj=>(if j then
aa ((0,0),2)
else
agu (M.l4 N b c) λk=>(if(!k)then
aa ((0,0),3)
else
agu (M.bx N b c) λl=>(if(!l)then
aa ((0,0),6)
else
agu ((if(ah ((a.length:Int)=0))then
agu (M.b8 N b c) λd=>aa (d.2,d.1)
else(if(ah ((a.length:Int)=1))then
agu (idx a 0) λm=>agu (M.c9 N b m c) λe=>aa (e.2,e.1)
else(if(ah ((a.length:Int)=2))then
agu (idx a 0) λn=>agu (idx a 1) λo=>agu (M.gv N b.1 n o) λf=>aa (f.2,f.1)
else
agu (idx a 1) λg=>agu (idx a 0) λp=>(if(ah (p.1=1))then
agu (idx a 1) λq=>agu (idx a 2) λr=>aa ((lH ay q r),g)
else
aa (ag,g))))):Option (Bool×ay.den)) λh=>(if(!h.1)then
aa ((0,0),8)
else
aa (h.2,0)))))
def M.nk(b:br.den)(c:Int)(d:Int):Option (List Int):=
Loop (S:=Int×List Int) (X:=List Int) (λa=>(if(ah (a.1<(b.2.2.2.2.length:Int)))then
agu (agu (agu (idx b.2.2.2.2 a.1) λe=>(if(ah (e.2.1=c))then
agu (idx b.2.2.2.2 a.1) λf=>agu (M.mq N f.2.2.2.2.1 d) λg=>aa g
else
aa ag):Option Bool) λh=>(if h then
agu (cm a.2 ([a.1]:List Int)) λi=>aa i
else
aa a.2):Option (List Int)) λj=>aa (.inl (agw.wrap (a.1+1),j))
else
aa (.inr a.2))) N (0,([]:List Int))
def M.pk(b:List Int)(c:Int):Option Int:=
Loop (S:=Int) (X:=Int) (λa=>(if(ah (a<(b.length:Int)))then
agu (idx b a) λd=>(if(ah (d=c))then
aa (.inr a)
else
aa (.inl (agw.wrap (a+1))))
else
aa (.inr (-1)))) N 0
def M.ot(b:br.den)(e:List Int)(c:Int):Option Int:=
agu (idx b.2.2.2.2 c) λf=>Loop (S:=Int×Int) (X:=Int) (λa=>agu (if(ah (0<=a.2))then
aa (ah (a.2<a.1))
else
aa ag) λg=>(if g then
agu (M.pk N e a.2) λd=>(if(ah (0<=d))then
aa (.inr d)
else
agu (idx b.2.2.2.2 a.2) λh=>aa (.inl (a.2,h.2.2.1)))
else
aa (.inr (-1)))) N (c,f.2.2.1)
def M.ou(c:br.den)(e:Int)(f:Int):Option ((List Int)×(List Int)×List Int):=
agu (M.nk N c e f) λb=>agu (Loop (S:=Int×(List Int)×List Int) (X:=(List Int)×List Int) (λa=>(if(ah (a.1<(b.length:Int)))then
agu (idx b a.1) λg=>agu (M.ot N c b g) λh=>agu (cm a.2.1 ([h]:List Int)) λi=>agu (idx b a.1) λj=>agu (idx c.2.2.2.2 j) λk=>agu (cm a.2.2 ([k.2.2.2.1]:List Int)) λl=>aa (.inl (agw.wrap (a.1+1),i,l))
else
aa (.inr (a.2.1,a.2.2)))) N (0,([]:List Int),([]:List Int)):Option ((List Int)×List Int)) λd=>aa (b,d.1,d.2)
def M.qX(b:List ay.den)(c:List ay.den):Option Bool:=
(if(!ah ((b.length:Int)=(c.length:Int)))then
aa ag
else
Loop (S:=Int) (X:=Bool) (λa=>agu (if(ah (a<(b.length:Int)))then
aa (ah (a<(c.length:Int)))
else
aa ag) λd=>(if d then
agu (idx b a) λe=>agu (idx c a) λf=>(if(!(lH ay e f))then
aa (.inr ag)
else
aa (.inl (agw.wrap (a+1))))
else
aa (.inr af))) N 0)
def M.ov(b:List (List ay.den))(c:List ay.den):Option Int:=
Loop (S:=Int) (X:=Int) (λa=>(if(ah (a<(b.length:Int)))then
agu (idx b a) λd=>agu (M.qX N d c) λe=>(if e then
aa (.inr a)
else
aa (.inl (agw.wrap (a+1))))
else
aa (.inr (-1)))) N 0
def M.mu(b:List Int)(c:List Int):Option Int:=
(if(!ah ((b.length:Int)=(c.length:Int)))then
aa 2
else(if(ah (8<(b.length:Int)))then
aa 4
else
Loop (S:=Int) (X:=Int) (λa=>(if(ah (a<(b.length:Int)))then
agu (agu (idx b a) λd=>(if(ah (d<(-1)))then
aa af
else
agu (idx b a) λe=>aa (ah (a<=e))):Option Bool) λf=>(if f then
aa (.inr 9)
else
agu (agu (idx c a) λg=>(if(ah (g<0))then
aa af
else
agu (idx c a) λh=>aa (ah (9<h))):Option Bool) λi=>(if i then
aa (.inr 3)
else
aa (.inl (agw.wrap (a+1)))))
else
aa (.inr 0))) N 0))
def M.pn(b:List Int)(c:Int):Option (List Int):=
Loop (S:=Int×List Int) (X:=List Int) (λa=>(if(ah (a.1<(b.length:Int)))then
agu (agu (idx b a.1) λd=>(if(ah (d=c))then
agu (cm a.2 ([a.1]:List Int)) λe=>aa e
else
aa a.2):Option (List Int)) λf=>aa (.inl (agw.wrap (a.1+1),f))
else
aa (.inr a.2))) N (0,([]:List Int))
mutual
def M.fY(B:Nat):Nat->(List Int)->(List Int)->(List Bool)->Int->Option Int
 |0,_,_,_,_=>ae
 |N+1,b,c,d,e=>
  agu (M.ow B N b c d e) λa=>
  (if(ah ((a.length:Int)=0))then
  aa (-1)
  else
  (if(ah (1<(a.length:Int)))then
  aa (-2)
  else
  agu (idx a 0) λf=>
  agu (M.dB B N b c d f) λg=>
  aa g))
def M.ow(B:Nat):Nat->(List Int)->(List Int)->(List Bool)->Int->Option (List Int)
 |0,_,_,_,_=>ae
 |N+1,e,b,f,g=>
  agu (M.pn B e g) λc=>
  Loop (S:=Int×List Int) (X:=List Int) (λa=>
  (if(ah (a.1<(c.length:Int)))then
  agu (agu (idx c a.1) λh=>
  agu (M.dB B N e b f h) λi=>
  (if(ah (i=(-1)))then
  aa a.2
  else
  agu (agu (if(ah (0<(a.2.length:Int)))then
  agu (idx c a.1) λj=>
  agu (idx b j) λk=>
  agu (idx a.2 0) λl=>
  agu (idx b l) λm=>
  aa (ah (m<k))
  else
  aa ag) λn=>
  (if n then
  aa ([]:List Int)
  else
  aa a.2):Option (List Int)) λd=>
  agu (if(ah ((d.length:Int)=0))then
  aa af
  else
  agu (idx c a.1) λo=>
  agu (idx b o) λp=>
  agu (idx d 0) λq=>
  agu (idx b q) λr=>
  aa (ah (p=r))) λs=>
  (if s then
  agu (idx c a.1) λt=>
  agu (cm d ([t]:List Int)) λu=>
  aa u
  else
  aa d)):Option (List Int)) λv=>
  aa (.inl (agw.wrap (a.1+1),v))
  else
  aa (.inr a.2))) B (0,([]:List Int))
def M.dB(B:Nat):Nat->(List Int)->(List Int)->(List Bool)->Int->Option Int
 |0,_,_,_,_=>ae
 |N+1,d,e,b,a=>
  agu (M.fY B N d e b a) λc=>
  agu (if(ah (c=(-1)))then
  agu (idx b a) λf=>
  aa f
  else
  aa ag) λg=>
  (if g then
  aa a
  else
  aa c)
end
def M.mv(a:List Int)(b:List Int)(c:List Bool)(d:Int):Option Int:=M.fY N N a b c d
def M.kI(a:List Int)(b:List Int)(c:List Bool):Option Int:=
agu (agu (M.mu N a b) λd=>(if(!ah (d=0))then
aa af
else
aa (!ah ((c.length:Int)=(a.length:Int)))):Option Bool) λe=>(if e then
aa (-1)
else
agu (M.mv N a b c (-1)) λf=>aa f)
def M.po(N:Nat)(a:Int):Option Int:=
(if(ah (a<0))then
aa 0
else(if(ah (8<a))then
aa 8
else
aa a))
def M.qY(b:Int):Option Int:=
Loop (S:=Int×Int) (X:=Int) (λa=>(if(ah (a.2<b))then
aa (.inl (agw.wrap (a.1*2),agw.wrap (a.2+1)))
else
aa (.inr a.1))) N (1,0)
def M.nl(b:List Int)(d:Int):Option (List Bool):=
agu (M.qY N d) λe=>agu (oM e ag) λf=>Loop (S:=Int×List Bool) (X:=List Bool) (λa=>(if(ah (a.1<(b.length:Int)))then
agu (agu (agu (idx b a.1) λg=>(if(ah (0<=g))then
agu (idx b a.1) λh=>aa (ah (h<(a.2.length:Int)))
else
aa ag):Option Bool) λi=>(if i then
agu (idx b a.1) λc=>agu (idx a.2 c) λk=>aa (bm a.2 c af)
else
aa a.2):Option (List Bool)) λj=>aa (.inl (agw.wrap (a.1+1),j))
else
aa (.inr a.2))) N (0,f)
def M.qZ(b:Int):Option Int:=
Loop (S:=Int×Int) (X:=Int) (λa=>(if(ah (0<a.1))then
aa (.inl (agw.wrap (agN a.1 2),agw.wrap (a.2+(aha a.1 2))))
else
aa (.inr a.2))) N (b,0)
def M.jv(N:Nat)(a:ay.den)(b:Int):Option Bool:=
aa (ah ((aG .and .i64 b a.1)=a.2))
def M.pq(c:ay.den)(b:List Bool)(d:List Bool):Option Bool:=
Loop (S:=Int) (X:=Bool) (λa=>(if(ah (a<(b.length:Int)))then
agu (agu (M.jv N c a) λe=>(if e then
agu (idx b a) λf=>(if f then
agu (idx d a) λg=>aa (!g)
else
aa ag)
else
aa ag):Option Bool) λh=>(if h then
aa (.inr af)
else
aa (.inl (agw.wrap (a+1))))
else
aa (.inr ag))) N 0
def M.jF(c:ay.den)(b:List Bool):Option Bool:=
Loop (S:=Int) (X:=Bool) (λa=>(if(ah (a<(b.length:Int)))then
agu (agu (M.jv N c a) λd=>(if d then
agu (idx b a) λe=>aa (!e)
else
aa ag):Option Bool) λf=>(if f then
aa (.inr ag)
else
aa (.inl (agw.wrap (a+1))))
else
aa (.inr af))) N 0
end
end
section
noncomputable section
open Tk
variable (N:Nat)
set_option maxRecDepth 100000
set_option linter.unusedVariables false
def M.pt(b:ay.den)(c:List Bool):Option Bool:=
agu (M.jF N b c) λd=>(if(!d)then
aa ag
else
Loop (S:=Int) (X:=Bool) (λa=>(if(ah (a<(c.length:Int)))then
agu (if(!ah ((aG .and .i64 b.1 a)=0))then
agu (M.jF N (aG .andNot .i64 b.1 a,aG .andNot .i64 b.2 a) c) λe=>aa e
else
aa ag) λf=>(if f then
aa (.inr ag)
else
aa (.inl (agw.wrap (a*2))))
else
aa (.inr af))) N 1)
def M.mw(l:List Int)(m:Int):Option (List ay.den):=
agu (M.po N m) λf=>agu (M.nl N l f) λe=>agu (oM (e.length:Int) ag) λn=>Loop (S:=Int×(List Bool)×List ay.den) (X:=List ay.den) (λd=>(if(ah (d.1<=f))then
agu (Loop (S:=Int×(List Bool)×List ay.den) (X:=(List Bool)×List ay.den) (λa=>(if(ah (a.1<(e.length:Int)))then
agu (agu (agu (M.qZ N a.1) λo=>(if(!ah (o=d.1))then
aa (a.2.1,a.2.2)
else
Loop (S:=Int×(List Bool)×List ay.den) (X:=(List Bool)×List ay.den) (λb=>(if(ah (b.1<=a.1))then
agu (agu (agu (if(!ah ((aG .and .i64 b.1 a.1)=b.1))then
aa af
else
agu (M.pq N (a.1,b.1) e b.2.1) λp=>(if(!p)then
aa af
else
agu (M.pt N (a.1,b.1) e) λq=>aa (!q))) λr=>(if r then
aa (b.2.1,b.2.2)
else
agu (Loop (S:=Int×List Bool) (X:=List Bool) (λc=>(if(ah (c.1<(e.length:Int)))then
agu (agu (idx c.2 c.1) λs=>(if s then
agu (idx c.2 c.1) λx=>aa (bm c.2 c.1 af)
else
agu (M.jv N (a.1,b.1) c.1) λt=>agu (idx c.2 c.1) λy=>aa (bm c.2 c.1 t)):Option (List Bool)) λu=>aa (.inl (agw.wrap (c.1+1),u))
else
aa (.inr c.2))) N (0,b.2.1):Option (List Bool)) λv=>agu (cm b.2.2 ([(a.1,b.1)]:List ay.den)) λw=>aa (v,w)):Option ((List Bool)×List ay.den)) λg=>aa (g.1,g.2):Option ((List Bool)×List ay.den)) λh=>aa (.inl (agw.wrap (b.1+1),h.1,h.2))
else
aa (.inr (b.2.1,b.2.2)))) N (0,a.2.1,a.2.2)):Option ((List Bool)×List ay.den)) λi=>aa (i.1,i.2):Option ((List Bool)×List ay.den)) λj=>aa (.inl (agw.wrap (a.1+1),j.1,j.2))
else
aa (.inr (a.2.1,a.2.2)))) N (0,d.2.1,d.2.2):Option ((List Bool)×List ay.den)) λk=>aa (.inl (agw.wrap (d.1+1),k.1,k.2))
else
aa (.inr d.2.2))) N (0,n,([]:List ay.den))
def M.k9(u:dv.den)(v:Int)(p:Int)(w:Int):Option (Int×(List (List ay.den))×(List Int)×List aK.den):=
agu (idx u.2.2 v) λi=>agu (M.ou N i p w) λd=>agu (Loop (S:=Int×Int×(List (List ay.den))×List Int) (X:=Int×(List (List ay.den))×List Int) (λb=>(if(ah (b.1<(d.1.length:Int)))then
agu (agu (idx d.1 b.1) λx=>agu (idx i.2.2.2.2 x) λm=>agu (if(ah (0<(m.2.2.2.2.2.1.length:Int)))then
agu (M.ov N b.2.2.1 m.2.2.2.2.2.1) λy=>aa (ah (y<0))
else
aa ag) λz=>(if z then
agu (cm ([]:List ay.den) m.2.2.2.2.2.1) λA=>agu (cm b.2.2.1 ([A]:List (List ay.den))) λC=>agu (idx d.1 b.1) λD=>agu (cm b.2.2.2 ([D]:List Int)) λF=>aa (b.2.1,C,F)
else
aa (b.2.1,b.2.2.1,b.2.2.2)):Option (Int×(List (List ay.den))×List Int)) λn=>aa (.inl (agw.wrap (b.1+1),n.1,n.2.1,n.2.2))
else
aa (.inr (b.2.1,b.2.2.1,b.2.2.2)))) N (0,p,([]:List (List ay.den)),([]:List Int)):Option (Int×(List (List ay.den))×List Int)) λf=>agu (Loop (S:=Int×List Int) (X:=List Int) (λh=>agu (qK .i64 1 (f.2.1.length:Int)) λG=>(if(ah (h.1<G))then
agu (agu (Loop (S:=Int×List Bool) (X:=List Bool) (λg=>(if(ah (g.1<(d.1.length:Int)))then
agu (agu (idx d.1 g.1) λH=>agu (idx i.2.2.2.2 H) λq=>(if(ah ((q.2.2.2.2.2.1.length:Int)=0))then
agu (cm g.2 ([af]:List Bool)) λI=>aa I
else
agu (M.ov N f.2.1 q.2.2.2.2.2.1) λQ=>agu (w8 .i64 h.1 Q) λU=>agu (cm g.2 ([ah ((aG .and .i64 U 1)=1)]:List Bool)) λV=>aa V):Option (List Bool)) λW=>aa (.inl (agw.wrap (g.1+1),W))
else
aa (.inr g.2))) N (0,([]:List Bool)):Option (List Bool)) λY=>agu (M.kI N d.2.1 d.2.2 Y) λo=>agu ((if(ah (0<=o))then
agu (idx d.1 o) λZ=>aa Z
else
aa o):Option Int) λj28=>agu (cm h.2 ([j28]:List Int)) λl30=>aa l30:Option (List Int)) λj17=>aa (.inl (agw.wrap (h.1+1),j17))
else
aa (.inr h.2))) N (0,([]:List Int)):Option (List Int)) λr=>agu (Loop (S:=Int×Int×(List (List ay.den))×(List Int)×List aK.den) (X:=Int×(List (List ay.den))×(List Int)×List aK.den) (λa=>(if(ah (a.1<(i.2.2.2.2.length:Int)))then
agu (agu (agu (Loop (S:=Int×List Int) (X:=List Int) (λe=>(if(ah (e.1<(r.length:Int)))then
agu (agu (idx r e.1) λx38=>(if(ah (x38=a.1))then
agu (cm e.2 ([e.1]:List Int)) λl39=>aa l39
else
aa e.2):Option (List Int)) λj37=>aa (.inl (agw.wrap (e.1+1),j37))
else
aa (.inr e.2))) N (0,([]:List Int)):Option (List Int)) λs=>(if(ah ((s.length:Int)=0))then
aa (a.2.1,a.2.2.1,a.2.2.2.1,a.2.2.2.2)
else
agu (M.mw N s (f.2.1.length:Int)) λt=>Loop (S:=Int×Int×(List (List ay.den))×(List Int)×List aK.den) (X:=Int×(List (List ay.den))×(List Int)×List aK.den) (λc=>(if(ah (c.1<(t.length:Int)))then
agu (idx t c.1) λx42=>agu (cm c.2.2.2.2 ([(x42,a.1)]:List aK.den)) λl43=>aa (.inl (agw.wrap (c.1+1),c.2.1,c.2.2.1,c.2.2.2.1,l43))
else
aa (.inr (c.2.1,c.2.2.1,c.2.2.2.1,c.2.2.2.2)))) N (0,a.2.1,a.2.2.1,a.2.2.2.1,a.2.2.2.2)):Option (Int×(List (List ay.den))×(List Int)×List aK.den)) λj=>aa (j.1,j.2.1,j.2.2.1,j.2.2.2):Option (Int×(List (List ay.den))×(List Int)×List aK.den)) λk=>aa (.inl (agw.wrap (a.1+1),k.1,k.2.1,k.2.2.1,k.2.2.2))
else
aa (.inr (a.2.1,a.2.2.1,a.2.2.2.1,a.2.2.2.2)))) N ((-2),f.1,f.2.1,f.2.2,([]:List aK.den)):Option (Int×(List (List ay.den))×(List Int)×List aK.den)) λl=>aa (l.1,l.2.1,l.2.2.1,l.2.2.2)
def M.lC(b:List aA.den)(c:List aA.den):Option Bool:=
(if(!ah ((b.length:Int)=(c.length:Int)))then
aa ag
else
Loop (S:=Int) (X:=Bool) (λa=>agu (if(ah (a<(b.length:Int)))then
aa (ah (a<(c.length:Int)))
else
aa ag) λd=>(if d then
agu (idx b a) λe=>agu (idx c a) λf=>(if(!(lH aA e f))then
aa (.inr ag)
else
aa (.inl (agw.wrap (a+1))))
else
aa (.inr af))) N 0)
def W37:Fo 37 (.i1 [.l (.slice aA), .l (.slice aA)]) (.i1 [.l .bool]) (u2 (M.lC N)):=fz N [] [O,O,T,O,T,L 5 112,T,B 20 112] Tryz.func37
def M.ic(a:aE.den)(b:aE.den):Option Bool:=
agu (agu (M.lC N a.1 b.1) λc=>(if c then
agu (M.me N a.2 b.2) λd=>aa d
else
aa ag):Option Bool) λe=>aa e
def W68:Fo 68 (.i1 [.g aE, .g aE]) (.i1 [.l .bool]) (u2 (M.ic N)):=fz N [Zd N,W37 N] [O,B 4 48] Tryz.func68
def M.gw(b:List aE.den)(c:List aE.den):Option Bool:=
(if(!ah ((b.length:Int)=(c.length:Int)))then
aa ag
else
Loop (S:=Int) (X:=Bool) (λa=>agu (if(ah (a<(b.length:Int)))then
aa (ah (a<(c.length:Int)))
else
aa ag) λd=>(if d then
agu (idx b a) λe=>agu (idx c a) λf=>agu (M.ic N e f) λg=>(if(!g)then
aa (.inr ag)
else
aa (.inl (agw.wrap (a+1))))
else
aa (.inr af))) N 0)
def W38:Fo 38 (.i1 [.l (.slice aE), .l (.slice aE)]) (.i1 [.l .bool]) (u2 (M.gw N)):=fz N [W68 N] [O,O,T,O,T,L 5 112,T,B 20 112] Tryz.func38
def M.jY(a:qc.den)(b:qc.den):Option Bool:=
agu (agu (M.lC N a.1 b.1) λc=>(if c then
agu (M.me N a.2.1 b.2.1) λd=>(if d then
agu (M.gw N a.2.2 b.2.2) λe=>aa e
else
aa ag)
else
aa ag):Option Bool) λf=>aa f
def W17:Fo 17 (.i1 [.g qc, .g qc]) (.i1 [.l .bool]) (u2 (M.jY N)):=fz N [Zd N,W37 N,W38 N] [O,B 4 48] Tryz.func17
def M.gx(c:dv.den)(d:Int)(g:fi.den):Option Bool:=
agu (agu (M.lq N c) λk=>(if(!k)then
aa af
else
agu (M.kF N g) λl=>aa (!l)):Option Bool) λm=>(if m then
agu (M.iP N) λn=>aa n
else
agu (M.ct N c d g) λa=>(if(!ah (a.1.1=0))then
agu (agu (M.jY N (a.2.1,(a.2.2.1,a.2.2.2)) (([]:List aA.den),(([]:List Int),([]:List aE.den)))) λo=>(if o then
agu (M.iP N) λp=>aa p
else
aa ag):Option Bool) λq=>aa q
else
agu (if(ah (d<0))then
aa af
else
aa (ah ((c.2.2.length:Int)<=d))) λr=>(if r then
aa ag
else
agu (Loop (S:=Int×List (List aA.den)) (X:=List (List aA.den)) (λe=>(if(ah (e.1<(a.2.2.2.length:Int)))then
agu (idx a.2.2.2 e.1) λs=>agu (cm e.2 ([s.1]:List (List aA.den))) λt=>aa (.inl (agw.wrap (e.1+1),t))
else
aa (.inr e.2))) N (0,([]:List (List aA.den))):Option (List (List aA.den))) λu=>agu (M.qd N c d g u) λf=>agu (agu (idx c.2.2 d) λv=>(if(!ah ((a.2.2.1.length:Int)=(v.2.2.2.1.length:Int)))then
aa af
else
aa (!ah ((a.2.1.length:Int)=(a.2.2.1.length:Int)))):Option Bool) λw=>(if w then
aa ag
else
cd (J:=Unit) (R:=Bool) (Loop (S:=Int) (X:=Unit⊕Bool) (λh=>(if(ah (h<(a.2.2.1.length:Int)))then
agu (M.eX N c d h g.1) λb=>agu (M.bS N (b.1,(b.2.2.1,(b.2.2.2.1,b.2.2.2.2))) (f.1,(f.2.1,(a.2.1,(f.2.2.1,(f.2.2.2.2,f.2.2.2.1)))))) λi=>agu (M.dh N (b.1,(b.2.2.1,(b.2.2.2.1,b.2.2.2.2))) i.1) λj=>agu (if(!ah (b.2.1=0))then
aa af
else(if(!ah (i.2.2=0))then
aa af
else(if(!j.2)then
aa af
else
agu (idx a.2.2.1 h) λx=>aa (!ah (j.1=x))))) λy=>(if y then
aa (.inr (.inr ag))
else
aa (.inl (agw.wrap (h+1))))
else
aa (.inr (.inl ())))) N 0) λA=>agu (M.iP N) λz=>aa z))))
def W5:Fo 5 (.i1 [.g dv, .l az, .g fi]) (.i1 [.l .bool]) (u3 (M.gx N)):=fz N [W9 N,Yr N,W13 N,W14 N,W15 N,W17 N,W18 N,W19 N,W20 N] [O,T,B 27 48,O,T,O,T,B 6 272,X,T,B 53 272,O,R ⟨[(9, .val ag (.own 288))],[(288, .own 27 (.slice aA))],[],289⟩,O,T,P ⟨[(9, .val ag (.own 304)),(10, .l az)],[(304, .own 27 (.slice aA))],[],305⟩,X,X,O,O,T,B 97 465,E 465,O,T,L 12 481,O,T,T,O,O,O,B 145 1041] Tryz.func5
end
end
section
theorem bL{n:Int}(h0: -9223372036854775808<=n)(h1:n<=9223372036854775807):agw.wrap n=n:=by
 simp[IntKind.wrap,IntKind.bits,IntKind.signed];omega
theorem aB{α:Type}{l:List α}{k:Nat}(h:k<l.length):idx l (k:Int)=aa l[k]:=by
 grind [idx]
theorem rX{α:Type}{a:α}{l:List α}:idx (a::l) 0=aa a:=rfl
theorem dW{α:Type}{l m:List α}(h:l.length+m.length<=4294967296):cm l m=aa (l++m):=aj h
def tl{S X:Type}{body:S->Option (S⊕X)}(I:S->Prop)(μ:S->Nat)(Q:X->Prop)
 (step:∀s,I s->(∃s',body s=aa (.inl s')/\I s'/\μ s'<μ s)\/∃x,body s=aa (.inr x)/\Q x):
 ∀N s,I s->μ s<N->∃x,Loop body N s=aa x/\Q x
 |0,_,_,h=>absurd h (by omega)
 |N+1,s,hi,aH=>by
  rcases step s hi with⟨s',hb,kW,hm⟩|⟨x,hb,hq⟩
  .obtain⟨x,hx,hq⟩:=tl I μ Q step N s' kW (by omega)
   grind [Loop]
  grind [Loop]
def EL{S X:Type}{body:S->Option (S⊕X)}(st:Nat->S){x:X}(m:Nat)(hs:∀i,i<m->body (st i)=aa (.inl (st (i+1))))(he:body (st m)=aa (.inr x)){N:Nat}(hN:m<N):Loop body N (st 0)=aa x:=by
 have:∀k i N,i+k=m->k<N->Loop body N (st i)=aa x:=by
  intro k
  induction k with
  |zero=>rintro i (_|N) hi hN;all_goals grind [Loop]
  |succ k ih=>
   rintro i (_|N) hi hN
   all_goals grind [Loop]
 grind
def u7{S X:Type}{body:S->Option (S⊕X)}{N:Nat}{s0:S}(st:Nat->S)(m:Nat)(x:X)(h0:s0=st 0)(hs:∀i,i<m->body (st i)=aa (.inl (st (i+1))))(he:body (st m)=aa (.inr x))(hN:m<N):Loop body N s0=aa x:=by
 rw[h0];exact EL st m hs he hN
def aU:Nat:=18446744073709551616
section
variable {α:Type}
theorem lr(n:Nat)(C:Nat->α)(k:Nat)(v:α):((agG n).map C).set k v=(agG n).map (λj=>if j=k then v else C j):=by
 apply List.ext_getElem (by simp)
 grind
theorem kJ(n:Nat)(p:Nat->Bool):(agG (n+1)).filter p=(agG n).filter p++(if p n=af then[n]else[]):=by
 grind [List.range_succ]
end
end
end Go.Proofs.YtfeahmiobbjklaaGreatDoor
section
open _root_.Bool renaming false->ag,true->af,false_eq_true->agK
open _root_.Option renaming none->ae,some->aa,bind_some->agv,some->ah1
open _root_.Go.IntKind renaming i64->agw
open _root_.List renaming replicate->agE,take_append_getElem->agP
namespace Go.Proofs.YtfeahmiobbjklaaGreatDoor
open Go Go.RowKit
def Wp{α:Type}(m:Option α)(Q:α->Prop):Prop:=∃x,m=aa x/\Q x
def Wp.some{α:Type}{x:α}{Q:α->Prop}(h:Q x):Wp (aa x) Q:=⟨x,rfl,h⟩
theorem Wp.of{α:Type}{m:Option α}{x:α}{Q:α->Prop}(e:m=ah1 x)(h:Q x):Wp m Q:=⟨x,e,h⟩
def Wp.eq{α:Type}{m:Option α}{x:α}(h:Wp m (· =x)):m=ah1 x:=by obtain⟨y,e,rfl⟩:=h;exact e
def Wp.mono{α:Type}{m:Option α}{Q Q':α->Prop}(h:Wp m Q)(hq:∀x,Q x->Q' x):Wp m Q':=by obtain⟨x,e,h⟩:=h;exact⟨x,e,hq x h⟩
def Wp.bind{α β:Type}{m:Option α}{k:α->Option β}{Q:β->Prop}(h:Wp m λx=>Wp (k x) Q):Wp (m.bind k) Q:=by
 obtain⟨x,e,h⟩:=h;rw[e];exact h
def Wp.aX{α β:Type}{m:Option α}{k:α->Option β}{Q:β->Prop}{x:α}(e:m=ah1 x)(h:Wp (k x) Q):Wp (m.bind k) Q:=by
 rw[e];exact h
theorem Wp.seq{α β:Type}{m:Option α}{k:α->Option β}{Q:β->Prop}(A:α->Prop)(h:Wp m A)(hk:∀x,A x->Wp (k x) Q):Wp (m.bind k) Q:= .bind (h.mono hk)
def Wp.ite{α:Type}{c:Prop}[Decidable c]{a b:Option α}{Q:α->Prop}(ha:c->Wp a Q)(hb:¬c->Wp b Q):Wp (if c then a else b) Q:=by
 grind
def Wp.dec{α:Type}{c:Prop}[Decidable c]{a b:Option α}{Q:α->Prop}(ha:c->Wp a Q)(hb:¬c->Wp b Q):Wp (if decide c=af then a else b) Q:=by
 grind
def Wp.kK{α:Type}{c:Prop}[Decidable c]{a b:Option α}{Q:α->Prop}(ha:¬c->Wp a Q)(hb:c->Wp b Q):Wp (if(!decide c)=af then a else b) Q:=by
 grind
def rY{J R:Type}(k:J->Option R)(Q:R->Prop):J⊕R->Prop
 | .inl j=>Wp (k j) Q
 | .inr r=>Q r
def Wp.join{J R:Type}{m:Option (J⊕R)}{k:J->Option R}{Q:R->Prop}(h:Wp m (rY k Q)):Wp (cd m k) Q:=by
 obtain⟨x,e,h⟩:=h;unfold cd;rw[e]
 cases x with
 |inl j=>exact h
 |inr r=>exact⟨r,rfl,h⟩
def yu{S X:Type}(I:S->Prop)(μ:S->Nat)(s:S)(Q:X->Prop):S⊕X->Prop
 | .inl s'=>I s'/\μ s'<μ s
 | .inr x=>Q x
def Wp.loop{S X:Type}{body:S->Option (S⊕X)}{N:Nat}{s0:S}{Q:X->Prop}(I:S->Prop)(μ:S->Nat)(h0:I s0)(hN:μ s0<N)(step:∀s,I s->Wp (body s) (yu I μ s Q)):Wp (Loop body N s0) Q:=
 tl I μ Q (λs hs=>by
  obtain⟨x,e,h⟩:=step s hs
  cases x with
  |inl s'=>exact .inl ⟨s',e,h⟩
  |inr x=>exact .inr ⟨x,e,h⟩) N s0 h0 hN
theorem Wp.idx{α:Type}{l:List α}{i:Int}{Q:α->Prop}(k:Nat)(hi:i=k)(hk:k<l.length)(h:Q l[k]):Wp (idx l i) Q:=by
 subst hi;exact⟨_,aB hk,h⟩
theorem Wp.tW{α:Type}{l m:List α}{Q:List α->Prop}(hl:l.length+m.length<=4294967296)(h:Q (l++m)):Wp (cm l m) Q:=⟨_,dW hl,h⟩
def zT{α:Type}{l:List α}{i j:Int}(a b:Nat)(hi:i=a)(hj:j=b)(h:a<=b)(hb:b<=l.length):ga l i j=ah1 ((l.take b).drop a):=by
 grind [ga]
def qe{α:Type}{l:List α}{b:Nat}(hb:b<=l.length):ga l 0 (b:Int)=ah1 (l.take b):=by
 have:=zT (l:=l) 0 b rfl rfl (Nat.zero_le _) hb
 grind
def aP{k:Nat}(h:k<9223372036854775807):agw.wrap ((k:Int)+1)=((k+1:Nat):Int):=by rw[bL]<;>omega
def we{k:Nat}(h:k<=9223372036854775807):agw.wrap (k:Int)=(k:Int):=by rw[bL]<;>omega
end Go.Proofs.YtfeahmiobbjklaaGreatDoor
namespace Go.Proofs.YtfeahmiobbjklaaGreatDoor
open Go Go.RowKit
section
variable {α β:Type}
theorem jG{x:α}{Q:α->Prop}:Wp (aa x) Q↔Q x:=⟨λ⟨y,e,h⟩=>by grind,λh=>⟨x,rfl,h⟩⟩
theorem rZ{Q:α->Prop}:Wp (ae:Option α) Q↔False:=⟨λ⟨y,e,h⟩=>(by cases e),False.elim⟩
def wp_bind{m:Option α}{k:α->Option β}{Q:β->Prop}:Wp (m.bind k) Q↔Wp m λx=>Wp (k x) Q:=by
 cases m with
 |none=>simp only[Option.bind_none,rZ]
 |some x=>simp only[agv,jG]
def K4{c:Prop}[Decidable c]{a b:Option α}{Q:α->Prop}:Wp (if c then a else b) Q↔(c->Wp a Q)/\(¬c->Wp b Q):=by
 grind
def K5{c:Prop}[Decidable c]{a b:Option α}{Q:α->Prop}:Wp (if decide c=af then a else b) Q↔(c->Wp a Q)/\(¬c->Wp b Q):=by
 grind
def Gi{c:Prop}[Decidable c]{a b:Option α}{Q:α->Prop}:Wp (if(!decide c)=af then a else b) Q↔(¬c->Wp a Q)/\(c->Wp b Q):=by
 grind
def K6{c:Bool}{a b:Option α}{Q:α->Prop}:Wp (if(!c)=af then a else b) Q↔(c=ag->Wp a Q)/\(c=af->Wp b Q):=by
 grind
def wp_map{m:Option α}{f:α->β}{Q:β->Prop}:Wp (m.map f) Q↔Wp m λx=>Q (f x):=by
 cases m with
 |none=>simp only[Option.map_none,rZ]
 |some x=>simp only[Option.map_some,jG]
def Gj{J R:Type}{m:Option (J⊕R)}{k:J->Option R}{Q:R->Prop}:Wp (cd m k) Q↔Wp m (rY k Q):=by
 cases m with
 |none=>exact⟨λ⟨_,e,_⟩=>(by cases e),λ⟨_,e,_⟩=>(by cases e)⟩
 |some s=>cases s with
  |inl j=>rw[jG];exact Iff.rfl
  |inr r=>exact(jG (x:=r)).trans (jG (x:=Sum.inr r) (Q:=rY k Q)).symm
def yv{J R:Type}{k:J->Option R}{Q:R->Prop}{j:J}:rY k Q (.inl j)=Wp (k j) Q:=rfl
def yw{J R:Type}{k:J->Option R}{Q:R->Prop}{r:R}:rY k Q (.inr r)=Q r:=rfl
theorem fj{l:List α}{i:Int}{Q:α->Prop}:Wp (idx l i) Q↔∃h:0<=i/\i<(l.length:Int),Q (l[i.toNat]'(by omega)):=by
 by_cases h:0<=i/\i<(l.length:Int)
 .grind [idx,jG]
 .refine⟨λ⟨y,e,_⟩=>?_,λg=>absurd g.1 h⟩
  grind [gB]
def r3{s:ByteArray}{i:Int}{Q:Int->Prop}:Wp (kS s i) Q↔∃h:0<=i/\i<(s.size:Int),Q ((s[i.toNat]'(by omega)).toNat:Int):=by
 unfold kS;rw[wp_map];by_cases h:0<=i/\i<(s.size:Int)
 .grind [jG]
 .refine⟨λ⟨y,e,_⟩=>?_,λg=>absurd g.1 h⟩
  grind
theorem pu{l m:List α}{Q:List α->Prop}:Wp (cm l m) Q↔l.length+m.length<=4294967296/\Q (l++m):=by
 grind [cm,jG,rZ]
def wp_cut{l:List α}{i j:Int}{Q:List α->Prop}:Wp (ga l i j) Q↔(0<=i/\i<=j/\j<=l.length)/\Q ((l.take j.toNat).drop i.toNat):=by
 grind [ga,jG,rZ]
def my{m:Int}{z:α}{Q:List α->Prop}:Wp (oM m z) Q↔(0<=m/\m<=4294967296)/\Q (agE m.toNat z):=by
 grind [oM,jG,rZ]
def Pf{m:Option α}{x:α}:Wp m (· =x)↔m=aa x:=⟨λ⟨_,e,h⟩=>h▸e,λe=>⟨x,e,rfl⟩⟩
def Wp.getD{m:Option α}{Q:α->Prop}(h:Wp m Q)(d:α):m=ah1 (m.getD d)/\Q (m.getD d):=by
 obtain⟨x,e,h⟩:=h
 grind
end
def EM{S X:Type}(wg:S->Int)(m k:Nat)(J:Nat->S->Prop)(Q:X->Prop):S⊕X->Prop
 | .inl s=>k<m/\wg s=((k+1:Nat):Int)/\J (k+1) s
 | .inr x=>Q x
def bo{S X:Type}{wg:S->Int}{m k:Nat}{J:Nat->S->Prop}{Q:X->Prop}{s:S}:EM wg m k J Q (.inl s)=(k<m/\wg s=((k+1:Nat):Int)/\J (k+1) s):=rfl
def bc{S X:Type}{wg:S->Int}{m k:Nat}{J:Nat->S->Prop}{Q:X->Prop}{x:X}:EM wg m k J Q (.inr x)=Q x:=rfl
def Wp.count{S X:Type}{body:S->Option (S⊕X)}{s0:S}{Q:X->Prop}(wg:S->Int)(m:Nat)(J:Nat->S->Prop)(hm:m<=9223372036854775807)(h0:wg s0=0)(hJ:J 0 s0)
 (step:∀k s,k<=m->wg s=(k:Int)->J k s->Wp (body s) (EM wg m k J Q)):Wp (Loop body aU s0) Q:=by
 refine Wp.loop (λs=>∃k:Nat,wg s=k/\k<=m/\J k s) (λs=>m-(wg s).toNat) ⟨0,h0,Nat.zero_le _,hJ⟩ (by unfold aU;omega) λs hs=>?_
 obtain⟨k,hi,hk,hj⟩:=hs
 refine(step k s hk hi hj).mono λr hr=>?_
 cases r with
 |inl s'=>
  obtain⟨h1,h2,h3⟩:=hr;exact⟨⟨k+1,h2,h1,h3⟩,by grind⟩
 |inr x=>exact hr
def cy{k:Nat}{m:Nat}(hm:m<=9223372036854775807)(h:k<m):agw.wrap ((k:Int)+1)=((k+1:Nat):Int):=aP (by omega)
def ox{k m:Nat}(h:k<m):decide ((k:Int)<(m:Int))=af:=an (by omega)
def EN{k m:Nat}(h:k<m):((k:Int)<(m:Int))=True:=eq_true (by omega)
def wh{m:Nat}:((m:Int)<(m:Int))=False:=eq_false (by omega)
def db{α:Type}(f:Nat->Option α):Nat->Option α
 |0=>ae
 |m+1=>(db f m).or (f m)
theorem cg{α:Type}{f:Nat->Option α}:∀{m:Nat},db f m=ae↔∀k,k<m->f k=ae
 |0=>by simp[db]
 |m+1=>by
  rw[db,Option.or_eq_none_iff,cg]
  grind
theorem gk{α:Type}{f:Nat->Option α}{x:α}:∀{m:Nat},db f m=aa x->∃k,k<m/\f k=aa x/\∀j,j<k->f j=ae
 |0,h=>by cases h
 |m+1,h=>by
  rw[db]at h
  cases e:db f m with
  |none=>grind [cg]
  |some y=>
   rw[e]at h;cases h;obtain⟨k,hk,h1,h2⟩:=gk e
   grind
theorem fZ{α:Type}{f:Nat->Option α}{x:α}{k:Nat}(hx:f k=aa x)(hn:∀j,j<k->f j=ae):∀{m:Nat},k<m->db f m=aa x
 |0,h=>by omega
 |m+1,h=>by
  rw[db]
  rcases Nat.lt_succ_iff_lt_or_eq.1 h with h1|rfl
  .rw[fZ hx hn h1];rfl
  .rw[cg.2 hn];exact hx
def Pg{S X C:Type}(wg:S->Int)(acc:S->C)(k:Nat)(c:C)(I:Nat->C->Prop):S⊕X->Prop
 | .inl s=>wg s=((k+1:Nat):Int)/\acc s=c/\I (k+1) c
 | .inr _=>False
def Ph{S X:Type}(Q:X->Prop):S⊕X->Prop
 | .inl _=>False
 | .inr x=>Q x
def Io{S X C:Type}{wg:S->Int}{acc:S->C}{k:Nat}{c:C}{I:Nat->C->Prop}{s:S}:Pg (X:=X) wg acc k c I (.inl s)=(wg s=((k+1:Nat):Int)/\acc s=c/\I (k+1) c):=rfl
def Ip{S X:Type}{Q:X->Prop}{x:X}:Ph (S:=S) Q (.inr x)=Q x:=rfl
def Wp.fold{S X C α:Type}{body:S->Option (S⊕X)}{s0:S}{Q:X->Prop}(wg:S->Int)(acc:S->C)(l:List α)(F:C->α->C)(c0:C)(I:Nat->C->Prop)(hm:l.length<=9223372036854775807)(h0:wg s0=0)(hc:acc s0=c0)(hI:I 0 c0)
 (step:∀k s(h:k<l.length),wg s=(k:Int)->I k (acc s)->Wp (body s) (Pg wg acc k (F (acc s) l[k]) I))
 (fin:∀s,wg s=(l.length:Int)->acc s=l.foldl F c0->I l.length (acc s)->Wp (body s) (Ph Q)):Wp (Loop body aU s0) Q:=by
 refine Wp.count wg l.length (λk s=>acc s=(l.take k).foldl F c0/\I k (acc s)) hm h0 ⟨by rw[hc];rfl,hc▸hI⟩ λk s hk hs hJ=>?_
 rcases Nat.lt_or_ge k l.length with aH|hge
 .refine(step k s aH hs hJ.2).mono λr hr=>?_
  cases r with
  |inl s'=>
   obtain⟨h1,h2,h3⟩:=hr;refine⟨aH,h1,?_,h2▸h3⟩
   grind [agP]
  |inr x=>exact hr.elim
 .obtain rfl:k=l.length:=by omega
  rw[List.take_length]at hJ
  refine(fin s hs hJ.1 hJ.2).mono λr hr=>?_
  cases r with
  |inl s'=>exact hr.elim
  |inr x=>exact hr
def W_:type_of% @Classical.not_not/\type_of% @jG/\type_of% @wp_bind/\type_of% @K5/\type_of% @Gi/\type_of% @K6/\type_of% @K4/\type_of% @Gj/\type_of% @yv/\type_of% @yw/\type_of% @if_true.{1}/\type_of% @if_false.{1}/\type_of% @ite_true.{1}/\type_of% @ite_false.{1}/\type_of% @agK/\type_of% @Bool.true_eq_false/\type_of% @decide_true/\type_of% @decide_false/\type_of% @decide_eq_decide/\type_of% @true_eq_decide_iff/\type_of% @false_eq_decide_iff/\type_of% @aw/\type_of% @decide_eq_false_iff_not/\type_of% @true_implies/\type_of% @false_implies/\type_of% @and_true/\type_of% @true_and/\type_of% @and_false/\type_of% @false_and/\type_of% @or_true/\type_of% @true_or/\type_of% @or_false/\type_of% @false_or/\type_of% @not_true_eq_false/\type_of% @not_false_eq_true/\type_of% @Bool.not_true/\type_of% @Bool.not_false/\type_of% @Bool.not_eq_true/\type_of% @Bool.not_eq_false/\type_of% @Bool.not_eq_eq_eq_not:=
 ⟨@Classical.not_not,@jG,@wp_bind,@K5,@Gi,@K6,@K4,@Gj,@yv,@yw,@if_true.{1},@if_false.{1},@ite_true.{1},@ite_false.{1},@agK,@Bool.true_eq_false,@decide_true,@decide_false,@decide_eq_decide,@true_eq_decide_iff,@false_eq_decide_iff,@aw,@decide_eq_false_iff_not,@true_implies,@false_implies,@and_true,@true_and,@and_false,@false_and,@or_true,@true_or,@or_false,@false_or,@not_true_eq_false,@not_false_eq_true,@Bool.not_true,@Bool.not_false,@Bool.not_eq_true,@Bool.not_eq_false,@Bool.not_eq_eq_eq_not⟩
end Go.Proofs.YtfeahmiobbjklaaGreatDoor
end
namespace Go.Proofs.YtfeahmiobbjklaaGreatDoor
open Go Go.RowKit
set_option maxRecDepth 100000
set_option linter.unusedSimpArgs false
set_option linter.unusedVariables false
set_option linter.defProp false
namespace L
abbrev Ty:Type:=ay.den
abbrev eD(l:List Nat):List Int:=l.map (λn:Nat=>(n:Int))
def ar(op:Int):Int:=
 if(1<=op/\op<=9)\/(35<=op/\op<=39)then 0 else if op=10\/op=25\/(31<=op/\op<=34)then 1 else if(11<=op/\op<=24)\/(27<=op/\op<=30)then 2 else if op=26 then 3 else-1
def qC(op:Int):ar op<=3:=by unfold ar;omega
def u9(a:Int)(i:Nat)(sk:List Nat):Nat:=if a=0 then i else sk.getD (sk.length-a.toNat) 0
def jQ:List Ty->Nat->List Nat->List Nat->(Nat×Int)⊕(List Nat×List Nat)
 |[],_,st,sk=> .inr (st,sk)
 |n::e,i,st,sk=>
  if ar n.1<0 then .inl (i,2)else if(sk.length:Int)<ar n.1 then .inl (i,5)else
  if 12<sk.length-(ar n.1).toNat+1 then .inl (i,16)else jQ e (i+1) (st++[u9 (ar n.1) i sk]) (sk.take (sk.length-(ar n.1).toNat)++[u9 (ar n.1) i sk])
def qt(e:List Ty):Int×Int×List Int:=
 if 48<e.length then(0,4,[])else if e.length=0 then(0,5,[])else match jQ e 0 [] []with
  | .inl (i,c)=>(i,c,[])
  | .inr (st,sk)=>if 1<sk.length then(e.length,4,[])else(0,0,eD st)
def mT(t:Ty)(n:Nat):Prop:=(1<=(t.1:Int)/\(t.1:Int)<=5/\(t.2:Int)=0)\/((t.1:Int)=6/\0<=(t.2:Int)/\(t.2:Int)<n)
instance(t:Ty)(n:Nat):Decidable (mT t n):=by unfold mT;infer_instance
def VR(r:Ty):Prop:=0<=(r.1:Int)/\(r.1:Int)<=r.2/\(r.2:Int)<=109573
instance(r:Ty):Decidable (VR r):=by unfold VR;infer_instance
def Ji(a b:Ty):lH ay a b=decide (a=b):=by
 grind [lH]
end L
section
namespace L
abbrev En:Type:=dD.den
abbrev Q9:Type:=bn.den
abbrev Rw:Type:=jr.den
abbrev Fd:Type:=bB.den
abbrev Lw:Type:=dv.den
abbrev ie:Type:=br.den
abbrev ig:Type:=cX.den
def Cc(c:Int):M.mS aU c=aa (decide (97<=c/\c<=122)):=by
 apply Wp.eq;unfold M.mS;simp only[W_,aq,au,reduceCtorEq];omega
def K7(c:Int):M.pj aU c=aa (decide (48<=c/\c<=57)):=by
 apply Wp.eq;unfold M.pj;simp only[W_,aq,au,reduceCtorEq];omega
def NN(c:Int):M.qW aU c=aa (decide ((97<=c/\c<=122)\/(48<=c/\c<=57)\/c=95)):=by
 apply Wp.eq;unfold M.qW;simp only[Cc,K7,W_,aq,au,reduceCtorEq];omega
noncomputable def np(s:ByteArray):Bool:=(M.jP aU s).getD ag
def iQ{β:Type}(l:List (ByteArray×β))(nm:ByteArray):Prop:=∃x∈l,x.1=nm
noncomputable instance{β:Type}(l:List (ByteArray×β))(nm:ByteArray):Decidable (iQ l nm):=ag1 _
noncomputable instance(m:ByteArray)(l:List ByteArray):Decidable (m∈l):=ag1 _
def eZ{p:Nat->Prop}{k:Nat}(h:∀j,j<k->p j)(hk:p k):∀j,j<k+1->p j:=(by grind)
open Classical in
def bT(t:Ty)(E:List En):M.fu aU t E=aa (decide (mT t E.length)):=by
 obtain⟨(k:Int),(e:Int)⟩:=t;apply Wp.eq;unfold M.fu;simp only[W_,aq,au,reduceCtorEq];simp only[mT];grind
def Um(r:Ty):M.ph aU r=aa (decide (VR r)):=by
 obtain⟨(k:Int),(e:Int)⟩:=r;apply Wp.eq;unfold M.ph;simp only[W_,aq,au,reduceCtorEq];simp only[VR];grind
def HR(t:Ty)(E:List En):Int×Int:=
 if¬mT t E.length then(0,-1)else if(t.1:Int)=1 then(0,1)else if(t.1:Int)=2 then(-1000000000000,1000000000000)else if(t.1:Int)=3 then(-1000000000000000,1000000000000000)else if(t.1:Int)=4 then(-1000000000,1000000000)else if(t.1:Int)=5 then(0,109572)
 else(0,agw.wrap ((((E[(t.2:Int).toNat]?).map λe=>(e.2.length:Int)).getD 0)-1))
def Ra(t:Ty)(E:List En):M.oo aU t E=aa (HR t E):=by
 obtain⟨(k:Int),(e:Int)⟩:=t;apply Wp.eq;unfold M.oo HR;simp only[bT,W_,aq,au,reduceCtorEq];by_cases hv:mT (k,e) E.length
 .simp only[hv,not_true_eq_false,if_false,false_implies,true_implies,true_and];refine⟨λh=>by rw[aj h],λh1=>⟨λh=>by rw[ai h1,aj h],λh2=>⟨λh=>by rw[ai h1,ai h2,aj h],λh3=>⟨λh=>by rw[ai h1,ai h2,ai h3,aj h],λh4=>⟨(by grind),λh5=>?_⟩⟩⟩⟩⟩;simp only[mT]at hv;dsimp only[az,Row.den]at*
  have hi:e.toNat<E.length:=by omega
  refine fj.2 ⟨by omega,?_⟩
  grind
 grind
def Dm(n:Int)(t:Ty)(E:List En):Prop:=(HR t E).1<=n/\n<=(HR t E).2
instance(n:Int)(t:Ty)(E:List En):Decidable (Dm n t E):=by unfold Dm;infer_instance
def wi(x:Rw)(t:Q9)(E:List En):Prop:=¬VR x.1\/(x.1.1:Int)=x.1.2\/(x.2.2.1:Int)<=x.2.1\/¬Dm x.2.1 t.2.1 E\/¬Dm (agw.wrap ((x.2.2.1:Int)-1)) t.2.1 E\/¬Dm x.2.2.2 t.2.2.1 E
instance(x:Rw)(t:Q9)(E:List En):Decidable (wi x t E):=by unfold wi;infer_instance
def tX(a b:Rw):Prop:=VR a.1/\VR b.1/\((a.1.1:Int)<a.1.2/\(a.1.1:Int)<b.1.2/\(b.1.1:Int)<a.1.2/\(b.1.1:Int)<b.1.2)/\(a.2.1:Int)<a.2.2.1/\(a.2.1:Int)<b.2.2.1/\(b.2.1:Int)<a.2.2.1/\(b.2.1:Int)<b.2.2.1
instance(a b:Rw):Decidable (tX a b):=by simp only[tX];dsimp only[az,Row.den]at*;infer_instance
open Classical in
noncomputable def zU(t:Q9)(E:List En)(k:Nat):Option (Int×Int):=match t.2.2.2[k]? with
 |none=>ae
 |some x=>if wi x t E then aa ((k:Int),3)else if∃y∈t.2.2.2.take k,tX y x then aa ((k:Int),11)else ae
noncomputable def qv(t:Q9)(E:List En):Int×Int:=
 if 64<t.2.2.2.length then(64,4)else if¬(mT t.2.1 E.length/\mT t.2.2.1 E.length)then(-1,8)else(db (zU t E) t.2.2.2.length).getD (0,0)
end L
end
namespace L
abbrev sA:Type:=bJ.den
theorem aM(op:Int):M.ni aU op=aa (decide ((1<=op/\op<=8)\/(14<=op/\op<=16)\/op=33\/op=34\/(36<=op/\op<=39))):=by
 apply Wp.eq;unfold M.ni;simp only[W_,aq,au,reduceCtorEq];omega
def aN(k:Int):M.kG aU k=aa (decide (k=2\/k=3\/k=4)):=by
 apply Wp.eq;unfold M.kG;simp only[W_,aq,au,reduceCtorEq];omega
def aL(k:Int):M.gK aU k=aa (decide (k=2\/k=3\/k=4\/k=5)):=by
 apply Wp.eq;unfold M.gK;simp only[aN,W_,aq,au,reduceCtorEq];omega
def bg(k:Int):M.da aU k=aa ((k,(0:Int)):Ty):=rfl
def Cf(op m:Int)(s:sA):Prop:=(1<=op/\op<=5->Dm m (op,(0:Int)) s.1)/\(14<=op/\op<=16->0<=m/\m<=5)/\(op=34->0<=m/\aha m 8<=5)/\(op=6->0<=m)
instance(op m:Int)(s:sA):Decidable (Cf op m s):=by unfold Cf;infer_instance
def wj(n:Ty)(s:sA):M.l4 aU n s=aa (decide (Cf n.1 n.2 s)):=by
 obtain⟨(op:Int),(m:Int)⟩:=n;apply Wp.eq;unfold M.l4;simp only[bg,Ra,W_,aq,au,reduceCtorEq];unfold Cf Dm;dsimp only[az,Row.den]at*;omega
def NO(op m:Int)(s:sA):Prop:=
 (op=6->agw.wrap (agN m 16)<(s.1.length:Int)/\aha m 16<(((s.1[(agw.wrap (agN m 16)).toNat]?).map λe=>(e.2.length:Int)).getD 0))/\
 (op=7->0<=m/\m<(s.2.2.1.length:Int))/\(op=8->0<=m/\m<(s.2.2.2.1.length:Int))/\(op=33->0<=m/\m<(s.2.1.length:Int))/\(op=34->agw.wrap (agN m 8)<(s.2.1.length:Int))/\
 (35<=op/\op<=39->s.2.2.2.2.2=af)/\(36<=op/\op<=39->0<=m/\m<(s.2.2.2.2.1.length:Int))
instance(op m:Int)(s:sA):Decidable (NO op m s):=by unfold NO;infer_instance
theorem Gk{m k:Int}(h0:0<=m)(h1:m<=9223372036854775807)(hk:0<k):0<=agw.wrap (agN m k):=by
 have h2:0<=agN m k:=Int.tdiv_nonneg h0 (by omega)
 have h3:agN m k<=m:=by rw[Int.tdiv_eq_ediv_of_nonneg h0];exact Int.ediv_le_self _ h0
 grind [bL]
def Rb(n:Ty)(s:sA)(hm:(n.2:Int)<=9223372036854775807)(hr:Cf n.1 n.2 s):M.bx aU n s=aa (decide (NO n.1 n.2 s)):=by
 obtain⟨(op:Int),(m:Int)⟩:=n;apply Wp.eq;unfold M.bx;simp only[W_,aq,au,reduceCtorEq];unfold NO;unfold Cf at hr;dsimp only[az,Row.den]at*;refine⟨λh6=>⟨λh=>?_,λh=>?_⟩,λh6=>?_⟩
 .have h0:=Gk (k:=16) (hr.2.2.2 h6) hm (by omega);refine fj.2 ⟨⟨h0,h⟩,?_⟩
  grind
 .grind
 simp only[h6,W_,aq,au,reduceCtorEq]
 cases h5:s.2.2.2.2.2<;>simp only[imp_false,W_,aq,au,reduceCtorEq]<;>omega
def K8{op m:Int}{s:sA}(hf:NO op m s):Wp (M.b8 aU (op,m) s) λ_=>True:=by
 unfold M.b8;simp only[bg,aL,bT,W_,aq,au,reduceCtorEq];unfold NO at hf;dsimp only[az,Row.den]at*
 refine λh6=>⟨λh7=>?_,λh7=>⟨λh8=>?_,λh8=>λh9 h35=>?_⟩⟩
 .exact fj.2 ⟨hf.2.1 h7,trivial⟩
 .grind [fj]
 .by_cases h:36<=op/\op<=39
  .have:Wp (idx s.2.2.2.2.1 m) λ_=>True:=fj.2 ⟨hf.2.2.2.2.2.2 h,trivial⟩
   grind
  grind
def EO{op m:Int}{a:Ty}{s:sA}(hm:m<=9223372036854775807)(h1:ar op=1)(hr:Cf op m s)(hf:NO op m s):Wp (M.c9 aU (op,m) a s) λ_=>True:=by
 have sz:op=10\/op=25\/(31<=op/\op<=34):=by
  clear hr hf;unfold ar at h1;omega
 unfold M.c9;simp only[bg,aN,bT,W_,aq,au,reduceCtorEq];unfold NO at hf;unfold Cf at hr;dsimp only[az,Row.den]at*
 grind [fj,Gk]
def EP(op a b:Int):Wp (M.kH aU op a b) λ_=>True:=by
 unfold M.kH;simp only[bg,W_,aq,au,reduceCtorEq]
def EQ(op:Int)(a b:Ty):Wp (M.gv aU op a b) λ_=>True:=by
 obtain⟨r,e,_⟩:=EP op a.1 b.1;unfold M.gv
 repeat' first|exact Wp.some trivial|exact⟨_,aN _,trivial⟩|exact⟨_,aL _,trivial⟩|exact⟨_,bg _,trivial⟩|exact⟨_,e,trivial⟩|refine Wp.seq (λ_=>True) ?_ λ_ _=>?_|refine Wp.dec (λ_=>?_) λ_=>?_|refine Wp.ite (λ_=>?_) λ_=>?_
noncomputable def K9(n:Ty)(l:List Ty)(s:sA):Ty×Int:=(M.aW aU n l s).getD (((0:Int),(0:Int)),(0:Int))
def La{n:Ty}{l:List Ty}{s:sA}(hw:WF ay n)(hl:(l.length:Int)=ar n.1):M.aW aU n l s=aa (K9 n l s):=by
 refine(Wp.getD (Q:=λ_=>True) ?_ _).1;have hm:(n.2:Int)<=9223372036854775807:=hw.2.2;have h3:=qC n.1
 have key:Wp (M.l4 aU n s) λx=>x=af->Wp (M.bx aU n s) λx=>x=af->((l.length:Int)=0->Wp (M.b8 aU n s) λ_=>True)/\(¬(l.length:Int)=0->((l.length:Int)=1->Wp (idx l 0) λx=>Wp (M.c9 aU n x s) λ_=>True)/\
  (¬(l.length:Int)=1->((l.length:Int)=2->Wp (idx l 0) λx=>Wp (idx l 1) λx_1=>Wp (M.gv aU n.1 x x_1) λ_=>True)/\(¬(l.length:Int)=2->Wp (idx l 1) λ_=>Wp (idx l 0) λx=>(x.1:Int)=1->Wp (idx l 1) λ_=>Wp (idx l 2) λ_=>True))):=by
  rw[wj]
  refine .some λhr=>?_
  have hr:Cf n.1 n.2 s:=al hr;rw[Rb n s hm hr]
  refine .some λhf=>?_
  have hf:NO n.1 n.2 s:=al hf;exact⟨λ_=>K8 hf,λh0=>⟨λh1=>fj.2 ⟨by omega,EO hm (by omega) hr hf⟩,λh1=>⟨λh2=>fj.2 ⟨by omega,fj.2 ⟨by omega,EQ ..⟩⟩,λh2=>fj.2 ⟨by omega,fj.2 ⟨by omega,λ_=>fj.2 ⟨by omega,fj.2 ⟨by omega,trivial⟩⟩⟩⟩⟩⟩⟩
 unfold M.aW;simp only[aM,W_,aq,au,reduceCtorEq]
 grind
noncomputable def qD(s:sA):List Ty->Nat->List Ty->(Nat×Int)⊕List Ty
 |[],_,nS=> .inr nS
 |n::e,i,nS=>
  if(K9 n (nS.drop (nS.length-(ar n.1).toNat)) s).2≠0 then .inl (i,(K9 n (nS.drop (nS.length-(ar n.1).toNat)) s).2)
  else qD s e (i+1) (nS.take (nS.length-(ar n.1).toNat)++[(K9 n (nS.drop (nS.length-(ar n.1).toNat)) s).1])
noncomputable def NP(e:List Ty)(s:sA):Ty×Int×Int:=
 if(qt e).2.1≠0 then(((0:Int),(0:Int)),(qt e).1,(qt e).2.1)else match qD s e 0 []with
  | .inl (i,c)=>(((0:Int),(0:Int)),(i:Int),c)
  | .inr nS=>(nS.headD ((0:Int),(0:Int)),0,0)
def NQ{e:List Ty}(h:(qt e).2.1=0):e.length<=48/\e≠[]/\∃st sk,jQ e 0 [] []= .inr (st,sk):=by
 unfold qt at h;split at h
 .cases h
 split at h
 .cases h
 rename_i h1 h2;refine⟨by omega,λe=>h2 (by rw[e];rfl),?_⟩;split at h
 .rename_i c hc;exfalso
  have:∀(e:List Ty)(i:Nat)(st sk:List Nat)(j:Nat),jQ e i st sk≠ .inl (j,0):=by
   intro e
   induction e with
   |nil=>intro i st sk j h;cases h
   |cons n e ih=>
    grind [jQ]
  grind
 grind
end L
namespace L
def ins(n:Int):List Int->List Int
 |[]=>[n]
 |x::l=>if x<n then x::ins n l else if x=n then x::l else n::x::l
def Lb(n x:Int)(l:List Int):ins n (x::l)=if x<n then x::ins n l else if x=n then x::l else n::x::l:=rfl
theorem mU{n y:Int}:∀{l:List Int},y∈ins n l↔y=n\/y∈l
 |[]=>by simp[ins]
 |x::l=>by
  unfold ins;split
  .rw[agY,mU,agY]
   grind
  grind
def oy(p:Int->Bool)(e:List Ty):List Int:=e.foldl (λl n=>if p n.1=af then ins n.2 l else l) []
def tY(op:Int):Bool:=decide (op=8)
def tn(n:Nat)(l:List Int):Prop:=l.Pairwise (· < ·)/\∀x∈l,0<=x/\x<(n:Int)
theorem tn.nil{n:Nat}:tn n []:=⟨.nil,λ_ h=>by cases h⟩
def Rc{l:List Int}:∀{a b:Int},l.Pairwise (· < ·)->(∀x∈l,a<=x/\x<b)->(l.length:Int)<=max 0 (b-a):=by
 induction l with
 |nil=>grind
 |cons x l ih=>
  intro a b hp hb;obtain⟨h1,h2⟩:=agO.1 hp;have hx:=hb x (List.mem_cons_self ..);have:=ih (a:=x+1) (b:=b) h2 (by grind)
  grind
theorem tn.len{n:Nat}{l:List Int}(h:tn n l):l.length<=n:=by
 have:=Rc h.1 h.2;omega
def ER{n:Int}:∀{l:List Int},l.Pairwise (· < ·)->(ins n l).Pairwise (· < ·)
 |[],_=>List.pairwise_singleton ..
 |x::l,h=>by
  obtain⟨h1,h2⟩:=agO.1 h;rw[Lb];split
  .exact agO.2 ⟨λy hy=>by grind [mU],ER h2⟩
  grind [agO]
theorem tn.ins{n:Nat}{x:Int}{l:List Int}(h:tn n l)(hx:0<=x/\x<(n:Int)):tn n (ins x l):=
 ⟨ER h.1,λy hy=>by rcases mU.1 hy with rfl|hy;exact hx;exact h.2 y hy⟩
def nT(n:Nat)(out l:List Int):List Int:=l.foldl (λo x=>if 0<=x/\x<(n:Int)then ins x o else o) out
theorem tn.nT{n:Nat}:∀{l out:List Int},tn n out->tn n (nT n out l)
 |[],_,h=>h
 |x::l,out,h=>by
  show tn n (L.nT n (if 0<=x/\x<(n:Int)then L.ins x out else out) l)
  refine tn.nT ?_;split
  .exact h.ins ‹_›
  .exact h
def nq(s:ie)(d:Int):List Int:=
 if 0<=d/\d<(s.2.2.2.1.length:Int)then s.2.2.2.2.foldl (λout r=>if(r.2.1:Int)=d then nT s.2.2.2.1.length (nT s.2.2.2.1.length out (oy tY r.2.2.2.2.2.1)) (oy tY r.2.2.2.2.2.2.1)else out) []else[]
def mz(s:ie)(d:Int):tn s.2.2.2.1.length (nq s d):=by
 unfold nq;split
 .suffices∀(rs:List ig)(out:List Int),tn s.2.2.2.1.length out->tn s.2.2.2.1.length (rs.foldl (λout r=>if(r.2.1:Int)=d then nT s.2.2.2.1.length (nT s.2.2.2.1.length out (oy tY r.2.2.2.2.2.1)) (oy tY r.2.2.2.2.2.2.1)else out) out)from this _ _ .nil
  intro rs
  induction rs with
  |nil=>grind
  |cons r rs ih=>
   grind [tn.nT]
 .exact .nil
def stepT(s:ie)(out:List Int):List Int:=out.foldl (λo x=>(nq s x).foldl (λo y=>ins y o) o) out
def kT(s:ie):Nat->List Int->List Int
 |0,out=>out
 |n+1,out=>stepT s (kT s n out)
def Jj(s:ie)(d:Int):List Int:=kT s s.2.2.2.1.length (nq s d)
def tn.Lc{n:Nat}:∀{l out:List Int},(∀x∈l,0<=x/\x<(n:Int))->tn n out->tn n (l.foldl (λo y=>L.ins y o) out)
 |[],_,_,h=>h
 |x::l,out,hx,h=>tn.Lc (l:=l) (out:=L.ins x out) (by grind) (h.ins (hx x (List.mem_cons_self ..)))
def qf(s:ie){out:List Int}(h:tn s.2.2.2.1.length out):tn s.2.2.2.1.length (stepT s out):=by
 unfold stepT
 suffices∀(l o:List Int),tn s.2.2.2.1.length o->tn s.2.2.2.1.length (l.foldl (λo x=>(nq s x).foldl (λo y=>ins y o) o) o)from this _ _ h
 intro l
 induction l with
 |nil=>grind
 |cons x l ih=>intro o h;exact ih _ (h.Lc (mz s x).2)
end L
namespace L
def pw(s:ie):Prop:=s.1.size<=80/\s.2.2.1.length<=14/\s.2.2.2.1.length<=14/\s.2.2.2.2.length<=60/\(∀f∈s.2.2.1,f.1.size<=80)/\(∀f∈s.2.2.2.1,f.1.size<=80)/\∀r∈s.2.2.2.2,r.1.size<=80/\r.2.2.2.2.2.2.2.size<=80/\r.2.2.2.2.2.1.length<=50/\r.2.2.2.2.2.2.1.length<=50
def gy(l:Lw):Prop:=l.1.length<=9/\l.2.1.length<=9/\l.2.2.length<=5/\(∀e∈l.1,e.1.size<=80/\e.2.length<=20/\∀m∈e.2,m.size<=80)/\(∀t∈l.2.1,t.1.size<=80)/\∀s∈l.2.2,pw s
def q6{α:Type}{l:List α}{p:α->Prop}(h:∀j,j<l.length->∀h:j<l.length,p l[j]):∀x∈l,p x:=λx hx=>by
 grind [agS]
def Iq(s:ie)(hw:WF br s):Wp (M.jE aU s) λr=>r=af->pw s:=by
 have w1:=hw.2.2.1.1;have w2:=hw.2.2.2.1.1;have w3:=hw.2.2.2.2.1;unfold maxLen at w1 w2 w3;unfold M.jE;simp only[W_,aq,au,reduceCtorEq]
 refine λh1 h2 h3 h4=>?_
 refine Wp.count (λs=>s) s.2.2.1.length (λk _=>∀j,j<k->∀h:j<s.2.2.1.length,(s.2.2.1[j].1:ByteArray).size<=80) w1 rfl (λj hj=>by omega) λk c hk hs hA=>?_
 obtain rfl:c=_:=hs;simp only[W_,aq,au,reduceCtorEq,bo,bc];refine⟨λaH=>?_,λhge=>?_⟩
 .have aH:k<s.2.2.1.length:=by omega
  simp only[aB aH,cy w1 aH,W_,aq,au,reduceCtorEq]
  grind
 have hA:=λj(hj:j<s.2.2.1.length)=>hA j (by omega)
 refine Wp.count (λs=>s) s.2.2.2.1.length (λk _=>∀j,j<k->∀h:j<s.2.2.2.1.length,(s.2.2.2.1[j].1:ByteArray).size<=80) w2 rfl (λj hj=>by omega) λk c hk hs hB=>?_
 obtain rfl:c=_:=hs;simp only[W_,aq,au,reduceCtorEq,bo,bc];refine⟨λaH=>?_,λhge=>?_⟩
 .have aH:k<s.2.2.2.1.length:=by omega
  simp only[aB aH,cy w2 aH,W_,aq,au,reduceCtorEq]
  grind
 have hB:=λj(hj:j<s.2.2.2.1.length)=>hB j (by omega)
 refine Wp.count (λs=>s) s.2.2.2.2.length (λk _=>∀j,j<k->∀h:j<s.2.2.2.2.length,(s.2.2.2.2[j].1:ByteArray).size<=80/\(s.2.2.2.2[j].2.2.2.2.2.2.2:ByteArray).size<=80/\s.2.2.2.2[j].2.2.2.2.2.1.length<=50/\s.2.2.2.2[j].2.2.2.2.2.2.1.length<=50) w3 rfl (λj hj=>by omega) λk c hk hs hC=>?_
 obtain rfl:c=_:=hs;simp only[W_,aq,au,reduceCtorEq,bo,bc];refine⟨λaH=>?_,λhge=>?_⟩
 .have aH:k<s.2.2.2.2.length:=by omega
  simp only[aB aH,cy w3 aH,W_,aq,au,reduceCtorEq]
  exact λh1 h2 h3 h4=>⟨aH,eZ hC (by omega)⟩
 exact⟨by omega,by omega,by omega,by omega,q6 hA,q6 hB,q6 λj hj=>hC j (by omega)⟩
def Ir(l:Lw)(hw:WF dv l):Wp (M.lq aU l) λr=>r=af->gy l:=by
 have w1:=hw.1.1;have w2:=hw.2.1.1;have w3:=hw.2.2.1;unfold maxLen at w1 w2 w3;unfold M.lq;simp only[W_,aq,au,reduceCtorEq]
 refine λh1 h2 h3=>?_
 refine Wp.count (λs=>s) l.1.length (λk _=>∀j,j<k->∀h:j<l.1.length,(l.1[j].1:ByteArray).size<=80/\l.1[j].2.length<=20/\∀m∈l.1[j].2,ByteArray.size m<=80) w1 rfl (λj hj=>by omega) λk c hk hs hA=>?_
 obtain rfl:c=_:=hs;simp only[W_,aq,au,reduceCtorEq,bo,bc];refine⟨λaH=>?_,λhge=>?_⟩
 .have aH:k<l.1.length:=by omega
  simp only[aB aH,cy w1 aH,W_,aq,au,reduceCtorEq]
  refine λg1 g2=>?_
  refine Wp.count (λs=>s) l.1[k].2.length (λi _=>∀j,j<i->∀h:j<l.1[k].2.length,ByteArray.size l.1[k].2[j]<=80) (by omega) rfl (λj hj=>by omega) λi c hi hs hB=>?_
  obtain rfl:c=_:=hs;simp only[W_,aq,au,reduceCtorEq,bo,bc];refine⟨λqE=>?_,λqE=>⟨aH,eZ hA λ_=>⟨by omega,by omega,q6 λj hj=>hB j (by omega)⟩⟩⟩
  have qE:i<l.1[k].2.length:=by omega
  simp only[aB qE,cy (m:=l.1[k].2.length) (by omega) qE,W_,aq,au,reduceCtorEq]
  grind
 have hA:=λj(hj:j<l.1.length)=>hA j (by omega)
 refine Wp.count (λs=>s.2) l.2.1.length (λk _=>∀j,j<k->∀h:j<l.2.1.length,(l.2.1[j].1:ByteArray).size<=80) w2 rfl (λj hj=>by omega) λk c hk hs hB=>?_
 obtain⟨c1,c2⟩:=c;dsimp only at hs;subst hs;simp only[W_,aq,au,reduceCtorEq,bo,bc];refine⟨λaH=>?_,λhge=>?_⟩
 .have aH:k<l.2.1.length:=by omega
  simp only[aB aH,cy w2 aH,W_,aq,au,reduceCtorEq]
  grind
 have hB:=λj(hj:j<l.2.1.length)=>hB j (by omega)
 refine Wp.count (λs=>s.2) l.2.2.length (λk _=>∀j,j<k->∀h:j<l.2.2.length,pw l.2.2[j]) w3 rfl (λj hj=>by omega) λk c hk hs hC=>?_
 obtain⟨c1,c2⟩:=c;dsimp only at hs;subst hs;simp only[W_,aq,au,reduceCtorEq,bo,bc];refine⟨λaH=>?_,λhge=>?_⟩
 .have aH:k<l.2.2.length:=by omega
  simp only[aB aH,cy w3 aH,W_,aq,au,reduceCtorEq]
  refine λh=>(Iq _ (hw.2.2.2 _ (agA aH))).mono (by grind)
 exact⟨by omega,by omega,by omega,q6 hA,q6 hB,q6 λj hj=>hC j (by omega)⟩
abbrev LE:Type:=aR.den
def AI:LE:=((0:Int),((0:Int),((0:Int),(0:Int))))
def r4(sec:Int)(k:Int):Option (Int×Int)->LE
 |none=>AI
 |some (c,e)=>(c,(sec,(k,e)))
noncomputable def Ld(ms:List ByteArray)(i:Nat):Option (Int×Int):=match ms[i]? with
 |none=>ae
 |some m=>if np m=ag then aa (2,100+(i:Int))else if m∈ms.take i then aa (7,100+(i:Int))else ae
noncomputable def oL(l:Lw)(k:Nat):Option (Int×Int):=match l.1[k]? with
 |none=>ae
 |some x=>if np x.1=ag then aa (2,0)else if iQ (l.1.take k) x.1 then aa (7,0)else if x.2.length=0 then aa (5,0)else if 16<x.2.length then aa (4,116)else db (Ld x.2) x.2.length
def r6{k:Nat}{a:Int}(h:k<=100000)(ha:0<=a/\a<=1000):agw.wrap (a+(k:Int))=a+(k:Int):=bL (by omega) (by omega)
end L
namespace L
noncomputable def tq(l:Lw)(k:Nat):Option (Int×Int):=match l.2.1[k]? with
 |none=>ae
 |some x=>if np x.1=ag then aa (2,0)else if iQ l.1 x.1\/iQ (l.2.1.take k) x.1 then aa (7,0)else if(qv x l.1).2=0 then ae else aa ((qv x l.1).2,if 0<=(qv x l.1).1 then 100+(qv x l.1).1 else 0)
noncomputable def Le(l:Lw)(x:ie)(i:Nat):Option (Int×Int):=match x.2.2.1[i]? with
 |none=>ae
 |some f=>if np f.1=ag then aa (2,100+(i:Int))else if iQ (x.2.2.1.take i) f.1 then aa (7,100+(i:Int))else if¬mT f.2 l.1.length then aa (8,100+(i:Int))else ae
noncomputable def Lf(l:Lw)(x:ie)(i:Nat):Option (Int×Int):=match x.2.2.2.1[i]? with
 |none=>ae
 |some f=>if np f.1=ag then aa (2,200+(i:Int))else if iQ x.2.2.1 f.1\/iQ (x.2.2.2.1.take i) f.1 then aa (7,200+(i:Int))else if¬mT f.2 l.1.length then aa (8,200+(i:Int))else ae
noncomputable def Is(l:Lw)(x:ie):Option (Int×Int):=(db (Le l x) x.2.2.1.length).or (db (Lf l x) x.2.2.2.1.length)
def plain(s:ByteArray):Prop:=(∀i,∀h:i<s.size,32<=(s[i].toNat:Int)/\(s[i].toNat:Int)<=126/\(s[i].toNat:Int)≠34)/\s.size<=64
noncomputable instance(s:ByteArray):Decidable (plain s):=ag1 _
def wk(f:List Fd)(hf:f.length<=100000):M.fX aU f=aa (f.map (·.2)):=by
 apply Wp.eq;unfold M.fX
 refine Wp.fold (λs=>s.1) (λs=>s.2) f (λ(o:List Ty)x=>o++[x.2]) [] (λk c=>c.length<=k) (by omega) rfl rfl (agB _) (λk s aH hs hI=>?_) λs hs hc hI=>?_
 .obtain⟨i,o⟩:=s;dsimp only at hs hI;subst hs;simp only[EN aH,aB aH,cy (m:=f.length) (by omega) aH,W_,aq,au,reduceCtorEq,Io]
  grind [pu]
 .obtain⟨i,o⟩:=s;dsimp only at hs hc;subst hs;simp only[wh,W_,aq,au,reduceCtorEq,Ip];rw[hc]
  have:∀(f:List Fd)(o:List Ty),f.foldl (λ(o:List Ty)x=>o++[x.2]) o=o++f.map (·.2):=by
   intro f
   induction f with
   |nil=>intro o;simp
   |cons x f ih=>grind
  rw[this];rfl
def jc(l:Lw)(x:ie):sA:=(l.1,(l.2.1,(x.2.2.1.map (·.2),(x.2.2.2.1.map (·.2),(match l.2.2[(x.2.1:Int).toNat]? with
 |some y=>if 0<=(x.2.1:Int)then y.2.2.2.1.map (·.2)else[]
 |none=>[],decide (0<=(x.2.1:Int)/\(x.2.1:Int)<(l.2.2.length:Int)))))))
def NR(l:Lw)(k:Nat)(hk:k<l.2.2.length)(hs:∀s∈l.2.2,s.2.2.1.length<=100000/\s.2.2.2.1.length<=100000):M.lM aU l (k:Int)=aa ((jc l l.2.2[k]).1,(jc l l.2.2[k]).2.1,(jc l l.2.2[k]).2.2.2.2.2,(jc l l.2.2[k]).2.2.1,(jc l l.2.2[k]).2.2.2.1,(jc l l.2.2[k]).2.2.2.2.1):=by
 apply Wp.eq;unfold M.lM;have h1:=hs _ (agA hk);simp only[show¬(k:Int)<0 by omega,show¬(l.2.2.length:Int)<=(k:Int) by omega,aB hk,wk _ h1.1,wk _ h1.2,W_,aq,au,reduceCtorEq];unfold jc;generalize l.2.2[k]=x at*;obtain⟨x1,(x2:Int),x3,x4,x5⟩:=x;dsimp only[az,Row.den]at*;refine⟨λh=>⟨λh'=>?_,λh'=>?_⟩,λh=>?_⟩
 .refine fj.2 ⟨by omega,?_⟩
  have hi:x2.toNat<l.2.2.length:=by omega
  simp only[wk _ (hs _ (agA hi)).2,W_,aq,au,reduceCtorEq,agz hi,h,h',if_true]
 .rw[List.getElem?_eq_none (by omega)];simp only[h',W_,aq,au,reduceCtorEq]
 .simp only[h,W_,aq,au,reduceCtorEq]
  split<;>rfl
end L
namespace L
noncomputable def zV(e:List Ty)(s:sA)(want:Ty):Int:=if(NP e s).2.2≠0 then(NP e s).2.2 else if(NP e s).1≠want then 8 else 0
def It(x:ie)(k:Nat)(d:Int):Nat:=(x.2.2.2.2.take k).countP λr=>decide ((r.2.1:Int)=d)
def tt(x:ie)(k:Nat)(r:ig):Prop:=(r.2.2.1:Int)≠-1/\((r.2.2.1:Int)<0\/(k:Int)<=r.2.2.1\/∃y,x.2.2.2.2[(r.2.2.1:Int).toNat]? =aa y/\(y.2.1:Int)≠r.2.1)
noncomputable instance(x:ie)(k:Nat)(r:ig):Decidable (tt x k r):=ag1 _
noncomputable def xp(l:Lw)(x:ie)(k:Nat)(r:ig):Int:=
 if np r.1=ag then 2 else if iQ (x.2.2.2.2.take k) r.1 then 7 else if¬(0<=(r.2.1:Int)/\(r.2.1:Int)<(x.2.2.2.1.length:Int))then 6 else if tt x k r then 9 else
 if(r.2.2.2.1:Int)<0\/9<(r.2.2.2.1:Int)\/¬VR r.2.2.2.2.1\/(r.2.2.2.2.1.1:Int)=r.2.2.2.2.1.2 then 3 else if 8<=It x k r.2.1 then 4 else if¬plain r.2.2.2.2.2.2.2 then 2 else
 if 0<r.2.2.2.2.2.1.length/\zV r.2.2.2.2.2.1 (jc l x) ((1:Int),(0:Int))≠0 then zV r.2.2.2.2.2.1 (jc l x) ((1:Int),(0:Int))else
 match x.2.2.2.1[(r.2.1:Int).toNat]? with
 |some d=>zV r.2.2.2.2.2.2.1 (jc l x) d.2
 |none=>0
noncomputable def ES(l:Lw)(x:ie)(k:Nat):Option (Int×Int):=match x.2.2.2.2[k]? with
 |none=>ae
 |some r=>if xp l x k r≠0 then aa (xp l x k r,300+(k:Int))else ae
noncomputable def Iu(x:ie)(d:Nat):Option (Int×Int):=if(d:Int)∈Jj x d then aa (9,200+(d:Int))else ae
def px(l:Lw)(k:Nat)(x:ie):Prop:=(x.2.1:Int)≠-1/\((x.2.1:Int)<0\/(k:Int)<=x.2.1\/∃y,l.2.2[(x.2.1:Int).toNat]? =aa y/\(y.2.1:Int)≠-1)
noncomputable instance(l:Lw)(k:Nat)(x:ie):Decidable (px l k x):=ag1 _
noncomputable def uz(l:Lw)(k:Nat):Option (Int×Int):=match l.2.2[k]? with
 |none=>ae
 |some x=>
  if np x.1=ag then aa (2,0)else if iQ l.1 x.1\/iQ l.2.1 x.1\/iQ (l.2.2.take k) x.1 then aa (7,0)else if px l k x then aa (6,0)else
  if 12<x.2.2.1.length then aa (4,112)else if 12<x.2.2.2.1.length then aa (4,212)else((Is l x).or (db (ES l x) x.2.2.2.2.length)).or (db (Iu x) x.2.2.2.1.length)
theorem Lg{l:Lw}{x:ie}{e:Int×Int}(h:Is l x=aa e):e.1≠0:=by
 grind [gk,Is,Le,Lf,Option.or_eq_some_iff]
def NS(x:ie)(d:Int):tn x.2.2.2.1.length (Jj x d):=by
 have:∀m,tn x.2.2.2.1.length (kT x m (nq x d)):=λm=>by
  induction m with
  |zero=>exact mz x d
  |succ m ih=>exact qf x ih
 exact this _
noncomputable def ET(l:Lw):LE:=
 if 8<l.1.length then((4:Int),((1:Int),((8:Int),(0:Int))))else match db (λk=>(oL l k).map λe=>(k,e)) l.1.length with
 |some (k,e)=>r4 1 (k:Int) (aa e)
 |none=>if 8<l.2.1.length then((4:Int),((2:Int),((8:Int),(0:Int))))else match db (λk=>(tq l k).map λe=>(k,e)) l.2.1.length with
  |some (k,e)=>r4 2 (k:Int) (aa e)
  |none=>if 4<l.2.2.length then((4:Int),((3:Int),((4:Int),(0:Int))))else match db (λk=>(uz l k).map λe=>(k,e)) l.2.2.length with
   |some (k,e)=>r4 3 (k:Int) (aa e)
   |none=>AI
theorem q7{f:Nat->Option (Int×Int)}(hf:∀i e,f i=aa e->e.1≠0){m:Nat}{e:Int×Int}(h:db f m=aa e):e.1≠0:=by
 grind [gk]
theorem tv{l:Lw}{k:Nat}{e:Int×Int}(h:oL l k=aa e):e.1≠0:=by
 grind [oL,q7,Ld]
def Cg{l:Lw}{k:Nat}{e:Int×Int}(h:tq l k=aa e):e.1≠0:=by
 grind [tq]
theorem Ci{l:Lw}{k:Nat}{e:Int×Int}(h:uz l k=aa e):e.1≠0:=by
 unfold uz at h
 repeat' split at h
 all_goals first|cases h|skip
 all_goals first|simp;done|skip
 rcases Option.or_eq_some_iff.1 h with h|⟨_,h⟩
 .rcases Option.or_eq_some_iff.1 h with h|⟨_,h⟩
  all_goals grind [Lg,q7,ES]
 grind [q7,Iu]
def Re{f:Nat->Option (Int×Int)}{k:Nat}{e:Int×Int}(h:f k=aa e):(λk=>(f k).map λe=>(k,e)) k=aa (k,e):=by simp[h]
def Valid(l:Lw):Prop:=(ET l).1=0
noncomputable instance(l:Lw):Decidable (Valid l):=ag1 _
theorem Valid.scopes{l:Lw}(h:Valid l):l.1.length<=8/\l.2.1.length<=8/\l.2.2.length<=4/\(∀k,k<l.1.length->oL l k=ae)/\(∀k,k<l.2.1.length->tq l k=ae)/\∀k,k<l.2.2.length->uz l k=ae:=by
 unfold Valid ET at h;split at h
 .cases h
 split at h
 .rename_i k e hf;obtain⟨j,_,hj,_⟩:=gk hf;obtain⟨e',sN,h2⟩:=Option.map_eq_some_iff.1 hj;cases h2;exact absurd h (tv sN)
 rename_i hA;split at h
 .cases h
 split at h
 .rename_i k e hf;obtain⟨j,_,hj,_⟩:=gk hf;obtain⟨e',sN,h2⟩:=Option.map_eq_some_iff.1 hj;cases h2;exact absurd h (Cg sN)
 rename_i hB;split at h
 .cases h
 split at h
 .rename_i k e hf;obtain⟨j,_,hj,_⟩:=gk hf;obtain⟨e',sN,h2⟩:=Option.map_eq_some_iff.1 hj;cases h2;exact absurd h (Ci sN)
 rename_i hC;exact⟨by omega,by omega,by omega,λk hk=>by simpa using cg.1 hA k hk,λk hk=>by simpa using cg.1 hB k hk,λk hk=>by simpa using cg.1 hC k hk⟩
def Valid.scope{l:Lw}(h:Valid l)(k:Nat)(hk:k<l.2.2.length):np l.2.2[k].1=af/\¬iQ (l.2.2.take k) l.2.2[k].1/\¬px l k l.2.2[k]/\l.2.2[k].2.2.1.length<=12/\l.2.2[k].2.2.2.1.length<=12/\Is l l.2.2[k]=ae/\
 (∀i,∀hi:i<l.2.2[k].2.2.2.2.length,xp l l.2.2[k] i l.2.2[k].2.2.2.2[i]=0)/\∀d:Nat,d<l.2.2[k].2.2.2.1.length->¬(d:Int)∈Jj l.2.2[k] d:=by
 have h:=h.scopes.2.2.2.2.2 k hk;unfold uz at h;rw[agz hk]at h
 grind [cg,ES,Iu]
end L
namespace L
def fa{α:Type}(p:α->Bool)(l:List α):Int:=if l.findIdx p<l.length then((l.findIdx p:Nat):Int)else-1
def va{α:Type}{p:α->Bool}{l:List α}{k:Nat}(hk:k<l.length)(hp:p l[k]=af)(hn:∀j,j<k->∀h:j<l.length,p l[j]=ag):fa p l=(k:Int):=by
 grind [fa]
def yx{α:Type}{p:α->Bool}{l:List α}(hn:∀j,∀h:j<l.length,p l[j]=ag):fa p l= -1:=by
 grind [fa]
theorem lD{α:Type}{p:α->Bool}{l:List α}:0<=fa p l↔∃x∈l,p x=af:=by
 grind [fa]
def wm{α Y:Type}{l:List α}{y:Y}{p:α->Bool}{body:Int×Y->Option ((Int×Y)⊕(Int×Y))}(hl:l.length<=maxLen)
 (hb:∀k,∀h:k<l.length,body ((k:Int),y)=if p l[k]=af then aa (.inr ((k:Int),y))else aa (.inl (agw.wrap ((k:Int)+1),y)))
 (he:body ((l.length:Int),y)=aa (.inr ((-1:Int),y))):Loop body aU ((0:Int),y)=aa (fa p l,y):=by
 apply Wp.eq
 refine Wp.count (λs=>s.1) l.length (λk s=>s.2=y/\∀j,j<k->∀h:j<l.length,p l[j]=ag) hl rfl ⟨rfl,λj hj=>by omega⟩ λk c hk hs hJ=>?_
 obtain⟨c1,c2⟩:=c;obtain⟨h1,hJ⟩:=hJ;obtain rfl:c2=y:=h1;obtain rfl:c1=_:=hs
 rcases Nat.lt_or_ge k l.length with aH|hge
 .rw[hb k aH];simp only[W_,aq,au,reduceCtorEq,bo,bc,cy hl aH];exact⟨λh=>by rw[va aH h hJ],(by grind)⟩
 .obtain rfl:k=l.length:=by omega
  rw[he];simp only[W_,aq,au,reduceCtorEq,bc];rw[yx λj h=>hJ j h h]
def r7{α:Type}{l:List α}{p:α->Bool}{body:Int->Option (Int⊕Int)}(hl:l.length<=maxLen)
 (hb:∀k,∀h:k<l.length,body (k:Int)=if p l[k]=af then aa (.inr (k:Int))else aa (.inl (agw.wrap ((k:Int)+1))))
 (he:body (l.length:Int)=aa (.inr (-1:Int))):Loop body aU (0:Int)=aa (fa p l):=by
 apply Wp.eq
 refine Wp.count (λs=>s) l.length (λk _=>∀j,j<k->∀h:j<l.length,p l[j]=ag) hl rfl (λj hj=>by omega) λk c hk hs hJ=>?_
 obtain rfl:c=_:=hs
 rcases Nat.lt_or_ge k l.length with aH|hge
 .rw[hb k aH];simp only[W_,aq,au,reduceCtorEq,bo,bc,cy hl aH];exact⟨λh=>by rw[va aH h hJ],(by grind)⟩
 .obtain rfl:k=l.length:=by omega
  rw[he];simp only[W_,aq,au,reduceCtorEq,bc];rw[yx λj h=>hJ j h h]
def mA(r:Row)(x:r.den):lH r x x=af:=by unfold lH;simp
end L
end Go.Proofs.YtfeahmiobbjklaaGreatDoor
