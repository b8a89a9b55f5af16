/- Joined texts: ModelA. -/
import Derived.Test.YtfeahmiobbjklaaGreatDoorU7
set_option linter.defProp false
open _root_.Decidable renaming decide->ah
open _root_.Bool renaming false->ag,true->af
open _root_.Option renaming none->ae,some->aa,bind->aqM
open _root_.ByteArray renaming empty->asg
open _root_.Int renaming tdiv->aq1,tmod->aq3
open _root_.Go.IntKind renaming i64->aqO,u64->aqQ
namespace Go.Proofs.YtfeahmiobbjklaaGreatDoor
open Go Go.RowKit
set_option maxRecDepth 100000
set_option linter.unusedSimpArgs false
set_option linter.unusedVariables false
set_option linter.defProp false
section
noncomputable section
open Tk
variable (N:Nat)
set_option maxRecDepth 100000
set_option linter.unusedVariables false
def M.rY(b:List Int):Option Int:=
Loop (S:=Int) (X:=Int) (λa=>(if(ah (a<(b.length:Int)))then
aqM (idx b a) λc=>(if(!ah (c=0))then
aa (.inr c)
else
aa (.inl (aqO.wrap (a+1))))
else
aa (.inr 0))) N 0
def agu:Fo 189 (.i1 [.l (.slice az)]) (.i1 [.l az]) (M.rY N):=fz N [] [O,O,T,O,T,L 8 80] Tryz.func189
def M.cmp_isNaN_int(N:Nat)(a:Int):Option Bool:=
aa (!ah (a=a))
def agv:Fo 260 (.i1 [.l az]) (.i1 [.l .bool]) (M.cmp_isNaN_int N):=fz N [] [] Tryz.func260
def M.cmp_Compare_int(a:Int)(b:Int):Option Int:=
aqM (M.cmp_isNaN_int N a) λd=>aqM (M.cmp_isNaN_int N b) λc=>(if d then(if c then
aa 0
else
aa (-1))
else(if c then
aa 1
else(if(ah (a<b))then
aa (-1)
else(if(ah (b<a))then
aa 1
else
aa 0))))
def agw:Fo 190 (.i1 [.l az, .l az]) (.i1 [.l az]) (u2 (M.cmp_Compare_int N)):=fz N [agv N] [] Tryz.func190
def M.dR(a:aA.den)(b:aA.den):Option Int:=
aqM (M.dL N (aqQ.wrap a.1)) λc=>aqM (M.dL N (aqQ.wrap b.1)) λd=>aqM (M.cmp_Compare_int N c d) λe=>aqM (M.cmp_Compare_int N a.1 b.1) λf=>aqM (M.cmp_Compare_int N a.2 b.2) λg=>aqM (M.rY N ([e,f,g]:List Int)) λh=>aa h
def agx:Fo 188 (.i1 [.g aA, .g aA]) (.i1 [.l az]) (u2 (M.dR N)):=fz N [agu N,agw N,aa7 N] [] Tryz.func188
def M.iy(m:Int)(g:List (aA.den×Bool)):Option (List (aA.den×Bool)):=
uQ (S:=(List (aA.den×Bool))×(List (aA.den×Bool))×List aA.den) (R:=List (aA.den×Bool)) (λb k2=>(if(b.2.1).isEmpty then
Loop (S:=(List (aA.den×Bool))×List aA.den) (X:=List (aA.den×Bool)) (λd=>(if(ah (0<(d.2.length:Int)))then
aqM (Loop (S:=Int×(List (aA.den×Bool))×List aA.den) (X:=(List (aA.den×Bool))×List aA.den) (λc=>(if(ah (c.1<(d.2.length:Int)))then
aqM (aqM (idx d.2 c.1) λe=>Loop (S:=Int×(List (aA.den×Bool))×List aA.den) (X:=(List (aA.den×Bool))×List aA.den) (λa=>(if(ah (a.1<m))then
aqM (aqM (uF .i64 1 a.1) λh=>(if(!((cy aA a.2.1 (e.1,aL .xor .i64 e.2 h)).getD ag))then
aa (a.2.1,a.2.2)
else
aqM (M.oG N e (e.1,aL .xor .i64 e.2 h)) λf=>aqM (if f.2 then
aa (!((cy aA a.2.1 f.1).getD ag))
else
aa ag) λn=>(if n then
aqM (cD a.2.2 ([f.1]:List aA.den)) λo=>aa (uG aA a.2.1 f.1 af,o)
else
aa (a.2.1,a.2.2))):Option ((List (aA.den×Bool))×List aA.den)) λi=>aa (.inl (aqO.wrap (a.1+1),i.1,i.2))
else
aa (.inr (a.2.1,a.2.2)))) N (0,c.2.1,c.2.2):Option ((List (aA.den×Bool))×List aA.den)) λj=>aa (.inl (aqO.wrap (c.1+1),j.1,j.2))
else
aa (.inr (c.2.1,c.2.2)))) N (0,d.1,([]:List aA.den)):Option ((List (aA.den×Bool))×List aA.den)) λk=>aa (.inl (k.1,k.2))
else
aa (.inr d.1))) N (b.1,b.2.2)
else
TS (λp=>p∈b.2.1) λl=>aqM (cD b.2.2 ([l.1]:List aA.den)) λq=>k2 (b.1,pY aA b.2.1 l.1,q))) N (g,g,([]:List aA.den))
def XX:Fo 117 (.j1 [.val ag (.own 0), .l az] [.smap 200 aA ag .bool ae] 1) (.j1 [] [.smap 200 aA ag .bool ae] 2) (u2 (M.iy N)):=fz N [agt N] [O,T,O,T,K ⟨[(4, .val ag (.own 49))],[(0, .smap 200 aA ag .bool (aa 34)),(49, .own 119 aA)],[],51⟩,X,X,T,P ⟨[(4, .val ag (.own 83))],[(0, .smap 200 aA ag .bool ae),(83, .own 119 aA)],[49],85⟩,O,T,O,R ⟨[(6, .val ag (.own 149))],[(0, .smap 200 aA ag .bool ae),(149, .own 119 aA)],[],151⟩,O,T,P ⟨[(6, .val ag (.own 197)),(28, .l az)],[(0, .smap 200 aA ag .bool ae),(197, .own 119 aA)],[],199⟩,O,O,R ⟨[(6, .val ag (.own 215))],[(0, .smap 200 aA ag .bool ae),(215, .own 119 aA)],[197],217⟩,T,O,O,T,P ⟨[(6, .val ag (.own 311)),(33, .l az)],[(0, .smap 200 aA ag .bool ae),(311, .own 119 aA)],[197],313⟩,O,O,T,R ⟨[(6, .val ag (.own 329))],[(0, .smap 200 aA ag .bool ae),(329, .own 119 aA)],[311],331⟩,O,O,O,O,B 60 729] Tryz.func117
def M.bA(e:List aA.den):Option (List aA.den):=CP (λa b c d=>M.dR N (a,b) (c,d)) e
def XY:qf:=⟨.j1 [.val ag (.own 0), .fn 188 []] [.own 119 aA] 1, .j1 [] [.own 119 aA] 2,M.bA N⟩
def XZ(N:Nat):hZ Tryz.prog 187 (XY N):=JH (agx N)
def M.ki(g:Int)(d:List (aA.den×Bool)):Option ((List (aA.den×Bool))×List aA.den):=
uQ (S:=(List (aA.den×Bool))×(List (aA.den×Bool))×List aA.den) (R:=(List (aA.den×Bool))×List aA.den) (λa k2=>(if(a.2.1).isEmpty then
aqM (M.bA N a.2.2) λh=>aa (a.1,h)
else
TS (λp=>p∈a.2.1) λb=>aqM (aqM (Loop (S:=Bool×Int) (X:=Bool) (λc=>(if(ah (c.2<g))then
aqM (aqM (uF .i64 1 c.2) λe=>aqM (uF .i64 1 c.2) λf=>aqM (if(!(mD aA (aL .andNot .i64 b.1.1 e,aL .andNot .i64 b.1.2 f) b.1))then
aa ((cy aA a.1 (aL .andNot .i64 b.1.1 e,aL .andNot .i64 b.1.2 f)).getD ag)
else
aa ag) λi=>(if i then
aa ag
else
aa c.1):Option Bool) λj=>aa (.inl (j,aqO.wrap (c.2+1)))
else
aa (.inr c.1))) N (af,0):Option Bool) λk=>(if k then
aqM (cD a.2.2 ([b.1]:List aA.den)) λl=>aa l
else
aa a.2.2):Option (List aA.den)) λm=>k2 (a.1,pY aA a.2.1 b.1,m))) N (d,d,([]:List aA.den))
def X0:Fo 118 (.j1 [.val ag (.own 0), .l az] [.smap 200 aA ag .bool ae] 1) (.j1 [.val ag (.own 1)] [.smap 200 aA ag .bool ae, .own 119 aA] 3) (u2 (M.ki N)):=fz N [XZ N] [O,O,T,O,T,K ⟨[(5, .val ag (.own 65))],[(0, .smap 200 aA ag .bool (aa 50)),(65, .own 119 aA)],[],67⟩,O,O,R ⟨[(5, .val ag (.own 99))],[(99, .own 119 aA)],[65],100⟩,O,O,R ⟨[(7, .l .bool)],[],[],179⟩,O,T,P ⟨[(7, .l .bool),(17, .l az)],[],[],211⟩,O,O,T,R ⟨[(7, .l .bool)],[],[],227⟩,O,O,B 38 467] Tryz.func118
def M.lj(h:List Int)(p:Int):Option (List aA.den):=
aqM (M.kh N p) λe=>aqM (uF .i64 1 e) λf=>aqM (Loop (S:=Int×(List (Int×Bool))×List (aA.den×Bool)) (X:=(List (Int×Bool))×List (aA.den×Bool)) (λb=>(if(ah (b.1<(h.length:Int)))then
aqM (aqM (idx h b.1) λd=>aqM (if(ah (0<=d))then
aa (ah (d<f))
else
aa ag) λq=>(if q then
aa (rj az b.2.1 d af,uG aA b.2.2 (aqO.wrap (f-1),d) af)
else
aa (b.2.1,b.2.2)):Option ((List (Int×Bool))×List (aA.den×Bool))) λi=>aa (.inl (aqO.wrap (b.1+1),i.1,i.2))
else
aa (.inr (b.2.1,b.2.2)))) N (0,([]:List (Int×Bool)),([]:List (aA.den×Bool))):Option ((List (Int×Bool))×List (aA.den×Bool))) λj=>aqM (M.iy N e j.2) λr=>aqM (M.ki N e r) λk=>Loop (S:=Int×(List (Int×Bool))×List aA.den) (X:=List aA.den) (λc=>(if(ah (c.1<(k.2.length:Int)))then
aqM (aqM (aqM (idx k.2 c.1) λl=>aqM (Loop (S:=Bool×Int×List (Int×Bool)) (X:=Bool×List (Int×Bool)) (λa=>(if(ah (a.2.1<f))then
aqM (aqM (if((cy az a.2.2 a.2.1).getD ag)then
aqM (M.ig N l a.2.1) λs=>aa s
else
aa ag) λt=>(if t then
aa (af,sJ az a.2.2 a.2.1)
else
aa (a.1,a.2.2)):Option (Bool×List (Int×Bool))) λm=>aa (.inl (m.1,aqO.wrap (a.2.1+1),m.2))
else
aa (.inr (a.1,a.2.2)))) N (ag,0,c.2.1):Option (Bool×List (Int×Bool))) λg=>(if g.1 then
aqM (cD c.2.2 ([l]:List aA.den)) λu=>aa (g.2,u)
else
aa (g.2,c.2.2)):Option ((List (Int×Bool))×List aA.den)) λn=>aa (n.1,n.2):Option ((List (Int×Bool))×List aA.den)) λo=>aa (.inl (aqO.wrap (c.1+1),o.1,o.2))
else
aa (.inr c.2.2))) N (0,j.1,([]:List aA.den))
def W74:Fo 74 (.i1 [.l (.slice az), .l az]) (.w1 119 aA) (u2 (M.lj N)):=fz N [W45 N,agr N,XX N,X0 N] [O,O,O,O,O,R ⟨[],[(112, .map 199 az ag .bool),(144, .smap 200 aA ag .bool ae)],[],178⟩,O,T,P ⟨[(23, .l az)],[(112, .map 199 az ag .bool),(144, .smap 200 aA ag .bool ae)],[],226⟩,O,O,T,R ⟨[],[(112, .map 199 az ag .bool),(144, .smap 200 aA ag .bool ae)],[],244⟩,O,B 33 290,X,X,X,O,O,T,O,T,P ⟨[(10, .val ag (.own 322)),(49, .l az)],[(112, .map 199 az ag .bool),(322, .own 119 aA)],[],324⟩,O,O,R ⟨[(10, .val ag (.own 340))],[(112, .map 199 az ag .bool),(340, .own 119 aA)],[322],342⟩,R ⟨[(10, .val ag (.own 340))],[(112, .map 199 az ag .bool),(340, .own 119 aA)],[322],342⟩,O,O,R ⟨[(13, .l .bool)],[(112, .map 199 az ag .bool)],[],421⟩,O,T,P ⟨[(13, .l .bool),(54, .l az)],[(112, .map 199 az ag .bool)],[],453⟩,O,O,T,R ⟨[(13, .l .bool)],[(112, .map 199 az ag .bool)],[],470⟩,O,B 64 501] Tryz.func74
def M.ja(d:List Int)(i:List Int)(j:Int):Option (List aM.den):=
aqM (cD ([(-2),(-1)]:List Int) i) λe=>Loop (S:=Int×List aM.den) (X:=List aM.den) (λb=>(if(ah (b.1<(e.length:Int)))then
aqM (aqM (aqM (idx e b.1) λf=>aqM (Loop (S:=Int×List Int) (X:=List Int) (λa=>(if(ah (a.1<(d.length:Int)))then
aqM (aqM (idx d a.1) λk=>(if(ah (k=f))then
aqM (cD a.2 ([a.1]:List Int)) λl=>aa l
else
aa a.2):Option (List Int)) λm=>aa (.inl (aqO.wrap (a.1+1),m))
else
aa (.inr a.2))) N (0,([]:List Int)):Option (List Int)) λg=>(if(ah ((g.length:Int)=0))then
aa b.2
else
aqM (M.lj N g j) λh=>Loop (S:=Int×List aM.den) (X:=List aM.den) (λc=>(if(ah (c.1<(h.length:Int)))then
aqM (idx h c.1) λn=>aqM (cD c.2 ([(n,f)]:List aM.den)) λo=>aa (.inl (aqO.wrap (c.1+1),o))
else
aa (.inr c.2))) N (0,b.2)):Option (List aM.den)) λp=>aa p:Option (List aM.den)) λq=>aa (.inl (aqO.wrap (b.1+1),q))
else
aa (.inr b.2))) N (0,([]:List aM.den))
def W44:Fo 44 (.i1 [.l (.slice az), .l (.slice az), .l az]) (.w1 121 aM) (u3 (M.ja N)):=fz N [W74 N] [O,O,O,T,O,T,P ⟨[(8, .val ag (.own 144)),(21, .l az)],[(144, .own 121 aM)],[],145⟩,O,O,R ⟨[(8, .val ag (.own 161))],[(161, .own 121 aM)],[144],162⟩,R ⟨[(8, .val ag (.own 161))],[(161, .own 121 aM)],[144],162⟩,O,O,R ⟨[(11, .val ag (.own 225))],[(225, .own 3 az)],[],226⟩,O,T,P ⟨[(11, .val ag (.own 273)),(27, .l az)],[(273, .own 3 az)],[],274⟩,O,O,T,R ⟨[(11, .val ag (.own 290))],[(290, .own 3 az)],[273],291⟩,X,X,X,X,O,O,T,P ⟨[(8, .val ag (.own 354)),(47, .l az)],[(354, .own 121 aM)],[144],355⟩] Tryz.func44
def M.kQ(g:cz.den)(h:Int)(d:Int)(i:Int):Option (Int×Int×(List (List aA.den))×(List Int)×List aM.den):=
aqM (M.iu N g) λn=>(if(!(mD aD n (0,(0,(0,0)))))then
aa (0,1,([]:List (List aA.den)),([]:List Int),([]:List aM.den))
else
aqM (if(ah (h<0))then
aa af
else
aa (ah ((g.2.2.length:Int)<=h))) λo=>(if o then
aa (0,6,([]:List (List aA.den)),([]:List Int),([]:List aM.den))
else
aqM (idx g.2.2 h) λj=>aqM (if(ah (d<0))then
aa af
else
aa (ah ((j.2.2.2.1.length:Int)<=d))) λp=>(if p then
aa (0,6,([]:List (List aA.den)),([]:List Int),([]:List aM.den))
else
aqM (if(ah (i<0))then
aa af
else
aa (ah (109572<i))) λq=>(if q then
aa (0,3,([]:List (List aA.den)),([]:List Int),([]:List aM.den))
else
aqM (M.lg N j d i) λb=>aqM (qh (b.1.length:Int) 0) λr=>aqM (Loop (S:=Int×Int×(List Int)×(List (List aA.den))×List Int) (X:=Int×(List Int)×(List (List aA.den))×List Int) (λa=>(if(ah (a.1<(b.1.length:Int)))then
aqM (aqM (idx b.1 a.1) λl=>aqM (idx a.2.2.1 a.1) λx=>aqM (idx j.2.2.2.2 l) λk=>(if(ah ((k.2.2.2.2.2.1.length:Int)=0))then
aa (a.2.1,bH a.2.2.1 a.1 (-1),a.2.2.2.1,a.2.2.2.2)
else
aqM (M.fS N a.2.2.2.1 k.2.2.2.2.2.1) λm=>aqM ((if(ah (m<0))then
aqM (M.bZ N k.2.2.2.2.2.1) λs=>aqM (cD a.2.2.2.1 ([s]:List (List aA.den))) λt=>aqM (cD a.2.2.2.2 ([l]:List Int)) λu=>aa ((a.2.2.2.1.length:Int),a.2.1,t,u)
else
aa (m,a.2.1,a.2.2.2.1,a.2.2.2.2)):Option (Int×Int×(List (List aA.den))×List Int)) λe=>aqM (idx (bH a.2.2.1 a.1 (-1)) a.1) λy=>aa (e.2.1,bH (bH a.2.2.1 a.1 (-1)) a.1 e.1,e.2.2.1,e.2.2.2)):Option (Int×(List Int)×(List (List aA.den))×List Int)) λf=>aa (.inl (aqO.wrap (a.1+1),f.1,f.2.1,f.2.2.1,f.2.2.2))
else
aa (.inr (a.2.1,a.2.2.1,a.2.2.2.1,a.2.2.2.2)))) N (0,d,r,([]:List (List aA.den)),([]:List Int)):Option (Int×(List Int)×(List (List aA.den))×List Int)) λc=>aqM (M.cU N b.1 b.2.1 b.2.2 c.2.1 (c.2.2.1.length:Int)) λv=>aqM (M.ja N v b.1 (c.2.2.1.length:Int)) λw=>aa (c.1,0,c.2.2.1,c.2.2.2,w)))))
def W19:Fo 19 (.i1 [.g cz, .l az, .l az, .l az]) (.j1 [.val af (.pair (.leaf az) (.pair (.own 0) (.pair (.own 1) (.own 2)))), .l az] [.own 43 (.slice aA), .own 3 az, .own 121 aM] 3) (u4 (M.kQ N)):=fz N [W28 N,W40 N,W41 N,W42 N,W43 N,W44 N] [O,O,T,B 34 112,O,T,B 49 224,T,B 56 224,O,O,O,R ⟨[],[(256, .box 26 (.pair (.leaf az) (.pair (.own 528) (.pair (.own 529) .nil)))),(496, .own 3 az),(528, .own 43 (.slice aA)),(529, .own 3 az)],[],532⟩,O,T,P ⟨[(73, .l az)],[(256, .box 26 (.pair (.leaf az) (.pair (.own 576) (.pair (.own 577) .nil)))),(496, .own 3 az),(576, .own 43 (.slice aA)),(577, .own 3 az)],[],580⟩,O,O,T,R ⟨[],[(256, .box 26 (.pair (.leaf az) (.pair (.own 596) (.pair (.own 597) .nil)))),(496, .own 3 az),(596, .own 43 (.slice aA)),(597, .own 3 az)],[576,577],600⟩,O,O,O,O,O,R ⟨[(19, .l az)],[(256, .box 26 (.pair (.leaf az) (.pair (.own 980) (.pair (.own 981) .nil)))),(980, .own 43 (.slice aA)),(981, .own 3 az)],[576,577],983⟩] Tryz.func19
def M.fB(N:Nat)(a:List Int):Option Int:=
aa (a.length:Int)
def W97:Fo 97 (.i1 [.l (.slice az)]) (.i1 [.l az]) (M.fB N):=fz N [] [] Tryz.func97
def M.eT(N:Nat)(a:List Int)(b:Int)(c:Int):Option Bool:=
aqM (idx a b) λd=>aqM (idx a c) λe=>aa (ah (d<e))
def aa8:Fo 393 (.i1 [.l (.slice az), .l az, .l az]) (.i1 [.l .bool]) (u3 (M.eT N)):=fz N [] [] Tryz.func393
def M.oo(N:Nat)(a:List Int):Option (Int×List Int):=
aqM (idx a (aqO.wrap ((a.length:Int)-1))) λb=>aqM (iE a 0 (aqO.wrap ((a.length:Int)-1))) λc=>aa (b,c)
def agz:Fo 394 (.j1 [.ptr 0 [] 0] [.box 184 (.own 1), .own 3 az] 2) ⟨[(0, .ifc 3 (.l az))],[(0, .box 184 (.own 2)),(2, .own 3 az)],[],4⟩ (M.oo N):=fz N [] [] Tryz.func394
def M.nr(d:bn.den):Option (List (List Int)):=
aqM (qh (d.2.2.2.1.length:Int) ([]:List Int)) λf=>aqM (Loop (S:=Int×List (List Int)) (X:=List (List Int)) (λb=>(if(ah (b.1<(d.2.2.2.2.length:Int)))then
aqM (aqM (idx d.2.2.2.2 b.1) λc=>aqM (if(ah (0<=c.2.1))then
aa (ah (c.2.1<(b.2.length:Int)))
else
aa ag) λg=>(if g then
aqM (idx b.2 c.2.1) λn=>aqM (idx b.2 c.2.1) λh=>aqM (M.gO N c (b.2.length:Int)) λi=>aqM (cD h i) λj=>aqM (idx b.2 c.2.1) λo=>(if ah (c.2.1=c.2.1)then
aqM (idx b.2 c.2.1) λp=>aa (v7 b.2 c.2.1 (λq=>j))
else ae)
else
aa b.2):Option (List (List Int))) λk=>aa (.inl (aqO.wrap (b.1+1),k))
else
aa (.inr b.2))) N (0,f):Option (List (List Int))) λe=>Loop (S:=Int×List (List Int)) (X:=List (List Int)) (λa=>(if(ah (a.1<(e.length:Int)))then
aqM (idx a.2 a.1) λr=>aqM (idx a.2 a.1) λl=>aqM (M.kg N l) λm=>aqM (idx a.2 a.1) λs=>(if ah (a.1=a.1)then
aqM (idx a.2 a.1) λt=>aa (.inl (aqO.wrap (a.1+1),v7 a.2 a.1 (λu=>m)))
else ae)
else
aa (.inr a.2))) N (0,e)
def aa9:qf:=⟨.i1 [.g bn], .j1 [.val ag (.own 0)] [.deep 23 (.sl 3 (.leaf az))] 1,M.nr N⟩
def aba(N:Nat):hZ Tryz.prog 95 (aa9 N):=fw (en [ck (aa3 N),ck (QY N)] af ag) (N:=N) (.o (.o (.meet ⟨[],[(80, .deep 23 (.sl 3 (.leaf az)))],[],113⟩ (.o (.two (.loop ⟨[(15, .l az)],[(80, .deep 23 (.sl 3 (.leaf az)))],[],177⟩ (.o (.o (.two (.meet ⟨[],[(80, .deep 23 (.sl 3 (.leaf az)))],[],194⟩ (.o (.meet ⟨[(28, .l .bool)],[],[],257⟩ .nil .nil)) .nil) .nil)))) .nil)) (.two (.o (.two (.loop ⟨[(46, .l az)],[(80, .deep 23 (.sl 3 (.leaf az)))],[],162⟩ .nil) .nil)) .nil)))) Tryz.func95 (by kernel_rfl) λx=>by kernel_rfl
def M.kR(N:Nat)(a:Int)(b:List Int):Option (List Int):=
aqM (cD b ([a]:List Int)) λc=>aa c
def X1:Fo 395 (.j1 [.ptr 0 [] 0, .ifc 3 (.l az)] [.box 184 (.own 1), .own 3 az] 2) ⟨[],[(0, .box 184 (.own 2)),(2, .own 3 az)],[],4⟩ (u2 (M.kR N)):=fz N [] [] Tryz.func395
def M.dx(N:Nat)(b:Int)(c:Int)(a:List Int):Option (List Int):=
aqM (idx a c) λd=>aqM (idx a b) λe=>aqM (idx a b) λf=>aqM (idx (bH a b d) c) λg=>aa (bH (bH a b d) c e)
def JJ:Fo 396 (.j1 [.val ag (.own 0), .l az, .l az] [.own 3 az] 1) (.j1 [] [.own 3 az] 2) (u3 (M.dx N)):=fz N [] [] Tryz.func396
def M.iz(b:Int)(c:List Int):Option (List Int):=
Loop (S:=Int×List Int) (X:=List Int) (λa=>aqM (if(ah ((aqO.wrap (aq1 (aqO.wrap (a.1-1)) 2))=a.1))then
aa af
else
aqM (M.eT N a.2 a.1 (aqO.wrap (aq1 (aqO.wrap (a.1-1)) 2))) λd=>aa (!d)) λe=>(if e then
aa (.inr a.2)
else
aqM (M.dx N (aqO.wrap (aq1 (aqO.wrap (a.1-1)) 2)) a.1 a.2) λf=>aa (.inl (aqO.wrap (aq1 (aqO.wrap (a.1-1)) 2),f)))) N (b,c)
def X2:Fo 164 (.j1 [.ifc 183 (.ptr 0 [] 0), .l az] [.box 184 (.own 1), .own 3 az] 2) (.j1 [] [.box 184 (.own 1), .own 3 az] 4) (u2 (M.iz N)):=fz N [aa8 N,JJ N] [T,P ⟨[(1, .l az)],[(1, .own 3 az)],[],3⟩,T,O,T,B 17 67] Tryz.func164
def M.dG(b:Int)(c:List Int):Option (List Int):=
aqM (M.kR N b c) λa=>aqM (M.fB N a) λd=>aqM (M.iz N (aqO.wrap (d-1)) a) λe=>aa e
def abb:Fo 96 (.j1 [.ifc 183 (.ptr 0 [] 0), .ifc 3 (.l az)] [.box 184 (.own 1), .own 3 az] 2) ⟨[],[(0, .box 184 (.own 2)),(2, .own 3 az)],[],4⟩ (u2 (M.dG N)):=fz N [W97 N,X2 N,X1 N] [] Tryz.func96
def M.gp(c:Int)(d:Int)(f:List Int):Option (Bool×List Int):=
aqM (Loop (S:=Int×List Int) (X:=Int×List Int) (λa=>aqM (if(ah (d<=(aqO.wrap ((aqO.wrap (2*a.1))+1))))then
aa af
else
aa (ah ((aqO.wrap ((aqO.wrap (2*a.1))+1))<0))) λg=>(if g then
aa (.inr (a.1,a.2))
else
aqM (aqM (if(ah ((aqO.wrap ((aqO.wrap ((aqO.wrap (2*a.1))+1))+1))<d))then
aqM (M.eT N a.2 (aqO.wrap ((aqO.wrap ((aqO.wrap (2*a.1))+1))+1)) (aqO.wrap ((aqO.wrap (2*a.1))+1))) λh=>aa h
else
aa ag) λi=>(if i then
aa (aqO.wrap ((aqO.wrap ((aqO.wrap (2*a.1))+1))+1))
else
aa (aqO.wrap ((aqO.wrap (2*a.1))+1))):Option Int) λb=>aqM (M.eT N a.2 b a.1) λj=>(if(!j)then
aa (.inr (a.1,a.2))
else
aqM (M.dx N a.1 b a.2) λk=>aa (.inl (b,k))))) N (c,f):Option (Int×List Int)) λe=>aa (ah (c<e.1),e.2)
def X3:Fo 165 (.j1 [.ifc 183 (.ptr 0 [] 0), .l az, .l az] [.box 184 (.own 1), .own 3 az] 2) (.j1 [.l .bool] [.box 184 (.own 1), .own 3 az] 4) (u3 (M.gp N)):=fz N [aa8 N,JJ N] [O,O,T,R ⟨[(7, .l az)],[(1, .own 3 az)],[],51⟩,P ⟨[(7, .l az)],[(1, .own 3 az)],[],51⟩,T,O,T,B 21 115,O,R ⟨[(9, .l az)],[],[],147⟩,O,B 33 195] Tryz.func165
def M.gY(a:List Int):Option (Int×List Int):=
aqM (M.fB N a) λb=>aqM (M.dx N 0 (aqO.wrap (b-1)) a) λd=>aqM (M.gp N 0 (aqO.wrap (b-1)) d) λe=>aqM (M.oo N e.2) λc=>aa (c.1,c.2)
def abc:Fo 98 (.j1 [.ifc 183 (.ptr 0 [] 0)] [.box 184 (.own 1), .own 3 az] 2) ⟨[(0, .ifc 3 (.l az))],[(0, .box 184 (.own 2)),(2, .own 3 az)],[],4⟩ (M.gY N):=fz N [W97 N,X3 N,agz N,JJ N] [] Tryz.func98
def M.cG(s:bn.den):Option (Int×List Int):=
aqM (aqM (M.nr N s) λt=>aa t:Option (List (List Int))) λg=>aqM (qh (g.length:Int) ([]:List Int)) λu=>aqM (qh (g.length:Int) 0) λv=>aqM (aqM (Loop (S:=Int×(List (List Int))×(List Int)×List Int) (X:=(List (List Int))×(List Int)×List Int) (λa=>(if(ah (a.1<(g.length:Int)))then
aqM (aqM (aqM (idx g a.1) λh=>aqM (idx a.2.2.1 a.1) λF=>aqM (Loop (S:=Int×List (List Int)) (X:=List (List Int)) (λc=>(if(ah (c.1<(h.length:Int)))then
aqM (idx h c.1) λd=>aqM (idx c.2 d) λG=>aqM (idx c.2 d) λw=>aqM (cD w ([a.1]:List Int)) λx=>aqM (idx c.2 d) λH=>(if ah (d=d)then
aqM (idx c.2 d) λI=>aa (.inl (aqO.wrap (c.1+1),v7 c.2 d (λQ=>x)))
else ae)
else
aa (.inr c.2))) N (0,a.2.1):Option (List (List Int))) λo=>(if(ah ((h.length:Int)=0))then
aqM (M.dG N a.1 a.2.2.2) λy=>aa (o,bH a.2.2.1 a.1 (h.length:Int),y)
else
aa (o,bH a.2.2.1 a.1 (h.length:Int),a.2.2.2)):Option ((List (List Int))×(List Int)×List Int)) λi=>aa (i.1,i.2.1,i.2.2):Option ((List (List Int))×(List Int)×List Int)) λj=>aa (.inl (aqO.wrap (a.1+1),j.1,j.2.1,j.2.2))
else
aa (.inr (a.2.1,a.2.2.1,a.2.2.2)))) N (0,u,v,([]:List Int)):Option ((List (List Int))×(List Int)×List Int)) λk=>aa (k.1,k.2.1,k.2.2):Option ((List (List Int))×(List Int)×List Int)) λl=>aqM (Loop (S:=(List Int)×(List Int)×List Int) (X:=(List Int)×List Int) (λf=>aqM (M.fB N f.2.2) λz=>(if(ah (0<z))then
aqM (M.gY N f.2.2) λm=>aqM (cD f.2.1 ([m.1]:List Int)) λA=>aqM (idx l.1 m.1) λp=>Loop (S:=Int×(List Int)×List Int) (X:=((List Int)×(List Int)×List Int)⊕((List Int)×List Int)) (λb=>(if(ah (b.1<(p.length:Int)))then
aqM (aqM (idx p b.1) λe=>aqM (idx b.2.1 e) λn=>aqM (idx b.2.1 e) λU=>aqM (idx (bH b.2.1 e (aqO.wrap (n-1))) e) λC=>(if(ah (C=0))then
aqM (M.dG N e b.2.2) λD=>aa (bH b.2.1 e (aqO.wrap (n-1)),D)
else
aa (bH b.2.1 e (aqO.wrap (n-1)),b.2.2)):Option ((List Int)×List Int)) λq=>aa (.inl (aqO.wrap (b.1+1),q.1,q.2))
else
aa (.inr (.inl (b.2.1,A,b.2.2))))) N (0,f.1,m.2)
else
aa (.inr (f.2.1,f.2.2)))) N (l.2.1,([]:List Int),l.2.2):Option ((List Int)×List Int)) λr=>(if(ah ((r.1.length:Int)<(g.length:Int)))then
aa (9,([]:List Int))
else
aa (0,r.1))
def S60:qf:=⟨.i1 [.g bn], .j1 [.val ag (.own 0), .l az] [.own 3 az] 1,M.cG N⟩
def W60(N:Nat):hZ Tryz.prog 60 (S60 N):=fw (en [ck (aba N),ck (abb N),ck (W97 N),ck (abc N)] af ag) (N:=N) (.o (.meet ⟨[(4, .l (.slice (.slice az)))],[],[],48⟩ .nil (.o (.o (.o (.meet ⟨[(5, .l (.slice (.slice az)))],[(144, .own 3 az),(192, .box 184 (.own 224)),(224, .own 3 az)],[80,176],227⟩ (.o (.meet ⟨[(5, .l (.slice (.slice az)))],[(144, .own 3 az),(192, .box 184 (.own 272)),(272, .own 3 az)],[80,176],275⟩ (.loop ⟨[(29, .l az)],[(80, .deep 23 (.sl 3 (.leaf az))),(144, .own 3 az),(192, .box 184 (.own 272)),(272, .own 3 az)],[176],276⟩ (.o (.o (.meet ⟨[],[(80, .deep 23 (.sl 3 (.leaf az))),(144, .own 3 az),(192, .box 184 (.own 292)),(292, .own 3 az)],[272],296⟩ (.meet ⟨[],[(80, .deep 23 (.sl 3 (.leaf az))),(144, .own 3 az),(192, .box 184 (.own 292)),(292, .own 3 az)],[272],296⟩ (.o (.o (.meet ⟨[],[(80, .deep 23 (.sl 3 (.leaf az)))],[],469⟩ (.o (.two (.loop ⟨[(41, .l az)],[(80, .deep 23 (.sl 3 (.leaf az)))],[],517⟩ .nil) .nil)) .nil))) .nil) .nil)))) .nil)) (.o (.meet ⟨[(12, .val ag (.own 243))],[(192, .box 184 (.own 244)),(243, .own 3 az),(244, .own 3 az)],[144,224],246⟩ (.two (.loop ⟨[(12, .val ag (.own 243))],[(144, .own 3 az),(192, .box 184 (.own 244)),(243, .own 3 az),(244, .own 3 az)],[224],247⟩ (.o (.two (.o (.o (.o (.two (.loop ⟨[(86, .l az)],[(144, .own 3 az),(192, .box 184 (.own 647)),(647, .own 3 az)],[361],650⟩ (.o (.o (.two (.meet ⟨[],[(144, .own 3 az),(192, .box 184 (.own 666)),(666, .own 3 az)],[647],669⟩ .nil .nil) .nil)))) .nil)))) .nil))) .nil) .nil)))))))) Tryz.func60 (by kernel_rfl) λx=>by kernel_rfl
def M.dH(d:cz.den)(e:Int)(g:Int):Option (bn.den×(List Int)×(List aU.den)×List Int):=
aqM (idx d.2.2 e) λb=>aqM (qh (b.2.2.2.1.length:Int) (0,(([]:List (List aA.den)),(([]:List Int),([]:List aM.den))))) λh=>aqM (qh (b.2.2.2.1.length:Int) 0) λi=>aqM (M.cG N b) λj=>aqM (Loop (S:=Int×(List aU.den)×List Int) (X:=(List aU.den)×List Int) (λa=>(if(ah (a.1<(b.2.2.2.1.length:Int)))then
aqM (M.kQ N d e a.1 g) λc=>aqM (idx a.2.1 a.1) λk=>aqM (idx a.2.2 a.1) λl=>aa (.inl (aqO.wrap (a.1+1),bH a.2.1 a.1 (c.1,(c.2.2.1,(c.2.2.2.1,c.2.2.2.2))),bH a.2.2 a.1 c.2.1))
else
aa (.inr (a.2.1,a.2.2)))) N (0,h,i):Option ((List aU.den)×List Int)) λf=>aa (b,j.2,f.1,f.2)
def W30:Fo 30 (.i1 [.g cz, .l az, .l az]) (.j1 [.val af (.pair (.leaf bn) (.pair (.own 0) (.pair (.own 1) (.own 2))))] [.own 3 az, .own 26 aU, .own 36 az] 3) (u3 (M.dH N)):=fz N [W19 N,W60 N] [O,O,O,O,R ⟨[],[(208, .own 26 aU),(272, .own 36 az)],[],450⟩,O,T,P ⟨[(34, .l az)],[(208, .own 26 aU),(272, .own 36 az)],[],514⟩] Tryz.func30
def M.jb(b:aU.den)(d:Int):Option (Int×Bool):=
Loop (S:=Int) (X:=Int×Bool) (λa=>(if(ah (a<(b.2.2.2.length:Int)))then
aqM (idx b.2.2.2 a) λc=>aqM (M.ig N c.1 d) λe=>(if e then
aa (.inr (c.2,af))
else
aa (.inl (aqO.wrap (a+1))))
else
aa (.inr (0,ag)))) N 0
def W20:Fo 20 (.i1 [.g aU, .l az]) (.i1 [.l az, .l .bool]) (u2 (M.jb N)):=fz N [W45 N] [O,T,O,T,L 11 112] Tryz.func20
def M.lk(N:Nat)(b:aU.den)(a:Int):Option Int:=
aqM (if(ah (a<0))then
aa af
else
aa (ah ((b.2.2.1.length:Int)<=a))) λc=>(if c then
aa (-1)
else
aqM (idx b.2.2.1 a) λd=>aa d)
def W99:Fo 99 (.i1 [.g aU, .l az]) (.i1 [.l az]) (u2 (M.lk N)):=fz N [] [O,T,B 13 32] Tryz.func99
def M.gq(b:fg.den)(d:Int)(g:b8.den):Option (aB.den×Int×Int):=
aqM (idx b.2.2.2 d) λh=>(if(!ah (h=0))then
aqM (idx b.2.2.2 d) λi=>aa ((0,(0,0)),(-1),i)
else
aqM (idx b.2.2.1 d) λe=>aqM (M.du N e g) λc=>(if(!ah (c.2.2=0))then
aqM (M.lk N e c.2.1) λj=>aa ((0,(0,0)),j,c.2.2)
else
aqM (M.jb N e c.1) λa=>aqM (if(!a.2)then
aa af
else
aa (ah (a.1=(-1)))) λk=>(if k then
aa ((0,(0,0)),(-1),10)
else(if(ah (a.1=(-2)))then
aa ((0,(0,0)),(-1),11)
else
aqM (idx b.1.2.2.2.2 a.1) λl=>aqM (M.jU N l.2.2.2.2.2.2.1 g) λf=>(if(!ah (f.2=0))then
aa ((0,(0,0)),a.1,f.2)
else
aa (f.1,a.1,0))))))
def W61:Fo 61 (.i1 [.g fg, .l az, .g b8]) (.i1 [.g aB, .l az, .l az]) (u3 (M.gq N)):=fz N [W10 N,W20 N,W24 N,W99 N] [O,O,O,O,O,O,T,B 58 608] Tryz.func61
def M.gP(c:fg.den)(e:b8.den)(g:Int):Option (aD.den×(List aB.den)×List Int):=
aqM (qh (c.1.2.2.2.1.length:Int) (0,(0,0))) λh=>aqM (qh (c.1.2.2.2.1.length:Int) 0) λi=>bS (J:=(List aB.den)×List Int) (R:=aD.den×(List aB.den)×List Int) (Loop (S:=Int×(List aB.den)×List Int) (X:=((List aB.den)×List Int)⊕(aD.den×(List aB.den)×List Int)) (λa=>(if(ah (a.1<(c.2.1.length:Int)))then
aqM (idx c.2.1 a.1) λb=>aqM (M.gq N c b (e.1,(e.2.1,(a.2.1,e.2.2.2)))) λd=>(if(!ah (d.2.2=0))then
aa (.inr (.inr ((d.2.2,(g,(b,d.2.1))),([]:List aB.den),([]:List Int))))
else
aqM (idx a.2.1 b) λj=>aqM (idx a.2.2 b) λk=>aa (.inl (aqO.wrap (a.1+1),bH a.2.1 b d.1,bH a.2.2 b d.2.1)))
else
aa (.inr (.inl (a.2.1,a.2.2))))) N (0,h,i)) λf=>aa ((0,(0,(0,0))),f.1,f.2)
def W31:Fo 31 (.i1 [.g fg, .g b8, .l az]) (.j1 [.val ag (.own 0), .val ag (.own 1), .g aD] [.own 40 aB, .own 3 az] 2) (u3 (M.gP N)):=fz N [W61 N] [O,O,O,J ⟨[],[(144, .own 40 aB),(256, .own 3 az)],[],290⟩,O,T,P ⟨[(29, .l az)],[(144, .own 40 aB),(256, .own 3 az)],[],354⟩] Tryz.func31
def M.cN(b:cz.den)(g:Int)(c:ff.den):Option (aD.den×(List aB.den)×(List Int)×List aG.den):=
aqM (M.iu N b) λo=>(if(!(mD aD o (0,(0,(0,0)))))then
aa ((1,((-1),((-1),(-1)))),([]:List aB.den),([]:List Int),([]:List aG.den))
else
aqM (if(ah (g<0))then
aa af
else
aa (ah ((b.2.2.length:Int)<=g))) λp=>(if p then
aa ((6,((-1),((-1),(-1)))),([]:List aB.den),([]:List Int),([]:List aG.den))
else
aqM (M.cF N b g c) λm=>(if(!ah (m.2.2=0))then
aa ((m.2.2,(m.1,((-1),(-1)))),([]:List aB.den),([]:List Int),([]:List aG.den))
else
bS (J:=Int×(List aB.den)×(List bj.den)×(List aG.den)×(List (List aB.den))×List aA.den) (R:=aD.den×(List aB.den)×(List Int)×List aG.den) (aqM (idx b.2.2 g) λi=>aqM (if(ah (0<=i.2.1))then
aa (ah (i.2.1<(b.2.2.length:Int)))
else
aa ag) λq=>(if q then
aqM (aqM (idx b.2.2 i.2.1) λn=>Loop (S:=Int×Int×(List aB.den)×(List bj.den)×List aA.den) (X:=Int×(List aB.den)×(List bj.den)×List aA.den) (λd=>(if(ah (d.1<(n.2.2.2.1.length:Int)))then
aqM (idx n.2.2.2.1 d.1) λr=>aqM (cD d.2.2.2.2 ([r.2]:List aA.den)) λs=>aa (.inl (aqO.wrap (d.1+1),d.2.1,d.2.2.1,d.2.2.2.1,s))
else
aa (.inr (d.2.1,d.2.2.1,d.2.2.2.1,d.2.2.2.2)))) N (0,c.1,c.2.1,b.2.1,([]:List aA.den)):Option (Int×(List aB.den)×(List bj.den)×List aA.den)) λe=>(if(ah (0<(c.2.2.length:Int)))then
aqM (M.dH N b i.2.1 c.1) λj=>Loop (S:=Int×Int×(List aB.den)×(List bj.den)×(List aA.den)×(List aG.den)×List (List aB.den)) (X:=(Int×(List aB.den)×(List bj.den)×(List aG.den)×(List (List aB.den))×List aA.den)⊕(aD.den×(List aB.den)×(List Int)×List aG.den)) (λa=>(if(ah (a.1<(c.2.2.length:Int)))then
aqM (idx c.2.2 a.1) λt=>aqM (M.gP N (j.1,(j.2.1,(j.2.2.1,j.2.2.2))) (c.1,(t,(([]:List aB.den),(([]:List (List aB.den)),(([]:List aA.den),b.2.1))))) a.1) λh=>(if(!(mD aD h.1 (0,(0,(0,0)))))then
aa (.inr (.inr (h.1,([]:List aB.den),([]:List Int),([]:List aG.den))))
else
aqM (cD a.2.2.2.2.2.1 ([(h.2.1,h.2.2)]:List aG.den)) λu=>aqM (cD a.2.2.2.2.2.2 ([h.2.1]:List (List aB.den))) λv=>aa (.inl (aqO.wrap (a.1+1),a.2.1,a.2.2.1,a.2.2.2.1,a.2.2.2.2.1,u,v)))
else
aa (.inr (.inl (a.2.1,a.2.2.1,a.2.2.2.1,a.2.2.2.2.2.1,a.2.2.2.2.2.2,a.2.2.2.2.1))))) N (0,e.1,e.2.1,e.2.2.1,e.2.2.2,([]:List aG.den),([]:List (List aB.den)))
else
aa (.inl (e.1,e.2.1,e.2.2.1,([]:List aG.den),([]:List (List aB.den)),e.2.2.2)))
else
aa (.inl (c.1,c.2.1,b.2.1,([]:List aG.den),([]:List (List aB.den)),([]:List aA.den))))) λf=>aqM (M.dH N b g c.1) λk=>aqM (M.gP N (k.1,(k.2.1,(k.2.2.1,k.2.2.2))) (f.1,(f.2.1,(([]:List aB.den),(f.2.2.2.2.1,(f.2.2.2.2.2,f.2.2.1))))) (-1)) λl=>(if(!(mD aD l.1 (0,(0,(0,0)))))then
aa (l.1,([]:List aB.den),([]:List Int),([]:List aG.den))
else
aa ((0,(0,(0,0))),l.2.1,l.2.2,f.2.2.2.1)))))
def W15:Fo 15 (.i1 [.g cz, .l az, .g ff]) (.j1 [.val af (.pair (.own 0) (.pair (.own 1) (.own 2))), .g aD] [.own 40 aB, .own 3 az, .own 63 aG] 3) (u3 (M.cN N)):=fz N [W28 N,W29 N,W30 N,W31 N] [O,O,T,B 40 128,O,O,O,J ⟨[],[(336, .box 55 (.pair .nil (.pair .nil (.own 496)))),(464, .box 32 (.pair (.leaf az) (.pair (.leaf (.slice aB)) (.pair .nil (.pair (.own 497) (.pair (.own 498) (.leaf (.slice bj)))))))),(496, .own 63 aG),(497, .own 27 (.slice aB)),(498, .own 74 aA)],[],501⟩,O,R ⟨[(78, .l .bool)],[],[],608⟩,X,T,R ⟨[],[(464, .box 32 (.pair (.leaf az) (.pair (.leaf (.slice aB)) (.pair .nil (.pair .nil (.pair (.own 608) (.leaf (.slice bj)))))))),(608, .own 74 aA)],[],610⟩,O,T,P ⟨[(86, .l az)],[(464, .box 32 (.pair (.leaf az) (.pair (.leaf (.slice aB)) (.pair .nil (.pair .nil (.pair (.own 736) (.leaf (.slice bj)))))))),(736, .own 74 aA)],[],738⟩,X,X,O,T,O,O,T,P ⟨[(110, .l az)],[(336, .box 55 (.pair .nil (.pair .nil (.own 850)))),(464, .box 32 (.pair (.leaf az) (.pair (.leaf (.slice aB)) (.pair .nil (.pair (.own 851) (.pair (.own 608) (.leaf (.slice bj)))))))),(608, .own 74 aA),(850, .own 63 aG),(851, .own 27 (.slice aB))],[],855⟩] Tryz.func15
def M.wm(N:Nat)(a:List aA.den):Option (List bn.den):=
aa ([((⟨#[104,111,117,115,101]⟩:ByteArray),((-1),(([((⟨#[97]⟩:ByteArray),(3,0))]:List bJ.den),(([((⟨#[100]⟩:ByteArray),(3,0))]:List bJ.den),([((⟨#[98,97,115,101]⟩:ByteArray),(0,((-1),(0,((0,109573),(([]:List aA.den),(a,asg)))))))]:List dX.den)))))]:List bn.den)
def W22:Fo 22 (.i1 [.l (.slice aA)]) (.j1 [.val af (.pair .nil (.pair .nil (.own 0)))] [.own 68 bn] 1) (M.wm N):=fz N [] [] Tryz.func22
def M.pT(b:List Int)(c:List Int):Option Bool:=
(if(!ah ((b.length:Int)=(c.length:Int)))then
aa ag
else
Loop (S:=Int) (X:=Bool) (λa=>aqM (if(ah (a<(b.length:Int)))then
aa (ah (a<(c.length:Int)))
else
aa ag) λd=>(if d then
aqM (idx b a) λe=>aqM (idx c a) λf=>(if(!ah (e=f))then
aa (.inr ag)
else
aa (.inl (aqO.wrap (a+1))))
else
aa (.inr af))) N 0)
def W23:Fo 23 (.i1 [.l (.slice az), .l (.slice az)]) (.i1 [.l .bool]) (u2 (M.pT N)):=fz N [] [O,O,T,O,T,L 5 112,T,B 20 112] Tryz.func23
def M.o3:Option Bool:=
aqM (M.du N (0,(([([(1,1)]:List aA.den),([(1,0)]:List aA.den)]:List (List aA.den)),(([]:List Int),([]:List aM.den)))) (0,(([]:List aB.den),(([]:List aB.den),(([]:List (List aB.den)),(([]:List aA.den),([]:List bj.den))))))) λb=>aqM (M.du N (0,(([([(1,1)]:List aA.den),([(2,5)]:List aA.den)]:List (List aA.den)),(([]:List Int),([]:List aM.den)))) (0,(([]:List aB.den),(([]:List aB.den),(([]:List (List aB.den)),(([]:List aA.den),([]:List bj.den))))))) λc=>aqM (M.wm N ([(7,0)]:List aA.den)) λd=>aqM (M.cN N (([]:List di.den),(([]:List bj.den),d)) 0 (36525,(([(3,(0,1250))]:List aB.den),([]:List (List aB.den))))) λa=>aqM (if(ah (b.1=1))then(if(ah (b.2.1=(-1)))then(if(ah (b.2.2=0))then(if(ah (c.1=0))then(if(ah (c.2.1=1))then(if(ah (c.2.2=8))then(if(ah (a.1.1=0))then(if(ah ((a.2.1.length:Int)=1))then
aqM (idx a.2.1 0) λe=>(if(ah (e.2.2=1250))then
aqM (M.pT N a.2.2.1 ([0]:List Int)) λf=>aa f
else
aa ag)
else
aa ag)
else
aa ag)
else
aa ag)
else
aa ag)
else
aa ag)
else
aa ag)
else
aa ag)
else
aa ag) λg=>aa g
def W9:Fo 9 (.i1 []) (.i1 [.l .bool]) (λ(x:Unit)=>M.o3 N):=fz N [W10 N,W15 N,W22 N,W23 N] [O,O,O,O,O,O,B 0 816] Tryz.func9
def M.gw(N:Nat)(a:Int):Option Int:=
aqM (if(ah (1<=a))then(if(ah (a<=9))then
aa af
else(if(ah (35<=a))then
aa (ah (a<=39))
else
aa ag))
else(if(ah (35<=a))then
aa (ah (a<=39))
else
aa ag)) λb=>(if b then
aa 0
else
aqM (if(ah (a=10))then
aa (ah (a=10))
else(if(ah (a=25))then
aa (ah (a=25))
else(if(ah (a=31))then
aa (ah (a=31))
else(if(ah (a=32))then
aa (ah (a=32))
else(if(ah (a=33))then
aa (ah (a=33))
else
aa (ah (a=34))))))) λc=>(if c then
aa 1
else(if(ah (a=26))then
aa 3
else
aqM (if(ah (11<=a))then
aa (ah (a<=30))
else
aa ag) λd=>(if d then
aa 2
else
aa (-1)))))
def W80:Fo 80 (.i1 [.l az]) (.i1 [.l az]) (M.gw N):=fz N [] [O,T,B 16 16,T,O,T,B 18 32,X,T,B 32 64] Tryz.func80
def M.ij(b:List aA.den):Option (Int×Int×List Int):=
(if(ah (48<(b.length:Int)))then
aa (0,4,([]:List Int))
else(if(ah ((b.length:Int)=0))then
aa (0,5,([]:List Int))
else
bS (J:=(List Int)×List Int) (R:=Int×Int×List Int) (Loop (S:=Int×(List Int)×List Int) (X:=((List Int)×List Int)⊕(Int×Int×List Int)) (λa=>(if(ah (a.1<(b.length:Int)))then
aqM (idx b a.1) λg=>aqM (M.gw N g.1) λc=>(if(ah (c<0))then
aa (.inr (.inr (a.1,2,([]:List Int))))
else(if(ah ((a.2.2.length:Int)<c))then
aa (.inr (.inr (a.1,5,([]:List Int))))
else
aqM ((if(ah (0<c))then
aqM (idx a.2.2 (aqO.wrap ((a.2.2.length:Int)-c))) λh=>aqM (iE a.2.2 0 (aqO.wrap ((a.2.2.length:Int)-c))) λi=>aa (h,i)
else
aa (a.1,a.2.2)):Option (Int×List Int)) λd=>aqM (cD d.2 ([d.1]:List Int)) λe=>aqM (cD a.2.1 ([d.1]:List Int)) λj=>(if(ah (12<(e.length:Int)))then
aa (.inr (.inr (a.1,16,([]:List Int))))
else
aa (.inl (aqO.wrap (a.1+1),j,e)))))
else
aa (.inr (.inl (a.2.1,a.2.2))))) N (0,([]:List Int),([]:List Int))) λf=>(if(ah (1<(f.2.length:Int)))then
aa ((b.length:Int),4,([]:List Int))
else
aa (0,0,f.1))))
def W51:Fo 51 (.i1 [.l (.slice aA)]) (.j1 [.val ag (.own 0), .l az, .l az] [.own 3 az] 1) (M.ij N):=fz N [W80 N] [O,O,O,O,J ⟨[(5, .val ag (.own 176)),(6, .val ag (.own 177))],[(176, .own 3 az),(177, .own 3 az)],[],178⟩,O,T,P ⟨[(5, .val ag (.own 192)),(6, .val ag (.own 193)),(7, .l az)],[(192, .own 3 az),(193, .own 3 az)],[],194⟩,O,T,T,O,O,O,O,R ⟨[(6, .val ag (.own 498)),(9, .l az)],[(498, .own 3 az)],[193],499⟩] Tryz.func51
def M.pG(b:List aA.den):Option (Int×List Int):=
aqM (M.ij N b) λa=>aa (a.2.1,a.2.2)
def W25:Fo 25 (.i1 [.l (.slice aA)]) (.j1 [.val ag (.own 0), .l az] [.own 3 az] 1) (M.pG N):=fz N [W51 N] [] Tryz.func25
def M.nu(c:List aA.den)(b:Int):Option (List Int):=
aqM (M.ij N c) λd=>aqM (if(!ah (d.2.1=0))then
aa af
else(if(ah (b<0))then
aa af
else
aa (ah ((c.length:Int)<=b)))) λf=>(if f then
aa ([]:List Int)
else
aqM (idx c b) λg=>aqM (M.gw N g.1) λe=>aqM (qh e 0) λh=>Loop (S:=Int×Int×List Int) (X:=List Int) (λa=>(if(ah (0<=a.2.1))then
aqM (idx a.2.2 a.2.1) λj=>aqM (idx d.2.2 a.1) λi=>aa (.inl (aqO.wrap (i-1),aqO.wrap (a.2.1-1),bH a.2.2 a.2.1 a.1))
else
aa (.inr a.2.2))) N (aqO.wrap (b-1),aqO.wrap (e-1),h))
def W52:Fo 52 (.i1 [.l (.slice aA), .l az]) (.w1 3 az) (u2 (M.nu N)):=fz N [W51 N,W80 N] [O,O,T,B 29 160,O,O,O,T,O,T,P ⟨[(10, .l az),(11, .l az)],[(288, .own 3 az)],[],417⟩] Tryz.func52
def M.ll(N:Nat)(a:Int):Option (Int×Int):=
(if(ah (a=1))then
aa (0,1)
else(if(ah (a=2))then
aa ((-1000000000000),1000000000000)
else(if(ah (a=3))then
aa ((-1000000000000000),1000000000000000)
else(if(ah (a=4))then
aa ((-1000000000),1000000000)
else(if(ah (a=5))then
aa (0,109572)
else(if(ah (a=6))then
aa (0,15)
else
aa (0,(-1))))))))
def abd:Fo 128 (.i1 [.l az]) (.i1 [.l az, .l az]) (M.ll N):=fz N [] [] Tryz.func128
def M.cu(a:aB.den):Option Bool:=
aqM (M.ll N a.1) λb=>aqM (if(ah (a.2.2<b.1))then
aa af
else
aa (ah (b.2<a.2.2))) λc=>(if c then
aa ag
else(if(ah (a.1=6))then
aqM (if(ah (0<=a.2.1))then
aa (ah (a.2.1<8))
else
aa ag) λd=>aa d
else
aa (ah (a.2.1=0))))
def Zl:Fo 81 (.i1 [.g aB]) (.i1 [.l .bool]) (M.cu N):=fz N [abd N] [O,O,T,B 20 160,T,O,T,B 2 208] Tryz.func81
def M.lW(N:Nat)(a:Int):Option Bool:=
aqM (if(ah (1<=a))then(if(ah (a<=8))then
aa af
else(if(ah (36<=a))then
aa (ah (a<=39))
else
aa ag))
else(if(ah (36<=a))then
aa (ah (a<=39))
else
aa ag)) λb=>(if b then
aa af
else
aqM (if(ah (a=14))then
aa af
else(if(ah (a=15))then
aa af
else(if(ah (a=16))then
aa af
else(if(ah (a=33))then
aa af
else
aa (ah (a=34)))))) λc=>aa c)
def agC:Fo 129 (.i1 [.l az]) (.i1 [.l .bool]) (M.lW N):=fz N [] [O,T,B 16 16,B 2 16] Tryz.func129
def M.lm(a:aA.den)(b:Int):Option Bool:=
aqM (aqM (M.gw N a.1) λc=>(if(!ah (c=b))then
aa af
else(if(!ah (a.2=0))then
aqM (M.lW N a.1) λd=>aa (!d)
else
aa ag)):Option Bool) λe=>(if e then
aa ag
else
aqM (if(ah (a.1=14))then
aa (ah (a.1=14))
else(if(ah (a.1=15))then
aa (ah (a.1=15))
else
aa (ah (a.1=16)))) λf=>(if f then
aqM (if(ah (0<=a.2))then
aa (ah (a.2<=5))
else
aa ag) λg=>aa g
else(if(ah (a.1=34))then
aqM (if(ah (0<=a.2))then
aa (ah ((aq3 a.2 8)<=5))
else
aa ag) λh=>aa h
else(if(ah (a.1=6))then
aa (ah (0<=a.2))
else
aa af))))
def W82:Fo 82 (.i1 [.g aA, .l az]) (.i1 [.l .bool]) (u2 (M.lm N)):=fz N [W80 N,agC N] [O,T,B 20 32,T,O,T,R ⟨[(23, .l .bool)],[],[],64⟩,X,T,B 4 64,O,T,B 4 96] Tryz.func82
def M.o4(N:Nat)(a:aA.den)(b:b8.den):Option Bool:=
(if(ah (a.1=7))then
aqM (if(ah (0<=a.2))then
aa (ah (a.2<(b.2.1.length:Int)))
else
aa ag) λc=>aa c
else(if(ah (a.1=8))then
aqM (if(ah (0<=a.2))then(if(ah (a.2<(b.2.2.1.length:Int)))then
aqM (idx b.2.2.1 a.2) λd=>aa (!ah (d.1=0))
else
aa ag)
else
aa ag) λe=>aa e
else(if(ah (a.1=33))then
aqM (if(ah (0<=a.2))then
aa (ah (a.2<(b.2.2.2.2.2.length:Int)))
else
aa ag) λf=>aa f
else(if(ah (a.1=34))then
aa (ah ((aqO.wrap (aq1 a.2 8))<(b.2.2.2.2.2.length:Int)))
else
aqM (if(ah (a.1=36))then
aa (ah (a.1=36))
else(if(ah (a.1=37))then
aa (ah (a.1=37))
else(if(ah (a.1=38))then
aa (ah (a.1=38))
else
aa (ah (a.1=39))))) λg=>(if g then
aqM (if(ah (0<=a.2))then
aa (ah (a.2<(b.2.2.2.2.1.length:Int)))
else
aa ag) λh=>aa h
else
aa af)))))
def W83:Fo 83 (.i1 [.g aA, .g b8]) (.i1 [.l .bool]) (u2 (M.o4 N)):=fz N [] [O,T,O,T,O,T,B 4 112,O,T,B 4 144,O,T,B 4 176,O,O,R ⟨[(65, .l .bool)],[],[],208⟩,X,T,B 4 208] Tryz.func83
def M.oH(N:Nat)(b:Int)(a:aA.den):Option Bool:=
(if(!ah (a.2=0))then
aa ag
else(if(ah (b=36))then
aqM (if(ah (a.1=2))then
aa af
else
aa (ah (a.1=3))) λc=>aa c
else(if(ah (b=39))then
aqM (if(ah (2<=a.1))then
aa (ah (a.1<=5))
else
aa ag) λd=>aa d
else
aa (ah (a.1=1)))))
def agD:Fo 130 (.i1 [.l az, .g aA]) (.i1 [.l .bool]) (u2 (M.oH N)):=fz N [] [O,O,T,O,T,O,T,B 4 128,O,T,B 4 160] Tryz.func130
def M.uk(a:aB.den)(b:aA.den):Option Bool:=
aqM (aqM (M.cu N a) λc=>(if c then(if(ah (a.1=b.1))then
aa (ah (a.2.1=b.2))
else
aa ag)
else
aa ag):Option Bool) λd=>aa d
def agE:Fo 131 (.i1 [.g aB, .g aA]) (.i1 [.l .bool]) (u2 (M.uk N)):=fz N [Zl N] [O,B 4 48] Tryz.func131
def M.rZ(N:Nat)(c:Int)(a:Int)(b:Int)(d:Bool):Option Int:=
(if(ah (c=36))then
aa (aqO.wrap (a+b))
else(if(ah (c=37))then
aa (aqO.wrap (a*b))
else(if(ah (c=38))then(if(ah (a<b))then
aa b
else
aa a)
else
aqM (if d then
aa af
else
aa (ah (a<b))) λe=>(if e then
aa b
else
aa a))))
def agF:Fo 132 (.i1 [.l az, .l az, .l az, .l .bool]) (.i1 [.l az]) (u4 (M.rZ N)):=fz N [] [O,O,T,B 32 128] Tryz.func132
def M.cS(a:Int)(b:Int):Option (aB.den×Int):=
aqM (M.cu N (a,(0,b))) λc=>(if(!c)then
aa ((0,(0,0)),3)
else
aa ((a,(0,b)),0))
def JK:Fo 133 (.i1 [.l az, .l az]) (.i1 [.g aB, .l az]) (u2 (M.cS N)):=fz N [Zl N] [] Tryz.func133
def M.oI(a:aA.den)(c:b8.den):Option (aB.den×Int):=
aqM (idx c.2.2.2.2.1 a.2) λd=>aqM (M.oH N a.1 d) λi=>(if(!i)then
aa ((0,(0,0)),8)
else
aqM ((if(ah (a.1=37))then
aa 1
else
aa 0):Option Int) λj=>bS (J:=Int) (R:=aB.den×Int) (Loop (S:=Int×Int) (X:=Int⊕(aB.den×Int)) (λb=>(if(ah (b.2<(c.2.2.2.1.length:Int)))then
aqM (idx c.2.2.2.1 b.2) λe=>aqM (if(ah ((e.length:Int)<=a.2))then
aa af
else
aqM (idx e a.2) λk=>aa (ah (k.1=0))) λl=>(if l then
aa (.inr (.inr ((0,(0,0)),6)))
else
aqM (idx e a.2) λm=>aqM (M.uk N m d) λn=>(if(!n)then
aa (.inr (.inr ((0,(0,0)),8)))
else
aqM (idx e a.2) λo=>aqM (M.rZ N a.1 b.1 o.2.2 (ah (b.2=0))) λf=>aqM (M.cS N d.1 f) λg=>(if(!ah (g.2=0))then
aa (.inr (.inr ((0,(0,0)),g.2)))
else
aa (.inl (f,aqO.wrap (b.2+1))))))
else
aa (.inr (.inl b.1)))) N (j,0)) λp=>aqM (if(ah (a.1=39))then
aa (ah ((c.2.2.2.1.length:Int)=0))
else
aa ag) λq=>(if q then
aa ((0,(0,0)),6)
else
aqM (M.cS N d.1 p) λh=>aa (h.1,h.2)))
def W84:Fo 84 (.i1 [.g aA, .g b8]) (.i1 [.g aB, .l az]) (u2 (M.oI N)):=fz N [agD N,agE N,agF N,JK N] [O,O,O,O,R ⟨[(7, .l az)],[],[],288⟩,X,J ⟨[(7, .l az)],[],[],288⟩,O,T,P ⟨[(7, .l az),(8, .l az)],[],[],304⟩,O,T,T,O,T,B 52 480,X,X,X,X,T,B 94 288] Tryz.func84
def M.cO(a:aA.den)(b:b8.den):Option (aB.den×Int):=
(if(ah (a.1=7))then
aqM (idx b.2.1 a.2) λf=>aqM (M.cu N f) λg=>(if(!g)then
aa ((0,(0,0)),8)
else
aqM (idx b.2.1 a.2) λh=>aa (h,0))
else(if(ah (a.1=8))then
aqM (idx b.2.2.1 a.2) λi=>aqM (M.cu N i) λj=>(if(!j)then
aa ((0,(0,0)),8)
else
aqM (idx b.2.2.1 a.2) λk=>aa (k,0))
else(if(ah (a.1=9))then
aqM (M.cS N 5 b.1) λc=>aa (c.1,c.2)
else(if(ah (a.1=35))then
aqM (M.cS N 2 (b.2.2.2.1.length:Int)) λd=>aa (d.1,d.2)
else(if(ah (a.1=6))then
aqM (M.cu N (6,(aqO.wrap (aq1 a.2 16),aq3 a.2 16))) λl=>(if(!l)then
aa ((0,(0,0)),3)
else
aa ((6,(aqO.wrap (aq1 a.2 16),aq3 a.2 16)),0))
else
aqM (M.cS N a.1 a.2) λe=>aa (e.1,e.2))))))
def W85:Fo 85 (.i1 [.g aA, .g b8]) (.i1 [.g aB, .l az]) (u2 (M.cO N)):=fz N [Zl N,JK N] [] Tryz.func85
def M.da(N:Nat)(a:Int):Option Bool:=
aqM (if(ah (a=2))then
aa af
else(if(ah (a=3))then
aa af
else
aa (ah (a=4)))) λb=>aa b
def abe:Fo 134 (.i1 [.l az]) (.i1 [.l .bool]) (M.da N):=fz N [] [O,B 2 16] Tryz.func134
def M.fK(N:Nat)(a:Bool):Option (aB.den×Int):=
aqM ((if a then
aa 1
else
aa 0):Option Int) λb=>aa ((1,(0,b)),0)
def abf:Fo 135 (.i1 [.l .bool]) (.i1 [.g aB, .l az]) (M.fK N):=fz N [] [O,O,R ⟨[(4, .l az)],[],[],48⟩] Tryz.func135
def M.kS(N:Nat)(a:Int):Option Bool:=
aqM (if(ah (0<=a))then
aa (ah (a<=109572))
else
aa ag) λb=>aa b
def X4:Fo 203 (.i1 [.l az]) (.i1 [.l .bool]) (M.kS N):=fz N [] [O,B 2 16] Tryz.func203
def M.pH(N:Nat)(a:Int):Option Bool:=
aqM (if(ah ((aq3 a 4)=0))then(if(!ah ((aq3 a 100)=0))then
aa af
else
aa (ah ((aq3 a 400)=0)))
else
aa ag) λb=>aa b
def abg:Fo 272 (.i1 [.l az]) (.i1 [.l .bool]) (M.pH N):=fz N [] [O,B 2 16] Tryz.func272
def M.gC(a:Int):Option Int:=
aqM (M.pH N a) λb=>(if b then
aa 366
else
aa 365)
def abh:Fo 204 (.i1 [.l az]) (.i1 [.l az]) (M.gC N):=fz N [abg N] [] Tryz.func204
def M.dS(b:Int)(a:Int):Option Int:=
(if(ah (a=2))then
aqM (M.pH N b) λc=>(if c then
aa 29
else
aa 28)
else
aqM (if(ah (a=4))then
aa (ah (a=4))
else(if(ah (a=6))then
aa (ah (a=6))
else(if(ah (a=9))then
aa (ah (a=9))
else
aa (ah (a=11))))) λd=>(if d then
aa 30
else
aqM (if(ah (a=1))then
aa (ah (a=1))
else(if(ah (a=3))then
aa (ah (a=3))
else(if(ah (a=5))then
aa (ah (a=5))
else(if(ah (a=7))then
aa (ah (a=7))
else(if(ah (a=8))then
aa (ah (a=8))
else(if(ah (a=10))then
aa (ah (a=10))
else
aa (ah (a=12)))))))) λe=>(if e then
aa 31
else
aa 0)))
def X5:Fo 205 (.i1 [.l az, .l az]) (.i1 [.l az]) (u2 (M.dS N)):=fz N [abg N] [O,T,O,T,O,O,R ⟨[(10, .l .bool)],[],[],64⟩,X,O,B 15 64] Tryz.func205
def M.ju(d:Int):Option (Int×Int×Int):=
aqM (M.kS N d) λf=>(if(!f)then
aa (0,0,0)
else
aqM (Loop (S:=Int×Int) (X:=Int×Int) (λa=>aqM (M.gC N a.2) λg=>(if(ah (g<=a.1))then
aqM (M.gC N a.2) λh=>aa (.inl (aqO.wrap (a.1-h),aqO.wrap (a.2+1)))
else
aa (.inr (a.1,a.2)))) N (d,1900):Option (Int×Int)) λc=>aqM (Loop (S:=Int×Int) (X:=Int×Int) (λb=>aqM (M.dS N c.2 b.2) λi=>(if(ah (i<=b.1))then
aqM (M.dS N c.2 b.2) λj=>aa (.inl (aqO.wrap (b.1-j),aqO.wrap (b.2+1)))
else
aa (.inr (b.1,b.2)))) N (c.1,1):Option (Int×Int)) λe=>aa (c.2,e.2,aqO.wrap (e.1+1)))
def abi:Fo 136 (.i1 [.l az]) (.i1 [.l az, .l az, .l az]) (M.ju N):=fz N [X4 N,abh N,X5 N] [O,O,O,R ⟨[(0, .l az),(5, .l az)],[],[],128⟩,T,P ⟨[(0, .l az),(5, .l az)],[],[],128⟩,X,X,R ⟨[(0, .l az),(6, .l az)],[],[],128⟩,T,P ⟨[(0, .l az),(6, .l az)],[],[],128⟩] Tryz.func136
def M.jv(N:Nat)(a:aA.den):Option Bool:=
aqM (if(ah (0<=a.1))then(if(ah (a.1<=a.2))then
aa (ah (a.2<=109573))
else
aa ag)
else
aa ag) λb=>aa b
def Uu:Fo 245 (.i1 [.g aA]) (.i1 [.l .bool]) (M.jv N):=fz N [] [O,B 2 32] Tryz.func245
def M.gQ(a:aA.den)(b:Int):Option Bool:=
aqM (aqM (M.jv N a) λc=>(if c then(if(ah (a.1<=b))then
aa (ah (b<a.2))
else
aa ag)
else
aa ag):Option Bool) λd=>aa d
def X6:Fo 209 (.i1 [.g aA, .l az]) (.i1 [.l .bool]) (u2 (M.gQ N)):=fz N [Uu N] [O,B 4 32] Tryz.func209
def M.oJ(a:iW.den)(c:Int)(b:Int):Option Bool:=
aqM (aqM (M.gQ N a.1 c) λd=>(if d then(if(ah (a.2.1<=b))then
aa (ah (b<a.2.2.1))
else
aa ag)
else
aa ag):Option Bool) λe=>aa e
def agG:Fo 273 (.i1 [.g iW, .l az, .l az]) (.i1 [.l .bool]) (u3 (M.oJ N)):=fz N [X6 N] [O,B 6 32] Tryz.func273
def M.nv(b:bj.den)(c:Int)(d:Int):Option (Int×Bool):=
Loop (S:=Int) (X:=Int×Bool) (λa=>(if(ah (a<(b.2.2.2.length:Int)))then
aqM (idx b.2.2.2 a) λe=>aqM (M.oJ N e c d) λf=>(if f then
aa (.inr (a,af))
else
aa (.inl (aqO.wrap (a+1))))
else
aa (.inr (0,ag)))) N 0
def agH:Fo 206 (.i1 [.g bj, .l az, .l az]) (.i1 [.l az, .l .bool]) (u3 (M.nv N)):=fz N [agG N] [O,T,O,T,L 8 64] Tryz.func206
def M.r3(a:bj.den)(e:Int)(b:aB.den):Option (aB.den×Int):=
aqM (if(!ah (b.1=a.2.1.1))then
aa af
else(if(!ah (b.2.1=a.2.1.2))then
aa af
else(if(ah (a.2.2.1.1<1))then
aa af
else
aa (ah (6<a.2.2.1.1))))) λf=>(if f then
aa ((0,(0,0)),8)
else
aqM (M.nv N a e b.2.2) λc=>(if(!c.2)then
aa ((0,(0,0)),6)
else
aqM (idx a.2.2.2 c.1) λd=>aqM (M.cu N (a.2.2.1.1,(a.2.2.1.2,d.2.2.2))) λg=>(if(!g)then
aa ((0,(0,0)),3)
else
aa ((a.2.2.1.1,(a.2.2.1.2,d.2.2.2)),0))))
def agI:Fo 137 (.i1 [.g bj, .l az, .g aB]) (.i1 [.g aB, .l az]) (u3 (M.r3 N)):=fz N [Zl N,agH N] [O,T,B 36 64] Tryz.func137
def M.mz(N:Nat)(a:Int):Option Bool:=
aqM (if(ah (0<=a))then
aa (ah (a<=5))
else
aa ag) λb=>aa b
def Uv:Fo 207 (.i1 [.l az]) (.i1 [.l .bool]) (M.mz N):=fz N [] [O,B 2 16] Tryz.func207
def M.dI(N:Nat)(a:Int)(b:Int):Option Bool:=
aqM (if(ah (b<a))then
aa af
else
aa (ah (a<(aqO.wrap (0-b))))) λc=>aa c
def Uw:Fo 208 (.i1 [.l az, .l az]) (.i1 [.l .bool]) (u2 (M.dI N)):=fz N [] [O,B 4 16] Tryz.func208
def M.jE(N:Nat)(b:Int)(c:Int):Option (Int×Int×Bool):=
aqM ((if(ah (c<0))then
aa (aqQ.wrap ((aqQ.wrap (aqO.wrap (0-(aqO.wrap (c+1)))))+1))
else
aa (aqQ.wrap c)):Option Int) λa=>aqM (if(ah (0<(aqO.wrap (aqQ.wrap (aq1 a 1000000)))))then
aqM (n9 1000000000000000 (aqO.wrap (aqQ.wrap (aq1 a 1000000)))) λd=>aa (ah ((aqO.wrap d)<b))
else
aa ag) λe=>(if e then
aa (0,0,ag)
else(if(ah (1000000000000000<(aqO.wrap ((aqO.wrap ((aqO.wrap (b*(aqO.wrap (aqQ.wrap (aq1 a 1000000)))))+(aqO.wrap ((aqO.wrap (aq1 b 1000000))*(aqO.wrap (aq3 a 1000000))))))+(aqO.wrap (aq1 (aqO.wrap ((aq3 b 1000000)*(aqO.wrap (aq3 a 1000000)))) 1000000))))))then
aa (0,0,ag)
else(if(ah (c<0))then
aa (aqO.wrap (0-(aqO.wrap ((aqO.wrap ((aqO.wrap (b*(aqO.wrap (aqQ.wrap (aq1 a 1000000)))))+(aqO.wrap ((aqO.wrap (aq1 b 1000000))*(aqO.wrap (aq3 a 1000000))))))+(aqO.wrap (aq1 (aqO.wrap ((aq3 b 1000000)*(aqO.wrap (aq3 a 1000000)))) 1000000))))),aqO.wrap (0-(aq3 (aqO.wrap ((aq3 b 1000000)*(aqO.wrap (aq3 a 1000000)))) 1000000)),af)
else
aa (aqO.wrap ((aqO.wrap ((aqO.wrap (b*(aqO.wrap (aqQ.wrap (aq1 a 1000000)))))+(aqO.wrap ((aqO.wrap (aq1 b 1000000))*(aqO.wrap (aq3 a 1000000))))))+(aqO.wrap (aq1 (aqO.wrap ((aq3 b 1000000)*(aqO.wrap (aq3 a 1000000)))) 1000000))),aq3 (aqO.wrap ((aq3 b 1000000)*(aqO.wrap (aq3 a 1000000)))) 1000000,af))))
def agJ:Fo 210 (.i1 [.l az, .l az]) (.i1 [.l az, .l az, .l .bool]) (u2 (M.jE N)):=fz N [] [O,O,R ⟨[(7, .l (.int .u64))],[],[],96⟩,X,O,T,B 34 224] Tryz.func210
def M.gx(N:Nat)(c:Int)(a:Int)(d:Int)(e:Bool)(b:Int):Option Int:=
aqM (if(ah (b=0))then(if e then
aa (ah (0<a))
else
aa ag)
else(if(ah (b=1))then(if(!e)then
aa (ah (0<a))
else
aa ag)
else(if(ah (b=3))then
aa (ah (0<a))
else(if(ah (b=4))then
aa (ah ((aqO.wrap (d-a))<=a))
else(if(ah (b=5))then(if(ah ((aqO.wrap (d-a))<a))then
aa af
else(if(ah (a=(aqO.wrap (d-a))))then
aa (ah ((aq3 c 2)=1))
else
aa ag))
else
aa ag))))) λg=>aqM ((if g then
aa (aqO.wrap (c+1))
else
aa c):Option Int) λf=>(if e then
aa (aqO.wrap (0-f))
else
aa f)
def Ux:Fo 274 (.i1 [.l az, .l az, .l az, .l .bool, .l az]) (.i1 [.l az]) (u5 (M.gx N)):=fz N [] [O,O,T,O,B 11 48,R ⟨[(0, .l az)],[],[],48⟩] Tryz.func274
def M.oK(f:Int)(g:Int)(d:Int):Option Int:=
aqM (Loop (S:=Int×Int) (X:=Int×Int) (λb=>(if(ah (b.2<0))then
aa (.inl (aqO.wrap (b.1-1),aqO.wrap (b.2+1000000)))
else
aa (.inr (b.1,b.2)))) N (f,g):Option (Int×Int)) λe=>aqM (Loop (S:=Int×Int) (X:=Int×Int) (λc=>(if(ah (1000000<=c.2))then
aa (.inl (aqO.wrap (c.1+1),aqO.wrap (c.2-1000000)))
else
aa (.inr (c.1,c.2)))) N (e.1,e.2):Option (Int×Int)) λa=>(if(ah (0<=a.1))then
aqM (M.gx N a.1 a.2 1000000 ag d) λh=>aa h
else(if(ah (a.2=0))then
aa a.1
else
aqM (M.gx N (aqO.wrap ((aqO.wrap (0-a.1))-1)) (aqO.wrap (1000000-a.2)) 1000000 af d) λi=>aa i))
def agK:Fo 211 (.i1 [.l az, .l az, .l az]) (.i1 [.l az]) (u3 (M.oK N)):=fz N [Ux N] [O,R ⟨[(0, .l az),(1, .l az)],[],[],16⟩,T,P ⟨[(0, .l az),(1, .l az)],[],[],16⟩,X,X,R ⟨[(0, .l az),(1, .l az)],[],[],16⟩,T,P ⟨[(0, .l az),(1, .l az)],[],[],16⟩] Tryz.func211
def M.nw(b:bj.den)(k:Int)(c:Int)(g:Int):Option (Int×Int):=
aqM (M.mz N g) λl=>(if(!l)then
aa (0,1)
else
aqM (if(!(mD aA b.2.1 (3,0)))then
aa af
else
aa (!(mD aA b.2.2.1 (4,0)))) λm=>(if m then
aa (0,8)
else
aqM (M.dI N c 1000000000000000) λn=>(if n then
aa (0,3)
else
bS (J:=Int×Int) (R:=Int×Int) (Loop (S:=Int×Int×Int) (X:=(Int×Int)⊕(Int×Int)) (λa=>(if(ah (a.2.2<(b.2.2.2.length:Int)))then
bS (J:=Int×Int) (R:=(Int×Int×Int)⊕((Int×Int)⊕(Int×Int))) (aqM (idx b.2.2.2 a.2.2) λd=>aqM (idx b.2.2.2 a.2.2) λe=>aqM (if(ah ((if c<e.2.2.1 then c else e.2.2.1)<=(if d.2.1<0 then 0 else d.2.1)))then
aa af
else
aqM (idx b.2.2.2 a.2.2) λo=>aqM (M.gQ N o.1 k) λp=>aa (!p)) λq=>(if q then
aa (.inl (a.1,a.2.1))
else
aqM (idx b.2.2.2 a.2.2) λr=>aqM (M.jE N (aqO.wrap ((if c<e.2.2.1 then c else e.2.2.1)-(if d.2.1<0 then 0 else d.2.1))) r.2.2.2) λf=>(if(!f.2.2)then
aa (.inr (.inr (.inr (0,3))))
else
aa (.inl (aqO.wrap (a.1+f.1),aqO.wrap (a.2.1+f.2.1)))))) λh=>aa (.inl (h.1,h.2,aqO.wrap (a.2.2+1)))
else
aa (.inr (.inl (a.1,a.2.1))))) N (0,0,0)) λi=>aqM (M.oK N i.1 i.2 g) λj=>aqM (M.dI N j 1000000000000000) λs=>(if s then
aa (0,3)
else
aa (j,0)))))
def agL:Fo 138 (.i1 [.g bj, .l az, .l az, .l az]) (.i1 [.l az, .l az]) (u4 (M.nw N)):=fz N [Uv N,Uw N,X6 N,agJ N,agK N] [O,O,T,B 31 96,O,O,J ⟨[(10, .l az),(11, .l az)],[],[],160⟩,O,T,P ⟨[(10, .l az),(11, .l az),(12, .l az)],[],[],176⟩,O,T,J ⟨[(10, .l az),(11, .l az)],[],[],256⟩,O,T,B 69 528] Tryz.func138
def M.iL(c:Int)(d:Int)(a:Int):Option (aB.den×Int):=
(if(!ah (a=0))then
aa ((0,(0,0)),a)
else
aqM (M.cS N c d) λb=>aa (b.1,b.2))
def X7:Fo 139 (.i1 [.l az, .l az, .l az]) (.i1 [.g aB, .l az]) (u3 (M.iL N)):=fz N [JK N] [] Tryz.func139
def M.cB(a:aA.den)(b:aB.den)(d:b8.den):Option (aB.den×Int):=
(if(ah (a.1=10))then
aqM (M.da N b.1) λm=>(if(!m)then
aa ((0,(0,0)),8)
else
aqM (M.cS N b.1 (aqO.wrap (0-b.2.2))) λe=>aa (e.1,e.2))
else(if(ah (a.1=25))then(if(!ah (b.1=1))then
aa ((0,(0,0)),8)
else
aqM (M.fK N (ah (b.2.2=0))) λf=>aa (f.1,f.2))
else
aqM (if(ah (a.1=31))then
aa (ah (a.1=31))
else
aa (ah (a.1=32))) λn=>(if n then(if(!ah (b.1=5))then
aa ((0,(0,0)),8)
else
aqM (M.ju N b.2.2) λg=>(if(ah (a.1=31))then
aqM (M.cS N 2 g.1) λh=>aa (h.1,h.2)
else
aqM (M.cS N 2 g.2.1) λi=>aa (i.1,i.2)))
else(if(ah (a.1=33))then
aqM (idx d.2.2.2.2.2 a.2) λo=>aqM (M.r3 N o d.1 b) λj=>aa (j.1,j.2)
else
aqM (idx d.2.2.2.2.2 (aqO.wrap (aq1 a.2 8))) λc=>aqM (if(!ah (b.1=3))then
aa af
else(if(!ah (c.2.1.1=3))then
aa af
else(if(!ah (c.2.1.2=0))then
aa af
else(if(!ah (c.2.2.1.1=4))then
aa af
else
aa (!ah (c.2.2.1.2=0)))))) λp=>(if p then
aa ((0,(0,0)),8)
else
aqM (M.nw N c d.1 b.2.2 (aq3 a.2 8)) λk=>aqM (M.iL N 3 k.1 k.2) λl=>aa (l.1,l.2))))))
def W86:Fo 86 (.i1 [.g aA, .g aB, .g b8]) (.i1 [.g aB, .l az]) (u3 (M.cB N)):=fz N [JK N,abe N,abf N,abi N,agI N,agL N,X7 N] [O,T,O,T,O,O,O,O,B 43 176,X,O,T,B 115 352] Tryz.func86
def M.oL(c:Int)(a:Int)(b:Int):Option (aB.den×Int):=
aqM (M.ll N c) λf=>aqM ((if(ah (a<0))then
aa (aqO.wrap (0-a))
else
aa a):Option Int) λg=>aqM ((if(ah (b<0))then
aa (aqO.wrap (0-b))
else
aa b):Option Int) λd=>aqM (if(!ah (d=0))then
aqM (n9 f.2 d) λh=>aa (ah ((aqO.wrap h)<g))
else
aa ag) λi=>(if i then
aa ((0,(0,0)),3)
else
aqM (M.cS N c (aqO.wrap (a*b))) λe=>aa (e.1,e.2))
def agM:Fo 212 (.i1 [.l az, .l az, .l az]) (.i1 [.g aB, .l az]) (u3 (M.oL N)):=fz N [abd N,JK N] [O,O,O,O,R ⟨[(10, .l az)],[],[],208⟩,X,R ⟨[(11, .l az)],[],[],208⟩,X,T,B 35 208] Tryz.func212
def M.ln(N:Nat)(a:Int):Option Int:=
(if(ah (a<0))then
aa (aqO.wrap (0-a))
else
aa a)
def X8:Fo 279 (.i1 [.l az]) (.i1 [.l az]) (M.ln N):=fz N [] [] Tryz.func279
def M.r4(d:Int)(e:Int)(c:Int)(g:Int):Option (Int×Int):=
aqM (M.mz N g) λj=>(if(!j)then
aa (0,1)
else(if(ah (c=0))then
aa (0,12)
else
aqM (aqM (M.dI N d 1000000000000000) λk=>(if k then
aa af
else
aqM (M.dI N e 1000000000) λl=>(if l then
aa af
else
aqM (M.dI N c 1000000000) λm=>aa m)):Option Bool) λn=>(if n then
aa (0,3)
else
aqM (M.ln N d) λf=>aqM (M.ln N e) λb=>aqM (M.ln N c) λa=>aqM (if(ah (0<b))then
aqM (n9 f a) λo=>aqM (n9 1000000000000000 b) λp=>aa (ah ((aqO.wrap p)<(aqO.wrap o)))
else
aa ag) λq=>(if q then
aa (0,3)
else
aqM (sV f a) λh=>aqM (n9 f a) λr=>aqM (n9 (aqO.wrap (h*b)) a) λs=>aqM (sV (aqO.wrap (h*b)) a) λt=>aqM (M.gx N (aqO.wrap ((aqO.wrap ((aqO.wrap r)*b))+(aqO.wrap s))) t a (!ah ((!ah ((ah (d<0))=(ah (e<0))))=(ah (c<0)))) g) λi=>aqM (M.dI N i 1000000000000000) λu=>(if u then
aa (0,3)
else
aa (i,0))))))
def agN:Fo 275 (.i1 [.l az, .l az, .l az, .l az]) (.i1 [.l az, .l az]) (u4 (M.r4 N)):=fz N [Uv N,Uw N,Ux N,X8 N] [O,O,O,T,B 30 112,O,T,B 46 256] Tryz.func275
def M.qz(b:Int)(c:Int)(d:Int):Option (Int×Int):=
aqM (M.r4 N b c 1000000 d) λa=>aa (a.1,a.2)
def agO:Fo 213 (.i1 [.l az, .l az, .l az]) (.i1 [.l az, .l az]) (u3 (M.qz N)):=fz N [agN N] [] Tryz.func213
def M.fI(N:Nat)(a:Int)(b:Int):Option Bool:=
aqM (if(ah (b<a))then
aa af
else
aa (ah (a<(aqO.wrap (0-b))))) λc=>aa c
def abj:Fo 276 (.i1 [.l az, .l az]) (.i1 [.l .bool]) (u2 (M.fI N)):=fz N [] [O,B 4 16] Tryz.func276
def M.o5(N:Nat)(c:Int)(a:Int):Option (Int×Int):=
aqM (n9 c a) λd=>aqM (sV c a) λb=>(if(ah (b<0))then
aa (aqO.wrap ((aqO.wrap d)-1),aqO.wrap (b+a))
else
aa (aqO.wrap d,b))
def abk:Fo 277 (.i1 [.l az, .l az]) (.i1 [.l az, .l az]) (u2 (M.o5 N)):=fz N [] [] Tryz.func277
def M.iM(N:Nat)(a:Int)(c:Int)(d:Int)(b:Int):Option Int:=
(if(ah (c=0))then
aa a
else
aqM (if(ah (b=1))then
aa af
else(if(ah (b=2))then(if(ah (a<0))then
aa af
else(if(ah (b=3))then
aa (ah (0<=a))
else
aa ag))
else(if(ah (b=3))then
aa (ah (0<=a))
else
aa ag))) λe=>aqM (aqM (if(ah (b=4))then
aa af
else
aa (ah (b=5))) λf=>(if f then(if(ah (c=(aqO.wrap (d-c))))then(if(ah (b=4))then(if(ah (0<=a))then
aa af
else(if(ah (b=5))then
aa (!ah ((aq3 a 2)=0))
else
aa ag))
else(if(ah (b=5))then
aa (!ah ((aq3 a 2)=0))
else
aa ag))
else
aa (ah ((aqO.wrap (d-c))<c)))
else
aa e):Option Bool) λg=>(if g then
aa (aqO.wrap (a+1))
else
aa a))
def abl:Fo 278 (.i1 [.l az, .l az, .l az, .l az]) (.i1 [.l az]) (u4 (M.iM N)):=fz N [] [O,O,R ⟨[(9, .l .bool)],[],[],48⟩,X,R ⟨[(9, .l .bool)],[],[],48⟩,B 36 48] Tryz.func278
def M.rB(b:Int)(c:Int)(a:Int):Option (Int×Int):=
aqM (if(ah (a<0))then
aa af
else
aa (ah (5<a))) λf=>(if f then
aa (0,1)
else
aqM (aqM (M.fI N b 1000000000) λg=>(if g then
aa af
else
aqM (M.fI N c 1000000000) λh=>aa h):Option Bool) λi=>(if i then
aa (0,3)
else
aqM (M.o5 N (aqO.wrap (b*c)) 1000000) λd=>aqM (M.iM N d.1 d.2 1000000 a) λe=>aqM (M.fI N e 1000000000) λj=>(if j then
aa (0,3)
else
aa (e,0))))
def agP:Fo 214 (.i1 [.l az, .l az, .l az]) (.i1 [.l az, .l az]) (u3 (M.rB N)):=fz N [abj N,abk N,abl N] [O,T,B 16 32,T,B 22 32] Tryz.func214
def M.mh(d:Int)(b:Int)(e:Int):Option (Int×Int):=
aqM (if(ah (e<0))then
aa af
else
aa (ah (5<e))) λh=>(if h then
aa (0,1)
else(if(ah (b=0))then
aa (0,12)
else
aqM (aqM (M.fI N d 1000000000000000) λi=>(if i then
aa af
else
aqM (M.fI N b 1000000000000000) λj=>aa j):Option Bool) λk=>(if k then
aa (0,3)
else
aqM ((if(ah (b<0))then
aa (aqO.wrap (0-d),aqO.wrap (0-b))
else
aa (d,b)):Option (Int×Int)) λa=>aqM (M.o5 N a.1 a.2) λc=>aqM (M.fI N c.1 1001) λl=>(if l then
aa (0,3)
else
aqM (n9 (aqO.wrap (c.2*1000)) a.2) λm=>aqM (sV (aqO.wrap (c.2*1000)) a.2) λf=>aqM (n9 (aqO.wrap (f*1000)) a.2) λn=>aqM (sV (aqO.wrap (f*1000)) a.2) λo=>aqM (M.iM N (aqO.wrap ((aqO.wrap ((aqO.wrap (c.1*1000000))+(aqO.wrap ((aqO.wrap m)*1000))))+(aqO.wrap n))) o a.2 e) λg=>aqM (M.fI N g 1000000000) λp=>(if p then
aa (0,3)
else
aa (g,0))))))
def agQ:Fo 215 (.i1 [.l az, .l az, .l az]) (.i1 [.l az, .l az]) (u3 (M.mh N)):=fz N [abj N,abk N,abl N] [O,T,B 18 32,O,T,B 26 64,R ⟨[(0, .l az),(1, .l az)],[],[],64⟩] Tryz.func215
def M.nz(b:Int)(a:Int)(d:Int):Option (Int×Int):=
aqM (M.mz N d) λf=>(if(!f)then
aa (0,1)
else(if(ah (a=0))then
aa (0,12)
else
aqM (aqM (M.dI N b 4611686018427387904) λg=>(if g then
aa af
else
aqM (M.dI N a 4611686018427387904) λh=>aa h):Option Bool) λi=>(if i then
aa (0,3)
else
aqM (M.ln N b) λe=>aqM (M.ln N a) λc=>aqM (n9 e c) λj=>aqM (sV e c) λk=>aqM (M.gx N (aqO.wrap j) k c (!ah ((ah (b<0))=(ah (a<0)))) d) λl=>aa (l,0))))
def agR:Fo 216 (.i1 [.l az, .l az, .l az]) (.i1 [.l az, .l az]) (u3 (M.nz N)):=fz N [Uv N,Uw N,Ux N,X8 N] [O,O,O,T,B 20 112] Tryz.func216
def M.lX(b:Int)(a:Int)(c:Int):Option (Int×Int):=
aqM (M.mz N c) λf=>(if(!f)then
aa (0,1)
else(if(ah (a<1))then
aa (0,12)
else
aqM (aqM (M.dI N b 1000000000000000) λg=>(if g then
aa af
else
aa (ah (1000000000000000<a))):Option Bool) λh=>(if h then
aa (0,3)
else
aqM (M.ln N b) λd=>aqM (n9 d a) λi=>aqM (sV d a) λj=>aqM (M.gx N (aqO.wrap i) j a (ah (b<0)) c) λe=>aqM (M.dI N (aqO.wrap (e*a)) 1000000000000000) λk=>(if k then
aa (0,3)
else
aa (aqO.wrap (e*a),0)))))
def agS:Fo 217 (.i1 [.l az, .l az, .l az]) (.i1 [.l az, .l az]) (u3 (M.lX N)):=fz N [Uv N,Uw N,Ux N,X8 N] [O,O,O,T,B 20 112] Tryz.func217
def M.lq(c:aA.den)(a:aB.den)(b:aB.den):Option (aB.den×Int):=
aqM (if(ah (c.1=13))then(if(ah (b.1=2))then(if(ah (a.1=3))then
aa af
else
aa (ah (a.1=2)))
else
aa ag)
else
aa ag) λo=>(if o then
aqM (M.oL N a.1 a.2.2 b.2.2) λd=>aa (d.1,d.2)
else
aqM (if(ah (c.1=14))then(if(ah (b.1=4))then
aa (ah (a.1=3))
else
aa ag)
else
aa ag) λp=>(if p then
aqM (M.qz N a.2.2 b.2.2 c.2) λe=>aqM (M.iL N a.1 e.1 e.2) λf=>aa (f.1,f.2)
else
aqM (if(ah (c.1=14))then(if(ah (b.1=4))then
aa (ah (a.1=4))
else
aa ag)
else
aa ag) λq=>(if q then
aqM (M.rB N a.2.2 b.2.2 c.2) λg=>aqM (M.iL N a.1 g.1 g.2) λh=>aa (h.1,h.2)
else
aqM (if(ah (c.1=15))then(if(ah (a.1=3))then
aa (ah (b.1=3))
else
aa ag)
else
aa ag) λr=>(if r then
aqM (M.mh N a.2.2 b.2.2 c.2) λi=>aqM (M.iL N 4 i.1 i.2) λj=>aa (j.1,j.2)
else
aqM (if(ah (c.1=15))then(if(ah (b.1=2))then(if(ah (a.1=3))then
aa af
else
aa (ah (a.1=2)))
else
aa ag)
else
aa ag) λs=>(if s then
aqM (M.nz N a.2.2 b.2.2 c.2) λk=>aqM (M.iL N a.1 k.1 k.2) λl=>aa (l.1,l.2)
else
aqM (if(ah (c.1=16))then(if(ah (a.1=3))then
aa (ah (b.1=3))
else
aa ag)
else
aa ag) λt=>(if t then
aqM (M.lX N a.2.2 b.2.2 c.2) λm=>aqM (M.iL N a.1 m.1 m.2) λn=>aa (n.1,n.2)
else
aa ((0,(0,0)),8)))))))
def agT:Fo 140 (.i1 [.g aA, .g aB, .g aB]) (.i1 [.g aB, .l az]) (u3 (M.lq N)):=fz N [X7 N,agM N,agO N,agP N,agQ N,agR N,agS N] [O,O,T,T,R ⟨[(22, .l .bool)],[],[],144⟩,X,O,R ⟨[(48, .l .bool)],[],[],144⟩,X,O,R ⟨[(77, .l .bool)],[],[],144⟩,X,O,R ⟨[(108, .l .bool)],[],[],144⟩,X,O,R ⟨[(135, .l .bool)],[],[],144⟩,X,O,B 169 144] Tryz.func140
def M.oM(a:Int)(e:Int)(d:Int):Option (Int×Int):=
aqM (if(ah (a<1900))then
aa af
else(if(ah (2199<a))then
aa af
else(if(ah (d<1))then
aa af
else
aqM (M.dS N a e) λf=>aa (ah (f<d))))) λg=>(if g then
aa (0,3)
else
aqM (Loop (S:=Int×Int) (X:=Int) (λb=>(if(ah (b.2<a))then
aqM (M.gC N b.2) λh=>aa (.inl (aqO.wrap (b.1+h),aqO.wrap (b.2+1)))
else
aa (.inr b.1))) N (aqO.wrap (d-1),1900):Option Int) λi=>Loop (S:=Int×Int) (X:=Int×Int) (λc=>(if(ah (c.2<e))then
aqM (M.dS N a c.2) λj=>aa (.inl (aqO.wrap (c.1+j),aqO.wrap (c.2+1)))
else
aa (.inr (c.1,0)))) N (i,1))
def agU:Fo 280 (.i1 [.l az, .l az, .l az]) (.i1 [.l az, .l az]) (u3 (M.oM N)):=fz N [abh N,X5 N] [O,T,B 27 32,O,R ⟨[(8, .l az)],[],[],80⟩,O,T,P ⟨[(8, .l az),(9, .l az)],[],[],96⟩,X,X,T,O,T,P ⟨[(8, .l az),(10, .l az)],[],[],96⟩] Tryz.func280
def M.eA(c:Int)(b:Int):Option (Int×Int):=
aqM (aqM (M.kS N c) λf=>(if(!f)then
aa af
else(if(ah (b<(-3600)))then
aa af
else
aa (ah (3600<b)))):Option Bool) λg=>(if g then
aa (0,3)
else
aqM (M.ju N c) λa=>aqM (M.dS N (aqO.wrap (aq1 (aqO.wrap ((aqO.wrap ((aqO.wrap ((aqO.wrap (12*a.1))+a.2.1))-1))+b)) 12)) (aqO.wrap ((aq3 (aqO.wrap ((aqO.wrap ((aqO.wrap ((aqO.wrap (12*a.1))+a.2.1))-1))+b)) 12)+1))) λd=>aqM (M.oM N (aqO.wrap (aq1 (aqO.wrap ((aqO.wrap ((aqO.wrap ((aqO.wrap (12*a.1))+a.2.1))-1))+b)) 12)) (aqO.wrap ((aq3 (aqO.wrap ((aqO.wrap ((aqO.wrap ((aqO.wrap (12*a.1))+a.2.1))-1))+b)) 12)+1)) (if d<a.2.2 then d else a.2.2)) λe=>aa (e.1,e.2))
def abm:Fo 218 (.i1 [.l az, .l az]) (.i1 [.l az, .l az]) (u2 (M.eA N)):=fz N [abi N,X4 N,X5 N,agU N] [O,T,B 20 32] Tryz.func218
def M.gR(b:Int)(c:Int):Option Int:=
aqM (aqM (M.kS N b) λe=>(if(!e)then
aa af
else
aqM (M.kS N c) λf=>aa (!f)):Option Bool) λg=>(if g then
aa 0
else
Loop (S:=Int) (X:=Int) (λa=>aqM (M.eA N b (aqO.wrap (12*(aqO.wrap (a+1))))) λd=>aqM (if(!ah (d.2=0))then
aa af
else
aa (ah (c<d.1))) λh=>(if h then
aa (.inr a)
else
aa (.inl (aqO.wrap (a+1))))) N 0)
def agV:Fo 219 (.i1 [.l az, .l az]) (.i1 [.l az]) (u2 (M.gR N)):=fz N [X4 N,abm N] [O,T,B 15 16,O,T,L 5 32,T,O,T,B 30 192] Tryz.func219
def M.mK(c:Int)(b:aB.den)(a:aB.den):Option (aB.den×Int):=
(if(!ah (b.1=5))then
aa ((0,(0,0)),8)
else
aqM (if(ah (c=27))then
aa af
else
aa (ah (c=28))) λi=>(if i then(if(!ah (a.1=2))then
aa ((0,(0,0)),8)
else(if(ah (c=27))then
aqM (M.cS N 5 (aqO.wrap (b.2.2+a.2.2))) λd=>aa (d.1,d.2)
else
aqM (M.eA N b.2.2 a.2.2) λe=>aqM (M.iL N 5 e.1 e.2) λf=>aa (f.1,f.2)))
else(if(!ah (a.1=5))then
aa ((0,(0,0)),8)
else(if(ah (c=29))then
aqM (M.cS N 2 (aqO.wrap (a.2.2-b.2.2))) λg=>aa (g.1,g.2)
else
aqM (M.gR N b.2.2 a.2.2) λj=>aqM (M.cS N 2 j) λh=>aa (h.1,h.2)))))
def agW:Fo 141 (.i1 [.l az, .g aB, .g aB]) (.i1 [.g aB, .l az]) (u3 (M.mK N)):=fz N [JK N,X7 N,abm N,agV N] [O,O,T,B 19 112] Tryz.func141
def M.cV(b:Int)(a:aB.den)(c:aB.den):Option (aB.den×Int):=
aqM (if(!ah (a.1=c.1))then
aa af
else
aa (!ah (a.2.1=c.2.1))) λn=>(if n then
aa ((0,(0,0)),8)
else(if(ah (b=19))then
aqM (M.fK N (ah (a.2.2=c.2.2))) λd=>aa (d.1,d.2)
else(if(ah (b=20))then
aqM (M.fK N (!ah (a.2.2=c.2.2))) λe=>aa (e.1,e.2)
else
aqM (if(ah (b=23))then
aa (ah (b=23))
else
aa (ah (b=24))) λo=>(if o then(if(!ah (a.1=1))then
aa ((0,(0,0)),8)
else
aqM ((if(ah ((aqO.wrap (a.2.2+c.2.2))=2))then
aqM (M.fK N af) λf=>aa (f.2,f.1)
else(if(ah (b=24))then
aqM (M.fK N (ah ((aqO.wrap (a.2.2+c.2.2))=1))) λg=>aa (g.2,g.1)
else
aqM (M.fK N ag) λh=>aa (h.2,h.1))):Option (Int×aB.den)) λi=>aa (i.2,i.1))
else
aqM (if(ah (b=11))then
aa (ah (b=11))
else
aa (ah (b=12))) λp=>(if p then
aqM (M.da N a.1) λq=>(if(!q)then
aa ((0,(0,0)),8)
else(if(ah (b=11))then
aqM (M.cS N a.1 (aqO.wrap (a.2.2+c.2.2))) λj=>aa (j.1,j.2)
else
aqM (M.cS N a.1 (aqO.wrap (a.2.2-c.2.2))) λk=>aa (k.1,k.2)))
else
aqM (aqM (M.da N a.1) λr=>(if(!r)then
aa (!ah (a.1=5))
else
aa ag):Option Bool) λs=>(if s then
aa ((0,(0,0)),8)
else(if(ah (b=21))then
aqM (M.fK N (ah (a.2.2<c.2.2))) λl=>aa (l.1,l.2)
else(if(ah (b=22))then
aqM (M.fK N (ah (a.2.2<=c.2.2))) λm=>aa (m.1,m.2)
else(if(ah ((ah (b=17))=(ah (a.2.2<c.2.2))))then
aa (a,0)
else
aa (c,0))))))))))
def agX:Fo 142 (.i1 [.l az, .g aB, .g aB]) (.i1 [.g aB, .l az]) (u3 (M.cV N)):=fz N [JK N,abe N,abf N] [O,T,B 19 64,T,O,T,O,O,O,O,R ⟨[(42, .l .bool)],[],[],144⟩,X,T,O,R ⟨[(7, .l az)],[(32, .box 40 (.leaf aB))],[],193⟩,X,X,B 70 144,X,T,B 108 144] Tryz.func142
def M.aX(a:aA.den)(b:aB.den)(c:aB.den):Option (aB.den×Int):=
aqM (if(ah (13<=a.1))then
aa (ah (a.1<=16))
else
aa ag) λg=>(if g then
aqM (M.lq N a b c) λd=>aa (d.1,d.2)
else(if(ah (27<=a.1))then
aqM (M.mK N a.1 b c) λe=>aa (e.1,e.2)
else
aqM (M.cV N a.1 b c) λf=>aa (f.1,f.2)))
def W87:Fo 87 (.i1 [.g aA, .g aB, .g aB]) (.i1 [.g aB, .l az]) (u3 (M.aX N)):=fz N [agT N,agW N,agX N] [O,T,B 15 80] Tryz.func87
def M.kT(b:aA.den)(a:List aB.den)(c:b8.den):Option (aB.den×Int):=
aqM (M.lm N b (a.length:Int)) λl=>(if(!l)then
aa ((0,(0,0)),2)
else
aqM (M.o4 N b c) λm=>(if(!m)then
aa ((0,(0,0)),6)
else
bS (J:=Unit) (R:=aB.den×Int) (Loop (S:=Int) (X:=Unit⊕(aB.den×Int)) (λd=>(if(ah (d<(a.length:Int)))then
aqM (idx a d) λn=>aqM (M.cu N n) λo=>(if(!o)then
aa (.inr (.inr ((0,(0,0)),8)))
else
aa (.inl (aqO.wrap (d+1))))
else
aa (.inr (.inl ())))) N 0) λu=>(if(ah ((a.length:Int)=0))then
aqM (if(ah (36<=b.1))then
aa (ah (b.1<=39))
else
aa ag) λp=>(if p then
aqM (M.oI N b c) λg=>aa (g.1,g.2)
else
aqM (M.cO N b c) λh=>aa (h.1,h.2))
else(if(ah ((a.length:Int)=1))then
aqM (idx a 0) λq=>aqM (M.cB N b q c) λi=>aa (i.1,i.2)
else(if(ah ((a.length:Int)=2))then
aqM (idx a 0) λr=>aqM (idx a 1) λs=>aqM (M.aX N b r s) λj=>aa (j.1,j.2)
else
aqM (idx a 0) λk=>aqM (idx a 1) λe=>aqM (idx a 2) λf=>aqM (if(!ah (k.1=1))then
aa af
else(if(!ah (e.1=f.1))then
aa af
else
aa (!ah (e.2.1=f.2.1)))) λt=>(if t then
aa ((0,(0,0)),8)
else(if(ah (k.2.2=1))then
aa (e,0)
else
aa (f,0))))))))
def W54:Fo 54 (.i1 [.g aA, .l (.slice aB), .g b8]) (.i1 [.g aB, .l az]) (u3 (M.kT N)):=fz N [Zl N,W82 N,W83 N,W84 N,W85 N,W86 N,W87 N] [O,O,O,E 208,O,T,L 8 224,X,X,T,O,T,O,T,T,B 47 272,X,X,X,O,T,B 105 576] Tryz.func54
mutual
def M.eI(B:Nat):Nat->(List aA.den)->Int->b8.den->Option (aB.den×Int)
 |0,_,_,_=>ae
 |N+1,a,c,d=>
  aqM (M.nu B a c) λe=>
  aqM (idx a c) λf=>
  aqM (if(ah (f.1=23))then
  aa af
  else
  (if(ah (f.1=24))then
  aa af
  else
  aa (ah (f.1=26)))) λj=>
  (if j then
  aqM (M.r6 B N a c e d) λh=>
  aa (h.1,h.2)
  else
  bS (J:=List aB.den) (R:=aB.den×Int) (Loop (S:=Int×List aB.den) (X:=(List aB.den)⊕(aB.den×Int)) (λb=>
  (if(ah (b.1<(e.length:Int)))then
  aqM (idx e b.1) λk=>
  aqM (M.eI B N a k d) λg=>
  (if(!ah (g.2=0))then
  aa (.inr (.inr ((0,(0,0)),g.2)))
  else
  aqM (cD b.2 ([g.1]:List aB.den)) λl=>
  aa (.inl (aqO.wrap (b.1+1),l)))
  else
  aa (.inr (.inl b.2)))) B (0,([]:List aB.den))) λm=>
  aqM (idx a c) λn=>
  aqM (M.kT B n m d) λi=>
  aa (i.1,i.2))
def M.r6(B:Nat):Nat->(List aA.den)->Int->(List Int)->b8.den->Option (aB.den×Int)
 |0,_,_,_,_=>ae
 |N+1,a,f,d,e=>
  aqM (idx a f) λi=>
  (if(!ah (i.2=0))then
  aa ((0,(0,0)),2)
  else
  aqM (idx d 0) λj=>
  aqM (M.eI B N a j e) λb=>
  (if(!ah (b.2=0))then
  aa ((0,(0,0)),b.2)
  else
  aqM (if(!ah (b.1.1=1))then
  aa af
  else
  aqM (M.cu B b.1) λk=>
  aa (!k)) λl=>
  (if l then
  aa ((0,(0,0)),8)
  else
  aqM (idx a f) λm=>
  (if(ah (m.1=26))then
  (if(ah (b.1.2.2=1))then
  aqM (idx d 1) λn=>
  aqM (M.eI B N a n e) λg=>
  aa (g.1,g.2)
  else
  aqM (idx d 2) λo=>
  aqM (M.eI B N a o e) λh=>
  aa (h.1,h.2))
  else
  aqM (idx a f) λp=>
  (if(ah ((ah (p.1=23))=(ah (b.1.2.2=0))))then
  aa (b.1,0)
  else
  aqM (idx d 1) λq=>
  aqM (M.eI B N a q e) λc=>
  (if(!ah (c.2=0))then
  aa ((0,(0,0)),c.2)
  else
  aqM (if(!ah (c.1.1=1))then
  aa af
  else
  aqM (M.cu B c.1) λr=>
  aa (!r)) λs=>
  (if s then
  aa ((0,(0,0)),8)
  else
  aa (c.1,0))))))))
end
def M.tj(a:List aA.den)(b:Int)(c:b8.den):Option (aB.den×Int):=M.eI N N a b c
def S26:qf:=⟨.i1 [.l (.slice aA), .l az, .g b8], .i1 [.g aB, .l az],u3 (M.tj N)⟩
def R26(B N:Nat):qf:={inn:=⟨[(0, .l (.slice aA)),(1, .l az),(2, .g b8)],[],[],0⟩,out:=⟨[(0, .g aB),(1, .l az)],[],[],0⟩,fn:=λ(x:(List aA.den)×Int×b8.den)=>M.eI B N x.1 x.2.1 x.2.2}
def R53(B N:Nat):qf:={inn:=⟨[(0, .l (.slice aA)),(1, .l az),(2, .l (.slice az)),(3, .g b8)],[],[],0⟩,out:=⟨[(0, .g aB),(1, .l az)],[],[],0⟩,fn:=λ(x:(List aA.den)×Int×(List Int)×b8.den)=>M.r6 B N x.1 x.2.1 x.2.2.1 x.2.2.2}
def Uy(B:Nat):∀N,hZ Tryz.prog 26 (R26 B N)/\hZ Tryz.prog 53 (R53 B N)
 |0=>⟨qw Tryz.func26 (by kernel_rfl) (by kernel_rfl) λ_=>rfl,qw Tryz.func53 (by kernel_rfl) (by kernel_rfl) λ_=>rfl⟩
 |N+1=>⟨fw (en [ck ((Uy B N).1),ck (W52 B),ck ((Uy B N).2),ck (W54 B)] ag ag) (N:=B) (.o (.o (.o (.two (.meet ⟨[(31, .l .bool)],[],[],208⟩ .nil .nil) (.o (.join ⟨[(10, .val ag (.own 224))],[(224, .own 40 aB)],[],225⟩ (.o (.two (.loop ⟨[(10, .val ag (.own 240)),(11, .l az)],[(240, .own 40 aB)],[],241⟩ .nil) .nil)) .nil)))))) Tryz.func26 (by kernel_rfl) λx=>by kernel_rfl,
  fw (en [ck ((Uy B N).1),ck (Zl B)] ag ag) (N:=B) (.o (.o (.o (.o (.two (.meet ⟨[(41, .l .bool)],[],[],368⟩ .nil .nil) (.o (.o (.o (.o (.two (.meet ⟨[(99, .l .bool)],[],[],848⟩ .nil .nil) .nil)))))))))) Tryz.func53 (by kernel_rfl) λx=>by kernel_rfl⟩
def W26(N:Nat):hZ Tryz.prog 26 (S26 N):=(Uy N N).1
def M.kU(a:List aA.den)(d:b8.den):Option (aB.den×Int):=
aqM (M.pG N a) λb=>(if(!ah (b.1=0))then
aa ((0,(0,0)),b.1)
else
aqM (M.tj N a (aqO.wrap ((a.length:Int)-1)) d) λc=>aa (c.1,c.2))
def W12:Fo 12 (.i1 [.l (.slice aA), .g b8]) (.i1 [.g aB, .l az]) (u2 (M.kU N)):=fz N [W25 N,W26 N] [] Tryz.func12
def M.jc(c:aU.den)(e:b8.den):Option (Int×Int×Int):=
(if(ah (8<(c.2.1.length:Int)))then
aa (0,8,4)
else
Loop (S:=Int×Int×Int) (X:=Int×Int×Int) (λa=>(if(ah (a.2.2<(c.2.1.length:Int)))then
aqM (idx c.2.1 a.2.2) λf=>aqM (M.kU N f e) λb=>aqM (aqM (if(ah (b.2=0))then
aa (!ah (b.1.1=1))
else
aa ag) λg=>(if g then
aa 8
else
aa b.2):Option Int) λd=>(if(!ah (d=0))then
aa (.inr (0,a.2.2,d))
else
aqM ((if(ah (b.1.2.2=1))then
aa (aqO.wrap (a.1+a.2.1))
else
aa a.1):Option Int) λh=>aa (.inl (h,aqO.wrap (2*a.2.1),aqO.wrap (a.2.2+1))))
else
aa (.inr (a.1,(-1),0)))) N (0,1,0))
def W11:Fo 11 (.i1 [.g aU, .g b8]) (.i1 [.l az, .l az, .l az]) (u2 (M.jc N)):=fz N [W12 N] [O,O,O,T,O,T,P ⟨[(7, .l az),(8, .l az),(9, .l az)],[],[],192⟩,O,T,T,O,R ⟨[(11, .l az)],[],[],480⟩,B 39 480,O,R ⟨[(7, .l az)],[],[],512⟩] Tryz.func11
def M.mj(a:bn.den):Option Bool:=
aqM (if(ah (80<(a.1.size:Int)))then
aa af
else(if(ah (14<(a.2.2.1.length:Int)))then
aa af
else(if(ah (14<(a.2.2.2.1.length:Int)))then
aa af
else
aa (ah (60<(a.2.2.2.2.length:Int)))))) λf=>(if f then
aa ag
else
bS (J:=Unit) (R:=Bool) (Loop (S:=Int) (X:=Unit⊕Bool) (λc=>(if(ah (c<(a.2.2.1.length:Int)))then
aqM (idx a.2.2.1 c) λg=>(if(ah (80<(g.1.size:Int)))then
aa (.inr (.inr ag))
else
aa (.inl (aqO.wrap (c+1))))
else
aa (.inr (.inl ())))) N 0) λj=>bS (J:=Unit) (R:=Bool) (Loop (S:=Int) (X:=Unit⊕Bool) (λd=>(if(ah (d<(a.2.2.2.1.length:Int)))then
aqM (idx a.2.2.2.1 d) λh=>(if(ah (80<(h.1.size:Int)))then
aa (.inr (.inr ag))
else
aa (.inl (aqO.wrap (d+1))))
else
aa (.inr (.inl ())))) N 0) λk=>Loop (S:=Int) (X:=Bool) (λe=>(if(ah (e<(a.2.2.2.2.length:Int)))then
aqM (idx a.2.2.2.2 e) λb=>aqM (if(ah (80<(b.1.size:Int)))then
aa af
else(if(ah (80<(b.2.2.2.2.2.2.2.size:Int)))then
aa af
else(if(ah (50<(b.2.2.2.2.2.1.length:Int)))then
aa af
else
aa (ah (50<(b.2.2.2.2.2.2.1.length:Int)))))) λi=>(if i then
aa (.inr ag)
else
aa (.inl (aqO.wrap (e+1))))
else
aa (.inr af))) N 0)
def W27:Fo 27 (.i1 [.g bn]) (.i1 [.l .bool]) (M.mj N):=fz N [] [O,T,B 28 32,E 32,O,T,L 3 48,X,X,E 32,O,T,L 4 48,X,X,T,O,T,L 5 48,O,T,T,O,B 92 240] Tryz.func27
def M.oN(a:cz.den):Option Bool:=
aqM (if(ah (9<(a.1.length:Int)))then
aa af
else(if(ah (9<(a.2.1.length:Int)))then
aa af
else
aa (ah (5<(a.2.2.length:Int))))) λh=>(if h then
aa ag
else
bS (J:=Unit) (R:=Bool) (Loop (S:=Int) (X:=Unit⊕Bool) (λb=>(if(ah (b<(a.1.length:Int)))then
bS (J:=Unit) (R:=Int⊕(Unit⊕Bool)) (aqM (aqM (idx a.1 b) λi=>(if(ah (80<(i.1.size:Int)))then
aa af
else
aqM (idx a.1 b) λj=>aa (ah (20<(j.2.length:Int)))):Option Bool) λk=>(if k then
aa (.inr (.inr (.inr ag)))
else
Loop (S:=Int) (X:=Unit⊕(Int⊕(Unit⊕Bool))) (λe=>aqM (idx a.1 b) λl=>(if(ah (e<(l.2.length:Int)))then
aqM (idx a.1 b) λm=>aqM (idx m.2 e) λn=>(if(ah (80<(n.size:Int)))then
aa (.inr (.inr (.inr (.inr ag))))
else
aa (.inl (aqO.wrap (e+1))))
else
aa (.inr (.inl ())))) N 0)) λt=>aa (.inl (aqO.wrap (b+1)))
else
aa (.inr (.inl ())))) N 0) λu=>bS (J:=Unit) (R:=Bool) (Loop (S:=Int×Int) (X:=Unit⊕Bool) (λc=>(if(ah (c.2<(a.2.1.length:Int)))then
aqM (idx a.2.1 c.2) λf=>aqM (aqM (idx a.2.1 c.2) λo=>(if(ah (80<(o.1.size:Int)))then
aa af
else
aa (ah (150<(aqO.wrap (c.1+(f.2.2.2.length:Int)))))):Option Bool) λp=>(if p then
aa (.inr (.inr ag))
else
aa (.inl (aqO.wrap (c.1+(f.2.2.2.length:Int)),aqO.wrap (c.2+1))))
else
aa (.inr (.inl ())))) N (0,0)) λv=>Loop (S:=Int×Int) (X:=Bool) (λd=>(if(ah (d.2<(a.2.2.length:Int)))then
aqM (idx a.2.2 d.2) λg=>aqM (if(ah (60<(aqO.wrap (d.1+(g.2.2.2.2.length:Int)))))then
aa af
else
aqM (idx a.2.2 d.2) λq=>aqM (M.mj N q) λr=>aa (!r)) λs=>(if s then
aa (.inr ag)
else
aa (.inl (aqO.wrap (d.1+(g.2.2.2.2.length:Int)),aqO.wrap (d.2+1))))
else
aa (.inr af))) N (0,0))
def W13:Fo 13 (.i1 [.g cz]) (.i1 [.l .bool]) (M.oN N):=fz N [W27 N] [O,T,B 24 32,O,O,E 64,O,T,L 5 80,O,E 160,T,T,B 49 160,O,T,L 6 176,X,X,X,X,X,E 64,O,T,P ⟨[(3, .l az),(7, .l az)],[],[],80⟩,O,T,T,O,B 99 320,X,X,X,T,O,T,P ⟨[(4, .l az),(8, .l az)],[],[],80⟩,O,T,T,O,B 126 320] Tryz.func13
def M.nA(a:ff.den):Option Bool:=
aqM (if(ah (14<(a.2.1.length:Int)))then
aa af
else
aa (ah (10<(a.2.2.length:Int)))) λc=>(if c then
aa ag
else
Loop (S:=Int) (X:=Bool) (λb=>(if(ah (b<(a.2.2.length:Int)))then
aqM (idx a.2.2 b) λd=>(if(ah (14<(d.length:Int)))then
aa (.inr ag)
else
aa (.inl (aqO.wrap (b+1))))
else
aa (.inr af))) N 0)
def W14:Fo 14 (.i1 [.g ff]) (.i1 [.l .bool]) (M.nA N):=fz N [] [O,T,B 13 32,T,O,T,L 3 48] Tryz.func14
def M.kj(N:Nat)(b:cz.den)(d:Int):Option (ByteArray×Int×(List bJ.den)×(List bJ.den)×List dX.den):=
aqM (idx b.2.2 d) λc=>aqM (if(ah (c.2.1<0))then
aa af
else
aa (ah ((b.2.2.length:Int)<=c.2.1))) λe=>(if e then
aa (asg,0,([]:List bJ.den),([]:List bJ.den),([]:List dX.den))
else
aqM (idx b.2.2 c.2.1) λa=>aa (a.1,a.2.1,a.2.2.1,a.2.2.2.1,a.2.2.2.2))
def W39:Fo 39 (.i1 [.g cz, .l az]) (.i1 [.val af (.pair (.leaf .str) (.pair (.leaf az) (.pair (.leaf (.slice bJ)) (.pair (.leaf (.slice bJ)) (.leaf (.slice dX))))))]) (u2 (M.kj N)):=fz N [] [O,O,T,B 20 144] Tryz.func39
def M.um(c:cz.den)(f:Int)(d:ff.den)(g:List (List aB.den)):Option (Int×(List aB.den)×(List (List aB.den))×(List bj.den)×List aA.den):=
aqM (M.kj N c f) λe=>aqM (Loop (S:=Int×Int×(List aB.den)×(List (List aB.den))×(List bj.den)×List aA.den) (X:=Int×(List aB.den)×(List (List aB.den))×(List bj.den)×List aA.den) (λa=>(if(ah (a.1<(e.2.2.2.1.length:Int)))then
aqM (idx e.2.2.2.1 a.1) λh=>aqM (cD a.2.2.2.2.2 ([h.2]:List aA.den)) λi=>aa (.inl (aqO.wrap (a.1+1),a.2.1,a.2.2.1,a.2.2.2.1,a.2.2.2.2.1,i))
else
aa (.inr (a.2.1,a.2.2.1,a.2.2.2.1,a.2.2.2.2.1,a.2.2.2.2.2)))) N (0,d.1,d.2.1,g,c.2.1,([]:List aA.den)):Option (Int×(List aB.den)×(List (List aB.den))×(List bj.den)×List aA.den)) λb=>aa (b.1,b.2.1,b.2.2.1,b.2.2.2.1,b.2.2.2.2)
def W18:Fo 18 (.i1 [.g cz, .l az, .g ff, .l (.slice (.slice aB))]) (.j1 [.val af (.pair (.leaf az) (.pair (.leaf (.slice aB)) (.pair .nil (.pair (.leaf (.slice (.slice aB))) (.pair (.own 0) (.leaf (.slice bj)))))))] [.own 74 aA] 1) (u4 (M.um N)):=fz N [W39 N] [O,O,O,R ⟨[],[(176, .box 32 (.pair (.leaf az) (.pair (.leaf (.slice aB)) (.pair .nil (.pair (.leaf (.slice (.slice aB))) (.pair (.own 288) (.leaf (.slice bj)))))))),(288, .own 74 aA)],[],290⟩,O,T,P ⟨[(11, .l az)],[(176, .box 32 (.pair (.leaf az) (.pair (.leaf (.slice aB)) (.pair .nil (.pair (.leaf (.slice (.slice aB))) (.pair (.own 304) (.leaf (.slice bj)))))))),(304, .own 74 aA)],[],306⟩] Tryz.func18
def M.o6(N:Nat)(a:Int):Option Bool:=
aqM (if(ah (97<=a))then
aa (ah (a<=122))
else
aa ag) λb=>aa b
def abn:Fo 238 (.i1 [.l (.int .u8)]) (.i1 [.l .bool]) (M.o6 N):=fz N [] [O,B 2 16] Tryz.func238
def M.qA(N:Nat)(a:Int):Option Bool:=
aqM (if(ah (48<=a))then
aa (ah (a<=57))
else
aa ag) λb=>aa b
def agY:Fo 288 (.i1 [.l (.int .u8)]) (.i1 [.l .bool]) (M.qA N):=fz N [] [O,B 2 16] Tryz.func288
def M.r7(a:Int):Option Bool:=
aqM (aqM (M.o6 N a) λb=>(if b then
aa af
else
aqM (M.qA N a) λc=>(if c then
aa af
else
aa (ah (a=95)))):Option Bool) λd=>aa d
def agZ:Fo 239 (.i1 [.l (.int .u8)]) (.i1 [.l .bool]) (M.r7 N):=fz N [abn N,agY N] [O,B 2 16] Tryz.func239
def M.jd(N:Nat):Option (List ByteArray):=
aa ([(⟨#[105,102]⟩:ByteArray),(⟨#[116,104,101,110]⟩:ByteArray),(⟨#[101,108,115,101]⟩:ByteArray),(⟨#[111,114]⟩:ByteArray),(⟨#[97,110,100]⟩:ByteArray),(⟨#[110,111,116]⟩:ByteArray),(⟨#[116,114,117,101]⟩:ByteArray),(⟨#[102,97,108,115,101]⟩:ByteArray),(⟨#[116,111,100,97,121]⟩:ByteArray),(⟨#[115,104,97,114,101]⟩:ByteArray),(⟨#[100,105,118]⟩:ByteArray),(⟨#[114,111,117,110,100]⟩:ByteArray),(⟨#[109,105,110]⟩:ByteArray),(⟨#[109,97,120]⟩:ByteArray),(⟨#[112,108,117,115]⟩:ByteArray),(⟨#[109,111,110,116,104,115]⟩:ByteArray),(⟨#[100,97,121,115]⟩:ByteArray),(⟨#[121,101,97,114,115]⟩:ByteArray),(⟨#[121,101,97,114]⟩:ByteArray),(⟨#[109,111,110,116,104]⟩:ByteArray),(⟨#[116,97,98]⟩:ByteArray),(⟨#[98,97,110,100]⟩:ByteArray),(⟨#[99,111,117,110,116]⟩:ByteArray),(⟨#[115,117,109]⟩:ByteArray),(⟨#[97,108,108]⟩:ByteArray),(⟨#[97,110,121]⟩:ByteArray),(⟨#[109,111,115,116]⟩:ByteArray),(⟨#[101,110,117,109]⟩:ByteArray),(⟨#[116,97,98,108,101]⟩:ByteArray),(⟨#[114,111,119]⟩:ByteArray),(⟨#[115,99,111,112,101]⟩:ByteArray),(⟨#[109,101,109,98,101,114,115]⟩:ByteArray),(⟨#[105,110,112,117,116]⟩:ByteArray),(⟨#[100,101,102]⟩:ByteArray),(⟨#[114,117,108,101]⟩:ByteArray),(⟨#[111,102]⟩:ByteArray),(⟨#[111,118,101,114]⟩:ByteArray),(⟨#[112,114,105,111]⟩:ByteArray),(⟨#[102,114,111,109]⟩:ByteArray),(⟨#[116,111]⟩:ByteArray),(⟨#[101,110,100]⟩:ByteArray),(⟨#[119,104,101,110]⟩:ByteArray),(⟨#[105,115]⟩:ByteArray),(⟨#[115,114,99]⟩:ByteArray),(⟨#[98,111,111,108]⟩:ByteArray),(⟨#[105,110,116]⟩:ByteArray),(⟨#[109,111,110,101,121]⟩:ByteArray),(⟨#[114,97,116,101]⟩:ByteArray),(⟨#[100,97,116,101]⟩:ByteArray),(⟨#[100,111,119,110]⟩:ByteArray),(⟨#[117,112]⟩:ByteArray),(⟨#[122,101,114,111]⟩:ByteArray),(⟨#[97,119,97,121]⟩:ByteArray),(⟨#[104,97,108,102]⟩:ByteArray),(⟨#[101,118,101,110]⟩:ByteArray)]:List ByteArray)
def ag0:Fo 240 (.i1 []) (.w1 9 .str) (λ(x:Unit)=>M.jd N):=fz N [] [] Tryz.func240
def M.bU(a:ByteArray):Option Bool:=
aqM (if(ah ((a.size:Int)=0))then
aa af
else(if(ah (16<(a.size:Int)))then
aa af
else
aqM (lH a 0) λe=>aqM (M.o6 N e) λf=>aa (!f))) λg=>(if g then
aa ag
else
bS (J:=Unit) (R:=Bool) (Loop (S:=Int) (X:=Unit⊕Bool) (λb=>(if(ah (b<(a.size:Int)))then
aqM (lH a b) λh=>aqM (M.r7 N h) λi=>(if(!i)then
aa (.inr (.inr ag))
else
aa (.inl (aqO.wrap (b+1))))
else
aa (.inr (.inl ())))) N 0) λk=>aqM (M.jd N) λd=>Loop (S:=Int) (X:=Bool) (λc=>(if(ah (c<(d.length:Int)))then
aqM (idx d c) λj=>(if(ah (j=a))then
aa (.inr ag)
else
aa (.inl (aqO.wrap (c+1))))
else
aa (.inr af))) N 0)
def QZ:Fo 166 (.i1 [.l .str]) (.i1 [.l .bool]) (M.bU N):=fz N [abn N,agZ N,ag0 N] [O,T,B 19 16,E 16,O,T,L 3 32,X,X,O,T,O,T,L 5 64] Tryz.func166
def M.eB(a:cz.den)(e:Int)(g:Int)(b:ByteArray):Option Bool:=
bS (J:=Unit) (R:=Bool) (Loop (S:=Int) (X:=Unit⊕Bool) (λc=>(if(ah (c<(a.1.length:Int)))then
aqM (if(ah (1<e))then
aqM (idx a.1 c) λh=>aa (ah (h.1=b))
else(if(ah (c<g))then
aqM (idx a.1 c) λi=>aa (ah (i.1=b))
else
aa ag)) λj=>(if j then
aa (.inr (.inr af))
else
aa (.inl (aqO.wrap (c+1))))
else
aa (.inr (.inl ())))) N 0) λp=>bS (J:=Unit) (R:=Bool) (Loop (S:=Int) (X:=Unit⊕Bool) (λd=>(if(ah (d<(a.2.1.length:Int)))then
aqM (if(ah (2<e))then
aqM (idx a.2.1 d) λk=>aa (ah (k.1=b))
else(if(ah (e=2))then(if(ah (d<g))then
aqM (idx a.2.1 d) λl=>aa (ah (l.1=b))
else
aa ag)
else
aa ag)) λm=>(if m then
aa (.inr (.inr af))
else
aa (.inl (aqO.wrap (d+1))))
else
aa (.inr (.inl ())))) N 0) λq=>Loop (S:=Int) (X:=Bool) (λf=>(if(ah (f<(a.2.2.length:Int)))then
aqM (if(ah (e=3))then(if(ah (f<g))then
aqM (idx a.2.2 f) λn=>aa (ah (n.1=b))
else
aa ag)
else
aa ag) λo=>(if o then
aa (.inr af)
else
aa (.inl (aqO.wrap (f+1))))
else
aa (.inr ag))) N 0
def X9:Fo 167 (.i1 [.g cz, .l az, .l az, .l .str]) (.i1 [.l .bool]) (u4 (M.eB N)):=fz N [] [O,E 32,O,T,L 9 48,O,T,T,B 35 128,X,X,X,E 32,O,T,L 10 48,O,T,T,B 63 128,X,X,X,T,O,T,L 11 48,O,T,T,B 87 128] Tryz.func167
def M.mo(e:cz.den)(c:Int):Option (aD.den):=
aqM (idx e.1 c) λb=>aqM (M.bU N b.1) λf=>(if(!f)then
aa (2,(1,(c,0)))
else
aqM (M.eB N e 1 c b.1) λg=>(if g then
aa (7,(1,(c,0)))
else(if(ah ((b.2.length:Int)=0))then
aa (5,(1,(c,0)))
else(if(ah (16<(b.2.length:Int)))then
aa (4,(1,(c,116)))
else
bS (J:=aD.den) (R:=aD.den) (Loop (S:=Int×aD.den) (X:=(aD.den)⊕(aD.den)) (λa=>(if(ah (a.1<(b.2.length:Int)))then
bS (J:=aD.den) (R:=(Int×aD.den)⊕((aD.den)⊕(aD.den))) (aqM (idx b.2 a.1) λh=>aqM (M.bU N h) λi=>(if(!i)then
aa (.inr (.inr (.inr (2,(a.2.2.1,(a.2.2.2.1,aqO.wrap (100+a.1)))))))
else
Loop (S:=Int) (X:=(aD.den)⊕((Int×aD.den)⊕((aD.den)⊕(aD.den)))) (λd=>(if(ah (d<a.1))then
aqM (idx b.2 d) λj=>aqM (idx b.2 a.1) λk=>(if(ah (j=k))then
aa (.inr (.inr (.inr (.inr (7,(a.2.2.1,(a.2.2.2.1,aqO.wrap (100+a.1))))))))
else
aa (.inl (aqO.wrap (d+1))))
else
aa (.inr (.inl (a.2.1,(a.2.2.1,(a.2.2.2.1,aqO.wrap (100+a.1)))))))) N 0)) λl=>aa (.inl (aqO.wrap (a.1+1),l))
else
aa (.inr (.inl a.2)))) N (0,(0,(1,(c,0))))) λm=>aa (0,(0,(0,0)))))))
def ag1:Fo 100 (.i1 [.g cz, .l az]) (.i1 [.g aD]) (u2 (M.mo N)):=fz N [QZ N,X9 N] [O,O,O,O,O,O,O,J ⟨[],[(176, .box 90 (.leaf aD))],[],481⟩,O,T,P ⟨[(7, .l az)],[(176, .box 90 (.leaf aD))],[],497⟩,O,J ⟨[],[(176, .box 90 (.leaf aD))],[],578⟩,T,O,O,O,T,L 8 769] Tryz.func100
def M.cW(N:Nat)(a:aA.den)(b:List di.den):Option Bool:=
(if(ah (a.1=6))then
aqM (if(ah (0<=a.2))then
aa (ah (a.2<(b.length:Int)))
else
aa ag) λc=>aa c
else
aqM (if(ah (1<=a.1))then(if(ah (a.1<=5))then
aa (ah (a.2=0))
else
aa ag)
else
aa ag) λd=>aa d)
def Q0:Fo 241 (.i1 [.g aA, .l (.slice di)]) (.i1 [.l .bool]) (u2 (M.cW N)):=fz N [] [O,T,O,T,B 4 80,X,B 4 80] Tryz.func241
def M.nB(a:aA.den)(b:List di.den):Option (Int×Int):=
aqM (M.cW N a b) λc=>(if(!c)then
aa (0,(-1))
else(if(ah (a.1=1))then
aa (0,1)
else(if(ah (a.1=2))then
aa ((-1000000000000),1000000000000)
else(if(ah (a.1=3))then
aa ((-1000000000000000),1000000000000000)
else(if(ah (a.1=4))then
aa ((-1000000000),1000000000)
else(if(ah (a.1=5))then
aa (0,109572)
else
aqM (idx b a.2) λd=>aa (0,aqO.wrap ((d.2.length:Int)-1))))))))
def abo:Fo 172 (.i1 [.g aA, .l (.slice di)]) (.i1 [.l az, .l az]) (u2 (M.nB N)):=fz N [Q0 N] [] Tryz.func172
def M.p4(a:Int)(c:aA.den)(d:List di.den):Option Bool:=
aqM (M.nB N c d) λb=>aqM (if(ah (b.1<=a))then
aa (ah (a<=b.2))
else
aa ag) λe=>aa e
def abp:Fo 104 (.i1 [.l az, .g aA, .l (.slice di)]) (.i1 [.l .bool]) (u3 (M.p4 N)):=fz N [abo N] [O,O,B 6 160] Tryz.func104
def M.qB(a:iW.den)(b:bj.den)(c:List di.den):Option Bool:=
aqM (aqM (M.jv N a.1) λd=>(if(!d)then
aa af
else(if(ah (a.1.1=a.1.2))then
aa af
else
aa (ah (a.2.2.1<=a.2.1)))):Option Bool) λe=>(if e then
aa af
else
aqM (aqM (M.p4 N a.2.1 b.2.1 c) λf=>(if(!f)then
aa af
else
aqM (M.p4 N (aqO.wrap (a.2.2.1-1)) b.2.1 c) λg=>(if(!g)then
aa af
else
aqM (M.p4 N a.2.2.2 b.2.2.1 c) λh=>aa (!h))):Option Bool) λi=>aa i)
def ag2:Fo 242 (.i1 [.g iW, .g bj, .l (.slice di)]) (.i1 [.l .bool]) (u3 (M.qB N)):=fz N [abp N,Uu N] [O,T,B 26 48,B 6 48] Tryz.func242
def M.pw(a:aA.den)(b:aA.den):Option (aA.den×Bool):=
aqM (aqM (M.jv N a) λc=>(if(!c)then
aa af
else
aqM (M.jv N b) λd=>aa (!d)):Option Bool) λe=>(if e then
aa ((0,0),ag)
else(if(ah ((if b.2<a.2 then b.2 else a.2)<=(if a.1<b.1 then b.1 else a.1)))then
aa ((0,0),ag)
else
aa ((if a.1<b.1 then b.1 else a.1,if b.2<a.2 then b.2 else a.2),af)))
def ag3:Fo 289 (.i1 [.g aA, .g aA]) (.i1 [.g aA, .l .bool]) (u2 (M.pw N)):=fz N [Uu N] [O,T,B 14 64] Tryz.func289
def M.nC(a:iW.den)(b:iW.den):Option Bool:=
aqM (M.pw N a.1 b.1) λc=>aqM (if c.2 then
aa (ah ((if a.2.1<b.2.1 then b.2.1 else a.2.1)<(if b.2.2.1<a.2.2.1 then b.2.2.1 else a.2.2.1)))
else
aa ag) λd=>aa d
def ag4:Fo 243 (.i1 [.g iW, .g iW]) (.i1 [.l .bool]) (u2 (M.nC N)):=fz N [ag3 N] [O,O,B 4 224] Tryz.func243
def M.nD(a:bj.den)(c:List di.den):Option (Int×Int):=
(if(ah (64<(a.2.2.2.length:Int)))then
aa (64,4)
else
aqM (aqM (M.cW N a.2.1 c) λe=>(if(!e)then
aa af
else
aqM (M.cW N a.2.2.1 c) λf=>aa (!f)):Option Bool) λg=>(if g then
aa ((-1),8)
else
Loop (S:=Int) (X:=Int×Int) (λb=>(if(ah (b<(a.2.2.2.length:Int)))then
bS (J:=Unit) (R:=Int⊕(Int×Int)) (aqM (idx a.2.2.2 b) λh=>aqM (M.qB N h a c) λi=>(if i then
aa (.inr (.inr (b,3)))
else
Loop (S:=Int) (X:=Unit⊕(Int⊕(Int×Int))) (λd=>(if(ah (d<b))then
aqM (idx a.2.2.2 d) λj=>aqM (idx a.2.2.2 b) λk=>aqM (M.nC N j k) λl=>(if l then
aa (.inr (.inr (.inr (b,11))))
else
aa (.inl (aqO.wrap (d+1))))
else
aa (.inr (.inl ())))) N 0)) λm=>aa (.inl (aqO.wrap (b+1)))
else
aa (.inr (0,0)))) N 0))
def ag5:Fo 168 (.i1 [.g bj, .l (.slice di)]) (.i1 [.l az, .l az]) (u2 (M.nD N)):=fz N [Q0 N,ag2 N,ag4 N] [O,O,T,B 23 112,T,O,T,L 6 128,O,E 208,T,O,O,T,L 7 352] Tryz.func168
def M.lr(c:cz.den)(a:Int):Option (aD.den):=
aqM (idx c.2.1 a) λd=>aqM (M.bU N d.1) λe=>(if(!e)then
aa (2,(2,(a,0)))
else
aqM (M.eB N c 2 a d.1) λf=>(if f then
aa (7,(2,(a,0)))
else
aqM (M.nD N d c.1) λb=>(if(ah (b.2=0))then
aa (0,(0,(0,0)))
else
aqM ((if(ah (0<=b.1))then
aa (b.2,(2,(a,aqO.wrap (100+b.1))))
else
aa (b.2,(2,(a,0)))):Option (aD.den)) λg=>aa g)))
def ag6:Fo 101 (.i1 [.g cz, .l az]) (.i1 [.g aD]) (u2 (M.lr N)):=fz N [QZ N,X9 N,ag5 N] [O,O,O,O,O,O,O,O,R ⟨[],[(176, .box 90 (.leaf aD))],[],577⟩] Tryz.func101
def M.je(b:List bJ.den)(c:Int)(d:ByteArray):Option Bool:=
Loop (S:=Int) (X:=Bool) (λa=>aqM (if(ah (a<c))then
aa (ah (a<(b.length:Int)))
else
aa ag) λe=>(if e then
aqM (idx b a) λf=>(if(ah (f.1=d))then
aa (.inr af)
else
aa (.inl (aqO.wrap (a+1))))
else
aa (.inr ag))) N 0
def ag7:Fo 244 (.i1 [.l (.slice bJ), .l az, .l .str]) (.i1 [.l .bool]) (u3 (M.je N)):=fz N [] [O,T,O,T,L 7 32,T,B 16 32] Tryz.func244
def M.jh(e:cz.den)(d:Int):Option (aD.den):=
aqM (idx e.2.2 d) λa=>bS (J:=Unit) (R:=aD.den) (Loop (S:=Int) (X:=Unit⊕(aD.den)) (λc=>(if(ah (c<(a.2.2.1.length:Int)))then
aqM (aqM (idx a.2.2.1 c) λh=>aqM (M.bU N h.1) λi=>(if(!i)then
aa (2,(3,(d,aqO.wrap (100+c))))
else
aqM (idx a.2.2.1 c) λj=>aqM (M.je N a.2.2.1 c j.1) λk=>(if k then
aa (7,(3,(d,aqO.wrap (100+c))))
else
aqM (idx a.2.2.1 c) λl=>aqM (M.cW N l.2 e.1) λm=>(if(!m)then
aa (8,(3,(d,aqO.wrap (100+c))))
else
aa (0,(3,(d,aqO.wrap (100+c))))))):Option (aD.den)) λf=>(if(!ah (f.1=0))then
aa (.inr (.inr f))
else
aa (.inl (aqO.wrap (c+1))))
else
aa (.inr (.inl ())))) N 0) λw=>bS (J:=Unit) (R:=aD.den) (Loop (S:=Int) (X:=Unit⊕(aD.den)) (λb=>(if(ah (b<(a.2.2.2.1.length:Int)))then
aqM (aqM (idx a.2.2.2.1 b) λn=>aqM (M.bU N n.1) λo=>(if(!o)then
aa (2,(3,(d,aqO.wrap (200+b))))
else
aqM (aqM (idx a.2.2.2.1 b) λp=>aqM (M.je N a.2.2.1 (a.2.2.1.length:Int) p.1) λq=>(if q then
aa af
else
aqM (idx a.2.2.2.1 b) λr=>aqM (M.je N a.2.2.2.1 b r.1) λs=>aa s):Option Bool) λt=>(if t then
aa (7,(3,(d,aqO.wrap (200+b))))
else
aqM (idx a.2.2.2.1 b) λu=>aqM (M.cW N u.2 e.1) λv=>(if(!v)then
aa (8,(3,(d,aqO.wrap (200+b))))
else
aa (0,(3,(d,aqO.wrap (200+b))))))):Option (aD.den)) λg=>(if(!ah (g.1=0))then
aa (.inr (.inr g))
else
aa (.inl (aqO.wrap (b+1))))
else
aa (.inr (.inl ())))) N 0) λx=>aa (0,(0,(0,0)))
def ag8:Fo 169 (.i1 [.g cz, .l az]) (.i1 [.g aD]) (u2 (M.jh N)):=fz N [QZ N,Q0 N,ag7 N] [O,O,E 144,O,T,L 6 160,O,T,T,O,R ⟨[],[(304, .box 90 (.leaf aD))],[],337⟩,X,X,X,X,X,E 144,O,T,L 8 160,O,T,T,O,R ⟨[],[(304, .box 90 (.leaf aD))],[],337⟩,O,O,B 104 464] Tryz.func169
def M.jP(a:ByteArray):Option Bool:=
Loop (S:=Int) (X:=Bool) (λb=>(if(ah (b<(a.size:Int)))then
aqM (aqM (lH a b) λc=>(if(ah (c<32))then
aa af
else
aqM (lH a b) λd=>(if(ah (126<d))then
aa af
else
aqM (lH a b) λe=>aa (ah (e=34)))):Option Bool) λf=>(if f then
aa (.inr ag)
else
aa (.inl (aqO.wrap (b+1))))
else
aa (.inr (ah ((a.size:Int)<=64))))) N 0
def ag9:Fo 246 (.i1 [.l .str]) (.i1 [.l .bool]) (M.jP N):=fz N [] [O,T,O,T,L 3 32,O,T,T,B 25 96] Tryz.func246
def M.gD(b:List bJ.den):Option (List aA.den):=
Loop (S:=Int×List aA.den) (X:=List aA.den) (λa=>(if(ah (a.1<(b.length:Int)))then
aqM (idx b a.1) λc=>aqM (cD a.2 ([c.2]:List aA.den)) λd=>aa (.inl (aqO.wrap (a.1+1),d))
else
aa (.inr a.2))) N (0,([]:List aA.den))
def aha:Fo 290 (.i1 [.l (.slice bJ)]) (.w1 74 aA) (M.gD N):=fz N [] [O,O,T,O,T,P ⟨[(3, .val ag (.own 48)),(4, .l az)],[(48, .own 74 aA)],[],49⟩] Tryz.func290
def M.ik(a:cz.den)(d:Int):Option ((List di.den)×(List bj.den)×Bool×(List aA.den)×(List aA.den)×List aA.den):=
aqM (if(ah (d<0))then
aa af
else
aa (ah ((a.2.2.length:Int)<=d))) λg=>(if g then
aa (([]:List di.den),([]:List bj.den),ag,([]:List aA.den),([]:List aA.den),([]:List aA.den))
else
aqM (idx a.2.2 d) λc=>aqM (M.gD N c.2.2.1) λe=>aqM (M.gD N c.2.2.2.1) λf=>aqM (aqM (if(ah (0<=c.2.1))then
aa (ah (c.2.1<(a.2.2.length:Int)))
else
aa ag) λh=>(if h then
aqM (idx a.2.2 c.2.1) λi=>aqM (M.gD N i.2.2.2.1) λj=>aa (e,f,a.1,a.2.1,af,j)
else
aa (e,f,a.1,a.2.1,ag,([]:List aA.den))):Option ((List aA.den)×(List aA.den)×(List di.den)×(List bj.den)×Bool×List aA.den)) λb=>aa (b.2.2.1,b.2.2.2.1,b.2.2.2.2.1,b.1,b.2.1,b.2.2.2.2.2))
def ahb:Fo 247 (.i1 [.g cz, .l az]) (.j1 [.val af (.pair (.leaf (.slice di)) (.pair (.leaf (.slice bj)) (.pair (.own 0) (.pair (.own 1) (.pair (.own 2) (.leaf .bool))))))] [.own 74 aA, .own 74 aA, .own 74 aA] 3) (u2 (M.ik N)):=fz N [aha N] [O,T,B 15 32,O,O,R ⟨[],[(240, .own 74 aA),(288, .own 74 aA),(320, .box 237 (.pair (.leaf (.slice di)) (.pair (.leaf (.slice bj)) (.pair (.own 240) (.pair (.own 288) (.pair (.own 352) (.leaf .bool))))))),(352, .own 74 aA)],[],356⟩,B 43 352] Tryz.func247
def M.oO(N:Nat)(a:Int):Option Bool:=
aqM (if(ah (1<=a))then(if(ah (a<=8))then
aa af
else(if(ah (36<=a))then
aa (ah (a<=39))
else
aa ag))
else(if(ah (36<=a))then
aa (ah (a<=39))
else
aa ag)) λb=>(if b then
aa af
else
aqM (if(ah (a=14))then
aa af
else(if(ah (a=15))then
aa af
else(if(ah (a=16))then
aa af
else(if(ah (a=33))then
aa af
else
aa (ah (a=34)))))) λc=>aa c)
def ahc:Fo 356 (.i1 [.l az]) (.i1 [.l .bool]) (M.oO N):=fz N [] [O,T,B 16 16,B 2 16] Tryz.func356
def M.dM(N:Nat)(a:Int):Option (aA.den):=
aa (a,0)
def Q1:Fo 370 (.i1 [.l az]) (.i1 [.g aA]) (M.dM N):=fz N [] [] Tryz.func370
def M.nE(a:aA.den)(c:bu.den):Option Bool:=
aqM (if(ah (a.1=1))then
aa (ah (a.1=1))
else(if(ah (a.1=2))then
aa (ah (a.1=2))
else(if(ah (a.1=3))then
aa (ah (a.1=3))
else(if(ah (a.1=4))then
aa (ah (a.1=4))
else
aa (ah (a.1=5)))))) λd=>(if d then
aqM (M.dM N a.1) λe=>aqM (M.nB N e c.1) λb=>aqM (if(ah (b.1<=a.2))then
aa (ah (a.2<=b.2))
else
aa ag) λf=>aa f
else
aqM (if(ah (a.1=14))then
aa (ah (a.1=14))
else(if(ah (a.1=15))then
aa (ah (a.1=15))
else
aa (ah (a.1=16)))) λg=>(if g then
aqM (if(ah (0<=a.2))then
aa (ah (a.2<=5))
else
aa ag) λh=>aa h
else(if(ah (a.1=34))then
aqM (if(ah (0<=a.2))then
aa (ah ((aq3 a.2 8)<=5))
else
aa ag) λi=>aa i
else(if(ah (a.1=6))then
aa (ah (0<=a.2))
else
aa af))))
def ahd:Fo 357 (.i1 [.g aA, .g bu]) (.i1 [.l .bool]) (u2 (M.nE N)):=fz N [abo N,Q1 N] [O,T,O,T,R ⟨[(9, .l .bool)],[],[],80⟩,X,T,O,B 4 256,R ⟨[(34, .l .bool)],[],[],80⟩,X,T,B 4 80,O,T,B 4 112] Tryz.func357
def M.bN(N:Nat)(a:aA.den)(b:bu.den):Option Bool:=
(if(ah (a.1=6))then
aqM (if(ah ((aqO.wrap (aq1 a.2 16))<(b.1.length:Int)))then
aqM (idx b.1 (aqO.wrap (aq1 a.2 16))) λc=>aa (ah ((aq3 a.2 16)<(c.2.length:Int)))
else
aa ag) λd=>aa d
else(if(ah (a.1=7))then
aqM (if(ah (0<=a.2))then
aa (ah (a.2<(b.2.2.1.length:Int)))
else
aa ag) λe=>aa e
else(if(ah (a.1=8))then
aqM (if(ah (0<=a.2))then
aa (ah (a.2<(b.2.2.2.1.length:Int)))
else
aa ag) λf=>aa f
else(if(ah (a.1=33))then
aqM (if(ah (0<=a.2))then
aa (ah (a.2<(b.2.1.length:Int)))
else
aa ag) λg=>aa g
else(if(ah (a.1=34))then
aa (ah ((aqO.wrap (aq1 a.2 8))<(b.2.1.length:Int)))
else(if(ah (a.1=35))then
aa b.2.2.2.2.2
else
aqM (if(ah (a.1=36))then
aa (ah (a.1=36))
else(if(ah (a.1=37))then
aa (ah (a.1=37))
else(if(ah (a.1=38))then
aa (ah (a.1=38))
else
aa (ah (a.1=39))))) λh=>(if h then
aqM (if b.2.2.2.2.2 then(if(ah (0<=a.2))then
aa (ah (a.2<(b.2.2.2.2.1.length:Int)))
else
aa ag)
else
aa ag) λi=>aa i
else
aa af)))))))
def ahe:Fo 358 (.i1 [.g aA, .g bu]) (.i1 [.l .bool]) (u2 (M.bN N)):=fz N [] [O,T,O,T,O,T,B 4 112,O,T,B 4 144,O,T,B 4 176,O,T,B 4 208,O,O,O,O,R ⟨[(83, .l .bool)],[],[],272⟩,X,T,B 4 272] Tryz.func358
def M.lu(N:Nat)(a:Int):Option Bool:=
aqM (if(ah (a=2))then
aa af
else(if(ah (a=3))then
aa af
else
aa (ah (a=4)))) λb=>aa b
def Ya:Fo 372 (.i1 [.l az]) (.i1 [.l .bool]) (M.lu N):=fz N [] [O,B 2 16] Tryz.func372
def M.iN(a:Int):Option Bool:=
aqM (aqM (M.lu N a) λb=>(if b then
aa af
else
aa (ah (a=5))):Option Bool) λc=>aa c
def abq:Fo 371 (.i1 [.l az]) (.i1 [.l .bool]) (M.iN N):=fz N [Ya N] [O,B 2 16] Tryz.func371
def M.cK(a:aA.den)(c:bu.den):Option (aA.den×Bool):=
aqM ((if(ah (a.1=6))then
aa (6,aqO.wrap (aq1 a.2 16))
else(if(ah (a.1=7))then
aqM (idx c.2.2.1 a.2) λe=>aa e
else(if(ah (a.1=8))then
aqM (idx c.2.2.2.1 a.2) λf=>aa f
else(if(ah (a.1=9))then
aqM (M.dM N 5) λg=>aa g
else(if(ah (a.1=35))then
aqM (M.dM N 2) λh=>aa h
else
aqM (if(ah (a.1=36))then
aa (ah (a.1=36))
else(if(ah (a.1=37))then
aa (ah (a.1=37))
else(if(ah (a.1=38))then
aa (ah (a.1=38))
else
aa (ah (a.1=39))))) λi=>(if i then
aqM (idx c.2.2.2.2.1 a.2) λj=>aa j
else
aqM (M.dM N a.1) λk=>aa k)))))):Option (aA.den)) λb=>aqM (M.cW N b c.1) λd=>aqM (if(ah (a.1=36))then(if d then(if(ah (b.1=2))then
aa af
else
aa (ah (b.1=3)))
else
aa ag)
else
aqM (if(ah (a.1=37))then
aa (ah (a.1=37))
else
aa (ah (a.1=38))) λl=>(if l then(if d then
aa (ah (b.1=1))
else
aa ag)
else(if(ah (a.1=39))then(if d then
aqM (M.iN N b.1) λm=>aa m
else
aa ag)
else
aa d))) λn=>aa (b,n)
def ahf:Fo 359 (.i1 [.g aA, .g bu]) (.i1 [.g aA, .l .bool]) (u2 (M.cK N)):=fz N [Q0 N,Q1 N,abq N] [O,O,T,O,R ⟨[],[(80, .box 74 (.leaf aA))],[],145⟩,O,O,O,O,O,O,O,O,O,O,B 42 304,X,O,T,O,R ⟨[(7, .l .bool)],[],[],257⟩,O,O,B 72 289] Tryz.func359
def M.dJ(b:aA.den)(a:aA.den)(d:bu.den):Option (aA.den×Bool):=
(if(ah (b.1=10))then
aqM (M.lu N a.1) λh=>aa (a,h)
else(if(ah (b.1=25))then
aa (a,ah (a.1=1))
else
aqM (if(ah (b.1=31))then
aa (ah (b.1=31))
else
aa (ah (b.1=32))) λi=>(if i then
aqM (M.dM N 2) λj=>aa (j,ah (a.1=5))
else(if(ah (b.1=33))then
aqM (idx d.2.1 b.2) λc=>aqM (aqM (M.cW N c.2.1 d.1) λk=>(if k then
aqM (M.cW N c.2.2.1 d.1) λl=>(if l then
aa ((mD aA a c.2.1),c.2.2.1)
else
aa (ag,c.2.2.1))
else
aa (ag,c.2.2.1)):Option (Bool×aA.den)) λe=>aa (e.2,e.1)
else
aqM (idx d.2.1 (aqO.wrap (aq1 b.2 8))) λf=>aqM ((if(ah (a.1=3))then
aqM (M.dM N 3) λm=>(if(mD aA f.2.1 m)then
aqM (M.dM N 4) λn=>aa ((mD aA f.2.2.1 n),a)
else
aa (ag,a))
else
aa (ag,a)):Option (Bool×aA.den)) λg=>aa (g.2,g.1)))))
def ahg:Fo 360 (.i1 [.g aA, .g aA, .g bu]) (.i1 [.g aA, .l .bool]) (u3 (M.dJ N)):=fz N [Q0 N,Q1 N,Ya N] [O,T,O,T,O,O,O,O,R ⟨[(24, .l .bool)],[],[],176⟩,X,O,O,T,O,R ⟨[(7, .l .bool)],[(48, .box 74 (.leaf aA))],[],337⟩,X,X,X,X,O,R ⟨[(7, .l .bool)],[(48, .box 74 (.leaf aA))],[],353⟩] Tryz.func360
def M.lv(f:Int)(a:Int)(b:Int):Option (aA.den×Bool):=
(if(ah (f=13))then
aqM (aqM (M.dM N a) λc=>(if(ah (b=2))then(if(ah (a=2))then
aa (af,c)
else
aa (ah (a=3),c))
else
aa (ag,c)):Option (Bool×aA.den)) λg=>aa (g.2,g.1)
else(if(ah (f=14))then
aqM (aqM (M.dM N a) λd=>(if(ah (b=4))then(if(ah (a=3))then
aa (af,d)
else
aa (ah (a=4),d))
else
aa (ag,d)):Option (Bool×aA.den)) λh=>aa (h.2,h.1)
else
aqM (if(ah (a=3))then
aa (ah (b=3))
else
aa ag) λj=>(if j then
aqM (M.dM N 4) λk=>aa (k,af)
else
aqM (aqM (M.dM N a) λe=>(if(ah (b=2))then(if(ah (a=2))then
aa (af,e)
else
aa (ah (a=3),e))
else
aa (ag,e)):Option (Bool×aA.den)) λi=>aa (i.2,i.1))))
def ahh:Fo 373 (.i1 [.l az, .l az, .l az]) (.i1 [.g aA, .l .bool]) (u3 (M.lv N)):=fz N [Q1 N] [O,T,O,T,O,T,R ⟨[(7, .l .bool)],[(0, .box 74 (.leaf aA))],[],81⟩,X,X,O,T,R ⟨[(7, .l .bool)],[(0, .box 74 (.leaf aA))],[],113⟩,X,X,X,X,T,B 42 112,R ⟨[(7, .l .bool)],[(0, .box 74 (.leaf aA))],[],113⟩] Tryz.func373
def M.iA(a:Int)(b:aA.den)(c:aA.den):Option (aA.den×Bool):=
aqM (if(ah (a=11))then
aa (ah (a=11))
else
aa (ah (a=12))) λn=>(if n then
aqM ((if(mD aA b c)then
aqM (M.lu N b.1) λo=>aa (o,b)
else
aa (ag,b)):Option (Bool×aA.den)) λd=>aa (d.2,d.1)
else
aqM (if(ah (a=13))then
aa (ah (a=13))
else(if(ah (a=14))then
aa (ah (a=14))
else
aa (ah (a=15)))) λp=>(if p then
aqM (M.lv N a b.1 c.1) λe=>aa (e.1,e.2)
else(if(ah (a=16))then
aqM ((if(ah (b.1=3))then
aa (ah (c.1=3),b)
else
aa (ag,b)):Option (Bool×aA.den)) λf=>aa (f.2,f.1)
else
aqM (if(ah (a=17))then
aa (ah (a=17))
else
aa (ah (a=18))) λq=>(if q then
aqM ((if(mD aA b c)then
aqM (M.iN N b.1) λr=>aa (r,b)
else
aa (ag,b)):Option (Bool×aA.den)) λg=>aa (g.2,g.1)
else
aqM (if(ah (a=19))then
aa (ah (a=19))
else
aa (ah (a=20))) λs=>(if s then
aqM (M.dM N 1) λt=>aa (t,(mD aA b c))
else
aqM (if(ah (a=21))then
aa (ah (a=21))
else
aa (ah (a=22))) λu=>(if u then
aqM (aqM (M.dM N 1) λh=>(if(mD aA b c)then
aqM (M.iN N b.1) λv=>aa (v,h)
else
aa (ag,h)):Option (Bool×aA.den)) λi=>aa (i.2,i.1)
else
aqM (if(ah (a=23))then
aa (ah (a=23))
else
aa (ah (a=24))) λw=>(if w then
aqM ((if(ah (b.1=1))then
aa (ah (c.1=1),b)
else
aa (ag,b)):Option (Bool×aA.den)) λj=>aa (j.2,j.1)
else
aqM (if(ah (a=27))then
aa (ah (a=27))
else
aa (ah (a=28))) λx=>(if x then
aqM ((if(ah (b.1=5))then
aa (ah (c.1=2),b)
else
aa (ag,b)):Option (Bool×aA.den)) λk=>aa (k.2,k.1)
else
aqM (aqM (M.dM N 2) λl=>(if(ah (b.1=5))then
aa (ah (c.1=5),l)
else
aa (ag,l)):Option (Bool×aA.den)) λm=>aa (m.2,m.1)))))))))
def ahi:Fo 361 (.i1 [.l az, .g aA, .g aA]) (.i1 [.g aA, .l .bool]) (u3 (M.iA N)):=fz N [Q1 N,abq N,Ya N,ahh N] [O,T,O,T,R ⟨[(9, .l .bool)],[],[],80⟩,X,T,R ⟨[(7, .l .bool)],[(32, .box 74 (.leaf aA))],[],81⟩,X,X,R ⟨[(21, .l .bool)],[],[],80⟩,X,O,O,T,R ⟨[(7, .l .bool)],[(32, .box 74 (.leaf aA))],[],113⟩,X,X,R ⟨[(44, .l .bool)],[],[],112⟩,X,T,R ⟨[(7, .l .bool)],[(32, .box 74 (.leaf aA))],[],113⟩,X,X,R ⟨[(56, .l .bool)],[],[],112⟩,X,O,R ⟨[(63, .l .bool)],[],[],112⟩,X,T,R ⟨[(7, .l .bool)],[(32, .box 74 (.leaf aA))],[],113⟩,X,X,R ⟨[(75, .l .bool)],[],[],112⟩,X,T,R ⟨[(7, .l .bool)],[(32, .box 74 (.leaf aA))],[],113⟩,X,X,R ⟨[(87, .l .bool)],[],[],112⟩,X,T,R ⟨[(7, .l .bool)],[(32, .box 74 (.leaf aA))],[],113⟩,X,X,X,X,R ⟨[(7, .l .bool)],[(32, .box 74 (.leaf aA))],[],113⟩] Tryz.func361
def M.bk(b:aA.den)(a:List aA.den)(c:bu.den):Option (aA.den×Int):=
aqM (if(!ah (b.2=0))then
aqM (M.oO N b.1) λi=>aa (!i)
else
aa ag) λj=>(if j then
aa ((0,0),2)
else
aqM (M.nE N b c) λk=>(if(!k)then
aa ((0,0),3)
else
aqM (M.bN N b c) λl=>(if(!l)then
aa ((0,0),6)
else
aqM ((if(ah ((a.length:Int)=0))then
aqM (M.cK N b c) λd=>aa (d.2,d.1)
else(if(ah ((a.length:Int)=1))then
aqM (idx a 0) λm=>aqM (M.dJ N b m c) λe=>aa (e.2,e.1)
else(if(ah ((a.length:Int)=2))then
aqM (idx a 0) λn=>aqM (idx a 1) λo=>aqM (M.iA N b.1 n o) λf=>aa (f.2,f.1)
else
aqM (idx a 1) λg=>aqM (idx a 0) λp=>(if(ah (p.1=1))then
aqM (idx a 1) λq=>aqM (idx a 2) λr=>aa ((mD aA q r),g)
else
aa (ag,g))))):Option (Bool×aA.den)) λh=>(if(!h.1)then
aa ((0,0),8)
else
aa (h.2,0)))))
def ahj:Fo 327 (.i1 [.g aA, .l (.slice aA), .g bu]) (.i1 [.g aA, .l az]) (u3 (M.bk N)):=fz N [ahc N,ahd N,ahe N,ahf N,ahg N,ahi N] [O,T,B 18 64,O,O,O,O,T,O,R ⟨[(9, .l .bool)],[(208, .box 74 (.leaf aA))],[],289⟩] Tryz.func327
def M.pJ(b:List aA.den)(f:bu.den):Option (aA.den×Int×Int):=
aqM (M.ij N b) λc=>(if(!ah (c.2.1=0))then
aa ((0,0),c.1,c.2.1)
else
bS (J:=List aA.den) (R:=aA.den×Int×Int) (Loop (S:=Int×List aA.den) (X:=(List aA.den)⊕(aA.den×Int×Int)) (λa=>(if(ah (a.1<(b.length:Int)))then
aqM (idx b a.1) λg=>aqM (M.gw N g.1) λe=>aqM (idx b a.1) λh=>aqM (iE a.2 (aqO.wrap ((a.2.length:Int)-e)) (a.2.length:Int)) λi=>aqM (M.bk N h i f) λd=>(if(!ah (d.2=0))then
aa (.inr (.inr ((0,0),a.1,d.2)))
else
aqM (iE a.2 0 (aqO.wrap ((a.2.length:Int)-e))) λj=>aqM (cD j ([d.1]:List aA.den)) λk=>aa (.inl (aqO.wrap (a.1+1),k)))
else
aa (.inr (.inl a.2)))) N (0,([]:List aA.den))) λl=>aqM (idx l 0) λm=>aa (m,0,0))
def ahk:Fo 291 (.i1 [.l (.slice aA), .g bu]) (.i1 [.g aA, .l az, .l az]) (u2 (M.pJ N)):=fz N [W51 N,W80 N,ahj N] [O,O,O,O,J ⟨[(10, .val ag (.own 256))],[(256, .own 74 aA)],[],257⟩,O,T,P ⟨[(10, .val ag (.own 272)),(11, .l az)],[(272, .own 74 aA)],[],273⟩] Tryz.func291
def M.fk(b:List aA.den)(c:bu.den)(d:aA.den):Option Int:=
aqM (M.pJ N b c) λa=>(if(!ah (a.2.2=0))then
aa a.2.2
else(if(!(mD aA a.1 d))then
aa 8
else
aa 0))
def ahl:Fo 248 (.i1 [.l (.slice aA), .g bu, .g aA]) (.i1 [.l az]) (u3 (M.fk N)):=fz N [ahk N] [] Tryz.func248
def M.jQ(f:cz.den)(g:Int)(e:Int):Option Int:=
aqM (idx f.2.2 g) λd=>aqM (idx d.2.2.2.2 e) λa=>aqM (M.bU N a.1) λi=>(if(!i)then
aa 2
else
bS (J:=Int) (R:=Int) (Loop (S:=Int×Int) (X:=Int⊕Int) (λc=>(if(ah (c.2<e))then
bS (J:=Int) (R:=(Int×Int)⊕(Int⊕Int)) (aqM (idx d.2.2.2.2 c.2) λj=>(if(ah (j.1=a.1))then
aa (.inr (.inr (.inr 7)))
else
aqM (idx d.2.2.2.2 c.2) λk=>(if(ah (k.2.1=a.2.1))then
aa (.inl (aqO.wrap (c.1+1)))
else
aa (.inl c.1)))) λl=>aa (.inl (l,aqO.wrap (c.2+1)))
else
aa (.inr (.inl c.1)))) N (0,0)) λm=>aqM (if(ah (a.2.1<0))then
aa af
else
aa (ah ((d.2.2.2.1.length:Int)<=a.2.1))) λn=>(if n then
aa 6
else
aqM (if(!ah (a.2.2.1=(-1)))then(if(ah (a.2.2.1<0))then
aa af
else(if(ah (e<=a.2.2.1))then
aa af
else
aqM (idx d.2.2.2.2 a.2.2.1) λo=>aa (!ah (o.2.1=a.2.1))))
else
aa ag) λp=>(if p then
aa 9
else
aqM (if(ah (a.2.2.2.1<0))then
aa af
else(if(ah (9<a.2.2.2.1))then
aa af
else
aqM (M.jv N a.2.2.2.2.1) λq=>(if(!q)then
aa af
else
aa (ah (a.2.2.2.2.1.1=a.2.2.2.2.1.2))))) λr=>(if r then
aa 3
else(if(ah (8<=m))then
aa 4
else
aqM (M.jP N a.2.2.2.2.2.2.2) λs=>(if(!s)then
aa 2
else
aqM (M.ik N f g) λb=>bS (J:=Unit) (R:=Int) ((if(ah (0<(a.2.2.2.2.2.1.length:Int)))then
aqM (M.fk N a.2.2.2.2.2.1 (b.1,(b.2.1,(b.2.2.2.1,(b.2.2.2.2.1,(b.2.2.2.2.2,b.2.2.1))))) (1,0)) λh=>(if(!ah (h=0))then
aa (.inr h)
else
aa (.inl ()))
else
aa (.inl ()))) λv=>aqM (idx d.2.2.2.1 a.2.1) λt=>aqM (M.fk N a.2.2.2.2.2.2.1 (b.1,(b.2.1,(b.2.2.2.1,(b.2.2.2.2.1,(b.2.2.2.2.2,b.2.2.1))))) t.2) λu=>aa u))))))
def ahm:Fo 170 (.i1 [.g cz, .l az, .l az]) (.i1 [.l az]) (u3 (M.jQ N)):=fz N [QZ N,Uu N,ag9 N,ahb N,ahl N] [O,O,O,O,O,J ⟨[(9, .l az)],[],[],336⟩,O,T,P ⟨[(9, .l az),(10, .l az)],[],[],352⟩,O,T,J ⟨[(9, .l az)],[],[],400⟩,X,X,X,X,T,B 62 336,T,B 88 336,T,B 111 336,O,O,O,E 512] Tryz.func170
def M.nF(b:List Int)(c:Int):Option (List Int):=
aqM (Loop (S:=Bool×Int×List Int) (X:=Bool×List Int) (λa=>(if(ah (a.2.1<(b.length:Int)))then
aqM (aqM (if(!a.1)then
aqM (idx b a.2.1) λf=>aa (ah (c<=f))
else
aa ag) λg=>(if g then
aqM (aqM (idx b a.2.1) λh=>(if(ah (c<h))then
aqM (cD a.2.2 ([c]:List Int)) λi=>aa i
else
aa a.2.2):Option (List Int)) λj=>aa (af,j)
else
aa (a.1,a.2.2)):Option (Bool×List Int)) λe=>aqM (idx b a.2.1) λk=>aqM (cD e.2 ([k]:List Int)) λl=>aa (.inl (e.1,aqO.wrap (a.2.1+1),l))
else
aa (.inr (a.1,a.2.2)))) N (ag,0,([]:List Int)):Option (Bool×List Int)) λd=>aqM ((if(!d.1)then
aqM (cD d.2 ([c]:List Int)) λm=>aa m
else
aa d.2):Option (List Int)) λn=>aa n
def abr:Fo 249 (.i1 [.l (.slice az), .l az]) (.w1 3 az) (u2 (M.nF N)):=fz N [] [O,O,O,R ⟨[(5, .val ag (.own 48)),(6, .l .bool)],[(48, .own 3 az)],[],49⟩,O,T,P ⟨[(5, .val ag (.own 64)),(6, .l .bool),(7, .l az)],[(64, .own 3 az)],[],65⟩,O,T,T,R ⟨[(5, .val ag (.own 129)),(6, .l .bool)],[(129, .own 3 az)],[64],130⟩,R ⟨[(23, .l .bool)],[],[],129⟩,X,T,R ⟨[(5, .val ag (.own 129))],[(129, .own 3 az)],[64],130⟩,X,X,X,X,X,X,X,R ⟨[(5, .val ag (.own 49))],[(49, .own 3 az)],[48],50⟩] Tryz.func249
def M.rC(N:Nat)(b:bn.den)(a:Int):Option Bool:=
aqM (if(ah (0<=a))then
aa (ah (a<(b.2.2.2.1.length:Int)))
else
aa ag) λc=>aa c
def ahn:Fo 255 (.i1 [.g bn, .l az]) (.i1 [.l .bool]) (u2 (M.rC N)):=fz N [] [O,B 4 32] Tryz.func255
def M.lz(b:List Int)(c:Int):Option (List Int):=
aqM (Loop (S:=Bool×Int×List Int) (X:=Bool×List Int) (λa=>(if(ah (a.2.1<(b.length:Int)))then
aqM (aqM (if(!a.1)then
aqM (idx b a.2.1) λf=>aa (ah (c<=f))
else
aa ag) λg=>(if g then
aqM (aqM (idx b a.2.1) λh=>(if(ah (c<h))then
aqM (cD a.2.2 ([c]:List Int)) λi=>aa i
else
aa a.2.2):Option (List Int)) λj=>aa (af,j)
else
aa (a.1,a.2.2)):Option (Bool×List Int)) λe=>aqM (idx b a.2.1) λk=>aqM (cD e.2 ([k]:List Int)) λl=>aa (.inl (e.1,aqO.wrap (a.2.1+1),l))
else
aa (.inr (a.1,a.2.2)))) N (ag,0,([]:List Int)):Option (Bool×List Int)) λd=>aqM ((if(!d.1)then
aqM (cD d.2 ([c]:List Int)) λm=>aa m
else
aa d.2):Option (List Int)) λn=>aa n
def aho:Fo 293 (.i1 [.l (.slice az), .l az]) (.w1 3 az) (u2 (M.lz N)):=fz N [] [O,O,O,R ⟨[(5, .val ag (.own 48)),(6, .l .bool)],[(48, .own 3 az)],[],49⟩,O,T,P ⟨[(5, .val ag (.own 64)),(6, .l .bool),(7, .l az)],[(64, .own 3 az)],[],65⟩,O,T,T,R ⟨[(5, .val ag (.own 129)),(6, .l .bool)],[(129, .own 3 az)],[64],130⟩,R ⟨[(23, .l .bool)],[],[],129⟩,X,T,R ⟨[(5, .val ag (.own 129))],[(129, .own 3 az)],[64],130⟩,X,X,X,X,X,X,X,R ⟨[(5, .val ag (.own 49))],[(49, .own 3 az)],[48],50⟩] Tryz.func293
def M.ji(b:List aA.den):Option ((List Int)×(List Int)×List Int):=
aqM (Loop (S:=Int×(List Int)×(List Int)×List Int) (X:=(List Int)×(List Int)×List Int) (λa=>(if(ah (a.1<(b.length:Int)))then
aqM (aqM (idx b a.1) λc=>aqM ((if(ah (c.1=7))then
aqM (idx b a.1) λh=>aqM (M.lz N a.2.1 h.2) λi=>aa i
else
aa a.2.1):Option (List Int)) λf=>aqM ((if(ah (c.1=8))then
aqM (idx b a.1) λj=>aqM (M.lz N a.2.2.1 j.2) λk=>aa k
else
aa a.2.2.1):Option (List Int)) λg=>aqM (if(ah (36<=c.1))then
aa (ah (c.1<=39))
else
aa ag) λl=>(if l then
aqM (idx b a.1) λm=>aqM (M.lz N a.2.2.2 m.2) λn=>aa (f,g,n)
else
aa (f,g,a.2.2.2)):Option ((List Int)×(List Int)×List Int)) λd=>aa (.inl (aqO.wrap (a.1+1),d.1,d.2.1,d.2.2))
else
aa (.inr (a.2.1,a.2.2.1,a.2.2.2)))) N (0,([]:List Int),([]:List Int),([]:List Int)):Option ((List Int)×(List Int)×List Int)) λe=>aa (e.1,e.2.1,e.2.2)
def ahp:Fo 256 (.i1 [.l (.slice aA)]) (.j1 [.val ag (.own 0), .val ag (.own 1), .val ag (.own 2)] [.own 3 az, .own 3 az, .own 3 az] 3) (M.ji N):=fz N [aho N] [O,O,R ⟨[(5, .val ag (.own 96)),(6, .val ag (.own 97)),(7, .val ag (.own 98))],[(96, .own 3 az),(97, .own 3 az),(98, .own 3 az)],[],99⟩,O,T,P ⟨[(5, .val ag (.own 112)),(6, .val ag (.own 113)),(7, .val ag (.own 114)),(8, .l az)],[(112, .own 3 az),(113, .own 3 az),(114, .own 3 az)],[],115⟩,O,T,R ⟨[(5, .val ag (.own 179)),(6, .val ag (.own 180)),(7, .val ag (.own 181))],[(179, .own 3 az),(180, .own 3 az),(181, .own 3 az)],[112,113,114],182⟩,O,R ⟨[(5, .val ag (.own 275))],[(275, .own 3 az)],[112],276⟩,X,R ⟨[(6, .val ag (.own 276))],[(276, .own 3 az)],[113],277⟩,X,B 44 277] Tryz.func256
def M.lA(b:bn.den)(g:Int):Option (List Int):=
aqM (M.rC N b g) λh=>(if(!h)then
aa ([]:List Int)
else
Loop (S:=Int×List Int) (X:=List Int) (λa=>(if(ah (a.1<(b.2.2.2.2.length:Int)))then
aqM (aqM (aqM (idx b.2.2.2.2 a.1) λi=>(if(!ah (i.2.1=g))then
aa a.2
else
aqM (idx b.2.2.2.2 a.1) λj=>aqM (M.ji N j.2.2.2.2.2.1) λe=>aqM (idx b.2.2.2.2 a.1) λk=>aqM (M.ji N k.2.2.2.2.2.2.1) λf=>aqM (Loop (S:=Int×List Int) (X:=List Int) (λc=>(if(ah (c.1<(e.2.1.length:Int)))then
aqM (aqM (idx e.2.1 c.1) λl=>aqM (M.rC N b l) λm=>(if m then
aqM (idx e.2.1 c.1) λn=>aqM (M.nF N c.2 n) λo=>aa o
else
aa c.2):Option (List Int)) λp=>aa (.inl (aqO.wrap (c.1+1),p))
else
aa (.inr c.2))) N (0,a.2):Option (List Int)) λq=>Loop (S:=Int×List Int) (X:=List Int) (λd=>(if(ah (d.1<(f.2.1.length:Int)))then
aqM (aqM (idx f.2.1 d.1) λr=>aqM (M.rC N b r) λs=>(if s then
aqM (idx f.2.1 d.1) λt=>aqM (M.nF N d.2 t) λu=>aa u
else
aa d.2):Option (List Int)) λv=>aa (.inl (aqO.wrap (d.1+1),v))
else
aa (.inr d.2))) N (0,q)):Option (List Int)) λw=>aa w:Option (List Int)) λx=>aa (.inl (aqO.wrap (a.1+1),x))
else
aa (.inr a.2))) N (0,([]:List Int)))
def abt:Fo 184 (.i1 [.g bn, .l az]) (.w1 3 az) (u2 (M.lA N)):=fz N [abr N,ahn N,ahp N] [O,O,O,T,O,T,P ⟨[(5, .val ag (.own 128)),(6, .l az)],[(128, .own 3 az)],[],129⟩,O,R ⟨[(5, .val ag (.own 209))],[(209, .own 3 az)],[128],210⟩,R ⟨[(5, .val ag (.own 209))],[(209, .own 3 az)],[128],210⟩,O,O,O,R ⟨[(5, .val ag (.own 785))],[(785, .own 3 az)],[128],786⟩,O,T,P ⟨[(5, .val ag (.own 801)),(13, .l az)],[(801, .own 3 az)],[128],802⟩,O,T,R ⟨[(5, .val ag (.own 866))],[(866, .own 3 az)],[801],867⟩,X,X,X,X,O,T,P ⟨[(5, .val ag (.own 802)),(14, .l az)],[(802, .own 3 az)],[785],803⟩,O,T,R ⟨[(5, .val ag (.own 867))],[(867, .own 3 az)],[802],868⟩] Tryz.func184
def M.lB(d:bn.den)(f:Int):Option (List Int):=
aqM (M.lA N d f) λg=>Loop (S:=(List Int)×Int) (X:=List Int) (λa=>(if(ah (a.2<(d.2.2.2.1.length:Int)))then
aqM (Loop (S:=(List Int)×Int) (X:=List Int) (λb=>(if(ah (b.2<(a.1.length:Int)))then
aqM (aqM (idx a.1 b.2) λh=>aqM (M.lA N d h) λe=>Loop (S:=(List Int)×Int) (X:=List Int) (λc=>(if(ah (c.2<(e.length:Int)))then
aqM (idx e c.2) λi=>aqM (M.nF N c.1 i) λj=>aa (.inl (j,aqO.wrap (c.2+1)))
else
aa (.inr c.1))) N (b.1,0):Option (List Int)) λk=>aa (.inl (k,aqO.wrap (b.2+1)))
else
aa (.inr b.1))) N (a.1,0):Option (List Int)) λl=>aa (.inl (l,aqO.wrap (a.2+1)))
else
aa (.inr a.1))) N (g,0)
def ahq:Fo 171 (.i1 [.g bn, .l az]) (.i1 [.l (.slice az)]) (u2 (M.lB N)):=fz N [abt N,abr N] [O,O,T,O,T,P ⟨[(5, .l (.slice az)),(6, .l az)],[],[64],112⟩,O,R ⟨[(5, .l (.slice az))],[],[],192⟩,T,O,O,T,P ⟨[(5, .l (.slice az)),(8, .l az)],[],[],240⟩,O,R ⟨[(5, .l (.slice az))],[],[],304⟩,T,O,O,T,P ⟨[(5, .l (.slice az)),(10, .l az)],[],[],432⟩] Tryz.func171
def M.lC(c:cz.den)(a:Int):Option (aD.den):=
aqM (idx c.2.2 a) λb=>aqM (M.bU N b.1) λj=>(if(!j)then
aa (2,(3,(a,0)))
else
aqM (M.eB N c 3 a b.1) λk=>(if k then
aa (7,(3,(a,0)))
else
aqM (if(!ah (b.2.1=(-1)))then(if(ah (b.2.1<0))then
aa af
else(if(ah (a<=b.2.1))then
aa af
else
aqM (idx c.2.2 b.2.1) λl=>aa (!ah (l.2.1=(-1)))))
else
aa ag) λm=>(if m then
aa (6,(3,(a,0)))
else(if(ah (12<(b.2.2.1.length:Int)))then
aa (4,(3,(a,112)))
else(if(ah (12<(b.2.2.2.1.length:Int)))then
aa (4,(3,(a,212)))
else
aqM (M.jh N c a) λg=>(if(!ah (g.1=0))then
aa g
else
bS (J:=Unit) (R:=aD.den) (Loop (S:=Int) (X:=Unit⊕(aD.den)) (λe=>(if(ah (e<(b.2.2.2.2.length:Int)))then
aqM (M.jQ N c a e) λh=>(if(!ah (h=0))then
aa (.inr (.inr (h,(3,(a,aqO.wrap (300+e))))))
else
aa (.inl (aqO.wrap (e+1))))
else
aa (.inr (.inl ())))) N 0) λo=>bS (J:=Unit) (R:=aD.den) (Loop (S:=Int) (X:=Unit⊕(aD.den)) (λd=>(if(ah (d<(b.2.2.2.1.length:Int)))then
bS (J:=Unit) (R:=Int⊕(Unit⊕(aD.den))) (aqM (M.lB N b d) λi=>Loop (S:=Int) (X:=Unit⊕(Int⊕(Unit⊕(aD.den)))) (λf=>(if(ah (f<(i.length:Int)))then
aqM (idx i f) λn=>(if(ah (n=d))then
aa (.inr (.inr (.inr (.inr (9,(3,(a,aqO.wrap (200+d))))))))
else
aa (.inl (aqO.wrap (f+1))))
else
aa (.inr (.inl ())))) N 0) λp=>aa (.inl (aqO.wrap (d+1)))
else
aa (.inr (.inl ())))) N 0) λq=>aa (0,(0,(0,0)))))))))
def ahr:Fo 102 (.i1 [.g cz, .l az]) (.i1 [.g aD]) (u2 (M.lC N)):=fz N [QZ N,X9 N,ag8 N,ahm N,ahq N] [O,O,O,O,O,T,B 56 352,O,O,O,O,E 608,O,T,L 8 624,X,X,E 608,O,T,L 10 624,O,E 704,T,O,O,T,L 12 784] Tryz.func102
def M.nG(a:cz.den):Option (aD.den):=
(if(ah (8<(a.1.length:Int)))then
aa (4,(1,(8,0)))
else
bS (J:=Unit) (R:=aD.den) (Loop (S:=Int) (X:=Unit⊕(aD.den)) (λb=>(if(ah (b<(a.1.length:Int)))then
aqM (M.mo N a b) λe=>(if(!ah (e.1=0))then
aa (.inr (.inr e))
else
aa (.inl (aqO.wrap (b+1))))
else
aa (.inr (.inl ())))) N 0) λh=>(if(ah (8<(a.2.1.length:Int)))then
aa (4,(2,(8,0)))
else
bS (J:=Unit) (R:=aD.den) (Loop (S:=Int) (X:=Unit⊕(aD.den)) (λc=>(if(ah (c<(a.2.1.length:Int)))then
aqM (M.lr N a c) λf=>(if(!ah (f.1=0))then
aa (.inr (.inr f))
else
aa (.inl (aqO.wrap (c+1))))
else
aa (.inr (.inl ())))) N 0) λi=>(if(ah (4<(a.2.2.length:Int)))then
aa (4,(3,(4,0)))
else
bS (J:=Unit) (R:=aD.den) (Loop (S:=Int) (X:=Unit⊕(aD.den)) (λd=>(if(ah (d<(a.2.2.length:Int)))then
aqM (M.lC N a d) λg=>(if(!ah (g.1=0))then
aa (.inr (.inr g))
else
aa (.inl (aqO.wrap (d+1))))
else
aa (.inr (.inl ())))) N 0) λj=>aa (0,(0,(0,0))))))
def W62:Fo 62 (.i1 [.g cz]) (.i1 [.g aD]) (M.nG N):=fz N [ag1 N,ag6 N,ahr N] [O,O,E 96,O,T,L 3 112,X,X,O,E 160,O,T,L 5 176,X,X,O,E 224,O,T,L 7 240] Tryz.func62
def M.oP(a:cz.den):Option Bool:=
aqM (M.nG N a) λb=>aa (ah (b.1=0))
def W32:Fo 32 (.i1 [.g cz]) (.i1 [.l .bool]) (M.oP N):=fz N [W62 N] [] Tryz.func32
def M.vm(N:Nat)(a:aB.den):Option (aA.den):=
aa (a.1,a.2.1)
def ahs:Fo 103 (.i1 [.g aB]) (.i1 [.g aA]) (M.vm N):=fz N [] [] Tryz.func103
def M.nI(d:cz.den)(c:List bJ.den)(b:List aB.den):Option (Int×Int):=
(if(ah ((b.length:Int)<(c.length:Int)))then
aa ((b.length:Int),5)
else(if(ah ((c.length:Int)<(b.length:Int)))then
aa ((c.length:Int),4)
else
Loop (S:=Int) (X:=Int×Int) (λa=>(if(ah (a<(b.length:Int)))then
aqM (idx b a) λe=>aqM (M.vm N e) λf=>aqM (idx c a) λg=>(if(!(mD aA f g.2))then
aa (.inr (a,8))
else
aqM (idx b a) λh=>aqM (idx c a) λi=>aqM (M.p4 N h.2.2 i.2 d.1) λj=>(if(!j)then
aa (.inr (a,3))
else
aa (.inl (aqO.wrap (a+1)))))
else
aa (.inr (0,0)))) N 0))
def W63:Fo 63 (.i1 [.g cz, .l (.slice bJ), .l (.slice aB)]) (.i1 [.l az, .l az]) (u3 (M.nI N)):=fz N [ahs N,abp N] [O,O,O,T,O,T,L 8 224] Tryz.func63
def M.qV(N:Nat)(b:cz.den)(c:Int):Option (Int×Int):=
aqM (idx b.2.2 c) λa=>aqM (if(ah (a.2.1<0))then
aa af
else
aa (ah ((b.2.2.length:Int)<=a.2.1))) λd=>(if d then
aa ((-1),0)
else
aa (a.2.1,8))
def W64:Fo 64 (.i1 [.g cz, .l az]) (.i1 [.l az, .l az]) (u2 (M.qV N)):=fz N [] [O,O,T,B 21 160] Tryz.func64
def M.nJ(a:cz.den)(c:Int)(b:ff.den):Option (Int×Int×Int):=
aqM (if(ah (c<0))then
aa af
else
aa (ah ((a.2.2.length:Int)<=c))) λh=>(if h then
aa ((-1),(-1),6)
else
aqM (if(ah (b.1<0))then
aa af
else
aa (ah (109572<b.1))) λi=>(if i then
aa ((-1),(-1),3)
else
aqM (idx a.2.2 c) λj=>aqM (M.nI N a j.2.2.1 b.2.1) λe=>(if(!ah (e.2=0))then
aa ((-1),e.1,e.2)
else
aqM (M.qV N a c) λf=>(if(ah (f.2<(b.2.2.length:Int)))then
aa (f.2,(-1),4)
else
Loop (S:=Int) (X:=Int×Int×Int) (λd=>(if(ah (d<(b.2.2.length:Int)))then
aqM (idx a.2.2 f.1) λk=>aqM (idx b.2.2 d) λl=>aqM (M.nI N a k.2.2.1 l) λg=>(if(!ah (g.2=0))then
aa (.inr (d,g.1,g.2))
else
aa (.inl (aqO.wrap (d+1))))
else
aa (.inr (0,0,0)))) N 0))))
def W33:Fo 33 (.i1 [.g cz, .l az, .g ff]) (.i1 [.l az, .l az, .l az]) (u3 (M.nJ N)):=fz N [W63 N,W64 N] [O,T,B 24 80,T,B 32 80,O,O,O,O,T,O,T,L 13 576] Tryz.func33
def M.oQ(b:bn.den)(c:Int)(d:Int):Option (List Int):=
Loop (S:=Int×List Int) (X:=List Int) (λa=>(if(ah (a.1<(b.2.2.2.2.length:Int)))then
aqM (aqM (aqM (idx b.2.2.2.2 a.1) λe=>(if(ah (e.2.1=c))then
aqM (idx b.2.2.2.2 a.1) λf=>aqM (M.gQ N f.2.2.2.2.1 d) λg=>aa g
else
aa ag):Option Bool) λh=>(if h then
aqM (cD a.2 ([a.1]:List Int)) λi=>aa i
else
aa a.2):Option (List Int)) λj=>aa (.inl (aqO.wrap (a.1+1),j))
else
aa (.inr a.2))) N (0,([]:List Int))
def aht:Fo 173 (.i1 [.g bn, .l az, .l az]) (.w1 3 az) (u3 (M.oQ N)):=fz N [X6 N] [O,O,T,O,T,P ⟨[(7, .val ag (.own 64)),(8, .l az)],[(64, .own 3 az)],[],65⟩,O,T,R ⟨[(7, .val ag (.own 145))],[(145, .own 3 az)],[64],146⟩,B 33 145] Tryz.func173
def M.qC(b:List Int)(c:Int):Option Int:=
Loop (S:=Int) (X:=Int) (λa=>(if(ah (a<(b.length:Int)))then
aqM (idx b a) λd=>(if(ah (d=c))then
aa (.inr a)
else
aa (.inl (aqO.wrap (a+1))))
else
aa (.inr (-1)))) N 0
def ahu:Fo 250 (.i1 [.l (.slice az), .l az]) (.i1 [.l az]) (u2 (M.qC N)):=fz N [] [O,T,O,T,L 5 32] Tryz.func250
def M.pK(b:bn.den)(e:List Int)(c:Int):Option Int:=
aqM (idx b.2.2.2.2 c) λf=>Loop (S:=Int×Int) (X:=Int) (λa=>aqM (if(ah (0<=a.2))then
aa (ah (a.2<a.1))
else
aa ag) λg=>(if g then
aqM (M.qC N e a.2) λd=>(if(ah (0<=d))then
aa (.inr d)
else
aqM (idx b.2.2.2.2 a.2) λh=>aa (.inl (a.2,h.2.2.1)))
else
aa (.inr (-1)))) N (c,f.2.2.1)
def ahv:Fo 174 (.i1 [.g bn, .l (.slice az), .l az]) (.i1 [.l az]) (u3 (M.pK N)):=fz N [ahu N] [O,O,T,T,P ⟨[(2, .l az),(7, .l az)],[],[],144⟩,T,B 21 144] Tryz.func174
def M.pL(c:bn.den)(e:Int)(f:Int):Option ((List Int)×(List Int)×List Int):=
aqM (M.oQ N c e f) λb=>aqM (Loop (S:=Int×(List Int)×List Int) (X:=(List Int)×List Int) (λa=>(if(ah (a.1<(b.length:Int)))then
aqM (idx b a.1) λg=>aqM (M.pK N c b g) λh=>aqM (cD a.2.1 ([h]:List Int)) λi=>aqM (idx b a.1) λj=>aqM (idx c.2.2.2.2 j) λk=>aqM (cD a.2.2 ([k.2.2.2.1]:List Int)) λl=>aa (.inl (aqO.wrap (a.1+1),i,l))
else
aa (.inr (a.2.1,a.2.2)))) N (0,([]:List Int),([]:List Int)):Option ((List Int)×List Int)) λd=>aa (b,d.1,d.2)
def ahw:Fo 105 (.i1 [.g bn, .l az, .l az]) (.j1 [.val ag (.own 0), .val ag (.own 1), .val ag (.own 2)] [.own 3 az, .own 3 az, .own 3 az] 3) (u3 (M.pL N)):=fz N [aht N,ahv N] [O,O,O,R ⟨[(10, .val ag (.own 176)),(11, .val ag (.own 177))],[(176, .own 3 az),(177, .own 3 az)],[],178⟩,O,T,P ⟨[(10, .val ag (.own 192)),(11, .val ag (.own 193)),(12, .l az)],[(192, .own 3 az),(193, .own 3 az)],[],194⟩] Tryz.func105
def M.r8(b:List aA.den)(c:List aA.den):Option Bool:=
(if(!ah ((b.length:Int)=(c.length:Int)))then
aa ag
else
Loop (S:=Int) (X:=Bool) (λa=>aqM (if(ah (a<(b.length:Int)))then
aa (ah (a<(c.length:Int)))
else
aa ag) λd=>(if d then
aqM (idx b a) λe=>aqM (idx c a) λf=>(if(!(mD aA e f))then
aa (.inr ag)
else
aa (.inl (aqO.wrap (a+1))))
else
aa (.inr af))) N 0)
def ahx:Fo 175 (.i1 [.l (.slice aA), .l (.slice aA)]) (.i1 [.l .bool]) (u2 (M.r8 N)):=fz N [] [O,O,T,O,T,L 5 112,T,B 20 112] Tryz.func175
def M.p5(b:List (List aA.den))(c:List aA.den):Option Int:=
Loop (S:=Int) (X:=Int) (λa=>(if(ah (a<(b.length:Int)))then
aqM (idx b a) λd=>aqM (M.r8 N d c) λe=>(if e then
aa (.inr a)
else
aa (.inl (aqO.wrap (a+1))))
else
aa (.inr (-1)))) N 0
def ahy:Fo 106 (.i1 [.l (.slice (.slice aA)), .l (.slice aA)]) (.i1 [.l az]) (u2 (M.p5 N)):=fz N [ahx N] [O,T,O,T,L 5 32] Tryz.func106
def M.nK(b:List Int)(c:List Int):Option Int:=
(if(!ah ((b.length:Int)=(c.length:Int)))then
aa 2
else(if(ah (8<(b.length:Int)))then
aa 4
else
Loop (S:=Int) (X:=Int) (λa=>(if(ah (a<(b.length:Int)))then
aqM (aqM (idx b a) λd=>(if(ah (d<(-1)))then
aa af
else
aqM (idx b a) λe=>aa (ah (a<=e))):Option Bool) λf=>(if f then
aa (.inr 9)
else
aqM (aqM (idx c a) λg=>(if(ah (g<0))then
aa af
else
aqM (idx c a) λh=>aa (ah (9<h))):Option Bool) λi=>(if i then
aa (.inr 3)
else
aa (.inl (aqO.wrap (a+1)))))
else
aa (.inr 0))) N 0))
def ahz:Fo 176 (.i1 [.l (.slice az), .l (.slice az)]) (.i1 [.l az]) (u2 (M.nK N)):=fz N [] [O,O,O,T,O,T,L 5 160,O,T,T,T,B 32 224,B 44 224] Tryz.func176
def M.p6(b:List Int)(c:Int):Option (List Int):=
Loop (S:=Int×List Int) (X:=List Int) (λa=>(if(ah (a.1<(b.length:Int)))then
aqM (aqM (idx b a.1) λd=>(if(ah (d=c))then
aqM (cD a.2 ([a.1]:List Int)) λe=>aa e
else
aa a.2):Option (List Int)) λf=>aa (.inl (aqO.wrap (a.1+1),f))
else
aa (.inr a.2))) N (0,([]:List Int))
def ahA:Fo 292 (.i1 [.l (.slice az), .l az]) (.w1 3 az) (u2 (M.p6 N)):=fz N [] [O,O,T,O,T,P ⟨[(5, .val ag (.own 64)),(6, .l az)],[(64, .own 3 az)],[16],65⟩,O,T,R ⟨[(5, .val ag (.own 129))],[(129, .own 3 az)],[64],130⟩] Tryz.func292
mutual
def M.gE(B:Nat):Nat->(List Int)->(List Int)->(List Bool)->Int->Option Int
 |0,_,_,_,_=>ae
 |N+1,b,c,d,e=>
  aqM (M.pM B N b c d e) λa=>
  (if(ah ((a.length:Int)=0))then
  aa (-1)
  else
  (if(ah (1<(a.length:Int)))then
  aa (-2)
  else
  aqM (idx a 0) λf=>
  aqM (M.eC B N b c d f) λg=>
  aa g))
def M.pM(B:Nat):Nat->(List Int)->(List Int)->(List Bool)->Int->Option (List Int)
 |0,_,_,_,_=>ae
 |N+1,e,b,f,g=>
  aqM (M.p6 B e g) λc=>
  Loop (S:=Int×List Int) (X:=List Int) (λa=>
  (if(ah (a.1<(c.length:Int)))then
  aqM (aqM (idx c a.1) λh=>
  aqM (M.eC B N e b f h) λi=>
  (if(ah (i=(-1)))then
  aa a.2
  else
  aqM (aqM (if(ah (0<(a.2.length:Int)))then
  aqM (idx c a.1) λj=>
  aqM (idx b j) λk=>
  aqM (idx a.2 0) λl=>
  aqM (idx b l) λm=>
  aa (ah (m<k))
  else
  aa ag) λn=>
  (if n then
  aa ([]:List Int)
  else
  aa a.2):Option (List Int)) λd=>
  aqM (if(ah ((d.length:Int)=0))then
  aa af
  else
  aqM (idx c a.1) λo=>
  aqM (idx b o) λp=>
  aqM (idx d 0) λq=>
  aqM (idx b q) λr=>
  aa (ah (p=r))) λs=>
  (if s then
  aqM (idx c a.1) λt=>
  aqM (cD d ([t]:List Int)) λu=>
  aa u
  else
  aa d)):Option (List Int)) λv=>
  aa (.inl (aqO.wrap (a.1+1),v))
  else
  aa (.inr a.2))) B (0,([]:List Int))
def M.eC(B:Nat):Nat->(List Int)->(List Int)->(List Bool)->Int->Option Int
 |0,_,_,_,_=>ae
 |N+1,d,e,b,a=>
  aqM (M.gE B N d e b a) λc=>
  aqM (if(ah (c=(-1)))then
  aqM (idx b a) λf=>
  aa f
  else
  aa ag) λg=>
  (if g then
  aa a
  else
  aa c)
end
def M.nL(a:List Int)(b:List Int)(c:List Bool)(d:Int):Option Int:=M.gE N N a b c d
def ahB:qf:=⟨.i1 [.l (.slice az), .l (.slice az), .l (.slice .bool), .l az], .i1 [.l az],u4 (M.nL N)⟩
def ahC(B N:Nat):qf:={inn:=⟨[(0, .l (.slice az)),(1, .l (.slice az)),(2, .l (.slice .bool)),(3, .l az)],[],[],0⟩,out:=⟨[(0, .l az)],[],[],0⟩,fn:=λ(x:(List Int)×(List Int)×(List Bool)×Int)=>M.gE B N x.1 x.2.1 x.2.2.1 x.2.2.2}
def ahD(B N:Nat):qf:={inn:=⟨[(0, .l (.slice az)),(1, .l (.slice az)),(2, .l (.slice .bool)),(3, .l az)],[],[],0⟩,out:=⟨[(0, .l (.slice az))],[],[],0⟩,fn:=λ(x:(List Int)×(List Int)×(List Bool)×Int)=>M.pM B N x.1 x.2.1 x.2.2.1 x.2.2.2}
def ahE(B N:Nat):qf:={inn:=⟨[(0, .l (.slice az)),(1, .l (.slice az)),(2, .l (.slice .bool)),(3, .l az)],[],[],0⟩,out:=⟨[(0, .l az)],[],[],0⟩,fn:=λ(x:(List Int)×(List Int)×(List Bool)×Int)=>M.eC B N x.1 x.2.1 x.2.2.1 x.2.2.2}
def GJ(B:Nat):∀N,hZ Tryz.prog 177 (ahC B N)/\hZ Tryz.prog 251 (ahD B N)/\hZ Tryz.prog 252 (ahE B N)
 |0=>⟨qw Tryz.func177 (by kernel_rfl) (by kernel_rfl) λ_=>rfl,qw Tryz.func251 (by kernel_rfl) (by kernel_rfl) λ_=>rfl,qw Tryz.func252 (by kernel_rfl) (by kernel_rfl) λ_=>rfl⟩
 |N+1=>⟨fw (en [ck ((GJ B N).2.1),ck ((GJ B N).2.2)] ag ag) (N:=B) .nil Tryz.func177 (by kernel_rfl) λx=>by kernel_rfl,
  fw (en [ck ((GJ B N).2.2),ck (ahA B)] ag ag) (N:=B) (.o (.o (.o (.two (.o (.two (.loop ⟨[(10, .val ag (.own 128)),(11, .l az)],[(128, .own 3 az)],[80],129⟩ (.o (.two (.meet ⟨[(10, .val ag (.own 193))],[(193, .own 3 az)],[128],194⟩ (.o (.meet ⟨[(10, .val ag (.own 337))],[(337, .own 3 az)],[128],338⟩ (.meet ⟨[(49, .l .bool)],[],[],337⟩ .nil .nil) (.meet ⟨[(69, .l .bool)],[],[],338⟩ .nil .nil))) .nil) .nil))) .nil)) .nil)))) Tryz.func251 (by kernel_rfl) λx=>by kernel_rfl,
  fw (en [ck ((GJ B N).1)] ag ag) (N:=B) (.o (.o (.two (.meet ⟨[(22, .l .bool)],[],[],112⟩ .nil .nil) .nil))) Tryz.func252 (by kernel_rfl) λx=>by kernel_rfl⟩
def ahF(N:Nat):hZ Tryz.prog 177 (ahB N):=(GJ N N).1
def M.lD(a:List Int)(b:List Int)(c:List Bool):Option Int:=
aqM (aqM (M.nK N a b) λd=>(if(!ah (d=0))then
aa af
else
aa (!ah ((c.length:Int)=(a.length:Int)))):Option Bool) λe=>(if e then
aa (-1)
else
aqM (M.nL N a b c (-1)) λf=>aa f)
def ahG:Fo 107 (.i1 [.l (.slice az), .l (.slice az), .l (.slice .bool)]) (.i1 [.l az]) (u3 (M.lD N)):=fz N [ahz N,ahF N] [O,T,B 17 16] Tryz.func107
def M.qD(N:Nat)(a:Int):Option Int:=
(if(ah (a<0))then
aa 0
else(if(ah (8<a))then
aa 8
else
aa a))
def ahH:Fo 178 (.i1 [.l az]) (.i1 [.l az]) (M.qD N):=fz N [] [] Tryz.func178
def M.r9(b:Int):Option Int:=
Loop (S:=Int×Int) (X:=Int) (λa=>(if(ah (a.2<b))then
aa (.inl (aqO.wrap (a.1*2),aqO.wrap (a.2+1)))
else
aa (.inr a.1))) N (1,0)
def ahI:Fo 253 (.i1 [.l az]) (.i1 [.l az]) (M.r9 N):=fz N [] [O,O,T,O,T,P ⟨[(3, .l az),(4, .l az)],[],[],48⟩] Tryz.func253
def M.oR(b:List Int)(d:Int):Option (List Bool):=
aqM (M.r9 N d) λe=>aqM (qh e ag) λf=>Loop (S:=Int×List Bool) (X:=List Bool) (λa=>(if(ah (a.1<(b.length:Int)))then
aqM (aqM (aqM (idx b a.1) λg=>(if(ah (0<=g))then
aqM (idx b a.1) λh=>aa (ah (h<(a.2.length:Int)))
else
aa ag):Option Bool) λi=>(if i then
aqM (idx b a.1) λc=>aqM (idx a.2 c) λk=>aa (bH a.2 c af)
else
aa a.2):Option (List Bool)) λj=>aa (.inl (aqO.wrap (a.1+1),j))
else
aa (.inr a.2))) N (0,f)
def ahJ:Fo 179 (.i1 [.l (.slice az), .l az]) (.w1 4 .bool) (u2 (M.oR N)):=fz N [ahI N] [O,O,T,O,T,P ⟨[(6, .l az)],[(48, .own 4 .bool)],[],97⟩,O,T,R ⟨[],[(48, .own 4 .bool)],[],162⟩,B 29 161] Tryz.func179
def M.sa(b:Int):Option Int:=
Loop (S:=Int×Int) (X:=Int) (λa=>(if(ah (0<a.1))then
aa (.inl (aqO.wrap (aq1 a.1 2),aqO.wrap (a.2+(aq3 a.1 2))))
else
aa (.inr a.2))) N (b,0)
def ahK:Fo 180 (.i1 [.l az]) (.i1 [.l az]) (M.sa N):=fz N [] [O,O,T,T,P ⟨[(0, .l az),(3, .l az)],[],[],32⟩] Tryz.func180
def M.gy(N:Nat)(a:aA.den)(b:Int):Option Bool:=
aa (ah ((aL .and .i64 b a.1)=a.2))
def Uz:Fo 183 (.i1 [.g aA, .l az]) (.i1 [.l .bool]) (u2 (M.gy N)):=fz N [] [] Tryz.func183
def M.qE(c:aA.den)(b:List Bool)(d:List Bool):Option Bool:=
Loop (S:=Int) (X:=Bool) (λa=>(if(ah (a<(b.length:Int)))then
aqM (aqM (M.gy N c a) λe=>(if e then
aqM (idx b a) λf=>(if f then
aqM (idx d a) λg=>aa (!g)
else
aa ag)
else
aa ag):Option Bool) λh=>(if h then
aa (.inr af)
else
aa (.inl (aqO.wrap (a+1))))
else
aa (.inr ag))) N 0
def ahL:Fo 181 (.i1 [.g aA, .l (.slice .bool), .l (.slice .bool)]) (.i1 [.l .bool]) (u3 (M.qE N)):=fz N [Uz N] [O,T,O,T,L 7 48,O,T,T,B 29 112] Tryz.func181
def M.jR(c:aA.den)(b:List Bool):Option Bool:=
Loop (S:=Int) (X:=Bool) (λa=>(if(ah (a<(b.length:Int)))then
aqM (aqM (M.gy N c a) λd=>(if d then
aqM (idx b a) λe=>aa (!e)
else
aa ag):Option Bool) λf=>(if f then
aa (.inr ag)
else
aa (.inl (aqO.wrap (a+1))))
else
aa (.inr af))) N 0
def ahM:Fo 254 (.i1 [.g aA, .l (.slice .bool)]) (.i1 [.l .bool]) (u2 (M.jR N)):=fz N [Uz N] [O,T,O,T,L 5 48,O,T,T,B 21 112] Tryz.func254
end
end
end Go.Proofs.YtfeahmiobbjklaaGreatDoor
