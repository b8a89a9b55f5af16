/- Joined texts: ModelA ModelB Plain Wq PD RA RB RC RD RE RF RI RU RV RW TA TB TC TD TE. -/
import Derived.Test.YtfeahmiobbjklaaGreatDoorU7
import Derived.Test.YtfeahmiobbjklaaGreatDoorU1
import Derived.Test.YtfeahmiobbjklaaGreatDoorU4
set_option linter.defProp false
open _root_.Decidable renaming decide->ah
open _root_.Bool renaming false->ag,true->af,false_eq_true->ags
open _root_.Option renaming none->ae,some->aa,bind->agn,bind_some->ago
open _root_.Int renaming tdiv->agC,tmod->agD,toNat_natCast->agE
open _root_.Go.IntKind renaming i64->agp,u64->agr,bits->ahL
open _root_.List renaming range->agw,length_take->ahv,mem_cons->ahq,pairwise_cons->agN,getElem_append_left->ag4,getElem_append_right->ahc,replicate->agv,filter_eq_self->ahP,getElem_mem->agy,mem_append->agV,mem_singleton->agQ
open _root_.BitVec renaming ofInt->ag9
open _root_.Go.Proofs renaming ltOf->ag0
open _root_.Nat renaming eq_of_testBit_eq->ahy,lt_of_lt_of_le->agK,mul_comm->agO,mul_le_mul_right->agA,le_refl->agt,le_trans->agR
namespace Go.Proofs.YtfeahmiobbjklaaGreatDoor
open Go Go.RowKit
set_option maxRecDepth 100000
set_option linter.unusedSimpArgs false
set_option linter.unusedVariables false
set_option linter.defProp false
section
noncomputable section
open Tk
variable (N:Nat)
set_option maxRecDepth 100000
set_option linter.unusedVariables false
def M.ox(b:List Int):Option Int:=
Loop (S:=Int) (X:=Int) (λa=>(if(ah (a<(b.length:Int)))then
agn (idx b a) λc=>(if(!ah (c=0))then
aa (.inr c)
else
aa (.inl (agp.wrap (a+1))))
else
aa (.inr 0))) N 0
def Yi:Fo 189 (.i1 [.l (.slice ay)]) (.i1 [.l ay]) (M.ox N):=fz N [] [O,O,T,O,T,L 8 80] Tryz.func189
def M.cmp_isNaN_int(N:Nat)(a:Int):Option Bool:=
aa (!ah (a=a))
def Yj:Fo 260 (.i1 [.l ay]) (.i1 [.l .bool]) (M.cmp_isNaN_int N):=fz N [] [] Tryz.func260
def M.cmp_Compare_int(a:Int)(b:Int):Option Int:=
agn (M.cmp_isNaN_int N a) λd=>agn (M.cmp_isNaN_int N b) λc=>(if d then(if c then
aa 0
else
aa (-1))
else(if c then
aa 1
else(if(ah (a<b))then
aa (-1)
else(if(ah (b<a))then
aa 1
else
aa 0))))
def Yk:Fo 190 (.i1 [.l ay, .l ay]) (.i1 [.l ay]) (u2 (M.cmp_Compare_int N)):=fz N [Yj N] [] Tryz.func190
def M.cQ(a:az.den)(b:az.den):Option Int:=
agn (M.cM N (agr.wrap a.1)) λc=>agn (M.cM N (agr.wrap b.1)) λd=>agn (M.cmp_Compare_int N c d) λe=>agn (M.cmp_Compare_int N a.1 b.1) λf=>agn (M.cmp_Compare_int N a.2 b.2) λg=>agn (M.ox N ([e,f,g]:List Int)) λh=>aa h
def Yl:Fo 188 (.i1 [.g az, .g az]) (.i1 [.l ay]) (u2 (M.cQ N)):=fz N [Yi N,Yk N,S8 N] [] Tryz.func188
def M.fj(m:Int)(g:List (az.den×Bool)):Option (List (az.den×Bool)):=
qI (S:=(List (az.den×Bool))×(List (az.den×Bool))×List az.den) (R:=List (az.den×Bool)) (λb k2=>(if(b.2.1).isEmpty then
Loop (S:=(List (az.den×Bool))×List az.den) (X:=List (az.den×Bool)) (λd=>(if(ah (0<(d.2.length:Int)))then
agn (Loop (S:=Int×(List (az.den×Bool))×List az.den) (X:=(List (az.den×Bool))×List az.den) (λc=>(if(ah (c.1<(d.2.length:Int)))then
agn (agn (idx d.2 c.1) λe=>Loop (S:=Int×(List (az.den×Bool))×List az.den) (X:=(List (az.den×Bool))×List az.den) (λa=>(if(ah (a.1<m))then
agn (agn (qC .i64 1 a.1) λh=>(if(!((bH az a.2.1 (e.1,aF .xor .i64 e.2 h)).getD ag))then
aa (a.2.1,a.2.2)
else
agn (M.kT N e (e.1,aF .xor .i64 e.2 h)) λf=>agn (if f.2 then
aa (!((bH az a.2.1 f.1).getD ag))
else
aa ag) λn=>(if n then
agn (cr a.2.2 ([f.1]:List az.den)) λo=>aa (qD az a.2.1 f.1 af,o)
else
aa (a.2.1,a.2.2))):Option ((List (az.den×Bool))×List az.den)) λi=>aa (.inl (agp.wrap (a.1+1),i.1,i.2))
else
aa (.inr (a.2.1,a.2.2)))) N (0,c.2.1,c.2.2):Option ((List (az.den×Bool))×List az.den)) λj=>aa (.inl (agp.wrap (c.1+1),j.1,j.2))
else
aa (.inr (c.2.1,c.2.2)))) N (0,d.1,([]:List az.den)):Option ((List (az.den×Bool))×List az.den)) λk=>aa (.inl (k.1,k.2))
else
aa (.inr d.1))) N (b.1,b.2.2)
else
Mw (λp=>p∈b.2.1) λl=>agn (cr b.2.2 ([l.1]:List az.den)) λq=>k2 (b.1,ma az b.2.1 l.1,q))) N (g,g,([]:List az.den))
def P4:Fo 117 (.j1 [.val ag (.own 0), .l ay] [.smap 200 az ag .bool ae] 1) (.j1 [] [.smap 200 az ag .bool ae] 2) (u2 (M.fj N)):=fz N [Yh N] [O,T,O,T,K ⟨[(4, .val ag (.own 49))],[(0, .smap 200 az ag .bool (aa 34)),(49, .own 119 az)],[],51⟩,X,X,T,P ⟨[(4, .val ag (.own 83))],[(0, .smap 200 az ag .bool ae),(83, .own 119 az)],[49],85⟩,O,T,O,R ⟨[(6, .val ag (.own 149))],[(0, .smap 200 az ag .bool ae),(149, .own 119 az)],[],151⟩,O,T,P ⟨[(6, .val ag (.own 197)),(28, .l ay)],[(0, .smap 200 az ag .bool ae),(197, .own 119 az)],[],199⟩,O,O,R ⟨[(6, .val ag (.own 215))],[(0, .smap 200 az ag .bool ae),(215, .own 119 az)],[197],217⟩,T,O,O,T,P ⟨[(6, .val ag (.own 311)),(33, .l ay)],[(0, .smap 200 az ag .bool ae),(311, .own 119 az)],[197],313⟩,O,O,T,R ⟨[(6, .val ag (.own 329))],[(0, .smap 200 az ag .bool ae),(329, .own 119 az)],[311],331⟩,O,O,O,O,B 60 729] Tryz.func117
def M.aZ(e:List az.den):Option (List az.den):=xY (λa b c d=>M.cQ N (a,b) (c,d)) e
def P5:nP:=⟨.j1 [.val ag (.own 0), .fn 188 []] [.own 119 az] 1, .j1 [] [.own 119 az] 2,M.aZ N⟩
def P6(N:Nat):fL Tryz.prog 187 (P5 N):=Eb (Yl N)
def M.gR(g:Int)(d:List (az.den×Bool)):Option ((List (az.den×Bool))×List az.den):=
qI (S:=(List (az.den×Bool))×(List (az.den×Bool))×List az.den) (R:=(List (az.den×Bool))×List az.den) (λa k2=>(if(a.2.1).isEmpty then
agn (M.aZ N a.2.2) λh=>aa (a.1,h)
else
Mw (λp=>p∈a.2.1) λb=>agn (agn (Loop (S:=Bool×Int) (X:=Bool) (λc=>(if(ah (c.2<g))then
agn (agn (qC .i64 1 c.2) λe=>agn (qC .i64 1 c.2) λf=>agn (if(!(nz az (aF .andNot .i64 b.1.1 e,aF .andNot .i64 b.1.2 f) b.1))then
aa ((bH az a.1 (aF .andNot .i64 b.1.1 e,aF .andNot .i64 b.1.2 f)).getD ag)
else
aa ag) λi=>(if i then
aa ag
else
aa c.1):Option Bool) λj=>aa (.inl (j,agp.wrap (c.2+1)))
else
aa (.inr c.1))) N (af,0):Option Bool) λk=>(if k then
agn (cr a.2.2 ([b.1]:List az.den)) λl=>aa l
else
aa a.2.2):Option (List az.den)) λm=>k2 (a.1,ma az a.2.1 b.1,m))) N (d,d,([]:List az.den))
def P7:Fo 118 (.j1 [.val ag (.own 0), .l ay] [.smap 200 az ag .bool ae] 1) (.j1 [.val ag (.own 1)] [.smap 200 az ag .bool ae, .own 119 az] 3) (u2 (M.gR N)):=fz N [P6 N] [O,O,T,O,T,K ⟨[(5, .val ag (.own 65))],[(0, .smap 200 az ag .bool (aa 50)),(65, .own 119 az)],[],67⟩,O,O,R ⟨[(5, .val ag (.own 99))],[(99, .own 119 az)],[65],100⟩,O,O,R ⟨[(7, .l .bool)],[],[],179⟩,O,T,P ⟨[(7, .l .bool),(17, .l ay)],[],[],211⟩,O,O,T,R ⟨[(7, .l .bool)],[],[],227⟩,O,O,B 38 467] Tryz.func118
def M.iK(h:List Int)(p:Int):Option (List az.den):=
agn (M.gQ N p) λe=>agn (qC .i64 1 e) λf=>agn (Loop (S:=Int×(List (Int×Bool))×List (az.den×Bool)) (X:=(List (Int×Bool))×List (az.den×Bool)) (λb=>(if(ah (b.1<(h.length:Int)))then
agn (agn (idx h b.1) λd=>agn (if(ah (0<=d))then
aa (ah (d<f))
else
aa ag) λq=>(if q then
aa (nI ay b.2.1 d af,qD az b.2.2 (agp.wrap (f-1),d) af)
else
aa (b.2.1,b.2.2)):Option ((List (Int×Bool))×List (az.den×Bool))) λi=>aa (.inl (agp.wrap (b.1+1),i.1,i.2))
else
aa (.inr (b.2.1,b.2.2)))) N (0,([]:List (Int×Bool)),([]:List (az.den×Bool))):Option ((List (Int×Bool))×List (az.den×Bool))) λj=>agn (M.fj N e j.2) λr=>agn (M.gR N e r) λk=>Loop (S:=Int×(List (Int×Bool))×List az.den) (X:=List az.den) (λc=>(if(ah (c.1<(k.2.length:Int)))then
agn (agn (agn (idx k.2 c.1) λl=>agn (Loop (S:=Bool×Int×List (Int×Bool)) (X:=Bool×List (Int×Bool)) (λa=>(if(ah (a.2.1<f))then
agn (agn (if((bH ay a.2.2 a.2.1).getD ag)then
agn (M.gA N l a.2.1) λs=>aa s
else
aa ag) λt=>(if t then
aa (af,o5 ay a.2.2 a.2.1)
else
aa (a.1,a.2.2)):Option (Bool×List (Int×Bool))) λm=>aa (.inl (m.1,agp.wrap (a.2.1+1),m.2))
else
aa (.inr (a.1,a.2.2)))) N (ag,0,c.2.1):Option (Bool×List (Int×Bool))) λg=>(if g.1 then
agn (cr c.2.2 ([l]:List az.den)) λu=>aa (g.2,u)
else
aa (g.2,c.2.2)):Option ((List (Int×Bool))×List az.den)) λn=>aa (n.1,n.2):Option ((List (Int×Bool))×List az.den)) λo=>aa (.inl (agp.wrap (c.1+1),o.1,o.2))
else
aa (.inr c.2.2))) N (0,j.1,([]:List az.den))
def W74:Fo 74 (.i1 [.l (.slice ay), .l ay]) (.w1 119 az) (u2 (M.iK N)):=fz N [W45 N,Yf N,P4 N,P7 N] [O,O,O,O,O,R ⟨[],[(112, .map 199 ay ag .bool),(144, .smap 200 az ag .bool ae)],[],178⟩,O,T,P ⟨[(23, .l ay)],[(112, .map 199 ay ag .bool),(144, .smap 200 az ag .bool ae)],[],226⟩,O,O,T,R ⟨[],[(112, .map 199 ay ag .bool),(144, .smap 200 az ag .bool ae)],[],244⟩,O,B 33 290,X,X,X,O,O,T,O,T,P ⟨[(10, .val ag (.own 322)),(49, .l ay)],[(112, .map 199 ay ag .bool),(322, .own 119 az)],[],324⟩,O,O,R ⟨[(10, .val ag (.own 340))],[(112, .map 199 ay ag .bool),(340, .own 119 az)],[322],342⟩,R ⟨[(10, .val ag (.own 340))],[(112, .map 199 ay ag .bool),(340, .own 119 az)],[322],342⟩,O,O,R ⟨[(13, .l .bool)],[(112, .map 199 ay ag .bool)],[],421⟩,O,T,P ⟨[(13, .l .bool),(54, .l ay)],[(112, .map 199 ay ag .bool)],[],453⟩,O,O,T,R ⟨[(13, .l .bool)],[(112, .map 199 ay ag .bool)],[],470⟩,O,B 64 501] Tryz.func74
def M.fP(d:List Int)(i:List Int)(j:Int):Option (List aH.den):=
agn (cr ([(-2),(-1)]:List Int) i) λe=>Loop (S:=Int×List aH.den) (X:=List aH.den) (λb=>(if(ah (b.1<(e.length:Int)))then
agn (agn (agn (idx e b.1) λf=>agn (Loop (S:=Int×List Int) (X:=List Int) (λa=>(if(ah (a.1<(d.length:Int)))then
agn (agn (idx d a.1) λk=>(if(ah (k=f))then
agn (cr a.2 ([a.1]:List Int)) λl=>aa l
else
aa a.2):Option (List Int)) λm=>aa (.inl (agp.wrap (a.1+1),m))
else
aa (.inr a.2))) N (0,([]:List Int)):Option (List Int)) λg=>(if(ah ((g.length:Int)=0))then
aa b.2
else
agn (M.iK N g j) λh=>Loop (S:=Int×List aH.den) (X:=List aH.den) (λc=>(if(ah (c.1<(h.length:Int)))then
agn (idx h c.1) λn=>agn (cr c.2 ([(n,f)]:List aH.den)) λo=>aa (.inl (agp.wrap (c.1+1),o))
else
aa (.inr c.2))) N (0,b.2)):Option (List aH.den)) λp=>aa p:Option (List aH.den)) λq=>aa (.inl (agp.wrap (b.1+1),q))
else
aa (.inr b.2))) N (0,([]:List aH.den))
def W44:Fo 44 (.i1 [.l (.slice ay), .l (.slice ay), .l ay]) (.w1 121 aH) (u3 (M.fP N)):=fz N [W74 N] [O,O,O,T,O,T,P ⟨[(8, .val ag (.own 144)),(21, .l ay)],[(144, .own 121 aH)],[],145⟩,O,O,R ⟨[(8, .val ag (.own 161))],[(161, .own 121 aH)],[144],162⟩,R ⟨[(8, .val ag (.own 161))],[(161, .own 121 aH)],[144],162⟩,O,O,R ⟨[(11, .val ag (.own 225))],[(225, .own 3 ay)],[],226⟩,O,T,P ⟨[(11, .val ag (.own 273)),(27, .l ay)],[(273, .own 3 ay)],[],274⟩,O,O,T,R ⟨[(11, .val ag (.own 290))],[(290, .own 3 ay)],[273],291⟩,X,X,X,X,O,O,T,P ⟨[(8, .val ag (.own 354)),(47, .l ay)],[(354, .own 121 aH)],[144],355⟩] Tryz.func44
def M.ir(g:jc.den)(h:Int)(d:Int)(i:Int):Option (Int×Int×(List (List az.den))×(List Int)×List aH.den):=
agn (M.jX N g) λn=>(if(!(nz bg n (0,(0,(0,0)))))then
aa (0,1,([]:List (List az.den)),([]:List Int),([]:List aH.den))
else
agn (if(ah (h<0))then
aa af
else
aa (ah ((g.2.2.length:Int)<=h))) λo=>(if o then
aa (0,6,([]:List (List az.den)),([]:List Int),([]:List aH.den))
else
agn (idx g.2.2 h) λj=>agn (if(ah (d<0))then
aa af
else
aa (ah ((j.2.2.2.1.length:Int)<=d))) λp=>(if p then
aa (0,6,([]:List (List az.den)),([]:List Int),([]:List aH.den))
else
agn (if(ah (i<0))then
aa af
else
aa (ah (109572<i))) λq=>(if q then
aa (0,3,([]:List (List az.den)),([]:List Int),([]:List aH.den))
else
agn (M.iJ N j d i) λb=>agn (og (b.1.length:Int) 0) λr=>agn (Loop (S:=Int×Int×(List Int)×(List (List az.den))×List Int) (X:=Int×(List Int)×(List (List az.den))×List Int) (λa=>(if(ah (a.1<(b.1.length:Int)))then
agn (agn (idx b.1 a.1) λl=>agn (idx a.2.2.1 a.1) λx=>agn (idx j.2.2.2.2 l) λk=>(if(ah ((k.2.2.2.2.2.1.length:Int)=0))then
aa (a.2.1,bG a.2.2.1 a.1 (-1),a.2.2.2.1,a.2.2.2.2)
else
agn (M.dP N a.2.2.2.1 k.2.2.2.2.2.1) λm=>agn ((if(ah (m<0))then
agn (M.br N k.2.2.2.2.2.1) λs=>agn (cr a.2.2.2.1 ([s]:List (List az.den))) λt=>agn (cr a.2.2.2.2 ([l]:List Int)) λu=>aa ((a.2.2.2.1.length:Int),a.2.1,t,u)
else
aa (m,a.2.1,a.2.2.2.1,a.2.2.2.2)):Option (Int×Int×(List (List az.den))×List Int)) λe=>agn (idx (bG a.2.2.1 a.1 (-1)) a.1) λy=>aa (e.2.1,bG (bG a.2.2.1 a.1 (-1)) a.1 e.1,e.2.2.1,e.2.2.2)):Option (Int×(List Int)×(List (List az.den))×List Int)) λf=>aa (.inl (agp.wrap (a.1+1),f.1,f.2.1,f.2.2.1,f.2.2.2))
else
aa (.inr (a.2.1,a.2.2.1,a.2.2.2.1,a.2.2.2.2)))) N (0,d,r,([]:List (List az.den)),([]:List Int)):Option (Int×(List Int)×(List (List az.den))×List Int)) λc=>agn (M.b8 N b.1 b.2.1 b.2.2 c.2.1 (c.2.2.1.length:Int)) λv=>agn (M.fP N v b.1 (c.2.2.1.length:Int)) λw=>aa (c.1,0,c.2.2.1,c.2.2.2,w)))))
def W19:Fo 19 (.i1 [.g jc, .l ay, .l ay, .l ay]) (.j1 [.val af (.pair (.leaf ay) (.pair (.own 0) (.pair (.own 1) (.own 2)))), .l ay] [.own 43 (.slice az), .own 3 ay, .own 121 aH] 3) (u4 (M.ir N)):=fz N [W28 N,W40 N,W41 N,W42 N,W43 N,W44 N] [O,O,T,B 34 112,O,T,B 49 224,T,B 56 224,O,O,O,R ⟨[],[(256, .box 26 (.pair (.leaf ay) (.pair (.own 528) (.pair (.own 529) .nil)))),(496, .own 3 ay),(528, .own 43 (.slice az)),(529, .own 3 ay)],[],532⟩,O,T,P ⟨[(73, .l ay)],[(256, .box 26 (.pair (.leaf ay) (.pair (.own 576) (.pair (.own 577) .nil)))),(496, .own 3 ay),(576, .own 43 (.slice az)),(577, .own 3 ay)],[],580⟩,O,O,T,R ⟨[],[(256, .box 26 (.pair (.leaf ay) (.pair (.own 596) (.pair (.own 597) .nil)))),(496, .own 3 ay),(596, .own 43 (.slice az)),(597, .own 3 ay)],[576,577],600⟩,O,O,O,O,O,R ⟨[(19, .l ay)],[(256, .box 26 (.pair (.leaf ay) (.pair (.own 980) (.pair (.own 981) .nil)))),(980, .own 43 (.slice az)),(981, .own 3 ay)],[576,577],983⟩] Tryz.func19
def M.iL(N:Nat)(a:List Int):Option Int:=
aa (a.length:Int)
def Ym:Fo 97 (.i1 [.l (.slice ay)]) (.i1 [.l ay]) (M.iL N):=fz N [] [] Tryz.func97
def M.gS(N:Nat)(a:List Int)(b:Int)(c:Int):Option Bool:=
agn (idx a b) λd=>agn (idx a c) λe=>aa (ah (d<e))
def S9:Fo 393 (.i1 [.l (.slice ay), .l ay, .l ay]) (.i1 [.l .bool]) (u3 (M.gS N)):=fz N [] [] Tryz.func393
def M.nX(N:Nat)(a:List Int):Option (Int×List Int):=
agn (idx a (agp.wrap ((a.length:Int)-1))) λb=>agn (gK a 0 (agp.wrap ((a.length:Int)-1))) λc=>aa (b,c)
def Yn:Fo 394 (.j1 [.ptr 0 [] 0] [.box 184 (.own 1), .own 3 ay] 2) ⟨[(0, .ifc 3 (.l ay))],[(0, .box 184 (.own 2)),(2, .own 3 ay)],[],4⟩ (M.nX N):=fz N [] [] Tryz.func394
def M.mP(d:bo.den):Option (List (List Int)):=
agn (og (d.2.2.2.1.length:Int) ([]:List Int)) λf=>agn (Loop (S:=Int×List (List Int)) (X:=List (List Int)) (λb=>(if(ah (b.1<(d.2.2.2.2.length:Int)))then
agn (agn (idx d.2.2.2.2 b.1) λc=>agn (if(ah (0<=c.2.1))then
aa (ah (c.2.1<(b.2.length:Int)))
else
aa ag) λg=>(if g then
agn (idx b.2 c.2.1) λn=>agn (idx b.2 c.2.1) λh=>agn (M.ju N c (b.2.length:Int)) λi=>agn (cr h i) λj=>agn (idx b.2 c.2.1) λo=>(if ah (c.2.1=c.2.1)then
agn (idx b.2 c.2.1) λp=>aa (sU b.2 c.2.1 (λq=>j))
else ae)
else
aa b.2):Option (List (List Int))) λk=>aa (.inl (agp.wrap (b.1+1),k))
else
aa (.inr b.2))) N (0,f):Option (List (List Int))) λe=>Loop (S:=Int×List (List Int)) (X:=List (List Int)) (λa=>(if(ah (a.1<(e.length:Int)))then
agn (idx a.2 a.1) λr=>agn (idx a.2 a.1) λl=>agn (M.jW N l) λm=>agn (idx a.2 a.1) λs=>(if ah (a.1=a.1)then
agn (idx a.2 a.1) λt=>aa (.inl (agp.wrap (a.1+1),sU a.2 a.1 (λu=>m)))
else ae)
else
aa (.inr a.2))) N (0,e)
def Ta:nP:=⟨.i1 [.g bo], .j1 [.val ag (.own 0)] [.deep 23 (.sl 3 (.leaf ay))] 1,M.mP N⟩
def Tb(N:Nat):fL Tryz.prog 95 (Ta N):=fw (en [ck (S4 N),ck (Kv N)] af ag) (N:=N) (.o (.o (.meet ⟨[],[(80, .deep 23 (.sl 3 (.leaf ay)))],[],113⟩ (.o (.two (.loop ⟨[(15, .l ay)],[(80, .deep 23 (.sl 3 (.leaf ay)))],[],177⟩ (.o (.o (.two (.meet ⟨[],[(80, .deep 23 (.sl 3 (.leaf ay)))],[],194⟩ (.o (.meet ⟨[(28, .l .bool)],[],[],257⟩ .nil .nil)) .nil) .nil)))) .nil)) (.two (.o (.two (.loop ⟨[(46, .l ay)],[(80, .deep 23 (.sl 3 (.leaf ay)))],[],162⟩ .nil) .nil)) .nil)))) Tryz.func95 (by kernel_rfl) λx=>by kernel_rfl
def M.lk(N:Nat)(a:Int)(b:List Int):Option (List Int):=
agn (cr b ([a]:List Int)) λc=>aa c
def P8:Fo 395 (.j1 [.ptr 0 [] 0, .ifc 3 (.l ay)] [.box 184 (.own 1), .own 3 ay] 2) ⟨[],[(0, .box 184 (.own 2)),(2, .own 3 ay)],[],4⟩ (u2 (M.lk N)):=fz N [] [] Tryz.func395
def M.fk(N:Nat)(b:Int)(c:Int)(a:List Int):Option (List Int):=
agn (idx a c) λd=>agn (idx a b) λe=>agn (idx a b) λf=>agn (idx (bG a b d) c) λg=>aa (bG (bG a b d) c e)
def Ed:Fo 396 (.j1 [.val ag (.own 0), .l ay, .l ay] [.own 3 ay] 1) (.j1 [] [.own 3 ay] 2) (u3 (M.fk N)):=fz N [] [] Tryz.func396
def M.ll(b:Int)(c:List Int):Option (List Int):=
Loop (S:=Int×List Int) (X:=List Int) (λa=>agn (if(ah ((agp.wrap (agC (agp.wrap (a.1-1)) 2))=a.1))then
aa af
else
agn (M.gS N a.2 a.1 (agp.wrap (agC (agp.wrap (a.1-1)) 2))) λd=>aa (!d)) λe=>(if e then
aa (.inr a.2)
else
agn (M.fk N (agp.wrap (agC (agp.wrap (a.1-1)) 2)) a.1 a.2) λf=>aa (.inl (agp.wrap (agC (agp.wrap (a.1-1)) 2),f)))) N (b,c)
def P9:Fo 164 (.j1 [.ifc 183 (.ptr 0 [] 0), .l ay] [.box 184 (.own 1), .own 3 ay] 2) (.j1 [] [.box 184 (.own 1), .own 3 ay] 4) (u2 (M.ll N)):=fz N [S9 N,Ed N] [T,P ⟨[(1, .l ay)],[(1, .own 3 ay)],[],3⟩,T,O,T,B 17 67] Tryz.func164
def M.gu(b:Int)(c:List Int):Option (List Int):=
agn (M.lk N b c) λa=>agn (M.iL N a) λd=>agn (M.ll N (agp.wrap (d-1)) a) λe=>aa e
def Tc:Fo 96 (.j1 [.ifc 183 (.ptr 0 [] 0), .ifc 3 (.l ay)] [.box 184 (.own 1), .own 3 ay] 2) ⟨[],[(0, .box 184 (.own 2)),(2, .own 3 ay)],[],4⟩ (u2 (M.gu N)):=fz N [Ym N,P9 N,P8 N] [] Tryz.func96
def M.jY(c:Int)(d:Int)(f:List Int):Option (Bool×List Int):=
agn (Loop (S:=Int×List Int) (X:=Int×List Int) (λa=>agn (if(ah (d<=(agp.wrap ((agp.wrap (2*a.1))+1))))then
aa af
else
aa (ah ((agp.wrap ((agp.wrap (2*a.1))+1))<0))) λg=>(if g then
aa (.inr (a.1,a.2))
else
agn (agn (if(ah ((agp.wrap ((agp.wrap ((agp.wrap (2*a.1))+1))+1))<d))then
agn (M.gS N a.2 (agp.wrap ((agp.wrap ((agp.wrap (2*a.1))+1))+1)) (agp.wrap ((agp.wrap (2*a.1))+1))) λh=>aa h
else
aa ag) λi=>(if i then
aa (agp.wrap ((agp.wrap ((agp.wrap (2*a.1))+1))+1))
else
aa (agp.wrap ((agp.wrap (2*a.1))+1))):Option Int) λb=>agn (M.gS N a.2 b a.1) λj=>(if(!j)then
aa (.inr (a.1,a.2))
else
agn (M.fk N a.1 b a.2) λk=>aa (.inl (b,k))))) N (c,f):Option (Int×List Int)) λe=>aa (ah (c<e.1),e.2)
def Qa:Fo 165 (.j1 [.ifc 183 (.ptr 0 [] 0), .l ay, .l ay] [.box 184 (.own 1), .own 3 ay] 2) (.j1 [.l .bool] [.box 184 (.own 1), .own 3 ay] 4) (u3 (M.jY N)):=fz N [S9 N,Ed N] [O,O,T,R ⟨[(7, .l ay)],[(1, .own 3 ay)],[],51⟩,P ⟨[(7, .l ay)],[(1, .own 3 ay)],[],51⟩,T,O,T,B 21 115,O,R ⟨[(9, .l ay)],[],[],147⟩,O,B 33 195] Tryz.func165
def M.kD(a:List Int):Option (Int×List Int):=
agn (M.iL N a) λb=>agn (M.fk N 0 (agp.wrap (b-1)) a) λd=>agn (M.jY N 0 (agp.wrap (b-1)) d) λe=>agn (M.nX N e.2) λc=>aa (c.1,c.2)
def Td:Fo 98 (.j1 [.ifc 183 (.ptr 0 [] 0)] [.box 184 (.own 1), .own 3 ay] 2) ⟨[(0, .ifc 3 (.l ay))],[(0, .box 184 (.own 2)),(2, .own 3 ay)],[],4⟩ (M.kD N):=fz N [Ym N,Qa N,Yn N,Ed N] [] Tryz.func98
def M.lm(s:bo.den):Option (Int×List Int):=
agn (agn (M.mP N s) λt=>aa t:Option (List (List Int))) λg=>agn (og (g.length:Int) ([]:List Int)) λu=>agn (og (g.length:Int) 0) λv=>agn (agn (Loop (S:=Int×(List (List Int))×(List Int)×List Int) (X:=(List (List Int))×(List Int)×List Int) (λa=>(if(ah (a.1<(g.length:Int)))then
agn (agn (agn (idx g a.1) λh=>agn (idx a.2.2.1 a.1) λF=>agn (Loop (S:=Int×List (List Int)) (X:=List (List Int)) (λc=>(if(ah (c.1<(h.length:Int)))then
agn (idx h c.1) λd=>agn (idx c.2 d) λG=>agn (idx c.2 d) λw=>agn (cr w ([a.1]:List Int)) λx=>agn (idx c.2 d) λH=>(if ah (d=d)then
agn (idx c.2 d) λI=>aa (.inl (agp.wrap (c.1+1),sU c.2 d (λQ=>x)))
else ae)
else
aa (.inr c.2))) N (0,a.2.1):Option (List (List Int))) λo=>(if(ah ((h.length:Int)=0))then
agn (M.gu N a.1 a.2.2.2) λy=>aa (o,bG a.2.2.1 a.1 (h.length:Int),y)
else
aa (o,bG a.2.2.1 a.1 (h.length:Int),a.2.2.2)):Option ((List (List Int))×(List Int)×List Int)) λi=>aa (i.1,i.2.1,i.2.2):Option ((List (List Int))×(List Int)×List Int)) λj=>aa (.inl (agp.wrap (a.1+1),j.1,j.2.1,j.2.2))
else
aa (.inr (a.2.1,a.2.2.1,a.2.2.2)))) N (0,u,v,([]:List Int)):Option ((List (List Int))×(List Int)×List Int)) λk=>aa (k.1,k.2.1,k.2.2):Option ((List (List Int))×(List Int)×List Int)) λl=>agn (Loop (S:=(List Int)×(List Int)×List Int) (X:=(List Int)×List Int) (λf=>agn (M.iL N f.2.2) λz=>(if(ah (0<z))then
agn (M.kD N f.2.2) λm=>agn (cr f.2.1 ([m.1]:List Int)) λA=>agn (idx l.1 m.1) λp=>Loop (S:=Int×(List Int)×List Int) (X:=((List Int)×(List Int)×List Int)⊕((List Int)×List Int)) (λb=>(if(ah (b.1<(p.length:Int)))then
agn (agn (idx p b.1) λe=>agn (idx b.2.1 e) λn=>agn (idx b.2.1 e) λU=>agn (idx (bG b.2.1 e (agp.wrap (n-1))) e) λC=>(if(ah (C=0))then
agn (M.gu N e b.2.2) λD=>aa (bG b.2.1 e (agp.wrap (n-1)),D)
else
aa (bG b.2.1 e (agp.wrap (n-1)),b.2.2)):Option ((List Int)×List Int)) λq=>aa (.inl (agp.wrap (b.1+1),q.1,q.2))
else
aa (.inr (.inl (b.2.1,A,b.2.2))))) N (0,f.1,m.2)
else
aa (.inr (f.2.1,f.2.2)))) N (l.2.1,([]:List Int),l.2.2):Option ((List Int)×List Int)) λr=>(if(ah ((r.1.length:Int)<(g.length:Int)))then
aa (9,([]:List Int))
else
aa (0,r.1))
def S60:nP:=⟨.i1 [.g bo], .j1 [.val ag (.own 0), .l ay] [.own 3 ay] 1,M.lm N⟩
def W60(N:Nat):fL Tryz.prog 60 (S60 N):=fw (en [ck (Tb N),ck (Tc N),ck (Ym N),ck (Td N)] af ag) (N:=N) (.o (.meet ⟨[(4, .l (.slice (.slice ay)))],[],[],48⟩ .nil (.o (.o (.o (.meet ⟨[(5, .l (.slice (.slice ay)))],[(144, .own 3 ay),(192, .box 184 (.own 224)),(224, .own 3 ay)],[80,176],227⟩ (.o (.meet ⟨[(5, .l (.slice (.slice ay)))],[(144, .own 3 ay),(192, .box 184 (.own 272)),(272, .own 3 ay)],[80,176],275⟩ (.loop ⟨[(29, .l ay)],[(80, .deep 23 (.sl 3 (.leaf ay))),(144, .own 3 ay),(192, .box 184 (.own 272)),(272, .own 3 ay)],[176],276⟩ (.o (.o (.meet ⟨[],[(80, .deep 23 (.sl 3 (.leaf ay))),(144, .own 3 ay),(192, .box 184 (.own 292)),(292, .own 3 ay)],[272],296⟩ (.meet ⟨[],[(80, .deep 23 (.sl 3 (.leaf ay))),(144, .own 3 ay),(192, .box 184 (.own 292)),(292, .own 3 ay)],[272],296⟩ (.o (.o (.meet ⟨[],[(80, .deep 23 (.sl 3 (.leaf ay)))],[],469⟩ (.o (.two (.loop ⟨[(41, .l ay)],[(80, .deep 23 (.sl 3 (.leaf ay)))],[],517⟩ .nil) .nil)) .nil))) .nil) .nil)))) .nil)) (.o (.meet ⟨[(12, .val ag (.own 243))],[(192, .box 184 (.own 244)),(243, .own 3 ay),(244, .own 3 ay)],[144,224],246⟩ (.two (.loop ⟨[(12, .val ag (.own 243))],[(144, .own 3 ay),(192, .box 184 (.own 244)),(243, .own 3 ay),(244, .own 3 ay)],[224],247⟩ (.o (.two (.o (.o (.o (.two (.loop ⟨[(86, .l ay)],[(144, .own 3 ay),(192, .box 184 (.own 647)),(647, .own 3 ay)],[361],650⟩ (.o (.o (.two (.meet ⟨[],[(144, .own 3 ay),(192, .box 184 (.own 666)),(666, .own 3 ay)],[647],669⟩ .nil .nil) .nil)))) .nil)))) .nil))) .nil) .nil)))))))) Tryz.func60 (by kernel_rfl) λx=>by kernel_rfl
def M.fQ(d:jc.den)(e:Int)(g:Int):Option (bo.den×(List Int)×(List aU.den)×List Int):=
agn (idx d.2.2 e) λb=>agn (og (b.2.2.2.1.length:Int) (0,(([]:List (List az.den)),(([]:List Int),([]:List aH.den))))) λh=>agn (og (b.2.2.2.1.length:Int) 0) λi=>agn (M.lm N b) λj=>agn (Loop (S:=Int×(List aU.den)×List Int) (X:=(List aU.den)×List Int) (λa=>(if(ah (a.1<(b.2.2.2.1.length:Int)))then
agn (M.ir N d e a.1 g) λc=>agn (idx a.2.1 a.1) λk=>agn (idx a.2.2 a.1) λl=>aa (.inl (agp.wrap (a.1+1),bG a.2.1 a.1 (c.1,(c.2.2.1,(c.2.2.2.1,c.2.2.2.2))),bG a.2.2 a.1 c.2.1))
else
aa (.inr (a.2.1,a.2.2)))) N (0,h,i):Option ((List aU.den)×List Int)) λf=>aa (b,j.2,f.1,f.2)
def W30:Fo 30 (.i1 [.g jc, .l ay, .l ay]) (.j1 [.val af (.pair (.leaf bo) (.pair (.own 0) (.pair (.own 1) (.own 2))))] [.own 3 ay, .own 26 aU, .own 36 ay] 3) (u3 (M.fQ N)):=fz N [W19 N,W60 N] [O,O,O,O,R ⟨[],[(208, .own 26 aU),(272, .own 36 ay)],[],450⟩,O,T,P ⟨[(34, .l ay)],[(208, .own 26 aU),(272, .own 36 ay)],[],514⟩] Tryz.func30
def M.nY(b:aU.den)(d:Int):Option (Int×Bool):=
Loop (S:=Int) (X:=Int×Bool) (λa=>(if(ah (a<(b.2.2.2.length:Int)))then
agn (idx b.2.2.2 a) λc=>agn (M.gA N c.1 d) λe=>(if e then
aa (.inr (c.2,af))
else
aa (.inl (agp.wrap (a+1))))
else
aa (.inr (0,ag)))) N 0
def W20:Fo 20 (.i1 [.g aU, .l ay]) (.i1 [.l ay, .l .bool]) (u2 (M.nY N)):=fz N [W45 N] [O,T,O,T,L 11 112] Tryz.func20
def M.nZ(N:Nat)(b:aU.den)(a:Int):Option Int:=
agn (if(ah (a<0))then
aa af
else
aa (ah ((b.2.2.1.length:Int)<=a))) λc=>(if c then
aa (-1)
else
agn (idx b.2.2.1 a) λd=>aa d)
def W99:Fo 99 (.i1 [.g aU, .l ay]) (.i1 [.l ay]) (u2 (M.nZ N)):=fz N [] [O,T,B 13 32] Tryz.func99
def M.jZ(b:eZ.den)(d:Int)(g:bl.den):Option (aA.den×Int×Int):=
agn (idx b.2.2.2 d) λh=>(if(!ah (h=0))then
agn (idx b.2.2.2 d) λi=>aa ((0,(0,0)),(-1),i)
else
agn (idx b.2.2.1 d) λe=>agn (M.bL N e g) λc=>(if(!ah (c.2.2=0))then
agn (M.nZ N e c.2.1) λj=>aa ((0,(0,0)),j,c.2.2)
else
agn (M.nY N e c.1) λa=>agn (if(!a.2)then
aa af
else
aa (ah (a.1=(-1)))) λk=>(if k then
aa ((0,(0,0)),(-1),10)
else(if(ah (a.1=(-2)))then
aa ((0,(0,0)),(-1),11)
else
agn (idx b.1.2.2.2.2 a.1) λl=>agn (M.gH N l.2.2.2.2.2.2.1 g) λf=>(if(!ah (f.2=0))then
aa ((0,(0,0)),a.1,f.2)
else
aa (f.1,a.1,0))))))
def W61:Fo 61 (.i1 [.g eZ, .l ay, .g bl]) (.i1 [.g aA, .l ay, .l ay]) (u3 (M.jZ N)):=fz N [XC N,W20 N,W24 N,W99 N] [O,O,O,O,O,O,T,B 58 608] Tryz.func61
def M.jv(c:eZ.den)(e:bl.den)(g:Int):Option (bg.den×(List aA.den)×List Int):=
agn (og (c.1.2.2.2.1.length:Int) (0,(0,0))) λh=>agn (og (c.1.2.2.2.1.length:Int) 0) λi=>gm (J:=(List aA.den)×List Int) (R:=bg.den×(List aA.den)×List Int) (Loop (S:=Int×(List aA.den)×List Int) (X:=((List aA.den)×List Int)⊕(bg.den×(List aA.den)×List Int)) (λa=>(if(ah (a.1<(c.2.1.length:Int)))then
agn (idx c.2.1 a.1) λb=>agn (M.jZ N c b (e.1,(e.2.1,(a.2.1,e.2.2.2)))) λd=>(if(!ah (d.2.2=0))then
aa (.inr (.inr ((d.2.2,(g,(b,d.2.1))),([]:List aA.den),([]:List Int))))
else
agn (idx a.2.1 b) λj=>agn (idx a.2.2 b) λk=>aa (.inl (agp.wrap (a.1+1),bG a.2.1 b d.1,bG a.2.2 b d.2.1)))
else
aa (.inr (.inl (a.2.1,a.2.2))))) N (0,h,i)) λf=>aa ((0,(0,(0,0))),f.1,f.2)
def W31:Fo 31 (.i1 [.g eZ, .g bl, .l ay]) (.j1 [.val ag (.own 0), .val ag (.own 1), .g bg] [.own 40 aA, .own 3 ay] 2) (u3 (M.jv N)):=fz N [W61 N] [O,O,O,J ⟨[],[(144, .own 40 aA),(256, .own 3 ay)],[],290⟩,O,T,P ⟨[(29, .l ay)],[(144, .own 40 aA),(256, .own 3 ay)],[],354⟩] Tryz.func31
def M.kU(b:jc.den)(g:Int)(c:xZ.den):Option (bg.den×(List aA.den)×(List Int)×List bf.den):=
agn (M.jX N b) λo=>(if(!(nz bg o (0,(0,(0,0)))))then
aa ((1,((-1),((-1),(-1)))),([]:List aA.den),([]:List Int),([]:List bf.den))
else
agn (if(ah (g<0))then
aa af
else
aa (ah ((b.2.2.length:Int)<=g))) λp=>(if p then
aa ((6,((-1),((-1),(-1)))),([]:List aA.den),([]:List Int),([]:List bf.den))
else
agn (M.mO N b g c) λm=>(if(!ah (m.2.2=0))then
aa ((m.2.2,(m.1,((-1),(-1)))),([]:List aA.den),([]:List Int),([]:List bf.den))
else
gm (J:=Int×(List aA.den)×(List bD.den)×(List bf.den)×(List (List aA.den))×List az.den) (R:=bg.den×(List aA.den)×(List Int)×List bf.den) (agn (idx b.2.2 g) λi=>agn (if(ah (0<=i.2.1))then
aa (ah (i.2.1<(b.2.2.length:Int)))
else
aa ag) λq=>(if q then
agn (agn (idx b.2.2 i.2.1) λn=>Loop (S:=Int×Int×(List aA.den)×(List bD.den)×List az.den) (X:=Int×(List aA.den)×(List bD.den)×List az.den) (λd=>(if(ah (d.1<(n.2.2.2.1.length:Int)))then
agn (idx n.2.2.2.1 d.1) λr=>agn (cr d.2.2.2.2 ([r.2]:List az.den)) λs=>aa (.inl (agp.wrap (d.1+1),d.2.1,d.2.2.1,d.2.2.2.1,s))
else
aa (.inr (d.2.1,d.2.2.1,d.2.2.2.1,d.2.2.2.2)))) N (0,c.1,c.2.1,b.2.1,([]:List az.den)):Option (Int×(List aA.den)×(List bD.den)×List az.den)) λe=>(if(ah (0<(c.2.2.length:Int)))then
agn (M.fQ N b i.2.1 c.1) λj=>Loop (S:=Int×Int×(List aA.den)×(List bD.den)×(List az.den)×(List bf.den)×List (List aA.den)) (X:=(Int×(List aA.den)×(List bD.den)×(List bf.den)×(List (List aA.den))×List az.den)⊕(bg.den×(List aA.den)×(List Int)×List bf.den)) (λa=>(if(ah (a.1<(c.2.2.length:Int)))then
agn (idx c.2.2 a.1) λt=>agn (M.jv N (j.1,(j.2.1,(j.2.2.1,j.2.2.2))) (c.1,(t,(([]:List aA.den),(([]:List (List aA.den)),(([]:List az.den),b.2.1))))) a.1) λh=>(if(!(nz bg h.1 (0,(0,(0,0)))))then
aa (.inr (.inr (h.1,([]:List aA.den),([]:List Int),([]:List bf.den))))
else
agn (cr a.2.2.2.2.2.1 ([(h.2.1,h.2.2)]:List bf.den)) λu=>agn (cr a.2.2.2.2.2.2 ([h.2.1]:List (List aA.den))) λv=>aa (.inl (agp.wrap (a.1+1),a.2.1,a.2.2.1,a.2.2.2.1,a.2.2.2.2.1,u,v)))
else
aa (.inr (.inl (a.2.1,a.2.2.1,a.2.2.2.1,a.2.2.2.2.2.1,a.2.2.2.2.2.2,a.2.2.2.2.1))))) N (0,e.1,e.2.1,e.2.2.1,e.2.2.2,([]:List bf.den),([]:List (List aA.den)))
else
aa (.inl (e.1,e.2.1,e.2.2.1,([]:List bf.den),([]:List (List aA.den)),e.2.2.2)))
else
aa (.inl (c.1,c.2.1,b.2.1,([]:List bf.den),([]:List (List aA.den)),([]:List az.den))))) λf=>agn (M.fQ N b g c.1) λk=>agn (M.jv N (k.1,(k.2.1,(k.2.2.1,k.2.2.2))) (f.1,(f.2.1,(([]:List aA.den),(f.2.2.2.2.1,(f.2.2.2.2.2,f.2.2.1))))) (-1)) λl=>(if(!(nz bg l.1 (0,(0,(0,0)))))then
aa (l.1,([]:List aA.den),([]:List Int),([]:List bf.den))
else
aa ((0,(0,(0,0))),l.2.1,l.2.2,f.2.2.2.1)))))
def W15:Fo 15 (.i1 [.g jc, .l ay, .g xZ]) (.j1 [.val af (.pair (.own 0) (.pair (.own 1) (.own 2))), .g bg] [.own 40 aA, .own 3 ay, .own 63 bf] 3) (u3 (M.kU N)):=fz N [W28 N,W29 N,W30 N,W31 N] [O,O,T,B 40 128,O,O,O,J ⟨[],[(336, .box 55 (.pair .nil (.pair .nil (.own 496)))),(464, .box 32 (.pair (.leaf ay) (.pair (.leaf (.slice aA)) (.pair .nil (.pair (.own 497) (.pair (.own 498) (.leaf (.slice bD)))))))),(496, .own 63 bf),(497, .own 27 (.slice aA)),(498, .own 74 az)],[],501⟩,O,R ⟨[(78, .l .bool)],[],[],608⟩,X,T,R ⟨[],[(464, .box 32 (.pair (.leaf ay) (.pair (.leaf (.slice aA)) (.pair .nil (.pair .nil (.pair (.own 608) (.leaf (.slice bD)))))))),(608, .own 74 az)],[],610⟩,O,T,P ⟨[(86, .l ay)],[(464, .box 32 (.pair (.leaf ay) (.pair (.leaf (.slice aA)) (.pair .nil (.pair .nil (.pair (.own 736) (.leaf (.slice bD)))))))),(736, .own 74 az)],[],738⟩,X,X,O,T,O,O,T,P ⟨[(110, .l ay)],[(336, .box 55 (.pair .nil (.pair .nil (.own 850)))),(464, .box 32 (.pair (.leaf ay) (.pair (.leaf (.slice aA)) (.pair .nil (.pair (.own 851) (.pair (.own 608) (.leaf (.slice bD)))))))),(608, .own 74 az),(850, .own 63 bf),(851, .own 27 (.slice aA))],[],855⟩] Tryz.func15
def M.r6(N:Nat)(a:List az.den):Option (List bo.den):=
aa ([((⟨#[104,111,117,115,101]⟩:ByteArray),((-1),(([((⟨#[97]⟩:ByteArray),(3,0))]:List bI.den),(([((⟨#[100]⟩:ByteArray),(3,0))]:List bI.den),([((⟨#[98,97,115,101]⟩:ByteArray),(0,((-1),(0,((0,109573),(([]:List az.den),(a,ByteArray.empty)))))))]:List dD.den)))))]:List bo.den)
def W22:Fo 22 (.i1 [.l (.slice az)]) (.j1 [.val af (.pair .nil (.pair .nil (.own 0)))] [.own 68 bo] 1) (M.r6 N):=fz N [] [] Tryz.func22
def M.x6(b:List Int)(c:List Int):Option Bool:=
(if(!ah ((b.length:Int)=(c.length:Int)))then
aa ag
else
Loop (S:=Int) (X:=Bool) (λa=>agn (if(ah (a<(b.length:Int)))then
aa (ah (a<(c.length:Int)))
else
aa ag) λd=>(if d then
agn (idx b a) λe=>agn (idx c a) λf=>(if(!ah (e=f))then
aa (.inr ag)
else
aa (.inl (agp.wrap (a+1))))
else
aa (.inr af))) N 0)
def W23:Fo 23 (.i1 [.l (.slice ay), .l (.slice ay)]) (.i1 [.l .bool]) (u2 (M.x6 N)):=fz N [] [O,O,T,O,T,L 5 112,T,B 20 112] Tryz.func23
def M.ln:Option Bool:=
agn (M.bL N (0,(([([(1,1)]:List az.den),([(1,0)]:List az.den)]:List (List az.den)),(([]:List Int),([]:List aH.den)))) (0,(([]:List aA.den),(([]:List aA.den),(([]:List (List aA.den)),(([]:List az.den),([]:List bD.den))))))) λb=>agn (M.bL N (0,(([([(1,1)]:List az.den),([(2,5)]:List az.den)]:List (List az.den)),(([]:List Int),([]:List aH.den)))) (0,(([]:List aA.den),(([]:List aA.den),(([]:List (List aA.den)),(([]:List az.den),([]:List bD.den))))))) λc=>agn (M.r6 N ([(7,0)]:List az.den)) λd=>agn (M.kU N (([]:List fF.den),(([]:List bD.den),d)) 0 (36525,(([(3,(0,1250))]:List aA.den),([]:List (List aA.den))))) λa=>agn (if(ah (b.1=1))then(if(ah (b.2.1=(-1)))then(if(ah (b.2.2=0))then(if(ah (c.1=0))then(if(ah (c.2.1=1))then(if(ah (c.2.2=8))then(if(ah (a.1.1=0))then(if(ah ((a.2.1.length:Int)=1))then
agn (idx a.2.1 0) λe=>(if(ah (e.2.2=1250))then
agn (M.x6 N a.2.2.1 ([0]:List Int)) λf=>aa f
else
aa ag)
else
aa ag)
else
aa ag)
else
aa ag)
else
aa ag)
else
aa ag)
else
aa ag)
else
aa ag)
else
aa ag) λg=>aa g
def W9:Fo 9 (.i1 []) (.i1 [.l .bool]) (λ(x:Unit)=>M.ln N):=fz N [XC N,W15 N,W22 N,W23 N] [O,O,O,O,O,O,B 0 816] Tryz.func9
def M.fm(N:Nat)(a:Int):Option Int:=
agn (if(ah (1<=a))then(if(ah (a<=9))then
aa af
else(if(ah (35<=a))then
aa (ah (a<=39))
else
aa ag))
else(if(ah (35<=a))then
aa (ah (a<=39))
else
aa ag)) λb=>(if b then
aa 0
else
agn (if(ah (a=10))then
aa (ah (a=10))
else(if(ah (a=25))then
aa (ah (a=25))
else(if(ah (a=31))then
aa (ah (a=31))
else(if(ah (a=32))then
aa (ah (a=32))
else(if(ah (a=33))then
aa (ah (a=33))
else
aa (ah (a=34))))))) λc=>(if c then
aa 1
else(if(ah (a=26))then
aa 3
else
agn (if(ah (11<=a))then
aa (ah (a<=30))
else
aa ag) λd=>(if d then
aa 2
else
aa (-1)))))
def Yo:Fo 80 (.i1 [.l ay]) (.i1 [.l ay]) (M.fm N):=fz N [] [O,T,B 16 16,T,O,T,B 18 32,X,T,B 32 64] Tryz.func80
def M.gB(b:List az.den):Option (Int×Int×List Int):=
(if(ah (48<(b.length:Int)))then
aa (0,4,([]:List Int))
else(if(ah ((b.length:Int)=0))then
aa (0,5,([]:List Int))
else
gm (J:=(List Int)×List Int) (R:=Int×Int×List Int) (Loop (S:=Int×(List Int)×List Int) (X:=((List Int)×List Int)⊕(Int×Int×List Int)) (λa=>(if(ah (a.1<(b.length:Int)))then
agn (idx b a.1) λg=>agn (M.fm N g.1) λc=>(if(ah (c<0))then
aa (.inr (.inr (a.1,2,([]:List Int))))
else(if(ah ((a.2.2.length:Int)<c))then
aa (.inr (.inr (a.1,5,([]:List Int))))
else
agn ((if(ah (0<c))then
agn (idx a.2.2 (agp.wrap ((a.2.2.length:Int)-c))) λh=>agn (gK a.2.2 0 (agp.wrap ((a.2.2.length:Int)-c))) λi=>aa (h,i)
else
aa (a.1,a.2.2)):Option (Int×List Int)) λd=>agn (cr d.2 ([d.1]:List Int)) λe=>agn (cr a.2.1 ([d.1]:List Int)) λj=>(if(ah (12<(e.length:Int)))then
aa (.inr (.inr (a.1,16,([]:List Int))))
else
aa (.inl (agp.wrap (a.1+1),j,e)))))
else
aa (.inr (.inl (a.2.1,a.2.2))))) N (0,([]:List Int),([]:List Int))) λf=>(if(ah (1<(f.2.length:Int)))then
aa ((b.length:Int),4,([]:List Int))
else
aa (0,0,f.1))))
def W51:Fo 51 (.i1 [.l (.slice az)]) (.j1 [.val ag (.own 0), .l ay, .l ay] [.own 3 ay] 1) (M.gB N):=fz N [Yo N] [O,O,O,O,J ⟨[(5, .val ag (.own 176)),(6, .val ag (.own 177))],[(176, .own 3 ay),(177, .own 3 ay)],[],178⟩,O,T,P ⟨[(5, .val ag (.own 192)),(6, .val ag (.own 193)),(7, .l ay)],[(192, .own 3 ay),(193, .own 3 ay)],[],194⟩,O,T,T,O,O,O,O,R ⟨[(6, .val ag (.own 498)),(9, .l ay)],[(498, .own 3 ay)],[193],499⟩] Tryz.func51
def M.lT(b:List az.den):Option (Int×List Int):=
agn (M.gB N b) λa=>aa (a.2.1,a.2.2)
def W25:Fo 25 (.i1 [.l (.slice az)]) (.j1 [.val ag (.own 0), .l ay] [.own 3 ay] 1) (M.lT N):=fz N [W51 N] [] Tryz.func25
def M.ke(c:List az.den)(b:Int):Option (List Int):=
agn (M.gB N c) λd=>agn (if(!ah (d.2.1=0))then
aa af
else(if(ah (b<0))then
aa af
else
aa (ah ((c.length:Int)<=b)))) λf=>(if f then
aa ([]:List Int)
else
agn (idx c b) λg=>agn (M.fm N g.1) λe=>agn (og e 0) λh=>Loop (S:=Int×Int×List Int) (X:=List Int) (λa=>(if(ah (0<=a.2.1))then
agn (idx a.2.2 a.2.1) λj=>agn (idx d.2.2 a.1) λi=>aa (.inl (agp.wrap (i-1),agp.wrap (a.2.1-1),bG a.2.2 a.2.1 a.1))
else
aa (.inr a.2.2))) N (agp.wrap (b-1),agp.wrap (e-1),h))
def W52:Fo 52 (.i1 [.l (.slice az), .l ay]) (.w1 3 ay) (u2 (M.ke N)):=fz N [W51 N,Yo N] [O,O,T,B 29 160,O,O,O,T,O,T,P ⟨[(10, .l ay),(11, .l ay)],[(288, .own 3 ay)],[],417⟩] Tryz.func52
def M.iM(N:Nat)(a:Int):Option (Int×Int):=
(if(ah (a=1))then
aa (0,1)
else(if(ah (a=2))then
aa ((-1000000000000),1000000000000)
else(if(ah (a=3))then
aa ((-1000000000000000),1000000000000000)
else(if(ah (a=4))then
aa ((-1000000000),1000000000)
else(if(ah (a=5))then
aa (0,109572)
else(if(ah (a=6))then
aa (0,15)
else
aa (0,(-1))))))))
def Te:Fo 128 (.i1 [.l ay]) (.i1 [.l ay, .l ay]) (M.iM N):=fz N [] [] Tryz.func128
def M.bE(a:aA.den):Option Bool:=
agn (M.iM N a.1) λb=>agn (if(ah (a.2.2<b.1))then
aa af
else
aa (ah (b.2<a.2.2))) λc=>(if c then
aa ag
else(if(ah (a.1=6))then
agn (if(ah (0<=a.2.1))then
aa (ah (a.2.1<8))
else
aa ag) λd=>aa d
else
aa (ah (a.2.1=0))))
def Re:Fo 81 (.i1 [.g aA]) (.i1 [.l .bool]) (M.bE N):=fz N [Te N] [O,O,T,B 20 160,T,O,T,B 2 208] Tryz.func81
def M.jd(N:Nat)(a:Int):Option Bool:=
agn (if(ah (1<=a))then(if(ah (a<=8))then
aa af
else(if(ah (36<=a))then
aa (ah (a<=39))
else
aa ag))
else(if(ah (36<=a))then
aa (ah (a<=39))
else
aa ag)) λb=>(if b then
aa af
else
agn (if(ah (a=14))then
aa af
else(if(ah (a=15))then
aa af
else(if(ah (a=16))then
aa af
else(if(ah (a=33))then
aa af
else
aa (ah (a=34)))))) λc=>aa c)
def Yp:Fo 129 (.i1 [.l ay]) (.i1 [.l .bool]) (M.jd N):=fz N [] [O,T,B 16 16,B 2 16] Tryz.func129
def M.iN(a:az.den)(b:Int):Option Bool:=
agn (agn (M.fm N a.1) λc=>(if(!ah (c=b))then
aa af
else(if(!ah (a.2=0))then
agn (M.jd N a.1) λd=>aa (!d)
else
aa ag)):Option Bool) λe=>(if e then
aa ag
else
agn (if(ah (a.1=14))then
aa (ah (a.1=14))
else(if(ah (a.1=15))then
aa (ah (a.1=15))
else
aa (ah (a.1=16)))) λf=>(if f then
agn (if(ah (0<=a.2))then
aa (ah (a.2<=5))
else
aa ag) λg=>aa g
else(if(ah (a.1=34))then
agn (if(ah (0<=a.2))then
aa (ah ((agD a.2 8)<=5))
else
aa ag) λh=>aa h
else(if(ah (a.1=6))then
aa (ah (0<=a.2))
else
aa af))))
def W82:Fo 82 (.i1 [.g az, .l ay]) (.i1 [.l .bool]) (u2 (M.iN N)):=fz N [Yo N,Yp N] [O,T,B 20 32,T,O,T,R ⟨[(23, .l .bool)],[],[],64⟩,X,T,B 4 64,O,T,B 4 96] Tryz.func82
def M.lq(N:Nat)(a:az.den)(b:bl.den):Option Bool:=
(if(ah (a.1=7))then
agn (if(ah (0<=a.2))then
aa (ah (a.2<(b.2.1.length:Int)))
else
aa ag) λc=>aa c
else(if(ah (a.1=8))then
agn (if(ah (0<=a.2))then(if(ah (a.2<(b.2.2.1.length:Int)))then
agn (idx b.2.2.1 a.2) λd=>aa (!ah (d.1=0))
else
aa ag)
else
aa ag) λe=>aa e
else(if(ah (a.1=33))then
agn (if(ah (0<=a.2))then
aa (ah (a.2<(b.2.2.2.2.2.length:Int)))
else
aa ag) λf=>aa f
else(if(ah (a.1=34))then
aa (ah ((agp.wrap (agC a.2 8))<(b.2.2.2.2.2.length:Int)))
else
agn (if(ah (a.1=36))then
aa (ah (a.1=36))
else(if(ah (a.1=37))then
aa (ah (a.1=37))
else(if(ah (a.1=38))then
aa (ah (a.1=38))
else
aa (ah (a.1=39))))) λg=>(if g then
agn (if(ah (0<=a.2))then
aa (ah (a.2<(b.2.2.2.2.1.length:Int)))
else
aa ag) λh=>aa h
else
aa af)))))
def W83:Fo 83 (.i1 [.g az, .g bl]) (.i1 [.l .bool]) (u2 (M.lq N)):=fz N [] [O,T,O,T,O,T,B 4 112,O,T,B 4 144,O,T,B 4 176,O,O,R ⟨[(65, .l .bool)],[],[],208⟩,X,T,B 4 208] Tryz.func83
def M.kV(N:Nat)(b:Int)(a:az.den):Option Bool:=
(if(!ah (a.2=0))then
aa ag
else(if(ah (b=36))then
agn (if(ah (a.1=2))then
aa af
else
aa (ah (a.1=3))) λc=>aa c
else(if(ah (b=39))then
agn (if(ah (2<=a.1))then
aa (ah (a.1<=5))
else
aa ag) λd=>aa d
else
aa (ah (a.1=1)))))
def Yq:Fo 130 (.i1 [.l ay, .g az]) (.i1 [.l .bool]) (u2 (M.kV N)):=fz N [] [O,O,T,O,T,O,T,B 4 128,O,T,B 4 160] Tryz.func130
def M.qp(a:aA.den)(b:az.den):Option Bool:=
agn (agn (M.bE N a) λc=>(if c then(if(ah (a.1=b.1))then
aa (ah (a.2.1=b.2))
else
aa ag)
else
aa ag):Option Bool) λd=>aa d
def Yr:Fo 131 (.i1 [.g aA, .g az]) (.i1 [.l .bool]) (u2 (M.qp N)):=fz N [Re N] [O,B 4 48] Tryz.func131
def M.oy(N:Nat)(c:Int)(a:Int)(b:Int)(d:Bool):Option Int:=
(if(ah (c=36))then
aa (agp.wrap (a+b))
else(if(ah (c=37))then
aa (agp.wrap (a*b))
else(if(ah (c=38))then(if(ah (a<b))then
aa b
else
aa a)
else
agn (if d then
aa af
else
aa (ah (a<b))) λe=>(if e then
aa b
else
aa a))))
def Ys:Fo 132 (.i1 [.l ay, .l ay, .l ay, .l .bool]) (.i1 [.l ay]) (u4 (M.oy N)):=fz N [] [O,O,T,B 32 128] Tryz.func132
def M.bW(a:Int)(b:Int):Option (aA.den×Int):=
agn (M.bE N (a,(0,b))) λc=>(if(!c)then
aa ((0,(0,0)),3)
else
aa ((a,(0,b)),0))
def Ee:Fo 133 (.i1 [.l ay, .l ay]) (.i1 [.g aA, .l ay]) (u2 (M.bW N)):=fz N [Re N] [] Tryz.func133
def M.kW(a:az.den)(c:bl.den):Option (aA.den×Int):=
agn (idx c.2.2.2.2.1 a.2) λd=>agn (M.kV N a.1 d) λi=>(if(!i)then
aa ((0,(0,0)),8)
else
agn ((if(ah (a.1=37))then
aa 1
else
aa 0):Option Int) λj=>gm (J:=Int) (R:=aA.den×Int) (Loop (S:=Int×Int) (X:=Int⊕(aA.den×Int)) (λb=>(if(ah (b.2<(c.2.2.2.1.length:Int)))then
agn (idx c.2.2.2.1 b.2) λe=>agn (if(ah ((e.length:Int)<=a.2))then
aa af
else
agn (idx e a.2) λk=>aa (ah (k.1=0))) λl=>(if l then
aa (.inr (.inr ((0,(0,0)),6)))
else
agn (idx e a.2) λm=>agn (M.qp N m d) λn=>(if(!n)then
aa (.inr (.inr ((0,(0,0)),8)))
else
agn (idx e a.2) λo=>agn (M.oy N a.1 b.1 o.2.2 (ah (b.2=0))) λf=>agn (M.bW N d.1 f) λg=>(if(!ah (g.2=0))then
aa (.inr (.inr ((0,(0,0)),g.2)))
else
aa (.inl (f,agp.wrap (b.2+1))))))
else
aa (.inr (.inl b.1)))) N (j,0)) λp=>agn (if(ah (a.1=39))then
aa (ah ((c.2.2.2.1.length:Int)=0))
else
aa ag) λq=>(if q then
aa ((0,(0,0)),6)
else
agn (M.bW N d.1 p) λh=>aa (h.1,h.2)))
def W84:Fo 84 (.i1 [.g az, .g bl]) (.i1 [.g aA, .l ay]) (u2 (M.kW N)):=fz N [Yq N,Yr N,Ys N,Ee N] [O,O,O,O,R ⟨[(7, .l ay)],[],[],288⟩,X,J ⟨[(7, .l ay)],[],[],288⟩,O,T,P ⟨[(7, .l ay),(8, .l ay)],[],[],304⟩,O,T,T,O,T,B 52 480,X,X,X,X,T,B 94 288] Tryz.func84
def M.bS(a:az.den)(b:bl.den):Option (aA.den×Int):=
(if(ah (a.1=7))then
agn (idx b.2.1 a.2) λf=>agn (M.bE N f) λg=>(if(!g)then
aa ((0,(0,0)),8)
else
agn (idx b.2.1 a.2) λh=>aa (h,0))
else(if(ah (a.1=8))then
agn (idx b.2.2.1 a.2) λi=>agn (M.bE N i) λj=>(if(!j)then
aa ((0,(0,0)),8)
else
agn (idx b.2.2.1 a.2) λk=>aa (k,0))
else(if(ah (a.1=9))then
agn (M.bW N 5 b.1) λc=>aa (c.1,c.2)
else(if(ah (a.1=35))then
agn (M.bW N 2 (b.2.2.2.1.length:Int)) λd=>aa (d.1,d.2)
else(if(ah (a.1=6))then
agn (M.bE N (6,(agp.wrap (agC a.2 16),agD a.2 16))) λl=>(if(!l)then
aa ((0,(0,0)),3)
else
aa ((6,(agp.wrap (agC a.2 16),agD a.2 16)),0))
else
agn (M.bW N a.1 a.2) λe=>aa (e.1,e.2))))))
def W85:Fo 85 (.i1 [.g az, .g bl]) (.i1 [.g aA, .l ay]) (u2 (M.bS N)):=fz N [Re N,Ee N] [] Tryz.func85
def M.cx(N:Nat)(a:Int):Option Bool:=
agn (if(ah (a=2))then
aa af
else(if(ah (a=3))then
aa af
else
aa (ah (a=4)))) λb=>aa b
def Tf:Fo 134 (.i1 [.l ay]) (.i1 [.l .bool]) (M.cx N):=fz N [] [O,B 2 16] Tryz.func134
def M.dL(N:Nat)(a:Bool):Option (aA.den×Int):=
agn ((if a then
aa 1
else
aa 0):Option Int) λb=>aa ((1,(0,b)),0)
def Tg:Fo 135 (.i1 [.l .bool]) (.i1 [.g aA, .l ay]) (M.dL N):=fz N [] [O,O,R ⟨[(4, .l ay)],[],[],48⟩] Tryz.func135
def M.iu(N:Nat)(a:Int):Option Bool:=
agn (if(ah (0<=a))then
aa (ah (a<=109572))
else
aa ag) λb=>aa b
def Qb:Fo 203 (.i1 [.l ay]) (.i1 [.l .bool]) (M.iu N):=fz N [] [O,B 2 16] Tryz.func203
def M.lU(N:Nat)(a:Int):Option Bool:=
agn (if(ah ((agD a 4)=0))then(if(!ah ((agD a 100)=0))then
aa af
else
aa (ah ((agD a 400)=0)))
else
aa ag) λb=>aa b
def Ti:Fo 272 (.i1 [.l ay]) (.i1 [.l .bool]) (M.lU N):=fz N [] [O,B 2 16] Tryz.func272
def M.eB(a:Int):Option Int:=
agn (M.lU N a) λb=>(if b then
aa 366
else
aa 365)
def Tj:Fo 204 (.i1 [.l ay]) (.i1 [.l ay]) (M.eB N):=fz N [Ti N] [] Tryz.func204
def M.cR(b:Int)(a:Int):Option Int:=
(if(ah (a=2))then
agn (M.lU N b) λc=>(if c then
aa 29
else
aa 28)
else
agn (if(ah (a=4))then
aa (ah (a=4))
else(if(ah (a=6))then
aa (ah (a=6))
else(if(ah (a=9))then
aa (ah (a=9))
else
aa (ah (a=11))))) λd=>(if d then
aa 30
else
agn (if(ah (a=1))then
aa (ah (a=1))
else(if(ah (a=3))then
aa (ah (a=3))
else(if(ah (a=5))then
aa (ah (a=5))
else(if(ah (a=7))then
aa (ah (a=7))
else(if(ah (a=8))then
aa (ah (a=8))
else(if(ah (a=10))then
aa (ah (a=10))
else
aa (ah (a=12)))))))) λe=>(if e then
aa 31
else
aa 0)))
def Qc:Fo 205 (.i1 [.l ay, .l ay]) (.i1 [.l ay]) (u2 (M.cR N)):=fz N [Ti N] [O,T,O,T,O,O,R ⟨[(10, .l .bool)],[],[],64⟩,X,O,B 15 64] Tryz.func205
def M.fZ(d:Int):Option (Int×Int×Int):=
agn (M.iu N d) λf=>(if(!f)then
aa (0,0,0)
else
agn (Loop (S:=Int×Int) (X:=Int×Int) (λa=>agn (M.eB N a.2) λg=>(if(ah (g<=a.1))then
agn (M.eB N a.2) λh=>aa (.inl (agp.wrap (a.1-h),agp.wrap (a.2+1)))
else
aa (.inr (a.1,a.2)))) N (d,1900):Option (Int×Int)) λc=>agn (Loop (S:=Int×Int) (X:=Int×Int) (λb=>agn (M.cR N c.2 b.2) λi=>(if(ah (i<=b.1))then
agn (M.cR N c.2 b.2) λj=>aa (.inl (agp.wrap (b.1-j),agp.wrap (b.2+1)))
else
aa (.inr (b.1,b.2)))) N (c.1,1):Option (Int×Int)) λe=>aa (c.2,e.2,agp.wrap (e.1+1)))
def Tl:Fo 136 (.i1 [.l ay]) (.i1 [.l ay, .l ay, .l ay]) (M.fZ N):=fz N [Qb N,Tj N,Qc N] [O,O,O,R ⟨[(0, .l ay),(5, .l ay)],[],[],128⟩,T,P ⟨[(0, .l ay),(5, .l ay)],[],[],128⟩,X,X,R ⟨[(0, .l ay),(6, .l ay)],[],[],128⟩,T,P ⟨[(0, .l ay),(6, .l ay)],[],[],128⟩] Tryz.func136
def M.mQ(N:Nat)(a:az.den):Option Bool:=
agn (if(ah (0<=a.1))then(if(ah (a.1<=a.2))then
aa (ah (a.2<=109573))
else
aa ag)
else
aa ag) λb=>aa b
def Yt:Fo 245 (.i1 [.g az]) (.i1 [.l .bool]) (M.mQ N):=fz N [] [O,B 2 32] Tryz.func245
def M.eM(a:az.den)(b:Int):Option Bool:=
agn (agn (M.mQ N a) λc=>(if c then(if(ah (a.1<=b))then
aa (ah (b<a.2))
else
aa ag)
else
aa ag):Option Bool) λd=>aa d
def Tm:Fo 209 (.i1 [.g az, .l ay]) (.i1 [.l .bool]) (u2 (M.eM N)):=fz N [Yt N] [O,B 4 32] Tryz.func209
def M.kX(a:iE.den)(c:Int)(b:Int):Option Bool:=
agn (agn (M.eM N a.1 c) λd=>(if d then(if(ah (a.2.1<=b))then
aa (ah (b<a.2.2.1))
else
aa ag)
else
aa ag):Option Bool) λe=>aa e
def Yu:Fo 273 (.i1 [.g iE, .l ay, .l ay]) (.i1 [.l .bool]) (u3 (M.kX N)):=fz N [Tm N] [O,B 6 32] Tryz.func273
def M.kf(b:bD.den)(c:Int)(d:Int):Option (Int×Bool):=
Loop (S:=Int) (X:=Int×Bool) (λa=>(if(ah (a<(b.2.2.2.length:Int)))then
agn (idx b.2.2.2 a) λe=>agn (M.kX N e c d) λf=>(if f then
aa (.inr (a,af))
else
aa (.inl (agp.wrap (a+1))))
else
aa (.inr (0,ag)))) N 0
def Yv:Fo 206 (.i1 [.g bD, .l ay, .l ay]) (.i1 [.l ay, .l .bool]) (u3 (M.kf N)):=fz N [Yu N] [O,T,O,T,L 8 64] Tryz.func206
def M.oz(a:bD.den)(e:Int)(b:aA.den):Option (aA.den×Int):=
agn (if(!ah (b.1=a.2.1.1))then
aa af
else(if(!ah (b.2.1=a.2.1.2))then
aa af
else(if(ah (a.2.2.1.1<1))then
aa af
else
aa (ah (6<a.2.2.1.1))))) λf=>(if f then
aa ((0,(0,0)),8)
else
agn (M.kf N a e b.2.2) λc=>(if(!c.2)then
aa ((0,(0,0)),6)
else
agn (idx a.2.2.2 c.1) λd=>agn (M.bE N (a.2.2.1.1,(a.2.2.1.2,d.2.2.2))) λg=>(if(!g)then
aa ((0,(0,0)),3)
else
aa ((a.2.2.1.1,(a.2.2.1.2,d.2.2.2)),0))))
def Yw:Fo 137 (.i1 [.g bD, .l ay, .g aA]) (.i1 [.g aA, .l ay]) (u3 (M.oz N)):=fz N [Re N,Yv N] [O,T,B 36 64] Tryz.func137
def M.jw(N:Nat)(a:Int):Option Bool:=
agn (if(ah (0<=a))then
aa (ah (a<=5))
else
aa ag) λb=>aa b
def M4:Fo 207 (.i1 [.l ay]) (.i1 [.l .bool]) (M.jw N):=fz N [] [O,B 2 16] Tryz.func207
def M.cK(N:Nat)(a:Int)(b:Int):Option Bool:=
agn (if(ah (b<a))then
aa af
else
aa (ah (a<(agp.wrap (0-b))))) λc=>aa c
def M5:Fo 208 (.i1 [.l ay, .l ay]) (.i1 [.l .bool]) (u2 (M.cK N)):=fz N [] [O,B 4 16] Tryz.func208
def M.gv(N:Nat)(b:Int)(c:Int):Option (Int×Int×Bool):=
agn ((if(ah (c<0))then
aa (agr.wrap ((agr.wrap (agp.wrap (0-(agp.wrap (c+1)))))+1))
else
aa (agr.wrap c)):Option Int) λa=>agn (if(ah (0<(agp.wrap (agr.wrap (agC a 1000000)))))then
agn (kB 1000000000000000 (agp.wrap (agr.wrap (agC a 1000000)))) λd=>aa (ah ((agp.wrap d)<b))
else
aa ag) λe=>(if e then
aa (0,0,ag)
else(if(ah (1000000000000000<(agp.wrap ((agp.wrap ((agp.wrap (b*(agp.wrap (agr.wrap (agC a 1000000)))))+(agp.wrap ((agp.wrap (agC b 1000000))*(agp.wrap (agD a 1000000))))))+(agp.wrap (agC (agp.wrap ((agD b 1000000)*(agp.wrap (agD a 1000000)))) 1000000))))))then
aa (0,0,ag)
else(if(ah (c<0))then
aa (agp.wrap (0-(agp.wrap ((agp.wrap ((agp.wrap (b*(agp.wrap (agr.wrap (agC a 1000000)))))+(agp.wrap ((agp.wrap (agC b 1000000))*(agp.wrap (agD a 1000000))))))+(agp.wrap (agC (agp.wrap ((agD b 1000000)*(agp.wrap (agD a 1000000)))) 1000000))))),agp.wrap (0-(agD (agp.wrap ((agD b 1000000)*(agp.wrap (agD a 1000000)))) 1000000)),af)
else
aa (agp.wrap ((agp.wrap ((agp.wrap (b*(agp.wrap (agr.wrap (agC a 1000000)))))+(agp.wrap ((agp.wrap (agC b 1000000))*(agp.wrap (agD a 1000000))))))+(agp.wrap (agC (agp.wrap ((agD b 1000000)*(agp.wrap (agD a 1000000)))) 1000000))),agD (agp.wrap ((agD b 1000000)*(agp.wrap (agD a 1000000)))) 1000000,af))))
def Yx:Fo 210 (.i1 [.l ay, .l ay]) (.i1 [.l ay, .l ay, .l .bool]) (u2 (M.gv N)):=fz N [] [O,O,R ⟨[(7, .l (.int .u64))],[],[],96⟩,X,O,T,B 34 224] Tryz.func210
def M.ei(N:Nat)(c:Int)(a:Int)(d:Int)(e:Bool)(b:Int):Option Int:=
agn (if(ah (b=0))then(if e then
aa (ah (0<a))
else
aa ag)
else(if(ah (b=1))then(if(!e)then
aa (ah (0<a))
else
aa ag)
else(if(ah (b=3))then
aa (ah (0<a))
else(if(ah (b=4))then
aa (ah ((agp.wrap (d-a))<=a))
else(if(ah (b=5))then(if(ah ((agp.wrap (d-a))<a))then
aa af
else(if(ah (a=(agp.wrap (d-a))))then
aa (ah ((agD c 2)=1))
else
aa ag))
else
aa ag))))) λg=>agn ((if g then
aa (agp.wrap (c+1))
else
aa c):Option Int) λf=>(if e then
aa (agp.wrap (0-f))
else
aa f)
def M6:Fo 274 (.i1 [.l ay, .l ay, .l ay, .l .bool, .l ay]) (.i1 [.l ay]) (u5 (M.ei N)):=fz N [] [O,O,T,O,B 11 48,R ⟨[(0, .l ay)],[],[],48⟩] Tryz.func274
def M.kY(f:Int)(g:Int)(d:Int):Option Int:=
agn (Loop (S:=Int×Int) (X:=Int×Int) (λb=>(if(ah (b.2<0))then
aa (.inl (agp.wrap (b.1-1),agp.wrap (b.2+1000000)))
else
aa (.inr (b.1,b.2)))) N (f,g):Option (Int×Int)) λe=>agn (Loop (S:=Int×Int) (X:=Int×Int) (λc=>(if(ah (1000000<=c.2))then
aa (.inl (agp.wrap (c.1+1),agp.wrap (c.2-1000000)))
else
aa (.inr (c.1,c.2)))) N (e.1,e.2):Option (Int×Int)) λa=>(if(ah (0<=a.1))then
agn (M.ei N a.1 a.2 1000000 ag d) λh=>aa h
else(if(ah (a.2=0))then
aa a.1
else
agn (M.ei N (agp.wrap ((agp.wrap (0-a.1))-1)) (agp.wrap (1000000-a.2)) 1000000 af d) λi=>aa i))
def Yy:Fo 211 (.i1 [.l ay, .l ay, .l ay]) (.i1 [.l ay]) (u3 (M.kY N)):=fz N [M6 N] [O,R ⟨[(0, .l ay),(1, .l ay)],[],[],16⟩,T,P ⟨[(0, .l ay),(1, .l ay)],[],[],16⟩,X,X,R ⟨[(0, .l ay),(1, .l ay)],[],[],16⟩,T,P ⟨[(0, .l ay),(1, .l ay)],[],[],16⟩] Tryz.func211
def M.kg(b:bD.den)(k:Int)(c:Int)(g:Int):Option (Int×Int):=
agn (M.jw N g) λl=>(if(!l)then
aa (0,1)
else
agn (if(!(nz az b.2.1 (3,0)))then
aa af
else
aa (!(nz az b.2.2.1 (4,0)))) λm=>(if m then
aa (0,8)
else
agn (M.cK N c 1000000000000000) λn=>(if n then
aa (0,3)
else
gm (J:=Int×Int) (R:=Int×Int) (Loop (S:=Int×Int×Int) (X:=(Int×Int)⊕(Int×Int)) (λa=>(if(ah (a.2.2<(b.2.2.2.length:Int)))then
gm (J:=Int×Int) (R:=(Int×Int×Int)⊕((Int×Int)⊕(Int×Int))) (agn (idx b.2.2.2 a.2.2) λd=>agn (idx b.2.2.2 a.2.2) λe=>agn (if(ah ((if c<e.2.2.1 then c else e.2.2.1)<=(if d.2.1<0 then 0 else d.2.1)))then
aa af
else
agn (idx b.2.2.2 a.2.2) λo=>agn (M.eM N o.1 k) λp=>aa (!p)) λq=>(if q then
aa (.inl (a.1,a.2.1))
else
agn (idx b.2.2.2 a.2.2) λr=>agn (M.gv N (agp.wrap ((if c<e.2.2.1 then c else e.2.2.1)-(if d.2.1<0 then 0 else d.2.1))) r.2.2.2) λf=>(if(!f.2.2)then
aa (.inr (.inr (.inr (0,3))))
else
aa (.inl (agp.wrap (a.1+f.1),agp.wrap (a.2.1+f.2.1)))))) λh=>aa (.inl (h.1,h.2,agp.wrap (a.2.2+1)))
else
aa (.inr (.inl (a.1,a.2.1))))) N (0,0,0)) λi=>agn (M.kY N i.1 i.2 g) λj=>agn (M.cK N j 1000000000000000) λs=>(if s then
aa (0,3)
else
aa (j,0)))))
def Yz:Fo 138 (.i1 [.g bD, .l ay, .l ay, .l ay]) (.i1 [.l ay, .l ay]) (u4 (M.kg N)):=fz N [M4 N,M5 N,Tm N,Yx N,Yy N] [O,O,T,B 31 96,O,O,J ⟨[(10, .l ay),(11, .l ay)],[],[],160⟩,O,T,P ⟨[(10, .l ay),(11, .l ay),(12, .l ay)],[],[],176⟩,O,T,J ⟨[(10, .l ay),(11, .l ay)],[],[],256⟩,O,T,B 69 528] Tryz.func138
def M.fC(c:Int)(d:Int)(a:Int):Option (aA.den×Int):=
(if(!ah (a=0))then
aa ((0,(0,0)),a)
else
agn (M.bW N c d) λb=>aa (b.1,b.2))
def Qd:Fo 139 (.i1 [.l ay, .l ay, .l ay]) (.i1 [.g aA, .l ay]) (u3 (M.fC N)):=fz N [Ee N] [] Tryz.func139
def M.bK(a:az.den)(b:aA.den)(d:bl.den):Option (aA.den×Int):=
(if(ah (a.1=10))then
agn (M.cx N b.1) λm=>(if(!m)then
aa ((0,(0,0)),8)
else
agn (M.bW N b.1 (agp.wrap (0-b.2.2))) λe=>aa (e.1,e.2))
else(if(ah (a.1=25))then(if(!ah (b.1=1))then
aa ((0,(0,0)),8)
else
agn (M.dL N (ah (b.2.2=0))) λf=>aa (f.1,f.2))
else
agn (if(ah (a.1=31))then
aa (ah (a.1=31))
else
aa (ah (a.1=32))) λn=>(if n then(if(!ah (b.1=5))then
aa ((0,(0,0)),8)
else
agn (M.fZ N b.2.2) λg=>(if(ah (a.1=31))then
agn (M.bW N 2 g.1) λh=>aa (h.1,h.2)
else
agn (M.bW N 2 g.2.1) λi=>aa (i.1,i.2)))
else(if(ah (a.1=33))then
agn (idx d.2.2.2.2.2 a.2) λo=>agn (M.oz N o d.1 b) λj=>aa (j.1,j.2)
else
agn (idx d.2.2.2.2.2 (agp.wrap (agC a.2 8))) λc=>agn (if(!ah (b.1=3))then
aa af
else(if(!ah (c.2.1.1=3))then
aa af
else(if(!ah (c.2.1.2=0))then
aa af
else(if(!ah (c.2.2.1.1=4))then
aa af
else
aa (!ah (c.2.2.1.2=0)))))) λp=>(if p then
aa ((0,(0,0)),8)
else
agn (M.kg N c d.1 b.2.2 (agD a.2 8)) λk=>agn (M.fC N 3 k.1 k.2) λl=>aa (l.1,l.2))))))
def W86:Fo 86 (.i1 [.g az, .g aA, .g bl]) (.i1 [.g aA, .l ay]) (u3 (M.bK N)):=fz N [Ee N,Tf N,Tg N,Tl N,Yw N,Yz N,Qd N] [O,T,O,T,O,O,O,O,B 43 176,X,O,T,B 115 352] Tryz.func86
def M.kZ(c:Int)(a:Int)(b:Int):Option (aA.den×Int):=
agn (M.iM N c) λf=>agn ((if(ah (a<0))then
aa (agp.wrap (0-a))
else
aa a):Option Int) λg=>agn ((if(ah (b<0))then
aa (agp.wrap (0-b))
else
aa b):Option Int) λd=>agn (if(!ah (d=0))then
agn (kB f.2 d) λh=>aa (ah ((agp.wrap h)<g))
else
aa ag) λi=>(if i then
aa ((0,(0,0)),3)
else
agn (M.bW N c (agp.wrap (a*b))) λe=>aa (e.1,e.2))
def YA:Fo 212 (.i1 [.l ay, .l ay, .l ay]) (.i1 [.g aA, .l ay]) (u3 (M.kZ N)):=fz N [Te N,Ee N] [O,O,O,O,R ⟨[(10, .l ay)],[],[],208⟩,X,R ⟨[(11, .l ay)],[],[],208⟩,X,T,B 35 208] Tryz.func212
def M.iO(N:Nat)(a:Int):Option Int:=
(if(ah (a<0))then
aa (agp.wrap (0-a))
else
aa a)
def Qe:Fo 279 (.i1 [.l ay]) (.i1 [.l ay]) (M.iO N):=fz N [] [] Tryz.func279
def M.oA(d:Int)(e:Int)(c:Int)(g:Int):Option (Int×Int):=
agn (M.jw N g) λj=>(if(!j)then
aa (0,1)
else(if(ah (c=0))then
aa (0,12)
else
agn (agn (M.cK N d 1000000000000000) λk=>(if k then
aa af
else
agn (M.cK N e 1000000000) λl=>(if l then
aa af
else
agn (M.cK N c 1000000000) λm=>aa m)):Option Bool) λn=>(if n then
aa (0,3)
else
agn (M.iO N d) λf=>agn (M.iO N e) λb=>agn (M.iO N c) λa=>agn (if(ah (0<b))then
agn (kB f a) λo=>agn (kB 1000000000000000 b) λp=>aa (ah ((agp.wrap p)<(agp.wrap o)))
else
aa ag) λq=>(if q then
aa (0,3)
else
agn (ph f a) λh=>agn (kB f a) λr=>agn (kB (agp.wrap (h*b)) a) λs=>agn (ph (agp.wrap (h*b)) a) λt=>agn (M.ei N (agp.wrap ((agp.wrap ((agp.wrap r)*b))+(agp.wrap s))) t a (!ah ((!ah ((ah (d<0))=(ah (e<0))))=(ah (c<0)))) g) λi=>agn (M.cK N i 1000000000000000) λu=>(if u then
aa (0,3)
else
aa (i,0))))))
def YB:Fo 275 (.i1 [.l ay, .l ay, .l ay, .l ay]) (.i1 [.l ay, .l ay]) (u4 (M.oA N)):=fz N [M4 N,M5 N,M6 N,Qe N] [O,O,O,T,B 30 112,O,T,B 46 256] Tryz.func275
def M.mR(b:Int)(c:Int)(d:Int):Option (Int×Int):=
agn (M.oA N b c 1000000 d) λa=>aa (a.1,a.2)
def YC:Fo 213 (.i1 [.l ay, .l ay, .l ay]) (.i1 [.l ay, .l ay]) (u3 (M.mR N)):=fz N [YB N] [] Tryz.func213
def M.dI(N:Nat)(a:Int)(b:Int):Option Bool:=
agn (if(ah (b<a))then
aa af
else
aa (ah (a<(agp.wrap (0-b))))) λc=>aa c
def Tn:Fo 276 (.i1 [.l ay, .l ay]) (.i1 [.l .bool]) (u2 (M.dI N)):=fz N [] [O,B 4 16] Tryz.func276
def M.lr(N:Nat)(c:Int)(a:Int):Option (Int×Int):=
agn (kB c a) λd=>agn (ph c a) λb=>(if(ah (b<0))then
aa (agp.wrap ((agp.wrap d)-1),agp.wrap (b+a))
else
aa (agp.wrap d,b))
def To:Fo 277 (.i1 [.l ay, .l ay]) (.i1 [.l ay, .l ay]) (u2 (M.lr N)):=fz N [] [] Tryz.func277
def M.fD(N:Nat)(a:Int)(c:Int)(d:Int)(b:Int):Option Int:=
(if(ah (c=0))then
aa a
else
agn (if(ah (b=1))then
aa af
else(if(ah (b=2))then(if(ah (a<0))then
aa af
else(if(ah (b=3))then
aa (ah (0<=a))
else
aa ag))
else(if(ah (b=3))then
aa (ah (0<=a))
else
aa ag))) λe=>agn (agn (if(ah (b=4))then
aa af
else
aa (ah (b=5))) λf=>(if f then(if(ah (c=(agp.wrap (d-c))))then(if(ah (b=4))then(if(ah (0<=a))then
aa af
else(if(ah (b=5))then
aa (!ah ((agD a 2)=0))
else
aa ag))
else(if(ah (b=5))then
aa (!ah ((agD a 2)=0))
else
aa ag))
else
aa (ah ((agp.wrap (d-c))<c)))
else
aa e):Option Bool) λg=>(if g then
aa (agp.wrap (a+1))
else
aa a))
def Tp:Fo 278 (.i1 [.l ay, .l ay, .l ay, .l ay]) (.i1 [.l ay]) (u4 (M.fD N)):=fz N [] [O,O,R ⟨[(9, .l .bool)],[],[],48⟩,X,R ⟨[(9, .l .bool)],[],[],48⟩,B 36 48] Tryz.func278
def M.n4(b:Int)(c:Int)(a:Int):Option (Int×Int):=
agn (if(ah (a<0))then
aa af
else
aa (ah (5<a))) λf=>(if f then
aa (0,1)
else
agn (agn (M.dI N b 1000000000) λg=>(if g then
aa af
else
agn (M.dI N c 1000000000) λh=>aa h):Option Bool) λi=>(if i then
aa (0,3)
else
agn (M.lr N (agp.wrap (b*c)) 1000000) λd=>agn (M.fD N d.1 d.2 1000000 a) λe=>agn (M.dI N e 1000000000) λj=>(if j then
aa (0,3)
else
aa (e,0))))
def YD:Fo 214 (.i1 [.l ay, .l ay, .l ay]) (.i1 [.l ay, .l ay]) (u3 (M.n4 N)):=fz N [Tn N,To N,Tp N] [O,T,B 16 32,T,B 22 32] Tryz.func214
def M.jo(d:Int)(b:Int)(e:Int):Option (Int×Int):=
agn (if(ah (e<0))then
aa af
else
aa (ah (5<e))) λh=>(if h then
aa (0,1)
else(if(ah (b=0))then
aa (0,12)
else
agn (agn (M.dI N d 1000000000000000) λi=>(if i then
aa af
else
agn (M.dI N b 1000000000000000) λj=>aa j):Option Bool) λk=>(if k then
aa (0,3)
else
agn ((if(ah (b<0))then
aa (agp.wrap (0-d),agp.wrap (0-b))
else
aa (d,b)):Option (Int×Int)) λa=>agn (M.lr N a.1 a.2) λc=>agn (M.dI N c.1 1001) λl=>(if l then
aa (0,3)
else
agn (kB (agp.wrap (c.2*1000)) a.2) λm=>agn (ph (agp.wrap (c.2*1000)) a.2) λf=>agn (kB (agp.wrap (f*1000)) a.2) λn=>agn (ph (agp.wrap (f*1000)) a.2) λo=>agn (M.fD N (agp.wrap ((agp.wrap ((agp.wrap (c.1*1000000))+(agp.wrap ((agp.wrap m)*1000))))+(agp.wrap n))) o a.2 e) λg=>agn (M.dI N g 1000000000) λp=>(if p then
aa (0,3)
else
aa (g,0))))))
def YE:Fo 215 (.i1 [.l ay, .l ay, .l ay]) (.i1 [.l ay, .l ay]) (u3 (M.jo N)):=fz N [Tn N,To N,Tp N] [O,T,B 18 32,O,T,B 26 64,R ⟨[(0, .l ay),(1, .l ay)],[],[],64⟩] Tryz.func215
def M.kh(b:Int)(a:Int)(d:Int):Option (Int×Int):=
agn (M.jw N d) λf=>(if(!f)then
aa (0,1)
else(if(ah (a=0))then
aa (0,12)
else
agn (agn (M.cK N b 4611686018427387904) λg=>(if g then
aa af
else
agn (M.cK N a 4611686018427387904) λh=>aa h):Option Bool) λi=>(if i then
aa (0,3)
else
agn (M.iO N b) λe=>agn (M.iO N a) λc=>agn (kB e c) λj=>agn (ph e c) λk=>agn (M.ei N (agp.wrap j) k c (!ah ((ah (b<0))=(ah (a<0)))) d) λl=>aa (l,0))))
def YF:Fo 216 (.i1 [.l ay, .l ay, .l ay]) (.i1 [.l ay, .l ay]) (u3 (M.kh N)):=fz N [M4 N,M5 N,M6 N,Qe N] [O,O,O,T,B 20 112] Tryz.func216
def M.je(b:Int)(a:Int)(c:Int):Option (Int×Int):=
agn (M.jw N c) λf=>(if(!f)then
aa (0,1)
else(if(ah (a<1))then
aa (0,12)
else
agn (agn (M.cK N b 1000000000000000) λg=>(if g then
aa af
else
aa (ah (1000000000000000<a))):Option Bool) λh=>(if h then
aa (0,3)
else
agn (M.iO N b) λd=>agn (kB d a) λi=>agn (ph d a) λj=>agn (M.ei N (agp.wrap i) j a (ah (b<0)) c) λe=>agn (M.cK N (agp.wrap (e*a)) 1000000000000000) λk=>(if k then
aa (0,3)
else
aa (agp.wrap (e*a),0)))))
def YG:Fo 217 (.i1 [.l ay, .l ay, .l ay]) (.i1 [.l ay, .l ay]) (u3 (M.je N)):=fz N [M4 N,M5 N,M6 N,Qe N] [O,O,O,T,B 20 112] Tryz.func217
def M.iP(c:az.den)(a:aA.den)(b:aA.den):Option (aA.den×Int):=
agn (if(ah (c.1=13))then(if(ah (b.1=2))then(if(ah (a.1=3))then
aa af
else
aa (ah (a.1=2)))
else
aa ag)
else
aa ag) λo=>(if o then
agn (M.kZ N a.1 a.2.2 b.2.2) λd=>aa (d.1,d.2)
else
agn (if(ah (c.1=14))then(if(ah (b.1=4))then
aa (ah (a.1=3))
else
aa ag)
else
aa ag) λp=>(if p then
agn (M.mR N a.2.2 b.2.2 c.2) λe=>agn (M.fC N a.1 e.1 e.2) λf=>aa (f.1,f.2)
else
agn (if(ah (c.1=14))then(if(ah (b.1=4))then
aa (ah (a.1=4))
else
aa ag)
else
aa ag) λq=>(if q then
agn (M.n4 N a.2.2 b.2.2 c.2) λg=>agn (M.fC N a.1 g.1 g.2) λh=>aa (h.1,h.2)
else
agn (if(ah (c.1=15))then(if(ah (a.1=3))then
aa (ah (b.1=3))
else
aa ag)
else
aa ag) λr=>(if r then
agn (M.jo N a.2.2 b.2.2 c.2) λi=>agn (M.fC N 4 i.1 i.2) λj=>aa (j.1,j.2)
else
agn (if(ah (c.1=15))then(if(ah (b.1=2))then(if(ah (a.1=3))then
aa af
else
aa (ah (a.1=2)))
else
aa ag)
else
aa ag) λs=>(if s then
agn (M.kh N a.2.2 b.2.2 c.2) λk=>agn (M.fC N a.1 k.1 k.2) λl=>aa (l.1,l.2)
else
agn (if(ah (c.1=16))then(if(ah (a.1=3))then
aa (ah (b.1=3))
else
aa ag)
else
aa ag) λt=>(if t then
agn (M.je N a.2.2 b.2.2 c.2) λm=>agn (M.fC N a.1 m.1 m.2) λn=>aa (n.1,n.2)
else
aa ((0,(0,0)),8)))))))
def YH:Fo 140 (.i1 [.g az, .g aA, .g aA]) (.i1 [.g aA, .l ay]) (u3 (M.iP N)):=fz N [Qd N,YA N,YC N,YD N,YE N,YF N,YG N] [O,O,T,T,R ⟨[(22, .l .bool)],[],[],144⟩,X,O,R ⟨[(48, .l .bool)],[],[],144⟩,X,O,R ⟨[(77, .l .bool)],[],[],144⟩,X,O,R ⟨[(108, .l .bool)],[],[],144⟩,X,O,R ⟨[(135, .l .bool)],[],[],144⟩,X,O,B 169 144] Tryz.func140
def M.k0(a:Int)(e:Int)(d:Int):Option (Int×Int):=
agn (if(ah (a<1900))then
aa af
else(if(ah (2199<a))then
aa af
else(if(ah (d<1))then
aa af
else
agn (M.cR N a e) λf=>aa (ah (f<d))))) λg=>(if g then
aa (0,3)
else
agn (Loop (S:=Int×Int) (X:=Int) (λb=>(if(ah (b.2<a))then
agn (M.eB N b.2) λh=>aa (.inl (agp.wrap (b.1+h),agp.wrap (b.2+1)))
else
aa (.inr b.1))) N (agp.wrap (d-1),1900):Option Int) λi=>Loop (S:=Int×Int) (X:=Int×Int) (λc=>(if(ah (c.2<e))then
agn (M.cR N a c.2) λj=>aa (.inl (agp.wrap (c.1+j),agp.wrap (c.2+1)))
else
aa (.inr (c.1,0)))) N (i,1))
def YI:Fo 280 (.i1 [.l ay, .l ay, .l ay]) (.i1 [.l ay, .l ay]) (u3 (M.k0 N)):=fz N [Tj N,Qc N] [O,T,B 27 32,O,R ⟨[(8, .l ay)],[],[],80⟩,O,T,P ⟨[(8, .l ay),(9, .l ay)],[],[],96⟩,X,X,T,O,T,P ⟨[(8, .l ay),(10, .l ay)],[],[],96⟩] Tryz.func280
def M.cZ(c:Int)(b:Int):Option (Int×Int):=
agn (agn (M.iu N c) λf=>(if(!f)then
aa af
else(if(ah (b<(-3600)))then
aa af
else
aa (ah (3600<b)))):Option Bool) λg=>(if g then
aa (0,3)
else
agn (M.fZ N c) λa=>agn (M.cR N (agp.wrap (agC (agp.wrap ((agp.wrap ((agp.wrap ((agp.wrap (12*a.1))+a.2.1))-1))+b)) 12)) (agp.wrap ((agD (agp.wrap ((agp.wrap ((agp.wrap ((agp.wrap (12*a.1))+a.2.1))-1))+b)) 12)+1))) λd=>agn (M.k0 N (agp.wrap (agC (agp.wrap ((agp.wrap ((agp.wrap ((agp.wrap (12*a.1))+a.2.1))-1))+b)) 12)) (agp.wrap ((agD (agp.wrap ((agp.wrap ((agp.wrap ((agp.wrap (12*a.1))+a.2.1))-1))+b)) 12)+1)) (if d<a.2.2 then d else a.2.2)) λe=>aa (e.1,e.2))
def Tq:Fo 218 (.i1 [.l ay, .l ay]) (.i1 [.l ay, .l ay]) (u2 (M.cZ N)):=fz N [Tl N,Qb N,Qc N,YI N] [O,T,B 20 32] Tryz.func218
def M.eN(b:Int)(c:Int):Option Int:=
agn (agn (M.iu N b) λe=>(if(!e)then
aa af
else
agn (M.iu N c) λf=>aa (!f)):Option Bool) λg=>(if g then
aa 0
else
Loop (S:=Int) (X:=Int) (λa=>agn (M.cZ N b (agp.wrap (12*(agp.wrap (a+1))))) λd=>agn (if(!ah (d.2=0))then
aa af
else
aa (ah (c<d.1))) λh=>(if h then
aa (.inr a)
else
aa (.inl (agp.wrap (a+1))))) N 0)
def YJ:Fo 219 (.i1 [.l ay, .l ay]) (.i1 [.l ay]) (u2 (M.eN N)):=fz N [Qb N,Tq N] [O,T,B 15 16,O,T,L 5 32,T,O,T,B 30 192] Tryz.func219
def M.jH(c:Int)(b:aA.den)(a:aA.den):Option (aA.den×Int):=
(if(!ah (b.1=5))then
aa ((0,(0,0)),8)
else
agn (if(ah (c=27))then
aa af
else
aa (ah (c=28))) λi=>(if i then(if(!ah (a.1=2))then
aa ((0,(0,0)),8)
else(if(ah (c=27))then
agn (M.bW N 5 (agp.wrap (b.2.2+a.2.2))) λd=>aa (d.1,d.2)
else
agn (M.cZ N b.2.2 a.2.2) λe=>agn (M.fC N 5 e.1 e.2) λf=>aa (f.1,f.2)))
else(if(!ah (a.1=5))then
aa ((0,(0,0)),8)
else(if(ah (c=29))then
agn (M.bW N 2 (agp.wrap (a.2.2-b.2.2))) λg=>aa (g.1,g.2)
else
agn (M.eN N b.2.2 a.2.2) λj=>agn (M.bW N 2 j) λh=>aa (h.1,h.2)))))
def YK:Fo 141 (.i1 [.l ay, .g aA, .g aA]) (.i1 [.g aA, .l ay]) (u3 (M.jH N)):=fz N [Ee N,Qd N,Tq N,YJ N] [O,O,T,B 19 112] Tryz.func141
def M.b9(b:Int)(a:aA.den)(c:aA.den):Option (aA.den×Int):=
agn (if(!ah (a.1=c.1))then
aa af
else
aa (!ah (a.2.1=c.2.1))) λn=>(if n then
aa ((0,(0,0)),8)
else(if(ah (b=19))then
agn (M.dL N (ah (a.2.2=c.2.2))) λd=>aa (d.1,d.2)
else(if(ah (b=20))then
agn (M.dL N (!ah (a.2.2=c.2.2))) λe=>aa (e.1,e.2)
else
agn (if(ah (b=23))then
aa (ah (b=23))
else
aa (ah (b=24))) λo=>(if o then(if(!ah (a.1=1))then
aa ((0,(0,0)),8)
else
agn ((if(ah ((agp.wrap (a.2.2+c.2.2))=2))then
agn (M.dL N af) λf=>aa (f.2,f.1)
else(if(ah (b=24))then
agn (M.dL N (ah ((agp.wrap (a.2.2+c.2.2))=1))) λg=>aa (g.2,g.1)
else
agn (M.dL N ag) λh=>aa (h.2,h.1))):Option (Int×aA.den)) λi=>aa (i.2,i.1))
else
agn (if(ah (b=11))then
aa (ah (b=11))
else
aa (ah (b=12))) λp=>(if p then
agn (M.cx N a.1) λq=>(if(!q)then
aa ((0,(0,0)),8)
else(if(ah (b=11))then
agn (M.bW N a.1 (agp.wrap (a.2.2+c.2.2))) λj=>aa (j.1,j.2)
else
agn (M.bW N a.1 (agp.wrap (a.2.2-c.2.2))) λk=>aa (k.1,k.2)))
else
agn (agn (M.cx N a.1) λr=>(if(!r)then
aa (!ah (a.1=5))
else
aa ag):Option Bool) λs=>(if s then
aa ((0,(0,0)),8)
else(if(ah (b=21))then
agn (M.dL N (ah (a.2.2<c.2.2))) λl=>aa (l.1,l.2)
else(if(ah (b=22))then
agn (M.dL N (ah (a.2.2<=c.2.2))) λm=>aa (m.1,m.2)
else(if(ah ((ah (b=17))=(ah (a.2.2<c.2.2))))then
aa (a,0)
else
aa (c,0))))))))))
def YL:Fo 142 (.i1 [.l ay, .g aA, .g aA]) (.i1 [.g aA, .l ay]) (u3 (M.b9 N)):=fz N [Ee N,Tf N,Tg N] [O,T,B 19 64,T,O,T,O,O,O,O,R ⟨[(42, .l .bool)],[],[],144⟩,X,T,O,R ⟨[(7, .l ay)],[(32, .box 40 (.leaf aA))],[],193⟩,X,X,B 70 144,X,T,B 108 144] Tryz.func142
def M.aK(a:az.den)(b:aA.den)(c:aA.den):Option (aA.den×Int):=
agn (if(ah (13<=a.1))then
aa (ah (a.1<=16))
else
aa ag) λg=>(if g then
agn (M.iP N a b c) λd=>aa (d.1,d.2)
else(if(ah (27<=a.1))then
agn (M.jH N a.1 b c) λe=>aa (e.1,e.2)
else
agn (M.b9 N a.1 b c) λf=>aa (f.1,f.2)))
def W87:Fo 87 (.i1 [.g az, .g aA, .g aA]) (.i1 [.g aA, .l ay]) (u3 (M.aK N)):=fz N [YH N,YK N,YL N] [O,T,B 15 80] Tryz.func87
def M.iv(b:az.den)(a:List aA.den)(c:bl.den):Option (aA.den×Int):=
agn (M.iN N b (a.length:Int)) λl=>(if(!l)then
aa ((0,(0,0)),2)
else
agn (M.lq N b c) λm=>(if(!m)then
aa ((0,(0,0)),6)
else
gm (J:=Unit) (R:=aA.den×Int) (Loop (S:=Int) (X:=Unit⊕(aA.den×Int)) (λd=>(if(ah (d<(a.length:Int)))then
agn (idx a d) λn=>agn (M.bE N n) λo=>(if(!o)then
aa (.inr (.inr ((0,(0,0)),8)))
else
aa (.inl (agp.wrap (d+1))))
else
aa (.inr (.inl ())))) N 0) λu=>(if(ah ((a.length:Int)=0))then
agn (if(ah (36<=b.1))then
aa (ah (b.1<=39))
else
aa ag) λp=>(if p then
agn (M.kW N b c) λg=>aa (g.1,g.2)
else
agn (M.bS N b c) λh=>aa (h.1,h.2))
else(if(ah ((a.length:Int)=1))then
agn (idx a 0) λq=>agn (M.bK N b q c) λi=>aa (i.1,i.2)
else(if(ah ((a.length:Int)=2))then
agn (idx a 0) λr=>agn (idx a 1) λs=>agn (M.aK N b r s) λj=>aa (j.1,j.2)
else
agn (idx a 0) λk=>agn (idx a 1) λe=>agn (idx a 2) λf=>agn (if(!ah (k.1=1))then
aa af
else(if(!ah (e.1=f.1))then
aa af
else
aa (!ah (e.2.1=f.2.1)))) λt=>(if t then
aa ((0,(0,0)),8)
else(if(ah (k.2.2=1))then
aa (e,0)
else
aa (f,0))))))))
def W54:Fo 54 (.i1 [.g az, .l (.slice aA), .g bl]) (.i1 [.g aA, .l ay]) (u3 (M.iv N)):=fz N [Re N,W82 N,W83 N,W84 N,W85 N,W86 N,W87 N] [O,O,O,E 208,O,T,L 8 224,X,X,T,O,T,O,T,T,B 47 272,X,X,X,O,T,B 105 576] Tryz.func54
mutual
def M.db(B:Nat):Nat->(List az.den)->Int->bl.den->Option (aA.den×Int)
 |0,_,_,_=>ae
 |N+1,a,c,d=>
  agn (M.ke B a c) λe=>
  agn (idx a c) λf=>
  agn (if(ah (f.1=23))then
  aa af
  else
  (if(ah (f.1=24))then
  aa af
  else
  aa (ah (f.1=26)))) λj=>
  (if j then
  agn (M.oB B N a c e d) λh=>
  aa (h.1,h.2)
  else
  gm (J:=List aA.den) (R:=aA.den×Int) (Loop (S:=Int×List aA.den) (X:=(List aA.den)⊕(aA.den×Int)) (λb=>
  (if(ah (b.1<(e.length:Int)))then
  agn (idx e b.1) λk=>
  agn (M.db B N a k d) λg=>
  (if(!ah (g.2=0))then
  aa (.inr (.inr ((0,(0,0)),g.2)))
  else
  agn (cr b.2 ([g.1]:List aA.den)) λl=>
  aa (.inl (agp.wrap (b.1+1),l)))
  else
  aa (.inr (.inl b.2)))) B (0,([]:List aA.den))) λm=>
  agn (idx a c) λn=>
  agn (M.iv B n m d) λi=>
  aa (i.1,i.2))
def M.oB(B:Nat):Nat->(List az.den)->Int->(List Int)->bl.den->Option (aA.den×Int)
 |0,_,_,_,_=>ae
 |N+1,a,f,d,e=>
  agn (idx a f) λi=>
  (if(!ah (i.2=0))then
  aa ((0,(0,0)),2)
  else
  agn (idx d 0) λj=>
  agn (M.db B N a j e) λb=>
  (if(!ah (b.2=0))then
  aa ((0,(0,0)),b.2)
  else
  agn (if(!ah (b.1.1=1))then
  aa af
  else
  agn (M.bE B b.1) λk=>
  aa (!k)) λl=>
  (if l then
  aa ((0,(0,0)),8)
  else
  agn (idx a f) λm=>
  (if(ah (m.1=26))then
  (if(ah (b.1.2.2=1))then
  agn (idx d 1) λn=>
  agn (M.db B N a n e) λg=>
  aa (g.1,g.2)
  else
  agn (idx d 2) λo=>
  agn (M.db B N a o e) λh=>
  aa (h.1,h.2))
  else
  agn (idx a f) λp=>
  (if(ah ((ah (p.1=23))=(ah (b.1.2.2=0))))then
  aa (b.1,0)
  else
  agn (idx d 1) λq=>
  agn (M.db B N a q e) λc=>
  (if(!ah (c.2=0))then
  aa ((0,(0,0)),c.2)
  else
  agn (if(!ah (c.1.1=1))then
  aa af
  else
  agn (M.bE B c.1) λr=>
  aa (!r)) λs=>
  (if s then
  aa ((0,(0,0)),8)
  else
  aa (c.1,0))))))))
end
def M.pK(a:List az.den)(b:Int)(c:bl.den):Option (aA.den×Int):=M.db N N a b c
def S26:nP:=⟨.i1 [.l (.slice az), .l ay, .g bl], .i1 [.g aA, .l ay],u3 (M.pK N)⟩
def R26(B N:Nat):nP:={inn:=⟨[(0, .l (.slice az)),(1, .l ay),(2, .g bl)],[],[],0⟩,out:=⟨[(0, .g aA),(1, .l ay)],[],[],0⟩,fn:=λ(x:(List az.den)×Int×bl.den)=>M.db B N x.1 x.2.1 x.2.2}
def R53(B N:Nat):nP:={inn:=⟨[(0, .l (.slice az)),(1, .l ay),(2, .l (.slice ay)),(3, .g bl)],[],[],0⟩,out:=⟨[(0, .g aA),(1, .l ay)],[],[],0⟩,fn:=λ(x:(List az.den)×Int×(List Int)×bl.den)=>M.oB B N x.1 x.2.1 x.2.2.1 x.2.2.2}
def M7(B:Nat):∀N,fL Tryz.prog 26 (R26 B N)/\fL Tryz.prog 53 (R53 B N)
 |0=>⟨rZ Tryz.func26 (by kernel_rfl) (by kernel_rfl) λ_=>rfl,rZ Tryz.func53 (by kernel_rfl) (by kernel_rfl) λ_=>rfl⟩
 |N+1=>⟨fw (en [ck ((M7 B N).1),ck (W52 B),ck ((M7 B N).2),ck (W54 B)] ag ag) (N:=B) (.o (.o (.o (.two (.meet ⟨[(31, .l .bool)],[],[],208⟩ .nil .nil) (.o (.join ⟨[(10, .val ag (.own 224))],[(224, .own 40 aA)],[],225⟩ (.o (.two (.loop ⟨[(10, .val ag (.own 240)),(11, .l ay)],[(240, .own 40 aA)],[],241⟩ .nil) .nil)) .nil)))))) Tryz.func26 (by kernel_rfl) λx=>by kernel_rfl,
  fw (en [ck ((M7 B N).1),ck (Re B)] ag ag) (N:=B) (.o (.o (.o (.o (.two (.meet ⟨[(41, .l .bool)],[],[],368⟩ .nil .nil) (.o (.o (.o (.o (.two (.meet ⟨[(99, .l .bool)],[],[],848⟩ .nil .nil) .nil)))))))))) Tryz.func53 (by kernel_rfl) λx=>by kernel_rfl⟩
def W26(N:Nat):fL Tryz.prog 26 (S26 N):=(M7 N N).1
def M.iw(a:List az.den)(d:bl.den):Option (aA.den×Int):=
agn (M.lT N a) λb=>(if(!ah (b.1=0))then
aa ((0,(0,0)),b.1)
else
agn (M.pK N a (agp.wrap ((a.length:Int)-1)) d) λc=>aa (c.1,c.2))
def W12:Fo 12 (.i1 [.l (.slice az), .g bl]) (.i1 [.g aA, .l ay]) (u2 (M.iw N)):=fz N [W25 N,W26 N] [] Tryz.func12
def M.eC(c:aU.den)(e:bl.den):Option (Int×Int×Int):=
(if(ah (8<(c.2.1.length:Int)))then
aa (0,8,4)
else
Loop (S:=Int×Int×Int) (X:=Int×Int×Int) (λa=>(if(ah (a.2.2<(c.2.1.length:Int)))then
agn (idx c.2.1 a.2.2) λf=>agn (M.iw N f e) λb=>agn (agn (if(ah (b.2=0))then
aa (!ah (b.1.1=1))
else
aa ag) λg=>(if g then
aa 8
else
aa b.2):Option Int) λd=>(if(!ah (d=0))then
aa (.inr (0,a.2.2,d))
else
agn ((if(ah (b.1.2.2=1))then
aa (agp.wrap (a.1+a.2.1))
else
aa a.1):Option Int) λh=>aa (.inl (h,agp.wrap (2*a.2.1),agp.wrap (a.2.2+1))))
else
aa (.inr (a.1,(-1),0)))) N (0,1,0))
def W11:Fo 11 (.i1 [.g aU, .g bl]) (.i1 [.l ay, .l ay, .l ay]) (u2 (M.eC N)):=fz N [W12 N] [O,O,O,T,O,T,P ⟨[(7, .l ay),(8, .l ay),(9, .l ay)],[],[],192⟩,O,T,T,O,R ⟨[(11, .l ay)],[],[],480⟩,B 39 480,O,R ⟨[(7, .l ay)],[],[],512⟩] Tryz.func11
def M.eU(a:aU.den)(d:bl.den):Option Bool:=
agn (agn (M.jP N a.2.1) λg=>(if(!g)then
aa af
else
agn (M.lS N d) λh=>aa (!h)):Option Bool) λi=>(if i then
agn (M.ln N) λj=>aa j
else
agn (M.bL N a d) λb=>agn (M.eC N a d) λe=>agn (if(!ah (b.1=e.1))then
aa af
else(if(!ah (b.2.1=e.2.1))then
aa af
else
aa (!ah (b.2.2=e.2.2)))) λk=>(if k then
aa ag
else
gm (J:=Unit) (R:=Bool) (Loop (S:=Int×Int) (X:=Unit⊕Bool) (λc=>agn (if(ah (c.2<(a.2.1.length:Int)))then
aa (ah (b.2.2=0))
else
aa ag) λl=>(if l then
agn (idx a.2.1 c.2) λm=>agn (M.iw N m d) λf=>agn (if(!ah (f.2=0))then
aa af
else
aa (!ah ((agD c.1 2)=f.1.2.2))) λn=>(if n then
aa (.inr (.inr ag))
else
aa (.inl (agp.wrap (agC c.1 2),agp.wrap (c.2+1))))
else
aa (.inr (.inl ())))) N (b.1,0)) λp=>agn (M.ln N) λo=>aa o))
def W3:Fo 3 (.i1 [.g aU, .g bl]) (.i1 [.l .bool]) (u2 (M.eU N)):=fz N [W7 N,W8 N,W9 N,XC N,W11 N,W12 N] [O,T,B 23 48,O,O,T,B 51 368,O,E 400,O,T,P ⟨[(11, .l ay),(12, .l ay)],[],[],416⟩,T,B 61 416,T,T,O,T,B 82 624] Tryz.func3
def M.nl(b:bo.den)(c:Int)(d:Int):Option (List Int):=
Loop (S:=Int×List Int) (X:=List Int) (λa=>(if(ah (a.1<(b.2.2.2.2.length:Int)))then
agn (agn (agn (idx b.2.2.2.2 a.1) λe=>(if(ah (e.2.1=c))then
agn (idx b.2.2.2.2 a.1) λf=>agn (M.eM N f.2.2.2.2.1 d) λg=>aa g
else
aa ag):Option Bool) λh=>(if h then
agn (cr a.2 ([a.1]:List Int)) λi=>aa i
else
aa a.2):Option (List Int)) λj=>aa (.inl (agp.wrap (a.1+1),j))
else
aa (.inr a.2))) N (0,([]:List Int))
def M.pL(b:List Int)(c:Int):Option Int:=
Loop (S:=Int) (X:=Int) (λa=>(if(ah (a<(b.length:Int)))then
agn (idx b a) λd=>(if(ah (d=c))then
aa (.inr a)
else
aa (.inl (agp.wrap (a+1))))
else
aa (.inr (-1)))) N 0
def M.oC(b:bo.den)(e:List Int)(c:Int):Option Int:=
agn (idx b.2.2.2.2 c) λf=>Loop (S:=Int×Int) (X:=Int) (λa=>agn (if(ah (0<=a.2))then
aa (ah (a.2<a.1))
else
aa ag) λg=>(if g then
agn (M.pL N e a.2) λd=>(if(ah (0<=d))then
aa (.inr d)
else
agn (idx b.2.2.2.2 a.2) λh=>aa (.inl (a.2,h.2.2.1)))
else
aa (.inr (-1)))) N (c,f.2.2.1)
def M.oD(c:bo.den)(e:Int)(f:Int):Option ((List Int)×(List Int)×List Int):=
agn (M.nl N c e f) λb=>agn (Loop (S:=Int×(List Int)×List Int) (X:=(List Int)×List Int) (λa=>(if(ah (a.1<(b.length:Int)))then
agn (idx b a.1) λg=>agn (M.oC N c b g) λh=>agn (cr a.2.1 ([h]:List Int)) λi=>agn (idx b a.1) λj=>agn (idx c.2.2.2.2 j) λk=>agn (cr a.2.2 ([k.2.2.2.1]:List Int)) λl=>aa (.inl (agp.wrap (a.1+1),i,l))
else
aa (.inr (a.2.1,a.2.2)))) N (0,([]:List Int),([]:List Int)):Option ((List Int)×List Int)) λd=>aa (b,d.1,d.2)
def M.q9(b:List az.den)(c:List az.den):Option Bool:=
(if(!ah ((b.length:Int)=(c.length:Int)))then
aa ag
else
Loop (S:=Int) (X:=Bool) (λa=>agn (if(ah (a<(b.length:Int)))then
aa (ah (a<(c.length:Int)))
else
aa ag) λd=>(if d then
agn (idx b a) λe=>agn (idx c a) λf=>(if(!(nz az e f))then
aa (.inr ag)
else
aa (.inl (agp.wrap (a+1))))
else
aa (.inr af))) N 0)
def M.oE(b:List (List az.den))(c:List az.den):Option Int:=
Loop (S:=Int) (X:=Int) (λa=>(if(ah (a<(b.length:Int)))then
agn (idx b a) λd=>agn (M.q9 N d c) λe=>(if e then
aa (.inr a)
else
aa (.inl (agp.wrap (a+1))))
else
aa (.inr (-1)))) N 0
def M.mh(b:List Int)(c:List Int):Option Int:=
(if(!ah ((b.length:Int)=(c.length:Int)))then
aa 2
else(if(ah (8<(b.length:Int)))then
aa 4
else
Loop (S:=Int) (X:=Int) (λa=>(if(ah (a<(b.length:Int)))then
agn (agn (idx b a) λd=>(if(ah (d<(-1)))then
aa af
else
agn (idx b a) λe=>aa (ah (a<=e))):Option Bool) λf=>(if f then
aa (.inr 9)
else
agn (agn (idx c a) λg=>(if(ah (g<0))then
aa af
else
agn (idx c a) λh=>aa (ah (9<h))):Option Bool) λi=>(if i then
aa (.inr 3)
else
aa (.inl (agp.wrap (a+1)))))
else
aa (.inr 0))) N 0))
def M.pM(b:List Int)(c:Int):Option (List Int):=
Loop (S:=Int×List Int) (X:=List Int) (λa=>(if(ah (a.1<(b.length:Int)))then
agn (agn (idx b a.1) λd=>(if(ah (d=c))then
agn (cr a.2 ([a.1]:List Int)) λe=>aa e
else
aa a.2):Option (List Int)) λf=>aa (.inl (agp.wrap (a.1+1),f))
else
aa (.inr a.2))) N (0,([]:List Int))
mutual
def M.fR(B:Nat):Nat->(List Int)->(List Int)->(List Bool)->Int->Option Int
 |0,_,_,_,_=>ae
 |N+1,b,c,d,e=>
  agn (M.oF B N b c d e) λa=>
  (if(ah ((a.length:Int)=0))then
  aa (-1)
  else
  (if(ah (1<(a.length:Int)))then
  aa (-2)
  else
  agn (idx a 0) λf=>
  agn (M.du B N b c d f) λg=>
  aa g))
def M.oF(B:Nat):Nat->(List Int)->(List Int)->(List Bool)->Int->Option (List Int)
 |0,_,_,_,_=>ae
 |N+1,e,b,f,g=>
  agn (M.pM B e g) λc=>
  Loop (S:=Int×List Int) (X:=List Int) (λa=>
  (if(ah (a.1<(c.length:Int)))then
  agn (agn (idx c a.1) λh=>
  agn (M.du B N e b f h) λi=>
  (if(ah (i=(-1)))then
  aa a.2
  else
  agn (agn (if(ah (0<(a.2.length:Int)))then
  agn (idx c a.1) λj=>
  agn (idx b j) λk=>
  agn (idx a.2 0) λl=>
  agn (idx b l) λm=>
  aa (ah (m<k))
  else
  aa ag) λn=>
  (if n then
  aa ([]:List Int)
  else
  aa a.2):Option (List Int)) λd=>
  agn (if(ah ((d.length:Int)=0))then
  aa af
  else
  agn (idx c a.1) λo=>
  agn (idx b o) λp=>
  agn (idx d 0) λq=>
  agn (idx b q) λr=>
  aa (ah (p=r))) λs=>
  (if s then
  agn (idx c a.1) λt=>
  agn (cr d ([t]:List Int)) λu=>
  aa u
  else
  aa d)):Option (List Int)) λv=>
  aa (.inl (agp.wrap (a.1+1),v))
  else
  aa (.inr a.2))) B (0,([]:List Int))
def M.du(B:Nat):Nat->(List Int)->(List Int)->(List Bool)->Int->Option Int
 |0,_,_,_,_=>ae
 |N+1,d,e,b,a=>
  agn (M.fR B N d e b a) λc=>
  agn (if(ah (c=(-1)))then
  agn (idx b a) λf=>
  aa f
  else
  aa ag) λg=>
  (if g then
  aa a
  else
  aa c)
end
def M.mj(a:List Int)(b:List Int)(c:List Bool)(d:Int):Option Int:=M.fR N N a b c d
def M.ki(a:List Int)(b:List Int)(c:List Bool):Option Int:=
agn (agn (M.mh N a b) λd=>(if(!ah (d=0))then
aa af
else
aa (!ah ((c.length:Int)=(a.length:Int)))):Option Bool) λe=>(if e then
aa (-1)
else
agn (M.mj N a b c (-1)) λf=>aa f)
def M.pN(N:Nat)(a:Int):Option Int:=
(if(ah (a<0))then
aa 0
else(if(ah (8<a))then
aa 8
else
aa a))
def M.ra(b:Int):Option Int:=
Loop (S:=Int×Int) (X:=Int) (λa=>(if(ah (a.2<b))then
aa (.inl (agp.wrap (a.1*2),agp.wrap (a.2+1)))
else
aa (.inr a.1))) N (1,0)
def M.np(b:List Int)(d:Int):Option (List Bool):=
agn (M.ra N d) λe=>agn (og e ag) λf=>Loop (S:=Int×List Bool) (X:=List Bool) (λa=>(if(ah (a.1<(b.length:Int)))then
agn (agn (agn (idx b a.1) λg=>(if(ah (0<=g))then
agn (idx b a.1) λh=>aa (ah (h<(a.2.length:Int)))
else
aa ag):Option Bool) λi=>(if i then
agn (idx b a.1) λc=>agn (idx a.2 c) λk=>aa (bG a.2 c af)
else
aa a.2):Option (List Bool)) λj=>aa (.inl (agp.wrap (a.1+1),j))
else
aa (.inr a.2))) N (0,f)
def M.rb(b:Int):Option Int:=
Loop (S:=Int×Int) (X:=Int) (λa=>(if(ah (0<a.1))then
aa (.inl (agp.wrap (agC a.1 2),agp.wrap (a.2+(agD a.1 2))))
else
aa (.inr a.2))) N (b,0)
def M.jh(N:Nat)(a:az.den)(b:Int):Option Bool:=
aa (ah ((aF .and .i64 b a.1)=a.2))
def M.pO(c:az.den)(b:List Bool)(d:List Bool):Option Bool:=
Loop (S:=Int) (X:=Bool) (λa=>(if(ah (a<(b.length:Int)))then
agn (agn (M.jh N c a) λe=>(if e then
agn (idx b a) λf=>(if f then
agn (idx d a) λg=>aa (!g)
else
aa ag)
else
aa ag):Option Bool) λh=>(if h then
aa (.inr af)
else
aa (.inl (agp.wrap (a+1))))
else
aa (.inr ag))) N 0
def M.jq(c:az.den)(b:List Bool):Option Bool:=
Loop (S:=Int) (X:=Bool) (λa=>(if(ah (a<(b.length:Int)))then
agn (agn (M.jh N c a) λd=>(if d then
agn (idx b a) λe=>aa (!e)
else
aa ag):Option Bool) λf=>(if f then
aa (.inr ag)
else
aa (.inl (agp.wrap (a+1))))
else
aa (.inr af))) N 0
end
end
section
noncomputable section
set_option maxRecDepth 100000
set_option linter.unusedVariables false
def M.pP(N:Nat)(b:az.den)(c:List Bool):Option Bool:=
agn (M.jq N b c) λd=>(if(!d)then
aa ag
else
Loop (S:=Int) (X:=Bool) (λa=>(if(ah (a<(c.length:Int)))then
agn (if(!ah ((aF .and .i64 b.1 a)=0))then
agn (M.jq N (aF .andNot .i64 b.1 a,aF .andNot .i64 b.2 a) c) λe=>aa e
else
aa ag) λf=>(if f then
aa (.inr ag)
else
aa (.inl (agp.wrap (a*2))))
else
aa (.inr af))) N 1)
def M.mo(N:Nat)(l:List Int)(m:Int):Option (List az.den):=
agn (M.pN N m) λf=>agn (M.np N l f) λe=>agn (og (e.length:Int) ag) λn=>Loop (S:=Int×(List Bool)×List az.den) (X:=List az.den) (λd=>(if(ah (d.1<=f))then
agn (Loop (S:=Int×(List Bool)×List az.den) (X:=(List Bool)×List az.den) (λa=>(if(ah (a.1<(e.length:Int)))then
agn (agn (agn (M.rb N a.1) λo=>(if(!ah (o=d.1))then
aa (a.2.1,a.2.2)
else
Loop (S:=Int×(List Bool)×List az.den) (X:=(List Bool)×List az.den) (λb=>(if(ah (b.1<=a.1))then
agn (agn (agn (if(!ah ((aF .and .i64 b.1 a.1)=b.1))then
aa af
else
agn (M.pO N (a.1,b.1) e b.2.1) λp=>(if(!p)then
aa af
else
agn (M.pP N (a.1,b.1) e) λq=>aa (!q))) λr=>(if r then
aa (b.2.1,b.2.2)
else
agn (Loop (S:=Int×List Bool) (X:=List Bool) (λc=>(if(ah (c.1<(e.length:Int)))then
agn (agn (idx c.2 c.1) λs=>(if s then
agn (idx c.2 c.1) λx=>aa (bG c.2 c.1 af)
else
agn (M.jh N (a.1,b.1) c.1) λt=>agn (idx c.2 c.1) λy=>aa (bG c.2 c.1 t)):Option (List Bool)) λu=>aa (.inl (agp.wrap (c.1+1),u))
else
aa (.inr c.2))) N (0,b.2.1):Option (List Bool)) λv=>agn (cr b.2.2 ([(a.1,b.1)]:List az.den)) λw=>aa (v,w)):Option ((List Bool)×List az.den)) λg=>aa (g.1,g.2):Option ((List Bool)×List az.den)) λh=>aa (.inl (agp.wrap (b.1+1),h.1,h.2))
else
aa (.inr (b.2.1,b.2.2)))) N (0,a.2.1,a.2.2)):Option ((List Bool)×List az.den)) λi=>aa (i.1,i.2):Option ((List Bool)×List az.den)) λj=>aa (.inl (agp.wrap (a.1+1),j.1,j.2))
else
aa (.inr (a.2.1,a.2.2)))) N (0,d.2.1,d.2.2):Option ((List Bool)×List az.den)) λk=>aa (.inl (agp.wrap (d.1+1),k.1,k.2))
else
aa (.inr d.2.2))) N (0,n,([]:List az.den))
def M.kM(N:Nat)(u:jc.den)(v:Int)(p:Int)(w:Int):Option (Int×(List (List az.den))×(List Int)×List aH.den):=
agn (idx u.2.2 v) λi=>agn (M.oD N i p w) λd=>agn (Loop (S:=Int×Int×(List (List az.den))×List Int) (X:=Int×(List (List az.den))×List Int) (λb=>(if(ah (b.1<(d.1.length:Int)))then
agn (agn (idx d.1 b.1) λx=>agn (idx i.2.2.2.2 x) λm=>agn (if(ah (0<(m.2.2.2.2.2.1.length:Int)))then
agn (M.oE N b.2.2.1 m.2.2.2.2.2.1) λy=>aa (ah (y<0))
else
aa ag) λz=>(if z then
agn (cr ([]:List az.den) m.2.2.2.2.2.1) λA=>agn (cr b.2.2.1 ([A]:List (List az.den))) λC=>agn (idx d.1 b.1) λD=>agn (cr b.2.2.2 ([D]:List Int)) λF=>aa (b.2.1,C,F)
else
aa (b.2.1,b.2.2.1,b.2.2.2)):Option (Int×(List (List az.den))×List Int)) λn=>aa (.inl (agp.wrap (b.1+1),n.1,n.2.1,n.2.2))
else
aa (.inr (b.2.1,b.2.2.1,b.2.2.2)))) N (0,p,([]:List (List az.den)),([]:List Int)):Option (Int×(List (List az.den))×List Int)) λf=>agn (Loop (S:=Int×List Int) (X:=List Int) (λh=>agn (qC .i64 1 (f.2.1.length:Int)) λG=>(if(ah (h.1<G))then
agn (agn (Loop (S:=Int×List Bool) (X:=List Bool) (λg=>(if(ah (g.1<(d.1.length:Int)))then
agn (agn (idx d.1 g.1) λH=>agn (idx i.2.2.2.2 H) λq=>(if(ah ((q.2.2.2.2.2.1.length:Int)=0))then
agn (cr g.2 ([af]:List Bool)) λI=>aa I
else
agn (M.oE N f.2.1 q.2.2.2.2.2.1) λQ=>agn (ur .i64 h.1 Q) λU=>agn (cr g.2 ([ah ((aF .and .i64 U 1)=1)]:List Bool)) λV=>aa V):Option (List Bool)) λW=>aa (.inl (agp.wrap (g.1+1),W))
else
aa (.inr g.2))) N (0,([]:List Bool)):Option (List Bool)) λY=>agn (M.ki N d.2.1 d.2.2 Y) λo=>agn ((if(ah (0<=o))then
agn (idx d.1 o) λZ=>aa Z
else
aa o):Option Int) λj28=>agn (cr h.2 ([j28]:List Int)) λl30=>aa l30:Option (List Int)) λj17=>aa (.inl (agp.wrap (h.1+1),j17))
else
aa (.inr h.2))) N (0,([]:List Int)):Option (List Int)) λr=>agn (Loop (S:=Int×Int×(List (List az.den))×(List Int)×List aH.den) (X:=Int×(List (List az.den))×(List Int)×List aH.den) (λa=>(if(ah (a.1<(i.2.2.2.2.length:Int)))then
agn (agn (agn (Loop (S:=Int×List Int) (X:=List Int) (λe=>(if(ah (e.1<(r.length:Int)))then
agn (agn (idx r e.1) λx38=>(if(ah (x38=a.1))then
agn (cr e.2 ([e.1]:List Int)) λl39=>aa l39
else
aa e.2):Option (List Int)) λj37=>aa (.inl (agp.wrap (e.1+1),j37))
else
aa (.inr e.2))) N (0,([]:List Int)):Option (List Int)) λs=>(if(ah ((s.length:Int)=0))then
aa (a.2.1,a.2.2.1,a.2.2.2.1,a.2.2.2.2)
else
agn (M.mo N s (f.2.1.length:Int)) λt=>Loop (S:=Int×Int×(List (List az.den))×(List Int)×List aH.den) (X:=Int×(List (List az.den))×(List Int)×List aH.den) (λc=>(if(ah (c.1<(t.length:Int)))then
agn (idx t c.1) λx42=>agn (cr c.2.2.2.2 ([(x42,a.1)]:List aH.den)) λl43=>aa (.inl (agp.wrap (c.1+1),c.2.1,c.2.2.1,c.2.2.2.1,l43))
else
aa (.inr (c.2.1,c.2.2.1,c.2.2.2.1,c.2.2.2.2)))) N (0,a.2.1,a.2.2.1,a.2.2.2.1,a.2.2.2.2)):Option (Int×(List (List az.den))×(List Int)×List aH.den)) λj=>aa (j.1,j.2.1,j.2.2.1,j.2.2.2):Option (Int×(List (List az.den))×(List Int)×List aH.den)) λk=>aa (.inl (agp.wrap (a.1+1),k.1,k.2.1,k.2.2.1,k.2.2.2))
else
aa (.inr (a.2.1,a.2.2.1,a.2.2.2.1,a.2.2.2.2)))) N ((-2),f.1,f.2.1,f.2.2,([]:List aH.den)):Option (Int×(List (List az.den))×(List Int)×List aH.den)) λl=>aa (l.1,l.2.1,l.2.2.1,l.2.2.2)
end
end
section
theorem aE{n:Int}(h0: -9223372036854775808<=n)(h1:n<=9223372036854775807):agp.wrap n=n:=by
 simp[IntKind.wrap,ahL,IntKind.signed];omega
theorem aM{α:Type}{l:List α}{k:Nat}(h:k<l.length):idx l (k:Int)=aa l[k]:=by
 grind [idx]
theorem r7{α:Type}{a:α}{l:List α}:idx (a::l) 0=aa a:=rfl
theorem fS{α:Type}{l m:List α}(h:l.length+m.length<=4294967296):cr l m=aa (l++m):=aj h
def tq{S X:Type}{body:S->Option (S⊕X)}(I:S->Prop)(μ:S->Nat)(Q:X->Prop)
 (step:∀s,I s->(∃s',body s=aa (.inl s')/\I s'/\μ s'<μ s)\/∃x,body s=aa (.inr x)/\Q x):
 ∀N s,I s->μ s<N->∃x,Loop body N s=aa x/\Q x
 |0,_,_,h=>absurd h (by omega)
 |N+1,s,hi,bi=>by
  rcases step s hi with⟨s',hb,jJ,hm⟩|⟨x,hb,hq⟩
  .obtain⟨x,hx,hq⟩:=tq I μ Q step N s' jJ (by omega)
   grind [Loop]
  grind [Loop]
def Ef{S X:Type}{body:S->Option (S⊕X)}(st:Nat->S){x:X}(m:Nat)(hs:∀i,i<m->body (st i)=aa (.inl (st (i+1))))(he:body (st m)=aa (.inr x)){N:Nat}(hN:m<N):Loop body N (st 0)=aa x:=by
 have:∀k i N,i+k=m->k<N->Loop body N (st i)=aa x:=by
  intro k
  induction k with
  |zero=>rintro i (_|N) hi hN;all_goals grind [Loop]
  |succ k ih=>
   rintro i (_|N) hi hN
   all_goals grind [Loop]
 grind
def uT{S X:Type}{body:S->Option (S⊕X)}{N:Nat}{s0:S}(st:Nat->S)(m:Nat)(x:X)(h0:s0=st 0)(hs:∀i,i<m->body (st i)=aa (.inl (st (i+1))))(he:body (st m)=aa (.inr x))(hN:m<N):Loop body N s0=aa x:=by
 rw[h0];exact Ef st m hs he hN
def aR:Nat:=18446744073709551616
section
variable {α:Type}
theorem k6(n:Nat)(C:Nat->α)(k:Nat)(v:α):((agw n).map C).set k v=(agw n).map (λj=>if j=k then v else C j):=by
 apply List.ext_getElem (by simp)
 grind
theorem kj(n:Nat)(p:Nat->Bool):(agw (n+1)).filter p=(agw n).filter p++(if p n=af then[n]else[]):=by
 grind [List.range_succ]
end
end
end Go.Proofs.YtfeahmiobbjklaaGreatDoor
section
open _root_.Bool renaming false->ag,true->af,false_eq_true->ags
open _root_.Option renaming none->ae,some->aa,bind_some->ago,some->ahY
open _root_.Go.IntKind renaming i64->agp
open _root_.List renaming replicate->agv
namespace Go.Proofs.YtfeahmiobbjklaaGreatDoor
open Go Go.RowKit
def Wp{α:Type}(m:Option α)(Q:α->Prop):Prop:=∃x,m=aa x/\Q x
def Wp.some{α:Type}{x:α}{Q:α->Prop}(h:Q x):Wp (aa x) Q:=⟨x,rfl,h⟩
def Wp.of{α:Type}{m:Option α}{x:α}{Q:α->Prop}(e:m=ahY x)(h:Q x):Wp m Q:=⟨x,e,h⟩
def Wp.eq{α:Type}{m:Option α}{x:α}(h:Wp m (· =x)):m=ahY x:=by obtain⟨y,e,rfl⟩:=h;exact e
def Wp.mono{α:Type}{m:Option α}{Q Q':α->Prop}(h:Wp m Q)(hq:∀x,Q x->Q' x):Wp m Q':=by obtain⟨x,e,h⟩:=h;exact⟨x,e,hq x h⟩
def Wp.bind{α β:Type}{m:Option α}{k:α->Option β}{Q:β->Prop}(h:Wp m λx=>Wp (k x) Q):Wp (m.bind k) Q:=by
 obtain⟨x,e,h⟩:=h;rw[e];exact h
def Wp.aW{α β:Type}{m:Option α}{k:α->Option β}{Q:β->Prop}{x:α}(e:m=ahY x)(h:Wp (k x) Q):Wp (m.bind k) Q:=by
 rw[e];exact h
theorem Wp.seq{α β:Type}{m:Option α}{k:α->Option β}{Q:β->Prop}(A:α->Prop)(h:Wp m A)(hk:∀x,A x->Wp (k x) Q):Wp (m.bind k) Q:= .bind (h.mono hk)
def Wp.ite{α:Type}{c:Prop}[Decidable c]{a b:Option α}{Q:α->Prop}(ha:c->Wp a Q)(hb:¬c->Wp b Q):Wp (if c then a else b) Q:=by
 grind
def Wp.dec{α:Type}{c:Prop}[Decidable c]{a b:Option α}{Q:α->Prop}(ha:c->Wp a Q)(hb:¬c->Wp b Q):Wp (if decide c=af then a else b) Q:=by
 grind
def Wp.o9{α:Type}{c:Prop}[Decidable c]{a b:Option α}{Q:α->Prop}(ha:¬c->Wp a Q)(hb:c->Wp b Q):Wp (if(!decide c)=af then a else b) Q:=by
 grind
def tX{J R:Type}(k:J->Option R)(Q:R->Prop):J⊕R->Prop
 | .inl j=>Wp (k j) Q
 | .inr r=>Q r
def Wp.join{J R:Type}{m:Option (J⊕R)}{k:J->Option R}{Q:R->Prop}(h:Wp m (tX k Q)):Wp (gm m k) Q:=by
 obtain⟨x,e,h⟩:=h;unfold gm;rw[e]
 cases x with
 |inl j=>exact h
 |inr r=>exact⟨r,rfl,h⟩
def FF{S X:Type}(I:S->Prop)(μ:S->Nat)(s:S)(Q:X->Prop):S⊕X->Prop
 | .inl s'=>I s'/\μ s'<μ s
 | .inr x=>Q x
def Wp.loop{S X:Type}{body:S->Option (S⊕X)}{N:Nat}{s0:S}{Q:X->Prop}(I:S->Prop)(μ:S->Nat)(h0:I s0)(hN:μ s0<N)(step:∀s,I s->Wp (body s) (FF I μ s Q)):Wp (Loop body N s0) Q:=
 tq I μ Q (λs hs=>by
  obtain⟨x,e,h⟩:=step s hs
  cases x with
  |inl s'=>exact .inl ⟨s',e,h⟩
  |inr x=>exact .inr ⟨x,e,h⟩) N s0 h0 hN
theorem Wp.idx{α:Type}{l:List α}{i:Int}{Q:α->Prop}(k:Nat)(hi:i=k)(hk:k<l.length)(h:Q l[k]):Wp (idx l i) Q:=by
 subst hi;exact⟨_,aM hk,h⟩
theorem Wp.wM{α:Type}{l m:List α}{Q:List α->Prop}(hl:l.length+m.length<=4294967296)(h:Q (l++m)):Wp (cr l m) Q:=⟨_,fS hl,h⟩
def FG{α:Type}{l:List α}{i j:Int}(a b:Nat)(hi:i=a)(hj:j=b)(h:a<=b)(hb:b<=l.length):gK l i j=ahY ((l.take b).drop a):=by
 grind [gK]
def tt{α:Type}{l:List α}{b:Nat}(hb:b<=l.length):gK l 0 (b:Int)=ahY (l.take b):=by
 have:=FG (l:=l) 0 b rfl rfl (Nat.zero_le _) hb
 grind
def aL{k:Nat}(h:k<9223372036854775807):agp.wrap ((k:Int)+1)=((k+1:Nat):Int):=by rw[aE]<;>omega
def vX{k:Nat}(h:k<=9223372036854775807):agp.wrap (k:Int)=(k:Int):=by rw[aE]<;>omega
end Go.Proofs.YtfeahmiobbjklaaGreatDoor
namespace Go.Proofs.YtfeahmiobbjklaaGreatDoor
open Go Go.RowKit
section
variable {α β:Type}
theorem lV{x:α}{Q:α->Prop}:Wp (aa x) Q↔Q x:=⟨λ⟨y,e,h⟩=>by grind,λh=>⟨x,rfl,h⟩⟩
theorem zx{Q:α->Prop}:Wp (ae:Option α) Q↔False:=⟨λ⟨y,e,h⟩=>(by cases e),False.elim⟩
def wp_bind{m:Option α}{k:α->Option β}{Q:β->Prop}:Wp (m.bind k) Q↔Wp m λx=>Wp (k x) Q:=by
 cases m with
 |none=>simp only[Option.bind_none,zx]
 |some x=>simp only[ago,lV]
def Kw{c:Prop}[Decidable c]{a b:Option α}{Q:α->Prop}:Wp (if c then a else b) Q↔(c->Wp a Q)/\(¬c->Wp b Q):=by
 grind
def Kx{c:Prop}[Decidable c]{a b:Option α}{Q:α->Prop}:Wp (if decide c=af then a else b) Q↔(c->Wp a Q)/\(¬c->Wp b Q):=by
 grind
def FH{c:Prop}[Decidable c]{a b:Option α}{Q:α->Prop}:Wp (if(!decide c)=af then a else b) Q↔(¬c->Wp a Q)/\(c->Wp b Q):=by
 grind
def Ky{c:Bool}{a b:Option α}{Q:α->Prop}:Wp (if(!c)=af then a else b) Q↔(c=ag->Wp a Q)/\(c=af->Wp b Q):=by
 grind
def FI{J R:Type}{m:Option (J⊕R)}{k:J->Option R}{Q:R->Prop}:Wp (gm m k) Q↔Wp m (tX k Q):=by
 cases m with
 |none=>exact⟨λ⟨_,e,_⟩=>(by cases e),λ⟨_,e,_⟩=>(by cases e)⟩
 |some s=>cases s with
  |inl j=>rw[lV];exact Iff.rfl
  |inr r=>exact(lV (x:=r)).trans (lV (x:=Sum.inr r) (Q:=tX k Q)).symm
def ya{J R:Type}{k:J->Option R}{Q:R->Prop}{j:J}:tX k Q (.inl j)=Wp (k j) Q:=rfl
def yb{J R:Type}{k:J->Option R}{Q:R->Prop}{r:R}:tX k Q (.inr r)=Q r:=rfl
def Qf{l:List α}{i:Int}{Q:α->Prop}:Wp (idx l i) Q↔∃h:0<=i/\i<(l.length:Int),Q (l[i.toNat]'(by omega)):=by
 by_cases h:0<=i/\i<(l.length:Int)
 .grind [idx,lV]
 .refine⟨λ⟨y,e,_⟩=>?_,λg=>absurd g.1 h⟩
  grind [gw]
def Kz{l m:List α}{Q:List α->Prop}:Wp (cr l m) Q↔l.length+m.length<=4294967296/\Q (l++m):=by
 grind [cr,lV,zx]
def rc{m:Int}{z:α}{Q:List α->Prop}:Wp (og m z) Q↔(0<=m/\m<=4294967296)/\Q (agv m.toNat z):=by
 grind [og,lV,zx]
def Wp.getD{m:Option α}{Q:α->Prop}(h:Wp m Q)(d:α):m=ahY (m.getD d)/\Q (m.getD d):=by
 obtain⟨x,e,h⟩:=h
 grind
end
def Eg{S X:Type}(II:S->Int)(m k:Nat)(J:Nat->S->Prop)(Q:X->Prop):S⊕X->Prop
 | .inl s=>k<m/\II s=((k+1:Nat):Int)/\J (k+1) s
 | .inr x=>Q x
def vY{S X:Type}{II:S->Int}{m k:Nat}{J:Nat->S->Prop}{Q:X->Prop}{s:S}:Eg II m k J Q (.inl s)=(k<m/\II s=((k+1:Nat):Int)/\J (k+1) s):=rfl
def rf{S X:Type}{II:S->Int}{m k:Nat}{J:Nat->S->Prop}{Q:X->Prop}{x:X}:Eg II m k J Q (.inr x)=Q x:=rfl
def Wp.count{S X:Type}{body:S->Option (S⊕X)}{s0:S}{Q:X->Prop}(II:S->Int)(m:Nat)(J:Nat->S->Prop)(hm:m<=9223372036854775807)(h0:II s0=0)(hJ:J 0 s0)
 (step:∀k s,k<=m->II s=(k:Int)->J k s->Wp (body s) (Eg II m k J Q)):Wp (Loop body aR s0) Q:=by
 refine Wp.loop (λs=>∃k:Nat,II s=k/\k<=m/\J k s) (λs=>m-(II s).toNat) ⟨0,h0,Nat.zero_le _,hJ⟩ (by unfold aR;omega) λs hs=>?_
 obtain⟨k,hi,hk,hj⟩:=hs
 refine(step k s hk hi hj).mono λr hr=>?_
 cases r with
 |inl s'=>
  obtain⟨h1,h2,h3⟩:=hr;exact⟨⟨k+1,h2,h1,h3⟩,by grind⟩
 |inr x=>exact hr
def yc{k:Nat}{m:Nat}(hm:m<=9223372036854775807)(h:k<m):agp.wrap ((k:Int)+1)=((k+1:Nat):Int):=aL (by omega)
def W_:type_of% @Classical.not_not/\type_of% @lV/\type_of% @wp_bind/\type_of% @Kx/\type_of% @FH/\type_of% @Ky/\type_of% @Kw/\type_of% @FI/\type_of% @ya/\type_of% @yb/\type_of% @if_true.{1}/\type_of% @if_false.{1}/\type_of% @ite_true.{1}/\type_of% @ite_false.{1}/\type_of% @ags/\type_of% @Bool.true_eq_false/\type_of% @decide_true/\type_of% @decide_false/\type_of% @decide_eq_decide/\type_of% @true_eq_decide_iff/\type_of% @false_eq_decide_iff/\type_of% @aw/\type_of% @ax/\type_of% @true_implies/\type_of% @false_implies/\type_of% @and_true/\type_of% @true_and/\type_of% @and_false/\type_of% @false_and/\type_of% @or_true/\type_of% @true_or/\type_of% @or_false/\type_of% @false_or/\type_of% @not_true_eq_false/\type_of% @not_false_eq_true/\type_of% @Bool.not_true/\type_of% @Bool.not_false/\type_of% @Bool.not_eq_true/\type_of% @Bool.not_eq_false/\type_of% @Bool.not_eq_eq_eq_not:=
 ⟨@Classical.not_not,@lV,@wp_bind,@Kx,@FH,@Ky,@Kw,@FI,@ya,@yb,@if_true.{1},@if_false.{1},@ite_true.{1},@ite_false.{1},@ags,@Bool.true_eq_false,@decide_true,@decide_false,@decide_eq_decide,@true_eq_decide_iff,@false_eq_decide_iff,@aw,@ax,@true_implies,@false_implies,@and_true,@true_and,@and_false,@false_and,@or_true,@true_or,@or_false,@false_or,@not_true_eq_false,@not_false_eq_true,@Bool.not_true,@Bool.not_false,@Bool.not_eq_true,@Bool.not_eq_false,@Bool.not_eq_eq_eq_not⟩
end Go.Proofs.YtfeahmiobbjklaaGreatDoor
end
namespace Go.Proofs.YtfeahmiobbjklaaGreatDoor
open Go Go.RowKit
set_option maxRecDepth 100000
set_option linter.unusedSimpArgs false
set_option linter.unusedVariables false
set_option linter.defProp false
namespace L
abbrev Ty:Type:=az.den
abbrev cz(l:List Nat):List Int:=l.map (λn:Nat=>(n:Int))
def ar(op:Int):Int:=
 if(1<=op/\op<=9)\/(35<=op/\op<=39)then 0 else if op=10\/op=25\/(31<=op/\op<=34)then 1 else if(11<=op/\op<=24)\/(27<=op/\op<=30)then 2 else if op=26 then 3 else-1
def pQ(op:Int):ar op<=3:=by unfold ar;omega
def tv(a:Int)(i:Nat)(sk:List Nat):Nat:=if a=0 then i else sk.getD (sk.length-a.toNat) 0
def jx:List Ty->Nat->List Nat->List Nat->(Nat×Int)⊕(List Nat×List Nat)
 |[],_,st,sk=> .inr (st,sk)
 |n::e,i,st,sk=>
  if ar n.1<0 then .inl (i,2)else if(sk.length:Int)<ar n.1 then .inl (i,5)else
  if 12<sk.length-(ar n.1).toNat+1 then .inl (i,16)else jx e (i+1) (st++[tv (ar n.1) i sk]) (sk.take (sk.length-(ar n.1).toNat)++[tv (ar n.1) i sk])
def nq(e:List Ty):Int×Int×List Int:=
 if 48<e.length then(0,4,[])else if e.length=0 then(0,5,[])else match jx e 0 [] []with
  | .inl (i,c)=>(i,c,[])
  | .inr (st,sk)=>if 1<sk.length then(e.length,4,[])else(0,0,cz st)
def VR(r:Ty):Prop:=0<=(r.1:Int)/\(r.1:Int)<=r.2/\(r.2:Int)<=109573
instance(r:Ty):Decidable (VR r):=by unfold VR;infer_instance
end L
namespace L
abbrev Lw:Type:=jc.den
abbrev Rf:Type:=bo.den
abbrev my:Type:=dD.den
def Ts(r:Ty):M.mQ aR r=aa (decide (VR r)):=by
 obtain⟨(k:Int),(e:Int)⟩:=r;apply Wp.eq;unfold M.mQ;simp only[W_,aq,au,reduceCtorEq];simp only[VR];grind
end L
namespace L
def M8(op:Int):M.fm aR op=aa (ar op):=by
 apply Wp.eq;unfold M.fm ar;simp only[W_,aq,au,reduceCtorEq];omega
def KA{sk:List Nat}{j:Nat}(h:j<sk.length):idx (cz sk) (j:Int)=aa ((sk.getD j 0:Nat):Int):=by
 grind [aM]
def pR(l:List Nat):(cz l).length=l.length:=List.length_map _
def yd(l:List Nat)(x:Nat):cz l++[(x:Int)]=cz (l++[x]):=by simp[cz]
def mq(e:List Ty):M.gB aR e=aa (nq e):=by
 apply Wp.eq;unfold M.gB;simp only[M8,W_,aq,au,reduceCtorEq];refine⟨λh=>by unfold nq;rw[aj (by omega)],λh48=>⟨λh0=>by unfold nq;rw[ai (by omega),aj (by omega)],λh0=>?_⟩⟩
 have hS:nq e=match jx e 0 [] []with
  | .inl (i,c)=>((i:Int),c,[])
  | .inr (st,sk)=>if 1<sk.length then((e.length:Int),4,[])else(0,0,cz st):=by unfold nq;rw[ai (by omega),ai (by omega)]<;>cases jx e 0 [] []<;>rfl
 refine Wp.count (λs=>s.1) e.length (λk s=>∃st sk,s.2=(cz st,cz sk)/\jx e 0 [] []=jx (e.drop k) k st sk/\sk.length<=12/\st.length=k) (by omega) rfl ⟨[],[],rfl,rfl,by simp,rfl⟩ λk s hk hs hJ=>?_
 obtain⟨i,_⟩:=s;obtain⟨st,sk,h,hr,YM,gx⟩:=hJ;dsimp only at hs h;subst hs h;simp only[W_,aq,au,reduceCtorEq,vY,rf,pR];refine⟨λbi=>?_,λhge=>?_⟩
 .have bi:k<e.length:=by omega
  rw[List.drop_eq_getElem_cons bi,jx]at hr;simp only[aM bi,W_,aq,au,reduceCtorEq]
  obtain⟨a,ha⟩:∃a,a=ar e[k].1:=⟨_,rfl⟩
  have ha3:=pQ e[k].1;simp only[<-ha]at hr ha3⊢;refine⟨λhn=>?_,λhn=>?_⟩
  .rw[hS,hr,aj hn]
  rw[ai hn]at hr;refine⟨λh5=>?_,λh5=>?_⟩
  .rw[hS,hr,aj h5]
  rw[ai h5]at hr
  have fin:∀x:Nat,x=tv a k sk->Wp (cr (cz (sk.take (sk.length-a.toNat))) [(x:Int)]) (λl8=>Wp (cr (cz st) [(x:Int)]) λl9=>(12<(l8.length:Int)->((k:Int),((16:Int),([]:List Int)))=nq e)/\(¬12<(l8.length:Int)->k<e.length/\agp.wrap ((k:Int)+1)=((k+1:Nat):Int)/\∃st sk,(l9,l8)=(cz st,cz sk)/\jx e 0 [] []=jx (e.drop (k+1)) (k+1) st sk/\sk.length<=12/\st.length=k+1)):=by
   intro x hx;refine Kz.2 ⟨by rw[pR,ahv];simp;omega,Kz.2 ⟨by rw[pR];simp;omega,?_⟩⟩;rw[yd,yd,pR,List.length_append,ahv];simp only[List.length_cons,List.length_nil];refine⟨λh=>?_,λh=>⟨bi,yc (m:=e.length) (by omega) bi,st++[x],sk.take (sk.length-a.toNat)++[x],rfl,?_,?_,?_⟩⟩
   .rw[hS,hr,aj (by omega)]
   .rw[hr,ai (by omega),hx]
   .rw[List.length_append,ahv];simp;omega
   .rw[List.length_append,gx];rfl
  refine⟨λhp=>?_,λhp=>?_⟩
  .have w1:agp.wrap ((sk.length:Int)-a)=((sk.length-a.toNat:Nat):Int):=by rw[aE (by omega) (by omega)];omega
   simp only[w1,KA (show sk.length-a.toNat<sk.length by omega),tt (show sk.length-a.toNat<=(cz sk).length by rw[pR];omega),W_,aq,au,reduceCtorEq];rw[<-List.map_take];exact fin _ (by unfold tv;rw[ai (by omega)])
  .have:a.toNat=0:=by omega
   have:=fin k (by unfold tv;rw[aj (by omega)]);rw[‹a.toNat=0›,Nat.sub_zero,List.take_length]at this;exact this
 .obtain rfl:k=e.length:=by omega
  rw[List.drop_length,jx]at hr;rw[hS,hr];refine⟨λh=>?_,λh=>?_⟩
  .exact(aj (c:=1<sk.length) (by omega)).symm
  .exact(ai (c:=1<sk.length) (by omega)).symm
end L
namespace L
def ins(n:Int):List Int->List Int
 |[]=>[n]
 |x::l=>if x<n then x::ins n l else if x=n then x::l else n::x::l
def KB(n x:Int)(l:List Int):ins n (x::l)=if x<n then x::ins n l else if x=n then x::l else n::x::l:=rfl
theorem zy{n y:Int}:∀{l:List Int},y∈ins n l↔y=n\/y∈l
 |[]=>by simp[ins]
 |x::l=>by
  unfold ins;split
  .rw[ahq,zy,ahq]
   grind
  grind
def Tt(n:Nat)(l:List Int):Prop:=l.Pairwise (· < ·)/\∀x∈l,0<=x/\x<(n:Int)
theorem Tt.nil{n:Nat}:Tt n []:=⟨.nil,λ_ h=>by cases h⟩
def KC{n:Int}:∀{l:List Int},l.Pairwise (· < ·)->(ins n l).Pairwise (· < ·)
 |[],_=>List.pairwise_singleton ..
 |x::l,h=>by
  obtain⟨h1,h2⟩:=agN.1 h;rw[KB];split
  .exact agN.2 ⟨λy hy=>by grind [zy],KC h2⟩
  grind [agN]
theorem Tt.ins{n:Nat}{x:Int}{l:List Int}(h:Tt n l)(hx:0<=x/\x<(n:Int)):Tt n (ins x l):=
 ⟨KC h.1,λy hy=>by rcases zy.1 hy with rfl|hy;exact hx;exact h.2 y hy⟩
end L
namespace L
end L
namespace L
end L
namespace L
end L
namespace L
def gC{α:Type}(p:α->Bool)(l:List α):Int:=if l.findIdx p<l.length then((l.findIdx p:Nat):Int)else-1
def zA{α:Type}{p:α->Bool}{l:List α}{k:Nat}(hk:k<l.length)(hp:p l[k]=af)(hn:∀j,j<k->∀h:j<l.length,p l[j]=ag):gC p l=(k:Int):=by
 grind [gC]
def HN{α:Type}{p:α->Bool}{l:List α}(hn:∀j,∀h:j<l.length,p l[j]=ag):gC p l= -1:=by
 grind [gC]
theorem tY{α:Type}{p:α->Bool}{l:List α}:0<=gC p l↔∃x∈l,p x=af:=by
 grind [gC]
def zB{α:Type}{l:List α}{p:α->Bool}{body:Int->Option (Int⊕Int)}(hl:l.length<=maxLen)
 (hb:∀k,∀h:k<l.length,body (k:Int)=if p l[k]=af then aa (.inr (k:Int))else aa (.inl (agp.wrap ((k:Int)+1))))
 (he:body (l.length:Int)=aa (.inr (-1:Int))):Loop body aR (0:Int)=aa (gC p l):=by
 apply Wp.eq
 refine Wp.count (λs=>s) l.length (λk _=>∀j,j<k->∀h:j<l.length,p l[j]=ag) hl rfl (λj hj=>by omega) λk c hk hs hJ=>?_
 obtain rfl:c=_:=hs
 rcases Nat.lt_or_ge k l.length with bi|hge
 .rw[hb k bi];simp only[W_,aq,au,reduceCtorEq,vY,rf,yc hl bi];exact⟨λh=>by rw[zA bi h hJ],(by grind)⟩
 .obtain rfl:k=l.length:=by omega
  rw[he];simp only[W_,aq,au,reduceCtorEq,rf];rw[HN λj h=>hJ j h h]
def BE(r:Row)(x:r.den):nz r x x=af:=by unfold nz;simp
end L
namespace L
def Qg(r:Ty):M.dq aR r=aa (decide (VR r)):=by
 obtain⟨(k:Int),(e:Int)⟩:=r;apply Wp.eq;unfold M.dq;simp only[W_,aq,au,reduceCtorEq];simp only[VR];grind
end L
namespace L
def Qh(op:Int):M.dV aR op=aa (ar op):=by
 apply Wp.eq;unfold M.dV ar;simp only[W_,aq,au,reduceCtorEq];omega
def zC(st:List Nat)(m:Nat)(v:Nat):bG (cz st++agv (m+1) (0:Int)) (st.length:Int) (v:Int)=cz (st++[v])++agv m (0:Int):=by
 grind [bG]
def tw(st:List Nat)(m:Nat)(u v:Nat):bG (cz (st++[u])++agv m (0:Int)) (st.length:Int) (v:Int)=cz (st++[v])++agv m (0:Int):=by
 unfold bG
 simp_all
def Eh(e:List Ty):M.eG aR e=aa (nq e):=by
 apply Wp.eq;unfold M.eG nq
 refine Wp.dec (λh=> .some ?_) λh1=>?_
 .grind
 rw[ai (show¬48<e.length by omega)]
 refine Wp.dec (λh=> .some ?_) λh2=>?_
 .grind
 rw[ai (show¬e.length=0 by omega)]
 have Kj:og (e.length:Int) (0:Int)=aa (agv e.length 0):=by
  unfold og;rw[aj (by omega),agE]
 rw[Kj];simp only[ago];refine Wp.join (Wp.loop (λs:Int×List Int×List Int=>∃st sk:List Nat,s=((st.length:Int),cz st++agv (e.length-st.length) 0,cz sk)/\st.length<=e.length/\sk.length<=12/\jx (e.drop st.length) st.length st sk=jx e 0 [] []) (λs=>(e.length-s.1).toNat) ⟨[],[],by simp,by simp,by simp,by simp⟩ (by simp only;unfold aR;omega) ?_)
 rintro _ ⟨st,sk,rfl,gx,hsk,bj⟩
 simp only
 refine Wp.dec (λhk=>?_) λhk=> .some ?_
 case refine_2=>
  have hd:e.drop st.length=[]:=List.drop_of_length_le (by omega);rw[hd]at bj;rw[<-bj]
  have h0:e.length-st.length=0:=by omega
  rw[h0];simp only[jx,List.replicate_zero,List.append_nil]
  show Wp _ _
  refine Wp.dec (λh=> .some ?_) λh=> .some ?_
  all_goals grind
 have gD:st.length<e.length:=by omega
 have hd:e.drop st.length=e[st.length]::e.drop (st.length+1):=List.drop_eq_getElem_cons gD
 obtain⟨m,hm⟩:∃m,e.length-st.length=m+1:=⟨e.length-st.length-1,by omega⟩
 rw[hd]at bj;rw[aM gD,hm];simp only[ago,Qh];generalize lH:(e[st.length].1:Int)=op;rw[jx]at bj;rw[lH]at bj;have IJ:=pQ op
 refine Wp.dec (λh=> .some ?_) λHO=>?_
 .rw[aj h]at bj
  show _=_
  rw[<-bj]
 rw[ai HO]at bj
 refine Wp.dec (λh=> .some ?_) λhlen=>?_
 .rw[aj (by simpa using h)]at bj
  show _=_
  rw[<-bj]
 have hlen:¬(sk.length:Int)<ar op:=by simpa using hlen
 rw[ai hlen]at bj
 obtain⟨a,ha⟩:∃a:Nat,ar op=a:=⟨(ar op).toNat,by omega⟩
 rw[ha]at bj HO hlen IJ⊢
 have YN:a<=sk.length:=by omega
 have e6:idx (cz st++agv (m+1) (0:Int)) (st.length:Int)=aa 0:=by
  rw[aM (by simp)];rw[ahc (by simp)];simp
 rw[e6]
 have hw:agp.wrap (((cz sk).length:Int)-(a:Int))=((sk.length-a:Nat):Int):=by
  rw[List.length_map,aE (by omega) (by omega)];omega
 have hs:tv (a:Int) st.length sk=(if a=0 then st.length else sk.getD (sk.length-a) 0):=by
  unfold tv;by_cases h0:a=0
  .subst h0;simp
  .grind
 simp only[ago,zC,hw];refine Wp.seq (· =cz (st++[tv (a:Int) st.length sk])++agv m (0:Int)) ?_ ?_
 .refine Wp.dec (λh=>?_) λh=>?_
  .have bi:sk.length-a<(cz sk).length:=by simp;omega
   rw[aM bi]
   have e9:idx (cz (st++[st.length])++agv m (0:Int)) (st.length:Int)=aa (st.length:Int):=by
    rw[aM (by simp)];rw[ag4 (by simp)];simp
   simp only[ago,e9,List.getElem_map,tw];refine .some ?_
   grind
  .refine .some ?_
   grind
 .rintro _ rfl
  generalize tv (a:Int) st.length sk=s at bj⊢
  have Jk:gK (cz sk) (0:Int) ((sk.length-a:Nat):Int)=aa (cz (sk.take (sk.length-a))):=by
   rw[tt (by simp)];simp
  have YO:idx (cz (st++[s])++agv m (0:Int)) (st.length:Int)=aa (s:Int):=by
   rw[aM (by simp)];rw[ag4 (by simp)];simp
  have Qi:cr (cz (sk.take (sk.length-a))) [(s:Int)]=aa (cz (sk.take (sk.length-a)++[s])):=by
   rw[fS (by simp;omega)];simp
  rw[Jk];simp only[ago,YO,Qi]
  have hl:(cz (sk.take (sk.length-a)++[s])).length=sk.length-a+1:=by simp
  rw[hl];rw[agE]at bj
  refine Wp.dec (λh=> .some ?_) λh=> .some ?_
  .rw[aj (by omega)]at bj
   show _=_
   rw[<-bj]
  .rw[ai (by omega)]at bj;rw[aL (by omega)];refine⟨⟨st++[s],sk.take (sk.length-a)++[s],?_,by simp;omega,by simp;omega,?_⟩,by grind⟩
   all_goals grind
end L
namespace L
inductive UX(D:Int->Int->Prop):Int->Int->Prop
 |one {a b:Int} (h:D a b):UX D a b
 |step {a b c:Int} (h:UX D a b) (g:D b c):UX D a c
def Sn(seen:List Bool)(y:Int):Prop:=0<=y/\seen[y.toNat]? =aa af
structure RI(D:Int->Int->Prop)(d0:Int)(n:Nat)(ex:Int->Prop)(seen:List Bool)(q:List Int):Prop where
 len:seen.length=n
 qo:∀x∈q,0<=x/\x<(n:Int)/\(x=d0\/Sn seen x)
 snd:∀y,Sn seen y->UX D d0 y
 clo:∀x,(x=d0\/Sn seen x)->x∈q\/ex x\/∀y,D x y->Sn seen y
 bud:q.length+seen.count ag<=n+1
end L
namespace L
def ga(a b:Nat):Nat:=a ^^^(a&&& b)
theorem dw(a b i:Nat):(ga a b).testBit i=(a.testBit i&& !b.testBit i):=by
 grind [ga]
def ye{a:Nat}(h:a<9223372036854775808):(ag9 64 (a:Int)).toNat=a:=by
 grind
theorem wrap_i64{x:Nat}(h:x<9223372036854775808):agp.wrap (x:Int)=(x:Int):=vX (by omega)
def KD{a b:Nat}(ha:a<9223372036854775808)(hb:b<9223372036854775808):aF .and .i64 (a:Int) (b:Int)=((a&&& b:Nat):Int):=by
 show agp.wrap ((ag9 64 (a:Int)&&& ag9 64 (b:Int)).toNat:Int)=_
 grind [wrap_i64,Nat.and_le_left]
def Tu{a b:Nat}(ha:a<9223372036854775808)(hb:b<9223372036854775808):aF .xor .i64 (a:Int) (b:Int)=((a ^^^ b:Nat):Int):=by
 show agp.wrap ((ag9 64 (a:Int)^^^ ag9 64 (b:Int)).toNat:Int)=_
 have h:a ^^^ b<2 ^ 63:=Nat.xor_lt_two_pow (by omega) (by omega)
 grind [wrap_i64]
def HP{a b:Nat}(ha:a<9223372036854775808)(hb:b<9223372036854775808):aF .andNot .i64 (a:Int) (b:Int)=((ga a b:Nat):Int):=by
 show agp.wrap ((ag9 64 (a:Int)&&& ~~~ag9 64 (b:Int)).toNat:Int)=_
 have h:(ag9 64 (a:Int)&&& ~~~ag9 64 (b:Int)).toNat=ga a b:=by
  apply ahy;intro i;rw[dw,BitVec.testBit_toNat,BitVec.getLsbD_and,BitVec.getLsbD_not,<-BitVec.testBit_toNat,<-BitVec.testBit_toNat,ye ha,ye hb];by_cases hi:i<64
  .simp[hi]
  .have:a.testBit i=ag:=Nat.testBit_lt_two_pow (agK ha (by have:=Nat.pow_le_pow_right (n:=2) (by omega) (show 63<=i by omega);omega));simp[hi,this]
 have hl:ga a b<=a:=by
  apply Nat.le_of_testBit;intro i;rw[dw]
  cases a.testBit i<;>simp
 rw[h,wrap_i64 (by omega)]
def KE(a b:Nat):ga a b<=a:=by
 apply Nat.le_of_testBit
 grind [dw]
noncomputable def kl(a:Int):Int:=(M.gP 0 (agr.wrap a)).getD 0
def zD(N:Nat)(a:Int):M.cM N (agr.wrap a)=aa (kl a):=by
 unfold M.cM kl;rfl
def Qj(a b:Int):Int:=if a<b then-1 else if b<a then 1 else 0
def ri(N:Nat)(a b:Int):M.cmp_Compare_int N a b=aa (Qj a b):=by
 grind [M.cmp_Compare_int,M.cmp_isNaN_int,Qj]
def or_eq(a b c:Int):M.ox aR [a,b,c]=aa (if a≠0 then a else if b≠0 then b else c):=by
 unfold M.ox;refine Wp.eq ?_
 refine Wp.count (λs=>s) 3 (λk _=>(1<=k->a=0)/\(2<=k->b=0)/\(3<=k->c=0)) (by omega) rfl ⟨by omega,by omega,by omega⟩ λk s hk hs hJ=>?_
 subst hs
 match k,hk with
 |0,_=>
  refine .dec (λ_=> .bind (.idx 0 rfl (show 0<3 by omega) ?_)) (by grind);refine .o9 (λh=> .some ?_) (λh=> .some ?_)
  .show a=_
   grind
  .exact⟨by omega,by decide,λ_=>h,by omega,by omega⟩
 |1,_=>
  refine .dec (λ_=> .bind (.idx 1 rfl (show 1<3 by omega) ?_)) (by grind);have h0:=hJ.1 (by omega);refine .o9 (λh=> .some ?_) (λh=> .some ?_)
  .show b=_
   grind
  .exact⟨by omega,by decide,λ_=>h0,λ_=>h,by omega⟩
 |2,_=>
  refine .dec (λ_=> .bind (.idx 2 rfl (show 2<3 by omega) ?_)) (by grind);have h0:=hJ.1 (by omega);have h1:=hJ.2.1 (by omega);refine .o9 (λh=> .some ?_) (λh=> .some ?_)
  .show c=_
   grind
  .exact⟨by omega,by decide,λ_=>h0,λ_=>h1,λ_=>h⟩
 |3,_=>
  have h0:=hJ.1 (by omega);have h1:=hJ.2.1 (by omega);have h2:=hJ.2.2 (by omega);refine .dec (λh=>absurd h (by simp)) (λ_=> .some ?_)
  show(0:Int)=_
  grind
def Qk(a b c d:Int)(f g:Int):Int:=if f<g then-1 else if g<f then 1 else if a<c then-1 else if c<a then 1 else if b<d then-1 else if d<b then 1 else 0
theorem cmp_eq(a b c d:Int):M.cQ aR (a,b) (c,d)=aa (Qk a b c d (kl a) (kl c)):=by
 unfold M.cQ;rw[zD,ago,zD,ago,ri,ago,ri,ago,ri,ago,or_eq,ago]
 grind [Qj,Qk]
def rz(x y:Int×Int):Prop:=kl x.1<kl y.1\/kl x.1=kl y.1/\(x.1<y.1\/x.1=y.1/\x.2<y.2)
def zE(x y:Int×Int):ag0 (o8 λa b c d=>M.cQ aR (a,b) (c,d)) x y=af↔rz x y:=by
 unfold ag0 o8
 grind [cmp_eq,Qk,rz]
theorem rj(x y:Int×Int):ag0 (o8 λa b c d=>M.cQ aR (a,b) (c,d)) x y=ag↔¬rz x y:=by
 rw[<-zE];simp
def Tv:Kp λa b c d=>M.cQ aR (a,b) (c,d) where
 all a b c d:=⟨_,cmp_eq a b c d⟩
 swo:=⟨λx=>by rw[rj];unfold rz;omega,λx y z h1 h2=>by rw[zE]at*;unfold rz at*;omega,λx y z h1 h2=>by rw[rj]at*;unfold rz at*;omega⟩
 tot x y h1 h2:=by
  grind [rj,rz]
end L
namespace L
def jy{x m b:Nat}:x&&& m=b↔∀i,(x.testBit i&&m.testBit i)=b.testBit i:=by
 constructor
 .grind
 .intro h;apply ahy;grind
theorem iQ{b m:Nat}:b&&& m=b↔∀i,b.testBit i=af->m.testBit i=af:=by
 rw[jy]
 grind
def uU(j i:Nat):(2 ^ j).testBit i=decide (j=i):=Nat.testBit_two_pow
theorem FJ{m n:Nat}(h:m<2 ^ n){i:Nat}(hi:m.testBit i=af):i<n:=by
 refine Classical.byContradiction λg=>?_
 grind [Nat.testBit_lt_two_pow,agK,Nat.pow_le_pow_right]
def rk(n:Nat)(S:Nat->Prop)(m b:Nat):Prop:=m<2 ^ n/\b&&& m=b/\∀x,x<2 ^ n->x&&& m=b->S x
def rk.lt{n:Nat}{S:Nat->Prop}{m b:Nat}(h:rk n S m b):b<2 ^ n:=Nat.lt_of_le_of_lt (by rw[<-h.2.1];exact Nat.and_le_right) h.1
def rk.merge{n:Nat}{S:Nat->Prop}{m b j:Nat}(h:rk n S m b)(g:rk n S m (b ^^^ 2 ^ j))(_hj:m.testBit j=af):rk n S (ga m (2 ^ j)) (ga b (2 ^ j)):=by
 refine⟨Nat.lt_of_le_of_lt (KE _ _) h.1,?_,λx hx hm=>?_⟩
 .rw[iQ];intro i;rw[dw,dw];have:=iQ.1 h.2.1 i
  grind
 .have hm:=jy.1 hm;by_cases Mg:x.testBit j=b.testBit j
  .refine h.2.2 x hx (jy.2 λi=>?_)
   grind [dw]
  .refine g.2.2 x hx (jy.2 λi=>?_)
   grind [dw]
def rk.wider{n:Nat}{S:Nat->Prop}{m b j:Nat}(h:rk n S m b)(hj:m.testBit j=ag)(hn:j<n):rk n S (m|||2 ^ j) b/\rk n S (m|||2 ^ j) (b ^^^ 2 ^ j):=by
 have bi:m|||2 ^ j<2 ^ n:=Nat.or_lt_two_pow h.1 (Nat.pow_lt_pow_right (by omega) hn)
 have hb:b.testBit j=ag:=by
  cases e:b.testBit j with
  |false=>rfl
  |true=>rw[iQ.1 h.2.1 j e]at hj;cases hj
 refine⟨⟨bi,?_,λx hx hm=>h.2.2 x hx (jy.2 λi=>?_)⟩,⟨bi,?_,λx hx hm=>h.2.2 x hx (jy.2 λi=>?_)⟩⟩
 .rw[iQ];intro i hi;rw[Nat.testBit_or,iQ.1 h.2.1 i hi];rfl
 .grind
 .rw[iQ];intro i hi;rw[Nat.testBit_xor,uU]at hi;rw[Nat.testBit_or,uU];by_cases e:j=i
  .simp[e]
  .have:b.testBit i=af:=by simpa[e]using hi
   rw[iQ.1 h.2.1 i this];rfl
 .have:=jy.1 hm i
  grind
def Ql{m j:Nat}(h:m.testBit j=ag):ga (m|||2 ^ j) (2 ^ j)=m:=by
 apply ahy;grind [dw]
def vZ{b j:Nat}(h:b.testBit j=ag):ga b (2 ^ j)=b:=by
 apply ahy;grind [dw]
def M9(b j:Nat):ga (b ^^^ 2 ^ j) (2 ^ j)=ga b (2 ^ j):=by
 apply ahy;grind [dw]
def Na(b j:Nat):b ^^^ 2 ^ j ^^^ 2 ^ j=b:=by grind
def Ei{n:Nat}{S:Nat->Prop}{In:Nat->Nat->Prop}(h0:∀x,x<2 ^ n->S x->In (2 ^ n-1) x)
 (hc:∀m b j,j<n->m.testBit j=af->In m b->In m (b ^^^ 2 ^ j)->In (ga m (2 ^ j)) (ga b (2 ^ j))):∀k m b,2 ^ n-m=k->rk n S m b->In m b:=by
 intro k
 induction k using Nat.strongRecOn with
 |_ k ih=>
  intro m b hk h;by_cases hf:∃j,j<n/\m.testBit j=ag
  .obtain⟨j,hj,hm⟩:=hf;obtain⟨h1,h2⟩:=h.wider hm hj
   have hgt:m<m|||2 ^ j:=by
    refine Nat.lt_of_le_of_ne Nat.left_le_or λe=>?_
    have:(m|||2 ^ j).testBit j=af:=by rw[Nat.testBit_or,uU];simp
    rw[<-e,hm]at this;cases this
   have bi:=h1.1;have:=hc (m|||2 ^ j) b j hj (by grind) (ih _ (by omega) _ _ rfl h1) (ih _ (by omega) _ _ rfl h2)
   have hb:b.testBit j=ag:=by
    cases e:b.testBit j with
    |false=>rfl
    |true=>rw[iQ.1 h.2.1 j e]at hm;cases hm
   rwa [Ql hm,vZ hb]at this
  .have hm:m=2 ^ n-1:=by
    apply ahy;intro i;rw[Nat.testBit_two_pow_sub_one];by_cases hi:i<n
    .grind
    .cases e:m.testBit i with
     |true=>exact absurd (FJ h.1 e) hi
     |false=>simp[hi]
   subst hm;exact h0 b h.lt (h.2.2 b h.lt h.2.1)
def rk.full{n:Nat}{S:Nat->Prop}{x:Nat}(hx:x<2 ^ n)(hS:S x):rk n S (2 ^ n-1) x:=by
 have hp:0<2 ^ n:=Nat.two_pow_pos n;refine⟨by omega,?_,λy hy he=>?_⟩
 all_goals grind [iQ,FJ]
end L
namespace L
abbrev PS:Type:=List (az.den×Bool)
def In(l:PS)(p:Int×Int):Prop:=(bH az l p).getD ag=af
def zF(a b:Int×Int):Prop:=a.1<b.1\/a.1=b.1/\a.2<b.2
structure km(l:PS):Prop where
 tr:∀e∈l,e.2=af
 srt:l.Pairwise λe f=>zF e.1 f.1
def zF.trans{a b c:Int×Int}(h:zF a b)(g:zF b c):zF a c:=by unfold zF at*;omega
theorem zF.total{a b:Int×Int}(h:¬zF a b)(g:b≠a):zF b a:=by
 grind [zF]
theorem kN(a b:Int×Int):dY az a b=af↔a=b:=by
 show decide ((a.1:Int)=b.1/\(a.2:Int)=b.2)=af↔_
 grind
theorem lu(a b:Int×Int):dY az a b=ag↔a≠b:=by grind [kN]
def yf(a b:Int×Int):JI az a b=af↔zF a b:=by
 show decide ((a.1:Int)<b.1\/((a.1:Int)=b.1/\(a.2:Int)<b.2))=af↔_
 rw[aw];rfl
def ko:{l:PS}->{p:Int×Int}->(∀e∈l,e.2=af)->(In l p↔(p,af)∈l)
 |[],p,_=>by simp[In,bH]
 |q::l,p,h=>by
  have ih:=ko (l:=l) (p:=p) λe he=>h e (List.mem_cons_of_mem _ he)
  have hq:=h q List.mem_cons_self;unfold In bH;by_cases e:dY az q.1 p=af
  .rw[aj e];have e':=(kN _ _).1 e;have:q=(p,af):=Prod.ext e' hq;simp[this]
  .rw[ai e]
   have e':q.1≠p:=λg=>e ((kN _ _).2 g)
   refine ih.trans ⟨λg=>List.mem_cons_of_mem _ g,λg=>?_⟩
   rcases ahq.1 g with g|g
   .exact absurd (by rw[<-g]) e'
   .exact g
theorem km.nil:km []:=⟨λe h=>by simp at h, .nil⟩
theorem v7{l:PS}{p:Int×Int}{v:Bool}{e:(Int×Int)×Bool}:e∈AK az l p v↔e=(p,v)\/e∈l:=by grind [qh]
def BF{p:Int×Int}{v:Bool}:{l:PS}->l.Pairwise (λe f=>zF e.1 f.1)->(∀e∈l,e.1≠p)->(AK az l p v).Pairwise λe f=>zF e.1 f.1
 |[],_,_=>by simp[AK]
 |q::l,h,hn=>by
  obtain⟨h1,h2⟩:=agN.1 h;unfold AK;by_cases hk:JI az p q.1=af
  .rw[aj hk];have hk:=(yf _ _).1 hk;refine agN.2 ⟨λe he=>?_,h⟩
   rcases ahq.1 he with rfl|he
   .exact hk
   .exact hk.trans (h1 e he)
  .rw[ai hk]
   have hk:¬zF p q.1:=λg=>hk ((yf _ _).2 g)
   refine agN.2 ⟨λe he=>?_,BF h2 (by grind)⟩
   grind [v7,zF.total]
def km.put{l:PS}(h:km l)(p:Int×Int):km (qD az l p af):=by
 refine⟨λe he=>?_,BF (h.srt.filter _) λe he=>?_⟩
 .rcases v7.1 he with rfl|he
  .rfl
  .exact h.tr e (List.mem_filter.1 he).1
 grind [lu]
def zG{l:PS}(h:km l){p q:Int×Int}:In (qD az l p af) q↔q=p\/In l q:=by
 rw[ko (h.put p).tr,ko h.tr]
 grind [qD,v7,lu]
def Nb{l:PS}(h:km l){p:Int×Int}(hn:¬In l p):(qD az l p af).length=l.length+1:=by
 unfold qD;refine(qh (K:=az) p af _).length_eq.trans ?_;rw[List.length_cons,ahP.2];intro e he;rw[Bool.not_eq_true',lu];intro g;refine hn ((ko h.tr).2 ?_);have:e=(p,af):=Prod.ext g (h.tr e he)
 grind
def km.ext{l m:PS}(h:km l)(g:km m)(e:∀p,In l p↔In m p):l=m:=by
 have JH:∀{l:PS},km l->l.Nodup:=λh=>h.srt.imp λg e=>by
  subst e;unfold zF at g;omega
 have hm:∀a:az.den×Bool,a∈l↔a∈m:=λa=>by
  constructor
  .intro ha;have:a=(a.1,af):=Prod.ext rfl (h.tr a ha);rw[this]at ha⊢;exact(ko g.tr).1 ((e _).1 ((ko h.tr).2 ha))
  .intro ha;have:a=(a.1,af):=Prod.ext rfl (g.tr a ha);rw[this]at ha⊢;exact(ko h.tr).1 ((e _).2 ((ko g.tr).2 ha))
 refine List.Perm.eq_of_pairwise (le:=λe f:az.den×Bool=>zF e.1 f.1) (λa b _ _ h1 h2=>?_) h.srt g.srt (by grind);unfold zF at h1 h2;omega
def qs{α:Type}:∀{A B:List α},A.Nodup->(∀x∈A,x∈B)->A.length<=B.length
 |[],_,_,_=>Nat.zero_le _
 |a::A,B,h,hs=>by
  obtain⟨h1,h2⟩:=List.nodup_cons.1 h;obtain⟨s,t,rfl⟩:=List.append_of_mem (hs a List.mem_cons_self);have:=qs (A:=A) (B:=s++t) h2 (by grind)
  grind
theorem km.len{l:PS}(h:km l)(k:Nat)(hk:∀p,In l p->∃m b:Nat,p=((m:Int),(b:Int))/\m<k/\b<k):l.length<=k*k:=by
 have:=qs (A:=l.map λe=>(e.1.1*k+e.1.2:Int)) (B:=(agw (k*k)).map λx:Nat=>(x:Int)) ?_ λx hx=>?_
 .grind
 .rw[List.Nodup,List.pairwise_map];refine List.Pairwise.imp_of_mem (λ{e f}he hf bi=>?_) h.srt
  have key:∀{e:az.den×Bool},e∈l->In l e.1:=λ{e}he=>(ko h.tr).2 (by rw[show(e.1,af)=e from Prod.ext rfl (h.tr e he).symm];exact he)
  obtain⟨m,b,e1,h1,h2⟩:=hk _ (key he);obtain⟨m',b',e2,h3,h4⟩:=hk _ (key hf);rw[e1,e2]at bi⊢;dsimp only[zF]at bi⊢;intro g
  have g:m*k+b=m'*k+b':=by exact_mod_cast g
  have h5:(m*k+b)/k=m:=by rw[agO,Nat.mul_add_div (by omega),Nat.div_eq_of_lt h2,Nat.add_zero]
  have h6:(m'*k+b')/k=m':=by rw[agO,Nat.mul_add_div (by omega),Nat.div_eq_of_lt h4,Nat.add_zero]
  grind
 .obtain⟨e,he,rfl⟩:=List.mem_map.1 hx;have:In l e.1:=(ko h.tr).2 (by rw[show(e.1,af)=e from Prod.ext rfl (h.tr e he).symm];exact he);obtain⟨m,b,e1,h1,h2⟩:=hk _ this;rw[e1];refine List.mem_map.2 ⟨m*k+b,List.mem_range.2 ?_,by simp⟩;have:=agA k (show m+1<=k by omega)
  grind
def BG{α A R:Type}{l0:List (az.den×α)}{fin:List (az.den×α)×List (az.den×α)×A->Option R}{step:List (az.den×α)×List (az.den×α)×A->(az.den×α)->Option A}(I:List (az.den×α)->A->Prop){Tw:R->Prop}(hu:∀r r',Tw r->Tw r'->r=r')
 (dB:∀left acc x,x∈left->I left acc->Wp (step (l0,left,acc) x) (I (ma az left x.1)))(Gv:∀acc,I [] acc->Wp (fin (l0,[],acc)) Tw):
 ∀(n N:Nat)left acc,left.length<=n->n<N->I left acc->Wp (qI (λs k2=>if s.2.1.isEmpty=af then fin s else Mw (λp=>p∈s.2.1) λx=>(step s x).bind λa=>k2 (s.1,ma az s.2.1 x.1,a)) N (l0,left,acc)) Tw:=by
 intro n
 induction n with
 |zero=>
  intro N left acc hl hN hi;obtain⟨N,rfl⟩:=Nat.exists_eq_succ_of_ne_zero (show N≠0 by omega)
  grind [qI]
 |succ n ih=>
  intro N left acc hl hN hi;obtain⟨N,rfl⟩:=Nat.exists_eq_succ_of_ne_zero (show N≠0 by omega)
  by_cases he:left=[]
  .grind
  .have CU:¬left.isEmpty=af:=by simpa using he
   have key:∀x,x∈left->∃a r,step (l0,left,acc) x=aa a/\qI (λs k2=>if s.2.1.isEmpty=af then fin s else Mw (λp=>p∈s.2.1) λx=>(step s x).bind λa=>k2 (s.1,ma az s.2.1 x.1,a)) N (l0,ma az left x.1,a)=aa r/\Tw r:=λx hx=>by
    obtain⟨a,ha,jJ⟩:=dB left acc x hx hi
    have:(ma az left x.1).length<left.length:=by
     unfold ma;refine List.length_filter_lt_length_iff_exists.2 ⟨x,hx,?_⟩;rw[(kN _ _).2 rfl];simp
    obtain⟨r,hr,h⟩:=ih N (ma az left x.1) a (by omega) (by omega) jJ
    grind
   obtain⟨x0,Tx⟩:=List.exists_mem_of_ne_nil _ he;obtain⟨_,r0,_,_,h0⟩:=key x0 Tx;refine⟨r0,?_,h0⟩;unfold qI;refine(ai CU).trans (O1 ⟨x0,Tx⟩ λx hx=>?_)
   grind
end L
namespace L
def oG{j:Nat}(h:j<62):qC .i64 (1:Int) (j:Int)=aa ((2 ^ j:Nat):Int):=by
 unfold qC;rw[ai (by omega)];unfold sI
 have h1:min (j:Int).toNat agp.bits=j:=by simp[ahL];omega
 have h2:2 ^ j<2 ^ 62:=Nat.pow_lt_pow_right (by omega) h
 grind [wrap_i64]
def KF:∀j,j<8->kl ((2 ^ j:Nat):Int)=1:=by
 intro j hj
 have h:((agw 8).all λj=>decide (kl ((2 ^ j:Nat):Int)=1))=af:=by kernel_rfl
 grind
abbrev pI(m b:Nat):Int×Int:=((m:Int),(b:Int))
def tx{m b m' b':Nat}(h:pI m b=pI m' b'):m=m'/\b=b':=by
 grind
def zH(b j:Nat):b ^^^(b ^^^ 2 ^ j)=2 ^ j:=by grind
def r8{n:Nat}(h:n<=8):2 ^ n<=256:=Nat.pow_le_pow_right (n:=2) (by omega) h
def Nc{b j:Nat}(hb:b<256)(hj:j<8):b ^^^ 2 ^ j<256:=Nat.xor_lt_two_pow (n:=8) hb (by have:=Nat.pow_lt_pow_right (a:=2) (by omega) hj;omega)
def zI{j:Nat}(hj:j<8):2 ^ j<256:=Nat.pow_lt_pow_right (a:=2) (by omega) hj
def KG{m b j:Nat}(hm:m<256)(hb:b<256)(hj:j<8)(LZ:m.testBit j=af):M.kT aR (pI m b) (pI m (b ^^^ 2 ^ j))=aa (pI (ga m (2 ^ j)) (ga b (2 ^ j)),af):=by
 have h2:=zI hj
 have hx:aF .xor .i64 (b:Int) ((b ^^^ 2 ^ j:Nat):Int)=((2 ^ j:Nat):Int):=by rw[Tu (by omega) (by have:=Nc hb hj;omega),zH]
 have ha:aF .and .i64 ((2 ^ j:Nat):Int) (m:Int)≠0:=by
  rw[KD (by omega) (by omega)];intro h
  have h:2 ^ j&&& m=0:=by exact_mod_cast h
  have:=av (λx=>x.testBit j) h;simp only[Nat.testBit_and,uU,LZ,Nat.zero_testBit]at this;simp at this
 have ho:M.cM aR (agr.wrap ((2 ^ j:Nat):Int))=aa 1:=by rw[zD,KF j hj]
 have h0:decide (aF .and .i64 ((2 ^ j:Nat):Int) (m:Int)=0)=ag:=ao ha;unfold M.kT;simp only[hx,ho,h0,ago,decide_true,Bool.not_true,ags,if_false,HP (show m<9223372036854775808 by omega) (show 2 ^ j<9223372036854775808 by omega),HP (show b<9223372036854775808 by omega) (show 2 ^ j<9223372036854775808 by omega)]
structure n5(n:Nat)(S:Nat->Prop)(l:PS):Prop where
 ok:km l
 imp:∀p,In l p->∃m b:Nat,p=pI m b/\rk n S m b
 base:∀x,x<2 ^ n->S x->In l (pI (2 ^ n-1) x)
theorem n5.len{n:Nat}{S:Nat->Prop}{l:PS}(h:n5 n S l)(hn:n<=8):l.length<=65536:=by
 have:=h.ok.len (2 ^ n) λp hp=>by
  obtain⟨m,b,e,hi⟩:=h.imp p hp;exact⟨m,b,e,hi.1,hi.lt⟩
 have h8:=r8 hn;exact agR this (agR (Nat.mul_le_mul h8 h8) (by omega))
def Cl(n:Nat)(l:PS)(Tz:List (Int×Int)):Prop:=
 ∀m b j:Nat,j<n->m.testBit j=af->In l (pI m b)->In l (pI m (b ^^^ 2 ^ j))->pI m b∉Tz->pI m (b ^^^ 2 ^ j)∉Tz->In l (pI (ga m (2 ^ j)) (ga b (2 ^ j)))
def Ej(n:Nat)(S:Nat->Prop)(l:PS):Prop:=km l/\∀p,In l p↔∃m b:Nat,p=pI m b/\rk n S m b
def Ej.Ek{n:Nat}{S:Nat->Prop}{l l':PS}(h:Ej n S l)(g:Ej n S l'):l=l':=h.1.ext g.1 λp=>(h.2 p).trans (g.2 p).symm
def n5.done{n:Nat}{S:Nat->Prop}{l:PS}(h:n5 n S l)(hc:Cl n l []):Ej n S l:=
 ⟨h.ok,λp=>⟨h.imp p,λ⟨m,b,e,hi⟩=>by
   rw[e]
   exact Ei (In:=λm b=>In l (pI m b)) h.base (λm b j hj hm h1 h2=>hc m b j hj hm h1 h2 (by simp) (by simp)) _ m b rfl hi⟩⟩
def n5.put{n:Nat}{S:Nat->Prop}{l:PS}(h:n5 n S l){m b:Nat}(hi:rk n S m b):n5 n S (qD az l (pI m b) af):=
 ⟨h.ok.put _,λp hp=>by
   rcases(zG h.ok).1 hp with rfl|hp
   .grind
   .exact h.imp p hp,λx hx hS=>(zG h.ok).2 (.inr (h.base x hx hS))⟩
structure w8(n:Nat)(S:Nat->Prop)(L0:Nat)(uy rest:List (Int×Int))(m b:Nat)(j:Nat)(l:PS)(nx:List (Int×Int)):Prop where
 good:n5 n S l
 levs:∀p∈uy,In l p
 nxt:∀p∈nx,In l p
 len:l.length=L0+nx.length
 cl:Cl n l (pI m b::rest++nx)
 bits:∀i,i<j->m.testBit i=af->In l (pI m (b ^^^ 2 ^ i))->pI m (b ^^^ 2 ^ i)∉nx->In l (pI (ga m (2 ^ i)) (ga b (2 ^ i)))
def w8.same{n:Nat}{S:Nat->Prop}{L0:Nat}{uy rest:List (Int×Int)}{m b j:Nat}{l:PS}{nx:List (Int×Int)}(h:w8 n S L0 uy rest m b j l nx)(hb:m.testBit j=af->In l (pI m (b ^^^ 2 ^ j))->In l (pI (ga m (2 ^ j)) (ga b (2 ^ j)))):
 w8 n S L0 uy rest m b (j+1) l nx:=
 ⟨h.good,h.levs,h.nxt,h.len,h.cl,λi hi hm h1 h2=>by
   rcases Nat.lt_succ_iff_lt_or_eq.1 hi with hi|rfl
   .exact h.bits i hi hm h1 h2
   grind⟩
def w8.add{n:Nat}{S:Nat->Prop}{L0:Nat}{uy rest:List (Int×Int)}{m b j:Nat}{l:PS}{nx:List (Int×Int)}(h:w8 n S L0 uy rest m b j l nx)(hi:rk n S (ga m (2 ^ j)) (ga b (2 ^ j)))(hn:¬In l (pI (ga m (2 ^ j)) (ga b (2 ^ j)))):
 w8 n S L0 uy rest m b (j+1) (qD az l (pI (ga m (2 ^ j)) (ga b (2 ^ j))) af) (nx++[pI (ga m (2 ^ j)) (ga b (2 ^ j))]):=by
 have hp:∀q,In (qD az l (pI (ga m (2 ^ j)) (ga b (2 ^ j))) af) q↔q=pI (ga m (2 ^ j)) (ga b (2 ^ j))\/In l q:=λq=>zG h.good.ok
 refine⟨h.good.put hi,λp CV=>(hp p).2 (.inr (h.levs p CV)),λp CV=>(hp p).2 ?_,by rw[Nb h.good.ok hn,h.len];simp;omega,λm' b' i jJ hm h1 h2 h3 h4=>(hp _).2 ?_,λi jJ hm h1 h2=>(hp _).2 ?_⟩
 .rcases agV.1 CV with h'|h'
  .exact .inr (h.nxt p h')
  grind
 .simp only[List.cons_append,ahq,agV,List.not_mem_nil,or_false,not_or]at h3 h4
  rcases(hp _).1 h1 with e|h1
  .grind
  .rcases(hp _).1 h2 with e|h2
   .grind
   .exact .inr (h.cl m' b' i jJ hm h1 h2 (by simp only[List.cons_append,ahq,agV,not_or];exact⟨h3.1,h3.2.1,h3.2.2.1⟩) (by grind))
 .simp only[agV,agQ,not_or]at h2
  rcases Nat.lt_succ_iff_lt_or_eq.1 jJ with jJ|rfl
  .rcases(hp _).1 h1 with e|h1
   .grind
   .exact .inr (h.bits i jJ hm h1 h2.1)
  grind
def w8.out{n:Nat}{S:Nat->Prop}{L0:Nat}{uy rest:List (Int×Int)}{m b:Nat}{l:PS}{nx:List (Int×Int)}(h:w8 n S L0 uy rest m b n l nx):Cl n l (rest++nx):=by
 intro m' b' i hi hm h1 h2 h3 h4
 have h3':=h3;have h4':=h4
 simp only[agV,not_or]at h3 h4;by_cases e1:pI m' b'=pI m b
 .obtain⟨rfl,rfl⟩:=tx e1;exact h.bits i hi hm h2 h4.2
 .by_cases e2:pI m' (b' ^^^ 2 ^ i)=pI m b
  .obtain⟨rfl,e3⟩:=tx e2
   have e4:b'=b ^^^ 2 ^ i:=by rw[<-e3,Na]
   subst e4;rw[M9];exact h.bits i hi hm h1 h3.2
  .exact h.cl m' b' i hi hm h1 h2 (by simp only[List.cons_append,ahq,not_or];exact⟨e1,h3'⟩) (by grind)
def Nd{n:Nat}{S:Nat->Prop}{m b j:Nat}(h:rk n S m b)(g:rk n S m (b ^^^ 2 ^ j)):m.testBit j=af:=by
 cases hb:b.testBit j with
 |true=>exact iQ.1 h.2.1 j hb
 |false=>exact iQ.1 g.2.1 j (by grind)
def YP(n:Nat)(hn:n<=8)(S:Nat->Prop)(l0:PS)(h0:km l0)(hIn:∀p,In l0 p↔∃x,x<2 ^ n/\S x/\p=pI (2 ^ n-1) x):Wp (M.fj aR (n:Int) l0) (Ej n S):=by
 have h8:=r8 hn
 have TA:n5 n S l0:=⟨h0,λp hp=>by
  obtain⟨x,hx,hS,e⟩:=(hIn p).1 hp
  exact⟨_,x,e, .full hx hS⟩,(by grind)⟩
 have hl0:=TA.len hn;unfold M.fj;refine BG (λleft acc=>(∀e∈left,e∈l0)/\(∀p∈acc,In l0 p)/\(∀p,In l0 p->p∈acc\/∃e∈left,e.1=p)/\acc.length+left.length<=l0.length) (λr r' h g=>h.Ek g) (λleft acc x hx hI=>?_) (λacc hI=>?_) l0.length aR l0 [] (agt _) (by unfold aR;omega) ⟨λe he=>he,λp hp=>by simp at hp,λp hp=> .inr ⟨(p,af),(ko h0.tr).1 hp,rfl⟩,by simp⟩
 .obtain⟨h1,h2,h3,h4⟩:=hI
  have hlen:(ma az left x.1).length<left.length:=by
   unfold ma;refine List.length_filter_lt_length_iff_exists.2 ⟨x,hx,?_⟩;rw[(kN _ _).2 rfl];simp
  have rQ:∀e,e∈ma az left x.1↔e∈left/\e.1≠x.1:=λe=>by
   grind [ma,lu]
  have Tx:In l0 x.1:=(ko h0.tr).2 (by rw[show(x.1,af)=x from Prod.ext rfl (h0.tr x (h1 x hx)).symm];exact h1 x hx)
  grind [Wp.wM]
 .obtain⟨-,h2,h3,h4⟩:=hI
  refine Wp.loop (λs=>n5 n S s.1/\(∀p∈s.2,In s.1 p)/\Cl n s.1 s.2/\s.2.length<=s.1.length) (λs=>2*(65536-s.1.length)+(if s.2=[]then 0 else 1)) ⟨TA,h2,λm b j _ _ hm _ hn _=>absurd ?_ hn,by simpa using h4⟩ (by grind [aR]) λs hs=>?_
  .grind
  .obtain⟨l,uy⟩:=s;obtain⟨hg,YQ,Pz,hle⟩:=hs;dsimp only at hg YQ Pz hle⊢;have Rq:=hg.len hn;refine .dec (λdJ=>?_) (λhe=> .some ?_)
   .have G2:uy≠[]:=λe=>by grind
    refine Wp.seq (λj=>n5 n S j.1/\(∀p∈j.2,In j.1 p)/\Cl n j.1 j.2/\j.1.length=l.length+j.2.length) ?_ λj hj=> .some ⟨(by grind),?_⟩
    .refine Wp.count (λs=>s.1) uy.length (λk s=>n5 n S s.2.1/\(∀p∈uy,In s.2.1 p)/\(∀p∈s.2.2,In s.2.1 p)/\s.2.1.length=l.length+s.2.2.length/\Cl n s.2.1 (uy.drop k++s.2.2)) (by omega) rfl (by grind) λk s hk hs hJ=>?_
     obtain⟨i,l1,nx⟩:=s;obtain⟨g1,g2,g3,g4,g5⟩:=hJ;dsimp only at hs g1 g2 g3 g4 g5⊢;subst hs;refine .dec (λbi=>?_) (λhge=> .some ?_)
     .have bi:k<uy.length:=by omega
      refine Wp.seq (λj=>n5 n S j.1/\(∀p∈uy,In j.1 p)/\(∀p∈j.2,In j.1 p)/\j.1.length=l.length+j.2.length/\Cl n j.1 (uy.drop (k+1)++j.2)) (.bind (.idx k rfl bi ?_)) λj hj=> .some ⟨bi,aL (by omega),hj⟩
      obtain⟨m,b,hp,hi⟩:=g1.imp _ (g2 uy[k] (agy bi));rw[List.drop_eq_getElem_cons bi]at g5;rw[hp]at g5⊢;have hm:=hi.1;have hb:=hi.lt
      refine Wp.count (λs=>s.1) n (λj s=>w8 n S l.length uy (uy.drop (k+1)) m b j s.2.1 s.2.2) (by omega) rfl ⟨g1,g2,g3,g4,g5,λi hi=>absurd hi (by omega)⟩ λj s hj hs hB=>?_
      obtain⟨jj,l2,ny⟩:=s;dsimp only at hs hB⊢;subst hs;refine .dec (λPj=>?_) (λhge=> .some ?_)
      .have UY:j<8:=by omega
       have hx:aF .xor .i64 (b:Int) ((2 ^ j:Nat):Int)=((b ^^^ 2 ^ j:Nat):Int):=Tu (by omega) (by have:=zI UY;omega)
       refine Wp.seq (λq=>w8 n S l.length uy (uy.drop (k+1)) m b (j+1) q.1 q.2) (.aW (oG (by omega)) ?_) λq hq=> .some ⟨by omega,aL (by omega),hq⟩
       rw[hx];refine .ite (λCO=> .some (hB.same λ_ h=>?_)) (λYR=>?_)
       .rw[show(bH az l2 (pI m (b ^^^ 2 ^ j))).getD ag=af from h]at CO;cases CO
       .have cL:In l2 (pI m (b ^^^ 2 ^ j)):=by simpa[In]using YR
        obtain⟨m',b',e,jJ⟩:=hB.good.imp _ cL;obtain⟨rfl,rfl⟩:=tx e;have LZ:=Nd hi jJ;have him:=hi.merge jJ LZ;refine .aW (KG (by omega) (by omega) UY LZ) ?_;by_cases wR:In l2 (pI (ga m (2 ^ j)) (ga b (2 ^ j)))
        .have e:(bH az l2 (pI (ga m (2 ^ j)) (ga b (2 ^ j)))).getD ag=af:=wR;simp only[if_true,e,Bool.not_true,ago,ags,if_false];exact .some (hB.same λ_ _=>wR)
        .have e:(bH az l2 (pI (ga m (2 ^ j)) (ga b (2 ^ j)))).getD ag=ag:=by simpa[In]using wR
         simp only[if_true,e,Bool.not_false,ago];have TB:=hB.good.len hn;refine .bind (.wM (by have:=hB.len;simp;omega) (.some (hB.add him wR)))
      .have:j=n:=by omega
       subst this;exact⟨hB.good,hB.levs,hB.nxt,hB.len,hB.out⟩
     .have:k=uy.length:=by omega
      subst this;rw[List.drop_length]at g5;exact⟨g1,g3,g5,g4⟩
    .have h5:=hj.1.len hn;have h6:=hj.2.2.2
     show 2*(65536-j.1.length)+(if j.2=[]then 0 else 1)<2*(65536-l.length)+(if uy=[]then 0 else 1)
     rw[ai G2]
     grind [List.length_pos_iff]
   .have:uy=[]:=(by simp_all)
    subst this;exact hg.done Pz
end L
namespace L
def El(n:Nat)(S:Nat->Prop)(m b:Nat):Prop:=rk n S m b/\∀j,j<n->m.testBit j=af->¬rk n S (ga m (2 ^ j)) (ga b (2 ^ j))
theorem rz.irrefl(x:Int×Int):¬rz x x:=by unfold rz;omega
theorem rz.total{x y:Int×Int}(h:¬rz y x)(g:x≠y):rz x y:=by
 grind [rz]
def tZ{l m:List (Int×Int)}(h:l.Pairwise rz)(g:m.Pairwise rz)(e:∀p,p∈l↔p∈m):l=m:=by
 have JH:∀{l:List (Int×Int)},l.Pairwise rz->l.Nodup:=λh=>h.imp λg e=>by subst e;exact rz.irrefl _ g
 grind [rz,List.Perm.eq_of_pairwise]
def KH{l:List az.den}(hl:l.length<4611686018427387904)(hn:l.Nodup):Wp (M.aZ aR l) λr=>r.Pairwise rz/\∀p,p∈r↔p∈l:=by
 unfold M.aZ xY;rw[aj ⟨Tv,hl⟩];refine .some ?_;generalize hg:ag0 (o8 λa b c d=>M.cQ aR (a,b) (c,d))=lt
 have bi:∀x y:Int×Int,lt x y=af↔rz x y:=λx y=>by rw[<-hg];exact zE x y
 have hlf:∀x y:Int×Int,(!lt x y)=af↔¬rz x y:=λx y=>by grind
 have hp:=List.pairwise_mergeSort (le:=λx y:Int×Int=> !lt y x) (λa b c h1 h2=>by
  grind [rz]) (λa b=>by
  grind [rz]) l
 have hm:∀p,p∈l.mergeSort (λx y:Int×Int=> !lt y x)↔p∈l:=λp=>List.mem_mergeSort
 refine⟨?_,hm⟩;have Ji:(l.mergeSort (λx y:Int×Int=> !lt y x)).Nodup:=(List.mergeSort_perm l _).symm.nodup hn
 exact(hp.and Ji).imp λ⟨h1,h2⟩=>rz.total ((hlf _ _).1 h1) h2
def KI(n:Nat)(S:Nat->Prop)(l:PS)(r:PS×List az.den):Prop:=r.1=l/\r.2.Pairwise rz/\∀p,p∈r.2↔∃m b:Nat,p=pI m b/\El n S m b
def KI.Ek{n:Nat}{S:Nat->Prop}{l:PS}{r r':PS×List az.den}(h:KI n S l r)(g:KI n S l r'):r=r':=
 Prod.ext (h.1.trans g.1.symm) (tZ h.2.1 g.2.1 λp=>(h.2.2 p).trans (g.2.2 p).symm)
def Nf{m j:Nat}(h:m.testBit j=af):ga m (2 ^ j)≠m:=λe=>by
 grind [dw]
def HQ(n:Nat)(hn:n<=8)(S:Nat->Prop)(l:PS)(h:Ej n S l):Wp (M.gR aR (n:Int) l) (KI n S l):=by
 have h8:=r8 hn
 have hlen:l.length<=65536:=by
  have:=h.1.len (2 ^ n) λp hp=>by
   obtain⟨m,b,e,hi⟩:=(h.2 p).1 hp;exact⟨m,b,e,hi.1,hi.lt⟩
  exact agR this (agR (Nat.mul_le_mul h8 h8) (by omega))
 unfold M.gR
 refine BG (λleft acc=>(∀e∈left,e∈l)/\acc.Nodup/\(∀p∈acc,∃m b:Nat,p=pI m b/\El n S m b)/\(∀m b:Nat,El n S m b->pI m b∈acc\/∃e∈left,e.1=pI m b)/\(∀p∈acc,∀e∈left,e.1≠p)/\acc.length+left.length<=l.length)
  (λr r' h g=>h.Ek g) (λleft acc x hx hI=>?_) (λacc hI=>?_) l.length aR l [] (agt _) (by unfold aR;omega) ⟨λe he=>he,List.nodup_nil,λp hp=>by simp at hp,λm b hp=> .inr ⟨(pI m b,af),(ko h.1.tr).1 ((h.2 _).2 ⟨m,b,rfl,hp.1⟩),rfl⟩,λp hp=>by simp at hp,by simp⟩
 .obtain⟨h1,h2,h3,h4,h5,h6⟩:=hI
  have TB:(ma az left x.1).length<left.length:=by
   unfold ma;refine List.length_filter_lt_length_iff_exists.2 ⟨x,hx,?_⟩;rw[(kN _ _).2 rfl];simp
  have rQ:∀e,e∈ma az left x.1↔e∈left/\e.1≠x.1:=λe=>by
   unfold ma;rw[List.mem_filter,Bool.not_eq_true',lu]
  have Tx:In l x.1:=(ko h.1.tr).2 (by rw[show(x.1,af)=x from Prod.ext rfl (h.1.tr x (h1 x hx)).symm];exact h1 x hx);obtain⟨m,b,hp,hi⟩:=(h.2 _).1 Tx;have hm:=hi.1;have hb:=hi.lt
  refine Wp.seq (λj=>j=af↔El n S m b) ?_ λj hj=>?_
  .refine Wp.count (λs=>s.2) n (λj s=>s.1=af↔∀i,i<j->m.testBit i=af->¬rk n S (ga m (2 ^ i)) (ga b (2 ^ i))) (by omega) rfl ⟨λ_ i hi=>absurd hi (by omega),λ_=>rfl⟩ λj s hj hs hJ=>?_
   obtain⟨v,jj⟩:=s;dsimp only at hs hJ⊢;subst hs;refine .dec (λbi=>?_) (λhge=> .some ?_)
   .have UY:j<8:=by omega
    have h2j:=zI UY
    refine Wp.seq (λq=>q=af↔∀i,i<j+1->m.testBit i=af->¬rk n S (ga m (2 ^ i)) (ga b (2 ^ i))) (.aW (oG (by omega)) (.aW (oG (by omega)) ?_)) λq hq=> .some ⟨by omega,aL (by omega),hq⟩
    have e1:aF .andNot .i64 x.1.1 ((2 ^ j:Nat):Int)=(ga m (2 ^ j):Nat):=by rw[hp];exact HP (by omega) (by omega)
    have e2:aF .andNot .i64 x.1.2 ((2 ^ j:Nat):Int)=(ga b (2 ^ j):Nat):=by rw[hp];exact HP (by omega) (by omega)
    rw[e1,e2,hp];have e3:(bH az l (pI (ga m (2 ^ j)) (ga b (2 ^ j)))).getD ag=af↔rk n S (ga m (2 ^ j)) (ga b (2 ^ j)):=(h.2 _).trans ⟨λ⟨m',b',e,jJ⟩=>by obtain⟨rfl,rfl⟩:=tx e;exact jJ,λjJ=>⟨_,_,rfl,jJ⟩⟩
    have step:∀t:Bool,(t=af↔(m.testBit j=af/\rk n S (ga m (2 ^ j)) (ga b (2 ^ j))))->Wp (if t=af then aa ag else aa v) λq=>q=af↔∀i,i<j+1->m.testBit i=af->¬rk n S (ga m (2 ^ i)) (ga b (2 ^ i)):=λt ht=>by
     refine .ite (λh1=> .some ⟨λh2=>by(cases h2),λh2=>absurd (ht.1 h1).2 (h2 j (by omega) (ht.1 h1).1)⟩) (λh1=> .some (hJ.trans ⟨λh2 i jJ=>?_,λh2 i jJ=>h2 i (by omega)⟩))
     rcases Nat.lt_succ_iff_lt_or_eq.1 jJ with jJ|rfl
     .exact h2 i jJ
     .exact λh3 h4=>h1 (ht.2 ⟨h3,h4⟩)
    by_cases LZ:m.testBit j=af
    .have e4:nz az (pI (ga m (2 ^ j)) (ga b (2 ^ j))) (pI m b)=ag:=sD.2 λe=>Nf LZ (tx e).1
     refine Wp.seq (λt=>t=af↔(m.testBit j=af/\rk n S (ga m (2 ^ j)) (ga b (2 ^ j)))) ?_ step;rw[show nz az (((ga m (2 ^ j):Nat):Int),((ga b (2 ^ j):Nat):Int)) (pI m b)=ag from e4];exact .some ⟨λh=>⟨LZ,e3.1 h⟩,λh=>e3.2 h.2⟩
    .have YS:m.testBit j=ag:=by simpa using LZ
     have hbj:b.testBit j=ag:=by
      cases e:b.testBit j with
      |false=>rfl
      |true=>exact absurd (iQ.1 hi.2.1 j e) LZ
     have e4:nz az (pI (ga m (2 ^ j)) (ga b (2 ^ j))) (pI m b)=af:=uF.2 (by rw[vZ YS,vZ hbj]);refine Wp.seq (λt=>t=af↔(m.testBit j=af/\rk n S (ga m (2 ^ j)) (ga b (2 ^ j)))) ?_ step;rw[show nz az (((ga m (2 ^ j):Nat):Int),((ga b (2 ^ j):Nat):Int)) (pI m b)=af from e4];exact .some ⟨λh=>(by cases h),λh=>absurd h.1 LZ⟩
   .have:j=n:=by omega
    subst this;exact hJ.trans ⟨λh=>⟨hi,h⟩,λh=>h.2⟩
  .have hI':∀zJ:List az.den,(∀p,p∈zJ↔p∈acc\/p=x.1/\j=af)->zJ.Nodup->zJ.length<=acc.length+1->(∀e∈ma az left x.1,e∈l)/\zJ.Nodup/\(∀p∈zJ,∃m b:Nat,p=pI m b/\El n S m b)/\(∀m b:Nat,El n S m b->pI m b∈zJ\/∃e∈ma az left x.1,e.1=pI m b)/\(∀p∈zJ,∀e∈ma az left x.1,e.1≠p)/\zJ.length+(ma az left x.1).length<=l.length:=λzJ hc JH hl=>by
    refine⟨λe he=>h1 e ((rQ e).1 he).1,JH,λp CV=>?_,λm' b' CV=>?_,λp CV e he=>?_,by omega⟩
    .rcases(hc p).1 CV with CV|⟨rfl,L1⟩
     .exact h3 p CV
     .exact⟨m,b,hp,hj.1 L1⟩
    .rcases h4 m' b' CV with g|⟨e,he,g⟩
     .exact .inl ((hc _).2 (.inl g))
     .by_cases g2:e.1=x.1
      .refine .inl ((hc _).2 (.inr ⟨g.symm.trans g2,hj.2 ?_⟩));obtain⟨rfl,rfl⟩:=tx (g.symm.trans (g2.trans hp));exact CV
      .exact .inr ⟨e,(rQ e).2 ⟨he,g2⟩,g⟩
    .obtain⟨he1,Kh⟩:=(rQ e).1 he
     rcases(hc p).1 CV with CV|⟨rfl,_⟩
     .exact h5 p CV e he1
     .exact Kh
   refine .ite (λL1=> .bind (.wM (by simp;omega) (.some (hI' _ (λp=>by rw[agV,agQ];simp[L1]) ?_ (by simp))))) (λTC=> .some (hI' _ (λp=>by simp[TC]) h2 (show acc.length<=acc.length+1 by omega)));refine List.nodup_append.2 ⟨h2,by simp,λa ha c hc e=>?_⟩;rw[agQ]at hc;exact h5 a ha x hx (by rw[e,hc])
 .obtain⟨-,h2,h3,h4,-,h6⟩:=hI
  refine Wp.seq (λr=>r.Pairwise rz/\∀p,p∈r↔p∈acc) (KH (by show acc.length<_;simp at h6;omega) h2) λr hr=> .some ⟨rfl,hr.1,λp=>(hr.2 p).trans ⟨h3 p,λ⟨m,b,e,hp⟩=>?_⟩⟩
  rcases h4 m b hp with g|⟨e',he,_⟩
  .rw[e];exact g
  .simp at he
end L
end Go.Proofs.YtfeahmiobbjklaaGreatDoor
