/- Joined texts: ModelA ModelZ Plain Wq PD RA RB RC RD RE RF RI. -/
import Derived.Test.YtleifhfeahnocaaGreatDoorU9
import Derived.Test.YtleifhfeahnocaaGreatDoorU1
import Derived.Test.YtleifhfeahnocaaGreatDoorU4
set_option linter.defProp false
open _root_.Decidable renaming decide->ah
open _root_.Bool renaming false->ag,true->af
open _root_.Option renaming none->ae,some->aa,bind->aiC
open _root_.Int renaming tdiv->aiQ,tmod->ajd
open _root_.Go.IntKind renaming i64->aiE,u64->aiH
open _root_.List renaming range->ajp,mem_cons->aju,pairwise_cons->ajL,getElem_mem->aiJ,getElem_of_mem->aiR,getElem?_eq_getElem->aiG
open _root_.Classical renaming propDecidable->aiZ
open _root_.Nat renaming le_refl->aiM
namespace Go.Proofs.YtleifhfeahnocaaGreatDoor
open Go Go.RowKit
set_option maxRecDepth 100000
set_option linter.unusedSimpArgs false
set_option linter.unusedVariables false
set_option linter.defProp false
section
noncomputable section
open Tk
variable (N:Nat)
set_option maxRecDepth 100000
set_option linter.unusedVariables false
def M.lG(d:bm.den)(j:Int)(c:Int)(e:Int):Option (Int×Int):=
aiC (if(ah (e<0))then
aa af
else
aa (ah (5<e))) λk=>(if k then
aa (0,1)
else
aiC (if(!(oo aD d.2.1 (3,0)))then
aa af
else
aa (!(oo aD d.2.2.1 (4,0)))) λl=>(if l then
aa (0,8)
else
aiC (if(ah (c<(-1000000000000000)))then
aa af
else
aa (ah (1000000000000000<c))) λm=>(if m then
aa (0,3)
else
b9 (J:=Int×Int) (R:=Int×Int) (Loop (S:=Int×Int×Int) (X:=(Int×Int)⊕(Int×Int)) (λb=>(if(ah (b.2.2<(d.2.2.2.length:Int)))then
b9 (J:=Int×Int) (R:=(Int×Int×Int)⊕((Int×Int)⊕(Int×Int))) (aiC (idx d.2.2.2 b.2.2) λa=>aiC (aiC (M.ch N a.1 j) λn=>(if(!n)then
aa af
else
aa (ah ((if c<a.2.2.1 then c else a.2.2.1)<=(if a.2.1<0 then 0 else a.2.1)))):Option Bool) λo=>(if o then
aa (.inl (b.1,b.2.1))
else
aiC (M.gY N (aiE.wrap ((if c<a.2.2.1 then c else a.2.2.1)-(if a.2.1<0 then 0 else a.2.1))) a.2.2.2) λf=>(if(!f.2.2)then
aa (.inr (.inr (.inr (0,3))))
else
aa (.inl (aiE.wrap (b.1+f.1),aiE.wrap (b.2.1+f.2.1)))))) λg=>aa (.inl (g.1,g.2,aiE.wrap (b.2.2+1)))
else
aa (.inr (.inl (b.1,b.2.1))))) N (0,0,0)) λh=>aiC (M.jz N h.1 h.2 e) λi=>aa (i.1,i.2))))
def aay:Fo 259 (.i1 [.g bm, .l aB, .l aB, .l aB]) (.i1 [.l aB, .l aB]) (u4 (M.lG N)):=fz N [XC N,aaw N,aax N] [O,T,B 24 48,T,B 34 48,T,B 40 48,O,J ⟨[(10, .l aB),(11, .l aB)],[],[],80⟩,O,T,P ⟨[(10, .l aB),(11, .l aB),(44, .l aB)],[],[],144⟩,O,O,T,J ⟨[(10, .l aB),(11, .l aB)],[],[],160⟩,O,O,T,B 64 368] Tryz.func259
def M.eP(N:Nat)(a:Bool):Option (aE.den):=
(if a then
aa (1,(0,1))
else
aa (1,(0,0)))
def V5:Fo 274 (.i1 [.l .bool]) (.i1 [.g aE]) (M.eP N):=fz N [] [] Tryz.func274
def M.gZ(N:Nat)(a:Int):Option Bool:=
aiC (if(ah (0<=a))then
aa (ah (a<=109572))
else
aa ag) λb=>aa b
def OL:Fo 238 (.i1 [.l aB]) (.i1 [.l .bool]) (M.gZ N):=fz N [] [O,B 2 16] Tryz.func238
def M.kX(b:Int):Option (Int×Int×Int):=
aiC (M.gZ N b) λf=>(if(!f)then
aa (0,0,0)
else
aiC (Loop (S:=Int) (X:=Int) (λc=>aiC (M.eF N (aiE.wrap (c+1))) λg=>(if(ah (g<=b))then
aa (.inl (aiE.wrap (c+1)))
else
aa (.inr c))) N (aiE.wrap (1900+(aiE.wrap (aiQ b 366)))):Option Int) λd=>aiC (M.eF N d) λh=>Loop (S:=Int×Int) (X:=Int×Int×Int) (λa=>(if(ah (a.2<12))then
aiC (M.cI N d (aiE.wrap (a.2+1))) λe=>(if(ah (a.1<e))then
aa (.inr (d,aiE.wrap (a.2+1),aiE.wrap (a.1+1)))
else
aa (.inl (aiE.wrap (a.1-e),aiE.wrap (a.2+1))))
else
aa (.inr (0,0,0)))) N (aiE.wrap (b-h),0))
def Sk:Fo 275 (.i1 [.l aB]) (.i1 [.l aB, .l aB, .l aB]) (M.kX N):=fz N [OJ N,VU N,OL N] [O,O,O,R ⟨[(5, .l aB)],[],[],160⟩,T,L 5 160,X,X,O,T,O,T,P ⟨[(6, .l aB),(26, .l aB)],[],[],256⟩] Tryz.func275
def M.pw(b:Int)(a:aE.den):Option (aE.den):=
(if(ah (b=10))then
aa (a.1,(0,aiE.wrap (0-a.2.2)))
else(if(ah (b=25))then
aiC (M.eP N (ah (a.2.2=0))) λd=>aa d
else
aiC (M.kX N a.2.2) λc=>(if(ah (b=31))then
aa (2,(0,c.1))
else
aa (2,(0,c.2.1)))))
def aaz:Fo 260 (.i1 [.l aB, .g aE]) (.i1 [.g aE]) (u2 (M.pw N)):=fz N [V5 N,Sk N] [] Tryz.func260
def M.nh(b:Int)(c:Int)(a:Int)(g:Int):Option (Int×Int):=
aiC (M.fH N g) λi=>(if(!i)then
aa (0,1)
else(if(ah (a=0))then
aa (0,12)
else
aiC (aiC (M.eA N b 1000000000000000) λj=>(if j then
aa af
else
aiC (M.eA N c 1000000000) λk=>(if k then
aa af
else
aiC (M.eA N a 1000000000) λl=>aa l)):Option Bool) λm=>(if m then
aa (0,3)
else
aiC (M.dV N b) λn=>aiC (M.dV N c) λo=>aiC (M.eN N n o) λd=>aiC (M.dV N a) λe=>(if(ah (e<=d.1))then
aa (0,3)
else
aiC (M.dU N d.1 d.2 e) λf=>(if(ah (1000000000000000<f.1))then
aa (0,3)
else
aiC (M.cU N f.1 f.2 e (!ah ((!ah ((ah (b<0))=(ah (c<0))))=(ah (a<0)))) g) λh=>(if(ah (1000000000000000<h))then
aa (0,3)
else
aiC (M.jK N h (!ah ((!ah ((ah (b<0))=(ah (c<0))))=(ah (a<0))))) λp=>aa (p,0)))))))
def aaA:Fo 103 (.i1 [.l aB, .l aB, .l aB, .l aB]) (.i1 [.l aB, .l aB]) (u4 (M.nh N)):=fz N [Si N,Sj N,V0 N,V2 N,V3 N,OK N,Sg N] [O,O,O,T,B 30 112] Tryz.func103
def M.kY(b:Int)(c:Int)(d:Int):Option (Int×Int):=
aiC (M.nh N b c 1000000 d) λa=>aa (a.1,a.2)
def W74:Fo 74 (.i1 [.l aB, .l aB, .l aB]) (.i1 [.l aB, .l aB]) (u3 (M.kY N)):=fz N [aaA N] [] Tryz.func74
def M.ni(a:Int)(b:Int):Option (Int×Int):=
aiC (M.eN N (aiH.wrap (if a<(aiE.wrap (0-a))then(aiE.wrap (0-a))else a)) (aiH.wrap (if b<(aiE.wrap (0-b))then(aiE.wrap (0-b))else b))) λc=>aiC (if(!ah (c.1=0))then
aa af
else
aa (ah (1000000000000000<c.2))) λd=>(if d then
aa (0,3)
else(if(!ah ((ah (a<0))=(ah (b<0))))then
aa (aiE.wrap (0-(aiE.wrap c.2)),0)
else
aa (aiE.wrap c.2,0)))
def aaB:Fo 285 (.i1 [.l aB, .l aB]) (.i1 [.l aB, .l aB]) (u2 (M.ni N)):=fz N [OK N] [O,O,T,B 27 288] Tryz.func285
def M.lH(N:Nat)(a:Int):Option Bool:=
aiC (if(ah (0<=a))then
aa (ah (a<=5))
else
aa ag) λb=>aa b
def V6:Fo 291 (.i1 [.l aB]) (.i1 [.l .bool]) (M.lH N):=fz N [] [O,B 2 16] Tryz.func291
def M.jA(N:Nat)(a:Int)(b:Int):Option Bool:=
aiC (if(ah (b<a))then
aa af
else
aa (ah (a<(aiE.wrap (0-b))))) λc=>aa c
def V7:Fo 292 (.i1 [.l aB, .l aB]) (.i1 [.l .bool]) (u2 (M.jA N)):=fz N [] [O,B 4 16] Tryz.func292
def M.sQ(b:Int)(c:Int)(d:Int):Option (Int×Int):=
aiC (M.lH N d) λe=>(if(!e)then
aa (0,1)
else
aiC (aiC (M.jA N b 1000000000) λf=>(if f then
aa af
else
aiC (M.jA N c 1000000000) λg=>aa g):Option Bool) λh=>(if h then
aa (0,3)
else
aiC (M.dj N (aiE.wrap (b*c)) 1000000 d) λa=>(if(!ah (a.2=0))then
aa (0,a.2)
else
aiC (M.jA N a.1 1000000000) λi=>(if i then
aa (0,3)
else
aa (a.1,0)))))
def aaC:Fo 286 (.i1 [.l aB, .l aB, .l aB]) (.i1 [.l aB, .l aB]) (u3 (M.sQ N)):=fz N [V4 N,V6 N,V7 N] [O,O,T,B 18 80] Tryz.func286
def M.mu(c:Int)(a:Int)(d:Int):Option (Int×Int):=
aiC (M.fH N d) λe=>(if(!e)then
aa (0,1)
else(if(ah (a<1))then
aa (0,12)
else
aiC (aiC (M.eA N c 1000000000000000) λf=>(if f then
aa af
else
aa (ah (1000000000000000<a))):Option Bool) λg=>(if g then
aa (0,3)
else
aiC (M.dj N c a d) λb=>(if(!ah (b.2=0))then
aa (0,b.2)
else
aiC (M.eA N (aiE.wrap (b.1*a)) 1000000000000000) λh=>(if h then
aa (0,3)
else
aa (aiE.wrap (b.1*a),0))))))
def aaD:Fo 287 (.i1 [.l aB, .l aB, .l aB]) (.i1 [.l aB, .l aB]) (u3 (M.mu N)):=fz N [V4 N,Si N,Sj N] [O,O,O,T,B 20 112] Tryz.func287
def M.mv(N:Nat)(e:Int)(a:Int)(c:Int)(d:Bool)(b:Int):Option Bool:=
(if(ah (a=0))then
aa ag
else(if(ah (b=0))then
aa d
else(if(ah (b=1))then
aa (!d)
else(if(ah (b=3))then
aa af
else(if(ah (b=4))then
aa (ah ((aiH.wrap (c-a))<=a))
else(if(ah (b=5))then
aiC (if(ah ((aiH.wrap (c-a))<a))then
aa af
else(if(ah (a=(aiH.wrap (c-a))))then
aa (ah ((ajd e 2)=1))
else
aa ag)) λf=>aa f
else
aa ag))))))
def aaE:Fo 293 (.i1 [.l (.int .u64), .l (.int .u64), .l (.int .u64), .l .bool, .l aB]) (.i1 [.l .bool]) (u5 (M.mv N)):=fz N [] [O,O,T,O,T,O,O,O,O,O,O,O,O,O,T,B 10 224] Tryz.func293
def M.lI(b:Int)(a:Int)(f:Int):Option (Int×Int):=
aiC (M.lH N f) λg=>(if(!g)then
aa (0,1)
else(if(ah (a=0))then
aa (0,12)
else
aiC (aiC (M.jA N b 1000000000000000) λh=>(if h then
aa af
else
aiC (M.jA N a 1000000000000000) λi=>aa i):Option Bool) λj=>(if j then
aa (0,3)
else
aiC (M.eN N (aiH.wrap (if b<(aiE.wrap (0-b))then(aiE.wrap (0-b))else b)) 1000000) λd=>(if(ah ((aiH.wrap (if a<(aiE.wrap (0-a))then(aiE.wrap (0-a))else a))<=d.1))then
aa (0,3)
else
aiC (M.dU N d.1 d.2 (aiH.wrap (if a<(aiE.wrap (0-a))then(aiE.wrap (0-a))else a))) λc=>(if(ah (1000000000<c.1))then
aa (0,3)
else
aiC (aiC (M.mv N c.1 c.2 (aiH.wrap (if a<(aiE.wrap (0-a))then(aiE.wrap (0-a))else a)) (!ah ((ah (b<0))=(ah (a<0)))) f) λk=>(if k then
aa (aiE.wrap ((aiE.wrap c.1)+1))
else
aa (aiE.wrap c.1)):Option Int) λe=>(if(ah (1000000000<e))then
aa (0,3)
else
aiC ((if(!ah ((ah (b<0))=(ah (a<0))))then
aa (aiE.wrap (0-e))
else
aa e):Option Int) λl=>aa (l,0)))))))
def aaF:Fo 288 (.i1 [.l aB, .l aB, .l aB]) (.i1 [.l aB, .l aB]) (u3 (M.lI N)):=fz N [OK N,Sg N,V6 N,V7 N,aaE N] [O,O,O,T,B 25 112,O,O,O,O,O,O,O,R ⟨[(14, .l aB)],[],[],752⟩,X,O,R ⟨[(14, .l aB)],[],[],784⟩] Tryz.func288
def M.n7(b:aD.den)(a:aE.den)(c:aE.den):Option (aE.den×Int):=
aiC ((if(ah (b.1=13))then
aiC (M.ni N a.2.2 c.2.2) λd=>aa (d.2,(a.1,(0,d.1)))
else
aiC (if(ah (b.1=14))then
aa (ah (a.1=3))
else
aa ag) λk=>(if k then
aiC (M.kY N a.2.2 c.2.2 b.2) λe=>aa (e.2,(a.1,(0,e.1)))
else(if(ah (b.1=14))then
aiC (M.sQ N a.2.2 c.2.2 b.2) λf=>aa (f.2,(a.1,(0,f.1)))
else(if(ah (b.1=16))then
aiC (M.mu N a.2.2 c.2.2 b.2) λg=>aa (g.2,(a.1,(0,g.1)))
else(if(ah (c.1=2))then
aiC (M.dj N a.2.2 c.2.2 b.2) λh=>aa (h.2,(a.1,(0,h.1)))
else
aiC (M.lI N a.2.2 c.2.2 b.2) λi=>aa (i.2,(4,(0,i.1)))))))):Option (Int×aE.den)) λj=>aa (j.2,j.1)
def aaG:Fo 276 (.i1 [.g aD, .g aE, .g aE]) (.i1 [.g aE, .l aB]) (u3 (M.n7 N)):=fz N [W74 N,V4 N,aaB N,aaC N,aaD N,aaF N] [O,O,T,R ⟨[(9, .l aB)],[(128, .box 49 (.leaf aE))],[],177⟩,O,O,B 38 240] Tryz.func276
def M.jB(c:Int)(b:Int):Option (Int×Int):=
aiC (aiC (M.gZ N c) λf=>(if(!f)then
aa af
else(if(ah (b<(-3600)))then
aa af
else
aa (ah (3600<b)))):Option Bool) λg=>(if g then
aa (0,3)
else
aiC (M.kX N c) λa=>aiC (if(ah ((aiE.wrap ((aiE.wrap ((aiE.wrap ((aiE.wrap ((aiE.wrap (a.1-1900))*12))+a.2.1))-1))+b))<0))then
aa af
else
aa (ah (3599<(aiE.wrap ((aiE.wrap ((aiE.wrap ((aiE.wrap ((aiE.wrap (a.1-1900))*12))+a.2.1))-1))+b))))) λh=>(if h then
aa (0,3)
else
aiC (M.cI N (aiE.wrap (1900+(aiE.wrap (aiQ (aiE.wrap ((aiE.wrap ((aiE.wrap ((aiE.wrap ((aiE.wrap (a.1-1900))*12))+a.2.1))-1))+b)) 12)))) (aiE.wrap ((ajd (aiE.wrap ((aiE.wrap ((aiE.wrap ((aiE.wrap ((aiE.wrap (a.1-1900))*12))+a.2.1))-1))+b)) 12)+1))) λd=>aiC (M.gV N (aiE.wrap (1900+(aiE.wrap (aiQ (aiE.wrap ((aiE.wrap ((aiE.wrap ((aiE.wrap ((aiE.wrap (a.1-1900))*12))+a.2.1))-1))+b)) 12)))) (aiE.wrap ((ajd (aiE.wrap ((aiE.wrap ((aiE.wrap ((aiE.wrap ((aiE.wrap (a.1-1900))*12))+a.2.1))-1))+b)) 12)+1)) (if d<a.2.2 then d else a.2.2)) λe=>aa (e.1,e.2)))
def V8:Fo 277 (.i1 [.l aB, .l aB]) (.i1 [.l aB, .l aB]) (u2 (M.jB N)):=fz N [W82 N,OJ N,OL N,Sk N] [O,T,B 20 32,O,O,T,B 40 320] Tryz.func277
def M.iV(a:Int)(b:Int):Option Int:=
aiC (aiC (M.gZ N a) λg=>(if(!g)then
aa af
else
aiC (M.gZ N b) λh=>(if(!h)then
aa af
else
aa (ah (b<a)))):Option Bool) λi=>(if i then
aa 0
else
aiC (M.kX N a) λc=>aiC (M.kX N b) λd=>aiC (aiC (M.jB N a (aiE.wrap (12*(aiE.wrap (d.1-c.1))))) λe=>aiC (if(!ah (e.2=0))then
aa af
else
aa (ah (b<e.1))) λj=>(if j then
aa (aiE.wrap ((aiE.wrap (d.1-c.1))-1))
else
aa (aiE.wrap (d.1-c.1))):Option Int) λf=>aa (if f<0 then 0 else f))
def aaH:Fo 278 (.i1 [.l aB, .l aB]) (.i1 [.l aB]) (u2 (M.iV N)):=fz N [OL N,Sk N,V8 N] [O,T,B 26 16,O,O,O,R ⟨[(11, .l aB)],[],[],368⟩,O,B 55 512] Tryz.func278
def M.n9(a:aD.den)(b:aE.den)(c:aE.den):Option (aE.den×Int):=
aiC (if(ah (a.1=11))then
aa (ah (a.1=11))
else
aa (ah (a.1=27))) λh=>(if h then
aa ((b.1,(0,aiE.wrap (b.2.2+c.2.2))),0)
else(if(ah (a.1=12))then
aa ((b.1,(0,aiE.wrap (b.2.2-c.2.2))),0)
else
aiC (if(ah (a.1=13))then
aa (ah (a.1=13))
else(if(ah (a.1=14))then
aa (ah (a.1=14))
else(if(ah (a.1=15))then
aa (ah (a.1=15))
else
aa (ah (a.1=16))))) λi=>(if i then
aiC (M.n7 N a b c) λd=>aa (d.1,d.2)
else
aiC (if(ah (a.1=17))then
aa (ah (a.1=17))
else
aa (ah (a.1=18))) λj=>(if j then(if(ah ((ah (a.1=17))=(ah (c.2.2<b.2.2))))then
aa (c,0)
else
aa (b,0))
else(if(ah (a.1=19))then
aiC (M.eP N (ah (b.2.2=c.2.2))) λk=>aa (k,0)
else(if(ah (a.1=20))then
aiC (M.eP N (!ah (b.2.2=c.2.2))) λl=>aa (l,0)
else(if(ah (a.1=21))then
aiC (M.eP N (ah (b.2.2<c.2.2))) λm=>aa (m,0)
else(if(ah (a.1=22))then
aiC (M.eP N (ah (b.2.2<=c.2.2))) λn=>aa (n,0)
else(if(ah (a.1=23))then
aiC ((if(ah (b.2.2=1))then
aiC (M.eP N (ah (c.2.2=1))) λo=>aa (0,o)
else
aiC (M.eP N ag) λp=>aa (0,p)):Option (Int×aE.den)) λe=>aa (e.2,e.1)
else(if(ah (a.1=24))then
aiC ((if(ah (b.2.2=1))then
aiC (M.eP N af) λq=>aa (0,q)
else
aiC (M.eP N (ah (c.2.2=1))) λr=>aa (0,r)):Option (Int×aE.den)) λf=>aa (f.2,f.1)
else(if(ah (a.1=28))then
aiC (M.jB N b.2.2 c.2.2) λg=>aa ((5,(0,g.1)),g.2)
else(if(ah (a.1=29))then
aa ((2,(0,aiE.wrap (c.2.2-b.2.2))),0)
else
aiC (M.iV N b.2.2 c.2.2) λs=>aa ((2,(0,s)),0)))))))))))))
def aaI:Fo 261 (.i1 [.g aD, .g aE, .g aE]) (.i1 [.g aE, .l aB]) (u3 (M.n9 N)):=fz N [V5 N,aaG N,V8 N,aaH N] [O,T,O,T,R ⟨[(12, .l .bool)],[],[],112⟩,X,O,O,O,R ⟨[(33, .l .bool)],[],[],144⟩,X,O,R ⟨[(44, .l .bool)],[],[],144⟩,X,O,O,O,O,O,O,O,O,O,O,T,R ⟨[(7, .l aB)],[(48, .box 49 (.leaf aE))],[],305⟩,X,X,O,T,R ⟨[(7, .l aB)],[(48, .box 49 (.leaf aE))],[],337⟩] Tryz.func261
def M.nj(a:aD.den)(b:List aE.den)(c:kj.den):Option (aE.den×Int):=
aiC (if(ah (a.1=1))then
aa (ah (a.1=1))
else(if(ah (a.1=2))then
aa (ah (a.1=2))
else(if(ah (a.1=3))then
aa (ah (a.1=3))
else(if(ah (a.1=4))then
aa (ah (a.1=4))
else
aa (ah (a.1=5)))))) λi=>(if i then
aa ((a.1,(0,a.2)),0)
else(if(ah (a.1=6))then
aa ((6,(aiE.wrap (aiQ a.2 16),ajd a.2 16)),0)
else(if(ah (a.1=7))then
aiC (idx c.2.1 a.2) λj=>aa (j,0)
else(if(ah (a.1=8))then
aiC (idx c.2.2.1 a.2) λk=>aa (k,0)
else(if(ah (a.1=9))then
aa ((5,(0,c.1)),0)
else(if(ah (a.1=35))then
aa ((2,(0,(c.2.2.2.1.length:Int))),0)
else
aiC (if(ah (a.1=36))then
aa (ah (a.1=36))
else(if(ah (a.1=37))then
aa (ah (a.1=37))
else(if(ah (a.1=38))then
aa (ah (a.1=38))
else
aa (ah (a.1=39))))) λl=>(if l then
aiC (M.jJ N a c) λe=>aa (e.1,e.2)
else(if(ah (a.1=33))then
aiC (idx c.2.2.2.2.2 a.2) λd=>aiC (idx b 0) λm=>aiC (M.ng N d c.1 m.2.2) λf=>(if(!f.2)then
aa ((0,(0,0)),6)
else
aiC (idx d.2.2.2 f.1) λn=>aa ((d.2.2.1.1,(d.2.2.1.2,n.2.2.2)),0))
else(if(ah (a.1=34))then
aiC (idx c.2.2.2.2.2 (aiE.wrap (aiQ a.2 8))) λo=>aiC (idx b 0) λp=>aiC (M.lG N o c.1 p.2.2 (ajd a.2 8)) λg=>aa ((3,(0,g.1)),g.2)
else(if(ah ((b.length:Int)=1))then
aiC (idx b 0) λq=>aiC (M.pw N a.1 q) λr=>aa (r,0)
else(if(ah ((b.length:Int)=2))then
aiC (idx b 0) λs=>aiC (idx b 1) λt=>aiC (M.n9 N a s t) λh=>aa (h.1,h.2)
else
aiC (idx b 0) λu=>(if(ah (u.2.2=1))then
aiC (idx b 1) λv=>aa (v,0)
else
aiC (idx b 2) λw=>aa (w,0)))))))))))))
def aaJ:Fo 246 (.i1 [.g aD, .l (.slice aE), .g kj]) (.i1 [.g aE, .l aB]) (u3 (M.nj N)):=fz N [aas N,aat N,aay N,aaz N,aaI N] [O,T,O,T,R ⟨[(15, .l .bool)],[],[],96⟩,X,O,O,O,O,O,O,O,O,O,O,O,B 62 256] Tryz.func246
def M.kZ(a:aD.den)(b:List aE.den)(d:kj.den):Option (aE.den×Int):=
aiC (aiC (M.kI N a) λe=>(if(!e)then
aa af
else
aiC (M.fZ N a.1) λf=>aa (!ah ((b.length:Int)=f))):Option Bool) λg=>(if g then
aa ((0,(0,0)),2)
else
aiC (M.nZ N a d) λh=>(if(!h)then
aa ((0,(0,0)),6)
else
aiC (aiC (M.iT N b) λi=>(if(!i)then
aa af
else
aiC (M.nf N a b d) λj=>aa (!j)):Option Bool) λk=>(if k then
aa ((0,(0,0)),8)
else
aiC (M.nj N a b d) λc=>(if(!ah (c.2=0))then
aa ((0,(0,0)),c.2)
else
aiC (M.di N c.1) λl=>(if(!l)then
aa ((0,(0,0)),3)
else
aa (c.1,0))))))
def aaK:Fo 233 (.i1 [.g aD, .l (.slice aE), .g kj]) (.i1 [.g aE, .l aB]) (u3 (M.kZ N)):=fz N [L2 N,aal N,aam N,aan N,aar N,aaJ N,Ji N] [O,T,B 20 64,O,T,B 36 128] Tryz.func233
mutual
def M.bZ(B:Nat):Nat->bJ.den->Int->Option (aE.den×Int)
 |0,_,_=>ae
 |N+1,c,f=>
  aiC (idx c.1 f) λb=>
  aiC (M.eK B c f) λd=>
  aiC (if(ah (b.1=23))then
  aa (ah (b.1=23))
  else
  (if(ah (b.1=24))then
  aa (ah (b.1=24))
  else
  aa (ah (b.1=26)))) λi=>
  (if i then
  aiC (M.iP B N c b d) λg=>
  aa (g.1,g.2)
  else
  aiC (pT (d.length:Int) (0,(0,0))) λj=>
  b9 (J:=List aE.den) (R:=aE.den×Int) (Loop (S:=Int×List aE.den) (X:=(List aE.den)⊕(aE.den×Int)) (λa=>
  (if(ah (a.1<(d.length:Int)))then
  aiC (idx d a.1) λk=>
  aiC (M.bZ B N c k) λe=>
  (if(!ah (e.2=0))then
  aa (.inr (.inr ((0,(0,0)),e.2)))
  else
  aiC (idx a.2 a.1) λm=>
  aa (.inl (aiE.wrap (a.1+1),b8 a.2 a.1 e.1)))
  else
  aa (.inr (.inl a.2)))) B (0,j)) λl=>
  aiC (M.kZ B b l c.2.2) λh=>
  aa (h.1,h.2))
def M.iP(B:Nat):Nat->bJ.den->aD.den->(List Int)->Option (aE.den×Int)
 |0,_,_,_=>ae
 |N+1,b,c,d=>
  (if(!ah (c.2=0))then
  aa ((0,(0,0)),2)
  else
  aiC (idx d 0) λh=>
  aiC (M.dm B N b h) λa=>
  (if(!ah (a.2=0))then
  aa ((0,(0,0)),a.2)
  else
  aiC (if(ah (c.1=26))then
  aa (ah (a.1.2.2=1))
  else
  aa ag) λi=>
  (if i then
  aiC (idx d 1) λj=>
  aiC (M.bZ B N b j) λe=>
  aa (e.1,e.2)
  else
  (if(ah (c.1=26))then
  aiC (idx d 2) λk=>
  aiC (M.bZ B N b k) λf=>
  aa (f.1,f.2)
  else
  (if(ah ((ah (c.1=23))=(ah (a.1.2.2=0))))then
  aa (a.1,0)
  else
  aiC (idx d 1) λl=>
  aiC (M.dm B N b l) λg=>
  aa (g.1,g.2))))))
def M.dm(B:Nat):Nat->bJ.den->Int->Option (aE.den×Int)
 |0,_,_=>ae
 |N+1,b,c=>
  aiC (M.bZ B N b c) λa=>
  (if(!ah (a.2=0))then
  aa ((0,(0,0)),a.2)
  else
  aiC (if(!ah (a.1.1=1))then
  aa af
  else
  aiC (M.di B a.1) λd=>
  aa (!d)) λe=>
  (if e then
  aa ((0,(0,0)),8)
  else
  aa (a.1,0)))
end
def M.kf(a:bJ.den)(b:Int):Option (aE.den×Int):=M.bZ N N a b
def aaL:oB:=⟨.i1 [.g bJ, .l aB], .i1 [.g aE, .l aB],u2 (M.kf N)⟩
def aaM(B N:Nat):oB:={inn:=⟨[(0, .g bJ),(1, .l aB)],[],[],0⟩,out:=⟨[(0, .g aE),(1, .l aB)],[],[],0⟩,fn:=λ(x:bJ.den×Int)=>M.bZ B N x.1 x.2}
def aaN(B N:Nat):oB:={inn:=⟨[(0, .g bJ),(1, .g aD),(2, .l (.slice aB))],[],[],0⟩,out:=⟨[(0, .g aE),(1, .l aB)],[],[],0⟩,fn:=λ(x:bJ.den×aD.den×List Int)=>M.iP B N x.1 x.2.1 x.2.2}
def aaO(B N:Nat):oB:={inn:=⟨[(0, .g bJ),(1, .l aB)],[],[],0⟩,out:=⟨[(0, .g aE),(1, .l aB)],[],[],0⟩,fn:=λ(x:bJ.den×Int)=>M.dm B N x.1 x.2}
def zk(B:Nat):∀N,fN Tryz.prog 207 (aaM B N)/\fN Tryz.prog 232 (aaN B N)/\fN Tryz.prog 241 (aaO B N)
 |0=>⟨AW Tryz.func207 (by kernel_rfl) (by kernel_rfl) λ_=>rfl,AW Tryz.func232 (by kernel_rfl) (by kernel_rfl) λ_=>rfl,AW Tryz.func241 (by kernel_rfl) (by kernel_rfl) λ_=>rfl⟩
 |N+1=>⟨fw (en [ck ((zk B N).1),ck (aak B),ck ((zk B N).2.1),ck (aaK B)] ag ag) (N:=B) (.o (.o (.o (.two (.o (.two (.meet ⟨[(23, .l .bool)],[],[],256⟩ .nil .nil) .nil)) (.o (.join ⟨[],[(288, .own 49 aE)],[],321⟩ (.o (.two (.loop ⟨[(38, .l aB)],[(288, .own 49 aE)],[],369⟩ .nil) .nil)) .nil)))))) Tryz.func207 (by kernel_rfl) λx=>by kernel_rfl,
  fw (en [ck ((zk B N).1),ck ((zk B N).2.2)] ag ag) (N:=B) (.o (.o (.o (.o (.two (.two (.meet ⟨[(26, .l .bool)],[],[],320⟩ .nil .nil) .nil) .nil))))) Tryz.func232 (by kernel_rfl) λx=>by kernel_rfl,
  fw (en [ck ((zk B N).1),ck (Ji B)] ag ag) (N:=B) (.o (.o (.o (.two (.meet ⟨[(25, .l .bool)],[],[],224⟩ .nil .nil) .nil)))) Tryz.func241 (by kernel_rfl) λx=>by kernel_rfl⟩
def aaP(N:Nat):fN Tryz.prog 207 (aaL N):=(zk N N).1
def M.jL(a:List aD.den)(d:kj.den):Option (aE.den×Int):=
aiC (M.nY N a) λb=>(if(!ah (b.1=0))then
aa ((0,(0,0)),b.1)
else
aiC (M.kf N (a,(b.2,d)) (aiE.wrap ((a.length:Int)-1))) λc=>aa (c.1,c.2))
def Sl:Fo 180 (.i1 [.l (.slice aD), .g kj]) (.i1 [.g aE, .l aB]) (u2 (M.jL N)):=fz N [aaj N,aaP N] [] Tryz.func180
def M.eX(a:da.den)(b:Int)(c:Int):Option (Bool×Int×Int):=
aiC (if(ah (a.2.1=b))then
aiC (M.ch N a.2.2.2.2.1 c) λd=>aa d
else
aa ag) λe=>aa (e,b,c)
def Sm:Fo 226 (.j1 [.g da, .ptr 0 [] 0, .ptr 1 [] 0] [.box 3 (.leaf aB), .box 3 (.leaf aB)] 2) (.j1 [.l .bool] [.box 3 (.leaf aB), .box 3 (.leaf aB)] 4) (u3 (M.eX N)):=fz N [XC N] [O,B 4 34] Tryz.func226
def M.eY(f:List da.den)(g:Int)(h:Int):Option (Int×Int×(List Int)×List Int):=
aiC (pT (f.length:Int) 0) λi=>Loop (S:=Int×Int×Int×(List Int)×(List Int)×List Int) (X:=Int×Int×(List Int)×List Int) (λa=>(if(ah (a.1<(f.length:Int)))then
aiC (aiC (idx f a.1) λd=>aiC (aiC (if(ah (0<=d.2.2.1))then
aa (ah (d.2.2.1<a.1))
else
aa ag) λj=>(if j then
aiC (idx a.2.2.2.1 d.2.2.1) λk=>aa k
else
aa (-1)):Option Int) λe=>aiC (idx a.2.2.2.1 a.1) λn=>aiC (M.eX N d a.2.1 a.2.2.1) λb=>(if b.1 then
aiC (idx (b8 a.2.2.2.1 a.1 e) a.1) λo=>aiC (cA a.2.2.2.2.1 ([a.1]:List Int)) λl=>aiC (cA a.2.2.2.2.2 ([e]:List Int)) λm=>aa (b.2.1,b.2.2,b8 (b8 a.2.2.2.1 a.1 e) a.1 (a.2.2.2.2.1.length:Int),l,m)
else
aa (b.2.1,b.2.2,b8 a.2.2.2.1 a.1 e,a.2.2.2.2.1,a.2.2.2.2.2)):Option (Int×Int×(List Int)×(List Int)×List Int)) λc=>aa (.inl (aiE.wrap (a.1+1),c.1,c.2.1,c.2.2.1,c.2.2.2.1,c.2.2.2.2))
else
aa (.inr (a.2.1,a.2.2.1,a.2.2.2.2.1,a.2.2.2.2.2)))) N (0,g,h,i,([]:List Int),([]:List Int))
def Sp:Fo 225 (.j1 [.l (.slice da), .fn 226 [(0,[],0),(1,[],0)]] [.box 3 (.leaf aB), .box 3 (.leaf aB)] 2) (.j1 [.val ag (.own 2), .val ag (.own 3)] [.box 3 (.leaf aB), .box 3 (.leaf aB), .own 3 aB, .own 3 aB] 6) (u3 (M.eY N)):=fz N [Sm N] [O,O,O,T,O,T,P ⟨[(6, .val ag (.own 178)),(7, .val ag (.own 179)),(17, .l aB)],[(0, .box 3 (.leaf aB)),(1, .box 3 (.leaf aB)),(98, .own 3 aB),(178, .own 3 aB),(179, .own 3 aB)],[],183⟩,O,O,T,R ⟨[(6, .val ag (.own 199)),(7, .val ag (.own 200))],[(0, .box 3 (.leaf aB)),(1, .box 3 (.leaf aB)),(98, .own 3 aB),(199, .own 3 aB),(200, .own 3 aB)],[178,179],204⟩,O,O,R ⟨[(11, .l aB)],[],[],311⟩,B 30 311] Tryz.func225
def M.jM(c:aM.den)(d:Int)(e:Int):Option ((List Int)×(List Int)×List Int):=
aiC (M.eY N c.2.2.2.2 d e) λb=>aiC (Loop (S:=Int×List Int) (X:=List Int) (λa=>(if(ah (a.1<(b.2.2.1.length:Int)))then
aiC (idx b.2.2.1 a.1) λf=>aiC (idx c.2.2.2.2 f) λg=>aiC (cA a.2 ([g.2.2.2.1]:List Int)) λh=>aa (.inl (aiE.wrap (a.1+1),h))
else
aa (.inr a.2))) N (0,([]:List Int)):Option (List Int)) λi=>aa (b.2.2.1,b.2.2.2,i)
def aaQ:Fo 204 (.i1 [.g aM, .l aB, .l aB]) (.j1 [.val ag (.own 0), .val ag (.own 1), .val ag (.own 2)] [.own 3 aB, .own 3 aB, .own 3 aB] 3) (u3 (M.jM N)):=fz N [Sp N] [O,O,O,R ⟨[(11, .val ag (.own 256))],[(256, .own 3 aB)],[],257⟩,O,T,P ⟨[(11, .val ag (.own 304)),(23, .l aB)],[(304, .own 3 aB)],[],305⟩] Tryz.func204
def M.iW(b:List Int)(c:List Int):Option Int:=
(if(!ah ((b.length:Int)=(c.length:Int)))then
aa 2
else(if(ah (8<(b.length:Int)))then
aa 4
else
Loop (S:=Int) (X:=Int) (λa=>(if(ah (a<(b.length:Int)))then
aiC (idx b a) λd=>aiC (if(ah (d<(-1)))then
aa af
else
aa (ah (a<=d))) λe=>(if e then
aa (.inr 9)
else
aiC (aiC (idx c a) λf=>(if(ah (f<0))then
aa af
else
aiC (idx c a) λg=>aa (ah (9<g))):Option Bool) λh=>(if h then
aa (.inr 3)
else
aa (.inl (aiE.wrap (a+1)))))
else
aa (.inr 0))) N 0))
def aaR:Fo 227 (.i1 [.l (.slice aB), .l (.slice aB)]) (.i1 [.l aB]) (u2 (M.iW N)):=fz N [] [O,O,O,T,O,T,L 17 192,O,O,T,T,O,T,B 28 288,B 40 288] Tryz.func227
def M.iX(b:List Int)(c:Int):Option (List Int):=
Loop (S:=Int×List Int) (X:=List Int) (λa=>(if(ah (a.1<(b.length:Int)))then
aiC (aiC (idx b a.1) λd=>(if(ah (d=c))then
aiC (cA a.2 ([a.1]:List Int)) λe=>aa e
else
aa a.2):Option (List Int)) λf=>aa (.inl (aiE.wrap (a.1+1),f))
else
aa (.inr a.2))) N (0,([]:List Int))
def aaS:Fo 251 (.i1 [.l (.slice aB), .l aB]) (.w1 3 aB) (u2 (M.iX N)):=fz N [] [O,O,T,O,T,P ⟨[(5, .val ag (.own 80)),(10, .l aB)],[(80, .own 3 aB)],[],81⟩,O,O,T,R ⟨[(5, .val ag (.own 97))],[(97, .own 3 aB)],[80],98⟩] Tryz.func251
def M.hZ(b:gF.den)(f:Int):Option (List Int):=
aiC (M.iX N b.1 f) λe=>Loop (S:=Int×List Int) (X:=List Int) (λa=>(if(ah (a.1<(e.length:Int)))then
aiC (aiC (idx e a.1) λc=>aiC (idx b.2.2 c) λg=>(if(ah (g=(-1)))then
aa a.2
else
aiC (aiC (if(ah (0<(a.2.length:Int)))then
aiC (idx b.2.1 c) λh=>aiC (idx a.2 0) λi=>aiC (idx b.2.1 i) λj=>aa (ah (j<h))
else
aa ag) λk=>(if k then
aiC (fX a.2 0 0) λl=>aa l
else
aa a.2):Option (List Int)) λd=>aiC (if(ah ((d.length:Int)=0))then
aa af
else
aiC (idx b.2.1 c) λm=>aiC (idx d 0) λn=>aiC (idx b.2.1 n) λo=>aa (ah (m=o))) λp=>(if p then
aiC (cA d ([c]:List Int)) λq=>aa q
else
aa d)):Option (List Int)) λr=>aa (.inl (aiE.wrap (a.1+1),r))
else
aa (.inr a.2))) N (0,([]:List Int))
def aaT:Fo 239 (.i1 [.g gF, .l aB]) (.w1 3 aB) (u2 (M.hZ N)):=fz N [aaS N] [O,O,T,O,T,P ⟨[(5, .val ag (.own 144)),(13, .l aB)],[(144, .own 3 aB)],[],145⟩,O,O,T,R ⟨[(5, .val ag (.own 161))],[(161, .own 3 aB)],[144],162⟩,O,O,R ⟨[(5, .val ag (.own 305))],[(305, .own 3 aB)],[144],306⟩,B 40 305,B 60 306] Tryz.func239
def M.dp(b:gF.den)(c:Int):Option Int:=
aiC (M.hZ N b c) λa=>(if(ah ((a.length:Int)=0))then
aa (-1)
else(if(ah ((a.length:Int)=1))then
aiC (idx a 0) λd=>aiC (idx b.2.2 d) λe=>aa e
else
aa (-2)))
def V9:Fo 229 (.i1 [.g gF, .l aB]) (.i1 [.l aB]) (u2 (M.dp N)):=fz N [aaT N] [] Tryz.func229
def M.iY(c:List Int)(d:List Int)(e:List Bool):Option (List Int):=
aiC (pT (c.length:Int) 0) λf=>Loop (S:=Int×List Int) (X:=List Int) (λa=>(if(ah (0<=a.1))then
aiC (aiC (M.dp N (c,(d,a.2)) a.1) λb=>aiC (idx a.2 a.1) λk=>aiC (aiC (idx (b8 a.2 a.1 b) a.1) λg=>(if(ah (g=(-1)))then
aiC (idx e a.1) λh=>aa h
else
aa ag):Option Bool) λi=>(if i then
aiC (idx (b8 a.2 a.1 b) a.1) λl=>aa (b8 (b8 a.2 a.1 b) a.1 a.1)
else
aa (b8 a.2 a.1 b)):Option (List Int)) λj=>aa (.inl (aiE.wrap (a.1-1),j))
else
aa (.inr a.2))) N (aiE.wrap ((c.length:Int)-1),f)
def aaU:Fo 228 (.i1 [.l (.slice aB), .l (.slice aB), .l (.slice .bool)]) (.w1 3 aB) (u3 (M.iY N)):=fz N [V9 N] [O,O,T,O,T,P ⟨[(8, .l aB)],[(80, .own 3 aB)],[],209⟩,O,T,R ⟨[],[(80, .own 3 aB)],[],242⟩,O,B 40 369] Tryz.func228
def M.kK(a:List Int)(b:List Int)(c:List Bool):Option Int:=
aiC (aiC (M.iW N a b) λd=>(if(!ah (d=0))then
aa af
else
aa (!ah ((c.length:Int)=(a.length:Int)))):Option Bool) λe=>(if e then
aa (-1)
else
aiC (M.iY N a b c) λf=>aiC (M.dp N (a,(b,f)) (-1)) λg=>aa g)
def aaV:Fo 205 (.i1 [.l (.slice aB), .l (.slice aB), .l (.slice .bool)]) (.i1 [.l aB]) (u3 (M.kK N)):=fz N [aaR N,aaU N,V9 N] [O,T,B 17 16] Tryz.func205
def M.iD(c:aM.den)(g:kj.den)(i:Int)(h:Int):Option (Int×aC.den):=
aiC (M.jM N c h g.1) λb=>aiC (pT (b.1.length:Int) ag) λj=>b9 (J:=List Bool) (R:=Int×aC.den) (Loop (S:=Int×List Bool) (X:=(List Bool)⊕(Int×aC.den)) (λa=>(if(ah (a.1<(b.1.length:Int)))then
b9 (J:=List Bool) (R:=(Int×List Bool)⊕((List Bool)⊕(Int×aC.den))) (aiC (idx b.1 a.1) λd=>aiC (idx c.2.2.2.2 d) λk=>(if(ah ((k.2.2.2.2.2.1.length:Int)=0))then
aiC (idx a.2 a.1) λp=>aa (.inl (b8 a.2 a.1 af))
else
aiC (idx c.2.2.2.2 d) λl=>aiC (M.jL N l.2.2.2.2.2.1 g) λe=>(if(!ah (e.2=0))then
aa (.inr (.inr (.inr (0,(e.2,(i,(h,d)))))))
else
aiC (idx a.2 a.1) λq=>aa (.inl (b8 a.2 a.1 (ah (e.1.2.2=1))))))) λm=>aa (.inl (aiE.wrap (a.1+1),m))
else
aa (.inr (.inl a.2)))) N (0,j)) λn=>aiC (M.kK N b.2.1 b.2.2 n) λf=>(if(ah (f<0))then
aa (f,(0,(0,(0,0))))
else
aiC (idx b.1 f) λo=>aa (o,(0,(0,(0,0)))))
def Wa:Fo 179 (.i1 [.g aM, .g kj, .l aB, .l aB]) (.i1 [.l aB, .g aC]) (u4 (M.iD N)):=fz N [Sl N,aaQ N,aaV N] [O,O,O,J ⟨[],[(288, .own 4 .bool)],[],321⟩,O,T,P ⟨[(33, .l aB)],[(288, .own 4 .bool)],[],369⟩,O,O,T,J ⟨[],[(288, .own 4 .bool)],[],386⟩] Tryz.func179
def M.dy(b:Int)(g:aM.den)(c:aM.den)(h:List Bool)(d:List Bool):Option (aM.den×aM.den×(List Bool)×List Bool):=
aiC (idx d b) λi=>aiC (M.dx N c b) λe=>Loop (S:=Int×List Bool) (X:=aM.den×aM.den×(List Bool)×List Bool) (λa=>(if(ah (a.1<(e.length:Int)))then
aiC (idx e a.1) λf=>aiC (idx a.2 f) λj=>aa (.inl (aiE.wrap (a.1+1),b8 a.2 f af))
else
aa (.inr (g,c,h,a.2)))) N (0,b8 d b af)
def Sq:Fo 157 (.j1 [.ptr 0 [] 0, .l aB] [.box 254 (.pair (.leaf aM) (.pair (.leaf aM) (.pair (.own 1) (.own 2)))), .own 4 .bool, .own 4 .bool] 3) (.j1 [] [.box 254 (.pair (.leaf aM) (.pair (.leaf aM) (.pair (.own 1) (.own 2)))), .own 4 .bool, .own 4 .bool] 6) (u5 (M.dy N)):=fz N [RU N] [O,O,T,P ⟨[(19, .l aB)],[(2, .own 4 .bool)],[],244⟩] Tryz.func157
def M.eZ(c:Int)(e:aM.den)(j:aM.den)(f:List Bool)(k:List Bool):Option (aM.den×aM.den×(List Bool)×List Bool):=
aiC (idx f c) λn=>aiC (aiC (M.dx N e c) λg=>Loop (S:=Int×List Bool) (X:=List Bool) (λb=>(if(ah (b.1<(g.length:Int)))then
aiC (idx g b.1) λh=>aiC (idx b.2 h) λo=>aa (.inl (aiE.wrap (b.1+1),b8 b.2 h af))
else
aa (.inr b.2))) N (0,b8 f c af):Option (List Bool)) λl=>aiC (M.kH N e c) λi=>Loop (S:=Int×aM.den×aM.den×(List Bool)×List Bool) (X:=aM.den×aM.den×(List Bool)×List Bool) (λa=>(if(ah (a.1<(i.length:Int)))then
aiC (idx i a.1) λm=>aiC (M.dy N m a.2.1 a.2.2.1 a.2.2.2.1 a.2.2.2.2) λd=>aa (.inl (aiE.wrap (a.1+1),d.1,d.2.1,d.2.2.1,d.2.2.2))
else
aa (.inr (a.2.1,a.2.2.1,a.2.2.2.1,a.2.2.2.2)))) N (0,e,j,l,k)
def Sr:Fo 122 (.j1 [.ptr 0 [] 0, .l aB] [.box 254 (.pair (.leaf aM) (.pair (.leaf aM) (.pair (.own 1) (.own 2)))), .own 4 .bool, .own 4 .bool] 3) (.j1 [] [.box 254 (.pair (.leaf aM) (.pair (.leaf aM) (.pair (.own 1) (.own 2)))), .own 4 .bool, .own 4 .bool] 6) (u5 (M.eZ N)):=fz N [RU N,aag N,Sq N] [O,R ⟨[],[(1, .own 4 .bool)],[],116⟩,O,T,P ⟨[(21, .l aB)],[(1, .own 4 .bool)],[],244⟩,X,X,O,T,P ⟨[(39, .l aB)],[(0, .box 254 (.pair (.leaf aM) (.pair (.leaf aM) (.pair (.own 1) (.own 2))))),(1, .own 4 .bool),(2, .own 4 .bool)],[],247⟩] Tryz.func122
def M.eL(h:aM.den)(i:Int)(c:Int)(d:List aE.den)(e:List bm.den)(g:List Bool):Option (aC.den×Int×(List aE.den)×(List bm.den)×(List Bool)×(List Int)×List aE.den):=
aiC (pT (h.2.2.2.1.length:Int) (0,(0,0))) λn=>aiC (pT (h.2.2.2.1.length:Int) 0) λo=>aiC (M.dI N h) λk=>b9 (J:=(List aE.den)×List Int) (R:=aC.den×Int×(List aE.den)×(List bm.den)×(List Bool)×(List Int)×List aE.den) (Loop (S:=Int×(List aE.den)×List Int) (X:=((List aE.den)×List Int)⊕(aC.den×Int×(List aE.den)×(List bm.den)×(List Bool)×(List Int)×List aE.den)) (λa=>(if(ah (a.1<(k.2.length:Int)))then
b9 (J:=(List aE.den)×List Int) (R:=(Int×(List aE.den)×List Int)⊕(((List aE.den)×List Int)⊕(aC.den×Int×(List aE.den)×(List bm.den)×(List Bool)×(List Int)×List aE.den))) (aiC (idx k.2 a.1) λb=>aiC (idx g b) λp=>(if(!p)then
aa (.inl (a.2.1,a.2.2))
else
aiC (M.iD N h (c,(d,(a.2.1,(([]:List (List aE.den)),(([]:List aD.den),e))))) i b) λf=>(if(!ah (f.2.1=0))then
aa (.inr (.inr (.inr (f.2,c,d,e,g,([]:List Int),a.2.1))))
else(if(ah (f.1=(-1)))then
aa (.inr (.inr (.inr ((10,(i,(b,(-1)))),c,d,e,g,([]:List Int),a.2.1))))
else(if(ah (f.1=(-2)))then
aa (.inr (.inr (.inr ((11,(i,(b,(-1)))),c,d,e,g,([]:List Int),a.2.1))))
else
aiC (idx h.2.2.2.2 f.1) λq=>aiC (M.jL N q.2.2.2.2.2.2.1 (c,(d,(a.2.1,(([]:List (List aE.den)),(([]:List aD.den),e)))))) λj=>(if(!ah (j.2=0))then
aa (.inr (.inr (.inr ((j.2,(i,(b,f.1))),c,d,e,g,([]:List Int),a.2.1))))
else
aiC (idx a.2.1 b) λr=>aiC (idx a.2.2 b) λs=>aa (.inl (b8 a.2.1 b j.1,b8 a.2.2 b f.1)))))))) λl=>aa (.inl (aiE.wrap (a.1+1),l.1,l.2))
else
aa (.inr (.inl (a.2.1,a.2.2))))) N (0,n,o)) λm=>aa ((0,(0,(0,0))),c,d,e,g,m.2,m.1)
def St:Fo 158 (.j1 [.g aM, .ptr 0 [] 0, .l aB, .val ag (.own 1)] [.box 221 (.pair (.leaf aB) (.pair (.leaf (.slice aE)) (.pair .nil (.pair .nil (.pair .nil (.leaf (.slice bm))))))), .own 4 .bool] 2) (.j1 [.val ag (.own 2), .g aC] [.box 221 (.pair (.leaf aB) (.pair (.leaf (.slice aE)) (.pair (.own 3) (.pair .nil (.pair .nil (.leaf (.slice bm))))))), .own 4 .bool, .own 3 aB, .own 49 aE] 6) (u6 (M.eL N)):=fz N [VX N,Wa N,Sl N] [O,O,O,O,J ⟨[],[(114, .own 49 aE),(226, .own 3 aB)],[],372⟩,O,T,P ⟨[(37, .l aB)],[(114, .own 49 aE),(226, .own 3 aB)],[],420⟩,O,O,T,J ⟨[],[(114, .own 49 aE),(226, .own 3 aB)],[],438⟩] Tryz.func158
def M.eM(j:aM.den)(k:Int)(c:Int)(d:List aE.den)(e:List bm.den)(f:List (List aE.den))(g:List aD.den)(i:List Bool):Option (aC.den×Int×(List aE.den)×(List bm.den)×(List (List aE.den))×(List aD.den)×(List Bool)×(List Int)×List aE.den):=
aiC (pT (j.2.2.2.1.length:Int) (0,(0,0))) λp=>aiC (pT (j.2.2.2.1.length:Int) 0) λq=>aiC (M.dI N j) λm=>b9 (J:=(List aE.den)×List Int) (R:=aC.den×Int×(List aE.den)×(List bm.den)×(List (List aE.den))×(List aD.den)×(List Bool)×(List Int)×List aE.den) (Loop (S:=Int×(List aE.den)×List Int) (X:=((List aE.den)×List Int)⊕(aC.den×Int×(List aE.den)×(List bm.den)×(List (List aE.den))×(List aD.den)×(List Bool)×(List Int)×List aE.den)) (λa=>(if(ah (a.1<(m.2.length:Int)))then
b9 (J:=(List aE.den)×List Int) (R:=(Int×(List aE.den)×List Int)⊕(((List aE.den)×List Int)⊕(aC.den×Int×(List aE.den)×(List bm.den)×(List (List aE.den))×(List aD.den)×(List Bool)×(List Int)×List aE.den))) (aiC (idx m.2 a.1) λb=>aiC (idx i b) λr=>(if(!r)then
aa (.inl (a.2.1,a.2.2))
else
aiC (M.iD N j (c,(d,(a.2.1,(f,(g,e))))) k b) λh=>(if(!ah (h.2.1=0))then
aa (.inr (.inr (.inr (h.2,c,d,e,f,g,i,([]:List Int),a.2.1))))
else(if(ah (h.1=(-1)))then
aa (.inr (.inr (.inr ((10,(k,(b,(-1)))),c,d,e,f,g,i,([]:List Int),a.2.1))))
else(if(ah (h.1=(-2)))then
aa (.inr (.inr (.inr ((11,(k,(b,(-1)))),c,d,e,f,g,i,([]:List Int),a.2.1))))
else
aiC (idx j.2.2.2.2 h.1) λs=>aiC (M.jL N s.2.2.2.2.2.2.1 (c,(d,(a.2.1,(f,(g,e)))))) λl=>(if(!ah (l.2=0))then
aa (.inr (.inr (.inr ((l.2,(k,(b,h.1))),c,d,e,f,g,i,([]:List Int),a.2.1))))
else
aiC (idx a.2.1 b) λt=>aiC (idx a.2.2 b) λu=>aa (.inl (b8 a.2.1 b l.1,b8 a.2.2 b h.1)))))))) λn=>aa (.inl (aiE.wrap (a.1+1),n.1,n.2))
else
aa (.inr (.inl (a.2.1,a.2.2))))) N (0,p,q)) λo=>aa ((0,(0,(0,0))),c,d,e,f,g,i,o.2,o.1)
def Su:Fo 158 (.j1 [.g aM, .ptr 0 [] 0, .l aB, .val ag (.own 3)] [.box 221 (.pair (.leaf aB) (.pair (.leaf (.slice aE)) (.pair .nil (.pair (.own 1) (.pair (.own 2) (.leaf (.slice bm))))))), .own 163 (.slice aE), .own 74 aD, .own 4 .bool] 4) (.j1 [.val ag (.own 4), .g aC] [.box 221 (.pair (.leaf aB) (.pair (.leaf (.slice aE)) (.pair (.own 5) (.pair (.own 1) (.pair (.own 2) (.leaf (.slice bm))))))), .own 163 (.slice aE), .own 74 aD, .own 4 .bool, .own 3 aB, .own 49 aE] 10) (λ(x:aM.den×Int×Int×(List aE.den)×(List bm.den)×(List (List aE.den))×(List aD.den)×List Bool)=>M.eM N x.1 x.2.1 x.2.2.1 x.2.2.2.1 x.2.2.2.2.1 x.2.2.2.2.2.1 x.2.2.2.2.2.2.1 x.2.2.2.2.2.2.2):=fz N [VX N,Wa N,Sl N] [O,O,O,O,J ⟨[],[(116, .own 49 aE),(228, .own 3 aB)],[],374⟩,O,T,P ⟨[(37, .l aB)],[(116, .own 49 aE),(228, .own 3 aB)],[],422⟩,O,O,T,J ⟨[],[(116, .own 49 aE),(228, .own 3 aB)],[],440⟩] Tryz.func158
def M.ic(j:bV.den)(r:Int)(g:nV.den)(h:aM.den)(f:aM.den)(k:List Bool)(l:List Bool):Option (Int×(List aE.den)×(List bm.den)×aC.den×aM.den×aM.den×(List Bool)×(List Bool)×(List aE.den)×(List Int)×(List bY.den)×(List (List aE.den))×List aD.den):=
aiC (Loop (S:=Int×Int×(List aE.den)×(List bm.den)×List aD.den) (X:=Int×(List aE.den)×(List bm.den)×List aD.den) (λb=>(if(ah (b.1<(f.2.2.2.1.length:Int)))then
aiC (idx f.2.2.2.1 b.1) λm=>aiC (cA b.2.2.2.2 ([m.2]:List aD.den)) λn=>aa (.inl (aiE.wrap (b.1+1),b.2.1,b.2.2.1,b.2.2.2.1,n))
else
aa (.inr (b.2.1,b.2.2.1,b.2.2.2.1,b.2.2.2.2)))) N (0,g.1,g.2.1,j.2.1,([]:List aD.den)):Option (Int×(List aE.den)×(List bm.den)×List aD.den)) λi=>b9 (J:=(List Bool)×Int×(List aE.den)×(List bm.den)×(List aD.den)×(List (List aE.den))×List bY.den) (R:=Int×(List aE.den)×(List bm.den)×aC.den×aM.den×aM.den×(List Bool)×(List Bool)×(List aE.den)×(List Int)×(List bY.den)×(List (List aE.den))×List aD.den) (Loop (S:=Int×(List Bool)×Int×(List aE.den)×(List bm.den)×(List aD.den)×(List (List aE.den))×List bY.den) (X:=((List Bool)×Int×(List aE.den)×(List bm.den)×(List aD.den)×(List (List aE.den))×List bY.den)⊕(Int×(List aE.den)×(List bm.den)×aC.den×aM.den×aM.den×(List Bool)×(List Bool)×(List aE.den)×(List Int)×(List bY.den)×(List (List aE.den))×List aD.den)) (λa=>(if(ah (a.1<(g.2.2.length:Int)))then
aiC (idx g.2.2 a.1) λo=>aiC (M.eL N f a.1 g.1 o j.2.1 a.2.1) λe=>(if(!ah (e.1.1=0))then
aa (.inr (.inr (0,([]:List aE.den),([]:List bm.den),e.1,h,f,k,e.2.2.2.2.1,([]:List aE.den),([]:List Int),([]:List bY.den),([]:List (List aE.den)),([]:List aD.den))))
else
aiC (cA a.2.2.2.2.2.2.1 ([e.2.2.2.2.2.2]:List (List aE.den))) λp=>aiC (cA a.2.2.2.2.2.2.2 ([(e.2.2.2.2.2.2,e.2.2.2.2.2.1)]:List bY.den)) λq=>aa (.inl (aiE.wrap (a.1+1),e.2.2.2.2.1,a.2.2.1,a.2.2.2.1,a.2.2.2.2.1,a.2.2.2.2.2.1,p,q)))
else
aa (.inr (.inl (a.2.1,a.2.2.1,a.2.2.2.1,a.2.2.2.2.1,a.2.2.2.2.2.1,a.2.2.2.2.2.2.1,a.2.2.2.2.2.2.2))))) N (0,l,i.1,i.2.1,i.2.2.1,i.2.2.2,([]:List (List aE.den)),([]:List bY.den))) λd=>aiC (M.eM N h (-1) d.2.1 d.2.2.1 d.2.2.2.1 d.2.2.2.2.2.1 d.2.2.2.2.1 k) λc=>(if(!ah (c.1.1=0))then
aa (0,([]:List aE.den),([]:List bm.den),c.1,h,f,c.2.2.2.2.2.2.1,d.1,([]:List aE.den),([]:List Int),([]:List bY.den),([]:List (List aE.den)),([]:List aD.den))
else
aa (c.2.1,c.2.2.1,c.2.2.2.1,(0,(0,(0,0))),h,f,c.2.2.2.2.2.2.1,d.1,c.2.2.2.2.2.2.2.2,c.2.2.2.2.2.2.2.1,d.2.2.2.2.2.2,c.2.2.2.2.1,c.2.2.2.2.2.1))
def Sv:Fo 123 (.j1 [.g bV, .l aB, .g nV, .ptr 0 [] 0] [.box 254 (.pair (.leaf aM) (.pair (.leaf aM) (.pair (.own 1) (.own 2)))), .own 4 .bool, .own 4 .bool] 3) (.j1 [.val af (.pair (.own 3) (.pair (.own 4) (.own 5))), .val af (.pair (.leaf aB) (.pair (.leaf (.slice aE)) (.pair (.own 3) (.pair (.own 6) (.pair (.own 7) (.leaf (.slice bm))))))), .g aC] [.box 254 (.pair (.leaf aM) (.pair (.leaf aM) (.pair (.own 1) (.own 2)))), .own 4 .bool, .own 4 .bool, .own 49 aE, .own 3 aB, .own 260 bY, .own 163 (.slice aE), .own 74 aD] 11) (λ(x:bV.den×Int×nV.den×aM.den×aM.den×(List Bool)×List Bool)=>M.ic N x.1 x.2.1 x.2.2.1 x.2.2.2.1 x.2.2.2.2.1 x.2.2.2.2.2.1 x.2.2.2.2.2.2):=fz N [St N,Su N] [O,O,O,R ⟨[],[(195, .box 221 (.pair (.leaf aB) (.pair (.leaf (.slice aE)) (.pair .nil (.pair .nil (.pair (.own 243) (.leaf (.slice bm)))))))),(243, .own 74 aD)],[],245⟩,O,T,P ⟨[(35, .l aB)],[(195, .box 221 (.pair (.leaf aB) (.pair (.leaf (.slice aE)) (.pair .nil (.pair .nil (.pair (.own 355) (.leaf (.slice bm)))))))),(355, .own 74 aD)],[],357⟩,X,X,J ⟨[],[(2, .own 4 .bool),(195, .box 221 (.pair (.leaf aB) (.pair (.leaf (.slice aE)) (.pair .nil (.pair (.own 245) (.pair (.own 243) (.leaf (.slice bm)))))))),(227, .box 218 (.pair .nil (.pair .nil (.own 246)))),(243, .own 74 aD),(245, .own 163 (.slice aE)),(246, .own 260 bY)],[],251⟩,O,T,P ⟨[(50, .l aB)],[(2, .own 4 .bool),(195, .box 221 (.pair (.leaf aB) (.pair (.leaf (.slice aE)) (.pair .nil (.pair (.own 309) (.pair (.own 243) (.leaf (.slice bm)))))))),(227, .box 218 (.pair .nil (.pair .nil (.own 310)))),(243, .own 74 aD),(309, .own 163 (.slice aE)),(310, .own 260 bY)],[],315⟩] Tryz.func123
def M.lJ(e:bV.den)(f:Int)(g:nV.den)(a:Int):Option (aE.den×Int×aC.den):=
aiC (M.iO N e f g af a) λh=>(if(!ah (h.1=0))then
aa ((0,(0,0)),0,h)
else
aiC (M.kG N e f) λb=>aiC (M.eZ N a b.1 b.2.1 b.2.2.1 b.2.2.2) λc=>aiC (M.ic N e f g c.1 c.2.1 c.2.2.1 c.2.2.2) λd=>(if(!ah (d.2.2.2.1.1=0))then
aa ((0,(0,0)),0,d.2.2.2.1)
else
aiC (idx d.2.2.2.2.2.2.2.2.1 a) λi=>aiC (idx d.2.2.2.2.2.2.2.2.2.1 a) λj=>aa (i,j,(0,(0,(0,0))))))
def W85:Fo 85 (.i1 [.g bV, .l aB, .g nV, .l aB]) (.i1 [.g aE, .l aB, .g aC]) (u4 (M.lJ N)):=fz N [aae N,aaf N,Sr N,Sv N] [] Tryz.func85
def M.jN(f:bV.den)(g:bB.den)(h:aS.den)(i:List aD.den)(k:Int):Option (Int×Int):=
b9 (J:=Int×Int) (R:=Int×Int) (Loop (S:=Int×Int×Int) (X:=(Int×Int)⊕(Int×Int)) (λa=>(if(ah (a.2.2<(i.length:Int)))then
aiC (idx i a.2.2) λb=>aiC (M.jI N f g b.1 k) λc=>(if(!ah (c.2.1=0))then
aa (.inr (.inr (0,c.2.1)))
else
aiC (M.lJ N f g.2.1 (c.1,(c.2.2.1,c.2.2.2)) h.1) λe=>(if(!ah (e.2.2.1=0))then
aa (.inr (.inr (0,e.2.2.1)))
else
aa (.inl (aiE.wrap (a.1+(aiE.wrap (e.1.2.2*(aiE.wrap (b.2-b.1))))),aiE.wrap (a.2.1+(aiE.wrap (b.2-b.1))),aiE.wrap (a.2.2+1)))))
else
aa (.inr (.inl (a.1,a.2.1))))) N (0,0,0)) λj=>aiC (M.dj N j.1 j.2 h.2.1) λd=>(if(!ah (d.2=0))then
aa (0,d.2)
else
aa (if d.1<0 then 0 else d.1,0))
def W50:Fo 50 (.i1 [.g bV, .g bB, .g aS, .l (.slice aD), .l aB]) (.i1 [.l aB, .l aB]) (u5 (M.jN N)):=fz N [W84 N,W85 N,V4 N] [O,O,J ⟨[(12, .l aB),(13, .l aB)],[],[],112⟩,O,T,P ⟨[(12, .l aB),(13, .l aB),(25, .l aB)],[],[],160⟩] Tryz.func50
def M.cmp_isNaN_int(N:Nat)(a:Int):Option Bool:=
aa (!ah (a=a))
def aaW:Fo 150 (.i1 [.l aB]) (.i1 [.l .bool]) (M.cmp_isNaN_int N):=fz N [] [] Tryz.func150
def M.cmp_Less_int(a:Int)(b:Int):Option Bool:=
aiC (aiC (M.cmp_isNaN_int N a) λc=>(if c then
aiC (M.cmp_isNaN_int N b) λd=>(if(!d)then
aa af
else
aa (ah (a<b)))
else
aa (ah (a<b))):Option Bool) λe=>aa e
def aaX:Fo 110 (.i1 [.l aB, .l aB]) (.i1 [.l .bool]) (u2 (M.cmp_Less_int N)):=fz N [aaW N] [O,B 4 16] Tryz.func110
def M.jO(N:Nat)(a:Int):Option Bool:=
aa (!ah (a=a))
def aaY:Fo 129 (.i1 [.l aB]) (.i1 [.l .bool]) (M.jO N):=fz N [] [] Tryz.func129
def M.cL(c:List Int)(d:Int):Option (Int×Bool):=
aiC (Loop (S:=Int×Int) (X:=Int) (λa=>(if(ah (a.1<a.2))then
aiC (aiC (idx c (aiE.wrap (gu .u64 (aiH.wrap (aiE.wrap (a.1+a.2))) 1))) λg=>aiC (M.cmp_Less_int N g d) λh=>(if h then
aa (aiE.wrap ((aiE.wrap (gu .u64 (aiH.wrap (aiE.wrap (a.1+a.2))) 1))+1),a.2)
else
aa (a.1,aiE.wrap (gu .u64 (aiH.wrap (aiE.wrap (a.1+a.2))) 1))):Option (Int×Int)) λe=>aa (.inl (e.1,e.2))
else
aa (.inr a.1))) N (0,(c.length:Int)):Option Int) λb=>aiC ((if(ah (b<(c.length:Int)))then
aiC (idx c b) λi=>(if(ah (i=d))then
aa (b,af)
else
aiC (idx c b) λj=>aiC (M.jO N j) λk=>(if k then
aiC (M.jO N d) λl=>aa (b,l)
else
aa (b,ag)))
else
aa (b,ag)):Option (Int×Bool)) λf=>aa (f.1,f.2)
def W87:Fo 87 (.i1 [.l (.slice aB), .l aB]) (.i1 [.l aB, .l .bool]) (u2 (M.cL N)):=fz N [aaX N,aaY N] [O,O,O,R ⟨[(7, .l aB)],[],[],128⟩,T,P ⟨[(7, .l aB),(8, .l aB)],[],[],128⟩,O,R ⟨[(7, .l aB),(8, .l aB)],[],[],176⟩,X,X,X,R ⟨[(4, .l aB),(5, .l .bool)],[],[],128⟩] Tryz.func87
def M.jP(c:aD.den)(b:List Int):Option (List aD.den):=
aiC (M.cL N b (aiE.wrap (c.1+1))) λe=>aiC (Loop (S:=Int×aD.den×List aD.den) (X:=aD.den×List aD.den) (λa=>aiC (if(ah (a.1<(b.length:Int)))then
aiC (idx b a.1) λf=>aa (ah (f<a.2.1.2))
else
aa ag) λg=>(if g then
aiC (idx b a.1) λh=>aiC (cA a.2.2 ([(a.2.1.1,h)]:List aD.den)) λi=>aiC (idx b a.1) λj=>aa (.inl (aiE.wrap (a.1+1),(j,a.2.1.2),i))
else
aa (.inr (a.2.1,a.2.2)))) N (e.1,c,([]:List aD.den)):Option (aD.den×List aD.den)) λd=>aiC (cA d.2 ([d.1]:List aD.den)) λk=>aa k
def W51:Fo 51 (.i1 [.g aD, .l (.slice aB)]) (.w1 51 aD) (u2 (M.jP N)):=fz N [W87 N] [O,O,O,R ⟨[(5, .val ag (.own 208))],[(0, .box 51 (.leaf aD)),(208, .own 51 aD)],[],210⟩,T,P ⟨[(5, .val ag (.own 208)),(6, .l aB)],[(0, .box 51 (.leaf aD)),(208, .own 51 aD)],[],210⟩,T,B 28 210] Tryz.func51
def M.ie(N:Nat)(a:Int):Option (List Int):=
(if(ah (a<0))then
ae
else
aiC ((if(ah (0<(aiE.wrap (a-(aiE.wrap (0-0))))))then
aiC (fX ([]:List Int) 0 0) λe=>aiC (Xg (aiE.wrap (a-(aiE.wrap (0-0)))) 0) λb=>aiC (fX b 0 0) λc=>aa c
else
aa ([]:List Int)):Option (List Int)) λd=>aa d)
def Sw:Fo 130 (.i1 [.val ag .nil, .l aB]) (.w1 3 aB) (M.ie N):=fz N [] [O,O,R ⟨[(0, .val ag (.own 48))],[(48, .own 3 aB)],[],49⟩] Tryz.func130
def M.fx(c:List (List Int)):Option (List Int):=
aiC (Loop (S:=Int×Int) (X:=Int) (λa=>(if(ah (a.2<(c.length:Int)))then
aiC (idx c a.2) λd=>(if(ah ((aiE.wrap (a.1+(d.length:Int)))<0))then
ae
else
aa (.inl (aiE.wrap (a.1+(d.length:Int)),aiE.wrap (a.2+1))))
else
aa (.inr a.1))) N (0,0):Option Int) λe=>aiC (M.ie N e) λf=>Loop (S:=Int×List Int) (X:=List Int) (λb=>(if(ah (b.1<(c.length:Int)))then
aiC (idx c b.1) λg=>aiC (cA b.2 g) λh=>aa (.inl (aiE.wrap (b.1+1),h))
else
aa (.inr b.2))) N (0,f)
def W88:Fo 88 (.i1 [.l (.slice (.slice aB))]) (.w1 3 aB) (M.fx N):=fz N [Sw N] [O,O,R ⟨[(3, .l aB)],[],[],32⟩,O,T,P ⟨[(3, .l aB),(11, .l aB)],[],[],80⟩,X,X,O,T,O,T,P ⟨[(6, .val ag (.own 128)),(27, .l aB)],[(128, .own 3 aB)],[48],129⟩] Tryz.func88
def M.dJ(c:List aD.den):Option (List Int):=
aiC (Loop (S:=Int×List Int) (X:=List Int) (λa=>(if(ah (a.1<(c.length:Int)))then
aiC (aiC (idx c a.1) λb=>aiC (M.dL N b) λd=>(if d then
aiC (cA a.2 ([b.1,b.2]:List Int)) λe=>aa e
else
aa a.2):Option (List Int)) λf=>aa (.inl (aiE.wrap (a.1+1),f))
else
aa (.inr a.2))) N (0,([]:List Int)):Option (List Int)) λg=>aiC (M.bN N g) λh=>aiC (M.bz N h) λi=>aa i
def Wb:Fo 132 (.i1 [.l (.slice aD)]) (.w1 3 aB) (M.dJ N):=fz N [VD N,VE N,VG N] [O,O,R ⟨[(3, .val ag (.own 32))],[(32, .own 3 aB)],[],33⟩,O,T,P ⟨[(3, .val ag (.own 80)),(8, .l aB)],[(80, .own 3 aB)],[],81⟩,O,O,T,R ⟨[(3, .val ag (.own 97))],[(97, .own 3 aB)],[80],98⟩] Tryz.func132
def M.fU(e:List bj.den)(g:Int):Option (List Int):=
aiC (Loop (S:=Int×List aD.den) (X:=List aD.den) (λa=>(if(ah (a.1<(e.length:Int)))then
aiC (aiC (idx e a.1) λc=>aiC (if(ah (c.2.2.2.2.2<=g))then
aiC (M.jw N c.2.2.2.2.1) λh=>aa h
else
aa ag) λi=>(if i then
aiC (cA a.2 ([c.2.2.2.2.1]:List aD.den)) λj=>aa j
else
aa a.2):Option (List aD.den)) λk=>aa (.inl (aiE.wrap (a.1+1),k))
else
aa (.inr a.2))) N (0,([]:List aD.den)):Option (List aD.den)) λl=>aiC (M.dJ N l) λf=>Loop (S:=Int×List Int) (X:=List Int) (λb=>(if(ah (b.1<(f.length:Int)))then
aiC (aiC (idx f b.1) λd=>aiC (if(ah (1<=d))then
aa (ah (d<=109572))
else
aa ag) λm=>(if m then
aiC (cA b.2 ([d]:List Int)) λn=>aa n
else
aa b.2):Option (List Int)) λo=>aa (.inl (aiE.wrap (b.1+1),o))
else
aa (.inr b.2))) N (0,([]:List Int))
def W89:Fo 89 (.i1 [.l (.slice bj), .l aB]) (.w1 3 aB) (u2 (M.fU N)):=fz N [VT N,Wb N] [O,O,R ⟨[(5, .val ag (.own 32))],[(32, .own 51 aD)],[],33⟩,O,T,P ⟨[(5, .val ag (.own 80)),(13, .l aB)],[(80, .own 51 aD)],[],81⟩,O,O,T,R ⟨[(5, .val ag (.own 97))],[(97, .own 51 aD)],[80],98⟩,O,B 25 161,X,X,X,O,T,O,T,P ⟨[(8, .val ag (.own 113)),(35, .l aB)],[(113, .own 3 aB)],[],114⟩,O,O,T,R ⟨[(8, .val ag (.own 130))],[(130, .own 3 aB)],[113],131⟩,O,B 44 178] Tryz.func89
def M.cF(N:Nat)(a:List Int):Option (List Int):=pq zj a
def Sz:oB:=⟨.j1 [.val ag (.own 0), .fn 134 []] [.own 3 aB] 1,⟨[(0, .val ag (.own 1))],[(1, .own 3 aB)],[],2⟩,M.cF N⟩
def SA(N:Nat):fN Tryz.prog 133 (Sz N):=Fs
def M.cv(e:bV.den):Option (List Int):=
aiC (Loop (S:=Int×List aD.den) (X:=List aD.den) (λa=>(if(ah (a.1<(e.2.1.length:Int)))then
aiC (aiC (idx e.2.1 a.1) λf=>Loop (S:=Int×List aD.den) (X:=List aD.den) (λb=>(if(ah (b.1<(f.2.2.2.length:Int)))then
aiC (idx f.2.2.2 b.1) λh=>aiC (cA b.2 ([h.1]:List aD.den)) λi=>aa (.inl (aiE.wrap (b.1+1),i))
else
aa (.inr b.2))) N (0,a.2):Option (List aD.den)) λj=>aa (.inl (aiE.wrap (a.1+1),j))
else
aa (.inr a.2))) N (0,([]:List aD.den)):Option (List aD.den)) λk=>aiC (Loop (S:=Int×List aD.den) (X:=List aD.den) (λc=>(if(ah (c.1<(e.2.2.length:Int)))then
aiC (aiC (idx e.2.2 c.1) λg=>Loop (S:=Int×List aD.den) (X:=List aD.den) (λd=>(if(ah (d.1<(g.2.2.2.2.length:Int)))then
aiC (idx g.2.2.2.2 d.1) λl=>aiC (cA d.2 ([l.2.2.2.2.1]:List aD.den)) λm=>aa (.inl (aiE.wrap (d.1+1),m))
else
aa (.inr d.2))) N (0,c.2):Option (List aD.den)) λn=>aa (.inl (aiE.wrap (c.1+1),n))
else
aa (.inr c.2))) N (0,k):Option (List aD.den)) λo=>aiC (M.dJ N o) λp=>aiC (M.cF N p) λq=>aa q
def W90:Fo 90 (.i1 [.g bV]) (.w1 3 aB) (M.cv N):=fz N [Wb N,SA N] [O,O,R ⟨[(3, .val ag (.own 48))],[(48, .own 51 aD)],[],49⟩,O,T,P ⟨[(3, .val ag (.own 112)),(15, .l aB)],[(112, .own 51 aD)],[],113⟩,O,O,R ⟨[(3, .val ag (.own 129))],[(129, .own 51 aD)],[112],130⟩,T,O,O,T,P ⟨[(3, .val ag (.own 257)),(22, .l aB)],[(257, .own 51 aD)],[112],258⟩,X,X,X,X,X,R ⟨[(3, .val ag (.own 49))],[(49, .own 51 aD)],[48],50⟩,O,T,P ⟨[(3, .val ag (.own 113)),(36, .l aB)],[(113, .own 51 aD)],[48],114⟩,O,O,R ⟨[(3, .val ag (.own 130))],[(130, .own 51 aD)],[113],131⟩,T,O,O,T,P ⟨[(3, .val ag (.own 258)),(43, .l aB)],[(258, .own 51 aD)],[113],259⟩] Tryz.func90
def M.dO(a:bV.den)(b:bB.den)(c:Int):Option (List Int):=
aiC (M.fU N b.2.2.2 c) λd=>aiC (M.cv N a) λe=>aiC (M.fx N ([d,e]:List (List Int))) λf=>aiC (M.bN N f) λg=>aiC (M.bz N g) λh=>aa h
def W52:Fo 52 (.i1 [.g bV, .g bB, .l aB]) (.w1 3 aB) (u3 (M.dO N)):=fz N [VD N,VE N,W88 N,W89 N,W90 N] [] Tryz.func52
def M.kL(d:bV.den)(e:bB.den)(f:aS.den)(b:Int)(c:Int)(g:Int):Option (List aE.den):=
aiC (if(ah (b<0))then
aa af
else(if(ah (c<b))then
aa af
else(if(ah (3600<c))then
aa af
else
aa (ah (120<(aiE.wrap (c-b))))))) λk=>(if k then
aa ([]:List aE.den)
else
aiC (Tt 0 (aiE.wrap (c-b)) (0,(0,0))) λl=>aiC (M.gJ N d e f) λh=>aiC ((if h then
aiC (M.dO N d e g) λm=>aa m
else
aa ([]:List Int)):Option (List Int)) λn=>Loop (S:=Int×List aE.den) (X:=List aE.den) (λa=>(if(ah (a.1<c))then
aiC (aiC (M.lg N a.1) λi=>(if(!ah (i.2=0))then
aa (a.1,(0,3))
else(if h then
aiC (M.jP N i.1 n) λo=>aiC (M.jN N d e f o g) λj=>aa (a.1,(j.1,j.2))
else
aa (a.1,(0,1)))):Option (aE.den)) λp=>aiC (cA a.2 ([p]:List aE.den)) λq=>aa (.inl (aiE.wrap (a.1+1),q))
else
aa (.inr a.2))) N (b,l))
def W78:Fo 78 (.i1 [.g bV, .g bB, .g aS, .l aB, .l aB, .l aB]) (.w1 67 aE) (u6 (M.kL N)):=fz N [W48 N,W49 N,W50 N,W51 N,W52 N] [O,T,B 36 64,O,O,O,R ⟨[(15, .val ag (.own 240))],[(240, .own 3 aB)],[],241⟩,X,T,O,T,P ⟨[(13, .val ag (.own 273)),(16, .l aB)],[(273, .own 67 aE)],[112],274⟩,O,T,T,O,R ⟨[],[(354, .box 67 (.leaf aE))],[],387⟩] Tryz.func78
def M.px(g:List aE.den)(h:List aC.den):Option (List aC.den):=
aiC (Loop (S:=Int×List (Int×List aC.den)) (X:=List (Int×List aC.den)) (λf=>(if(ah (f.1<(g.length:Int)))then
aiC (idx g f.1) λk=>aa (.inl (aiE.wrap (f.1+1),fC aB f.2 k.1 ([]:List aC.den)))
else
aa (.inr f.2))) N (0,([]:List (Int×List aC.den))):Option (List (Int×List aC.den))) λl=>aiC (Loop (S:=Int×List (Int×List aC.den)) (X:=List (Int×List aC.den)) (λc=>(if(ah (c.1<(h.length:Int)))then
aiC (aiC (idx h c.1) λd=>(if((bo aB c.2 d.2.1).isSome)then
aiC (cA ((bo aB c.2 d.2.1).getD ([]:List aC.den)) ([d]:List aC.den)) λm=>(if ah (d.2.1=d.2.1)then
aa (fC aB c.2 d.2.1 m)
else ae)
else
aa (ya aB c.2 d.2.1 ((bo aB c.2 d.2.1).getD ([]:List aC.den)))):Option (List (Int×List aC.den))) λn=>aa (.inl (aiE.wrap (c.1+1),n))
else
aa (.inr c.2))) N (0,l):Option (List (Int×List aC.den))) λo=>Loop (S:=(List (Int×(List aC.den)))×Int×(List (Int×aC.den))×List aC.den) (X:=List aC.den) (λa=>(if(ah (a.2.1<(g.length:Int)))then
aiC (idx g a.2.1) λb=>aiC ((if(!((bo aB a.2.2.1 b.1).isSome))then
aiC (M.dR N ((bo aB a.1 b.1).getD ([]:List aC.den)) b.1) λi=>aiC (M.gh N ((bo aB a.1 b.1).getD ([]:List aC.den)) b.1) λj=>aa (fC aB a.2.2.1 b.1 (b.1,(0,(i,j))),(b.1,(0,(i,j))))
else
aa (a.2.2.1,(bo aB a.2.2.1 b.1).getD (0,(0,(0,0))))):Option ((List (Int×aC.den))×aC.den)) λe=>aiC ((if(!ah (b.2.2=0))then
aa (e.2.1,(e.2.2.2.1,e.2.2.2))
else
aa (e.2.1,(b.2.1,e.2.2.2))):Option (aC.den)) λp=>aiC (cA a.2.2.2 ([p]:List aC.den)) λq=>aa (.inl (a.1,aiE.wrap (a.2.1+1),e.1,q))
else
aa (.inr a.2.2.2))) N (o,0,([]:List (Int×aC.den)),([]:List aC.den))
def S79:oB:=⟨.i1 [.l (.slice aE), .l (.slice aC)], .w1 114 aC,u2 (M.px N)⟩
def W79(N:Nat):fN Tryz.prog 79 (S79 N):=fw (en [ck (Zw N),ck (W61 N)] af ag) (N:=N) (.o (.o (.meet ⟨[],[(16, .dmap 203 aB 87 aC)],[],49⟩ (.o (.two (.loop ⟨[(22, .l aB)],[(16, .dmap 203 aB 87 aC)],[],97⟩ .nil) .nil)) (.meet ⟨[],[(16, .dmap 203 aB 87 aC)],[],50⟩ (.o (.two (.loop ⟨[(32, .l aB)],[(16, .dmap 203 aB 87 aC)],[],98⟩ (.o (.o (.two (.meet ⟨[],[(16, .dmap 203 aB 87 aC)],[],115⟩ .nil .nil) .nil)))) .nil)) (.o (.o (.two (.o (.two (.loop ⟨[(5, .l (.map aB ag (.slice aC))),(13, .val ag (.own 146)),(55, .l aB)],[(50, .map 205 aB af aC),(146, .own 114 aC)],[16],148⟩ (.o (.o (.two (.two (.o (.o (.meet ⟨[],[(50, .map 205 aB af aC),(340, .box 114 (.leaf aC))],[],390⟩ .nil (.o (.meet ⟨[],[(340, .box 114 (.leaf aC))],[],455⟩ .nil .nil))))) .nil) .nil)))) .nil)) .nil))))))) Tryz.func79 (by kernel_rfl) λx=>by kernel_rfl
def M.gK(c:List aP.den)(d:Int):Option (Int×Bool):=
Loop (S:=Int) (X:=Int×Bool) (λb=>(if(ah (0<=b))then
aiC (idx c b) λa=>aiC (if(ah (a.2.2.2.2.2.1=3))then(if(ah (a.2.1<=d))then
aa (ah (d<a.2.2.1))
else
aa ag)
else
aa ag) λe=>(if e then
aa (.inr (a.2.2.2.2.2.2,af))
else
aa (.inl (aiE.wrap (b-1))))
else
aa (.inr (0,ag)))) N (aiE.wrap ((c.length:Int)-1))
def aaZ:Fo 115 (.i1 [.l (.slice aP), .l aB]) (.i1 [.l aB, .l .bool]) (u2 (M.gK N)):=fz N [] [O,T,O,T,L 6 96,O,T,T,O,B 33 224] Tryz.func115
def M.nk(c:List aE.den)(e:List aP.den):Option (List aE.den):=
Loop (S:=Int×List aE.den) (X:=List aE.den) (λa=>(if(ah (a.1<(c.length:Int)))then
aiC (idx c a.1) λb=>aiC (aiC (M.gK N e b.1) λd=>(if d.2 then
aa (b.1,(d.1,0))
else
aa b):Option (aE.den)) λf=>aiC (cA a.2 ([f]:List aE.den)) λg=>aa (.inl (aiE.wrap (a.1+1),g))
else
aa (.inr a.2))) N (0,([]:List aE.den))
def W80:Fo 80 (.i1 [.l (.slice aE), .l (.slice aP)]) (.w1 67 aE) (u2 (M.nk N)):=fz N [aaZ N] [O,O,T,O,T,P ⟨[(5, .val ag (.own 80)),(12, .l aB)],[(80, .own 67 aE)],[],81⟩,O,O,T,T,O,R ⟨[],[(129, .box 67 (.leaf aE))],[],162⟩] Tryz.func80
def M.eh(e:bV.den)(a:aS.den)(b:bH.den)(c:Int)(f:Int):Option (List aC.den):=
aiC (if(ah (c<a.2.2.2.2.2.1))then
aa af
else
aa (ah (3599<c))) λg=>(if g then
aa ([]:List aC.den)
else
aiC (M.kL N e b.1 a a.2.2.2.2.2.1 (aiE.wrap (c+1)) f) λd=>(if(ah ((d.length:Int)=0))then
aa ([]:List aC.den)
else
aiC (M.nk N d b.2.2.1) λh=>aiC (M.px N h b.2.1) λi=>aa i))
def W44:Fo 44 (.i1 [.g bV, .g aS, .g bH, .l aB, .l aB]) (.w1 114 aC) (u5 (M.eh N)):=fz N [W78 N,W79 N,W80 N] [O,T,B 19 64] Tryz.func44
def M.iE(N:Nat)(a:aC.den):Option Int:=
aa (if(aiE.wrap (a.2.1-a.2.2.1))<0 then 0 else(aiE.wrap (a.2.1-a.2.2.1)))
def W45:Fo 45 (.i1 [.g aC]) (.i1 [.l aB]) (M.iE N):=fz N [] [] Tryz.func45
def M.dq(b:Int)(a:aS.den):Option Int:=
(if(ah (b<1))then
aa 0
else
aiC (M.kY N b a.2.2.2.1 0) λc=>(if(!ah (c.2=0))then
aa 0
else
aa (if(if c.1<(aiE.wrap (b-(if a.2.2.2.2.1<0 then 0 else a.2.2.2.2.1)))then c.1 else(aiE.wrap (b-(if a.2.2.2.2.1<0 then 0 else a.2.2.2.2.1))))<0 then 0 else(if c.1<(aiE.wrap (b-(if a.2.2.2.2.1<0 then 0 else a.2.2.2.2.1)))then c.1 else(aiE.wrap (b-(if a.2.2.2.2.1<0 then 0 else a.2.2.2.2.1)))))))
def W39:Fo 39 (.i1 [.l aB, .g aS]) (.i1 [.l aB]) (u2 (M.dq N)):=fz N [W74 N] [] Tryz.func39
def M.c9(N:Nat)(a:aC.den):Option Int:=
aa (if(aiE.wrap ((aiE.wrap (a.2.2.1-a.2.1))-a.2.2.2))<0 then 0 else(aiE.wrap ((aiE.wrap (a.2.2.1-a.2.1))-a.2.2.2)))
def W46:Fo 46 (.i1 [.g aC]) (.i1 [.l aB]) (M.c9 N):=fz N [] [] Tryz.func46
def M.eT(c:List aC.den)(f:Int)(g:Int)(h:Int)(i:List (Int×Bool)):Option (Int×List aC.den):=
aiC (vN c 0 (c.length:Int) (c.length:Int)) λj=>Loop (S:=Int×(List aC.den)×List aC.den) (X:=Int×List aC.den) (λa=>aiC (if(ah (0<(a.2.1.length:Int)))then
aa (ah (0<a.1))
else
aa ag) λk=>(if k then
aiC (aiC (idx a.2.1 0) λd=>aiC (M.c9 N d) λb=>aiC (if(ah (b<=0))then
aa af
else
aa ((bo aB i d.1).getD ag)) λl=>(if l then
aa (a.1,a.2.2)
else
aiC (cA a.2.2 ([(h,(d.1,(g,if a.1<b then a.1 else b)))]:List aC.den)) λm=>aa (aiE.wrap (a.1-(if a.1<b then a.1 else b)),m)):Option (Int×List aC.den)) λe=>aiC (vN a.2.1 1 (a.2.1.length:Int) (a.2.1.length:Int)) λn=>aa (.inl (e.1,n,e.2))
else
aa (.inr (a.1,a.2.2)))) N (f,j,([]:List aC.den))
def Wc:Fo 102 (.i1 [.l (.slice aC), .l aB, .l aB, .l aB, .l (.map aB ag .bool)]) (.j1 [.val ag (.own 0), .l aB] [.own 87 aC] 1) (u5 (M.eT N)):=fz N [W46 N] [O,O,T,O,T,P ⟨[(1, .l aB),(12, .val ag (.own 160)),(13, .l (.slice aC))],[(160, .own 87 aC)],[],161⟩,T,B 29 161,T,R ⟨[(1, .l aB),(12, .val ag (.own 161))],[(161, .own 87 aC)],[160],162⟩,O,O,T,B 48 289] Tryz.func102
def M.mw(c:List aC.den)(d:Int)(e:aS.den)(f:Int)(b:List Int):Option (List aC.den):=
aiC (Loop (S:=Int×List (Int×Bool)) (X:=List (Int×Bool)) (λa=>(if(ah (a.1<(b.length:Int)))then
aiC (idx b a.1) λg=>aa (.inl (aiE.wrap (a.1+1),fC aB a.2 g af))
else
aa (.inr a.2))) N (0,([]:List (Int×Bool))):Option (List (Int×Bool))) λh=>aiC (M.dq N d e) λi=>aiC (M.eT N c i 2 f h) λj=>aa j.2
def W98:Fo 98 (.i1 [.l (.slice aC), .l aB, .g aS, .l aB, .l (.slice aB)]) (.w1 87 aC) (u5 (M.mw N)):=fz N [W39 N,Wc N] [O,O,R ⟨[],[(32, .map 234 aB ag .bool)],[],65⟩,O,T,P ⟨[(19, .l aB)],[(32, .map 234 aB ag .bool)],[],113⟩] Tryz.func98
def M.oa(b:List aC.den)(h:Int)(i:aS.den)(e:Int)(j:List Int):Option (List aC.den):=
aiC (Loop (S:=Int×Int×List aC.den) (X:=Int×List aC.den) (λa=>(if(ah (a.2.1<(b.length:Int)))then
aiC (aiC (idx b a.2.1) λc=>aiC (M.iE N c) λd=>aiC (if(ah (h<c.1))then
aa af
else
aa (ah (d<=0))) λk=>(if k then
aa (a.1,a.2.2)
else
aiC (cA a.2.2 ([(e,(c.1,(1,d)))]:List aC.den)) λl=>aa (aiE.wrap (a.1+d),l)):Option (Int×List aC.den)) λf=>aa (.inl (f.1,aiE.wrap (a.2.1+1),f.2))
else
aa (.inr (a.1,a.2.2)))) N (0,0,([]:List aC.den)):Option (Int×List aC.den)) λg=>aiC (M.mw N b g.1 i e j) λm=>aiC (cA g.2 m) λn=>aa n
def W66:Fo 66 (.i1 [.l (.slice aC), .l aB, .g aS, .l aB, .l (.slice aB)]) (.w1 87 aC) (u5 (M.oa N)):=fz N [W45 N,W98 N] [O,O,O,R ⟨[(11, .val ag (.own 64)),(12, .l aB)],[(64, .own 87 aC)],[],65⟩,O,T,P ⟨[(11, .val ag (.own 112)),(12, .l aB),(18, .l aB)],[(112, .own 87 aC)],[],113⟩,O,O,T,R ⟨[(11, .val ag (.own 129)),(12, .l aB)],[(129, .own 87 aC)],[112],130⟩,O,O,T,B 31 241] Tryz.func66
def M.ig(N:Nat)(b:List aC.den)(c:Int)(d:Int)(e:Int)(f:aD.den)(g:List bj.den)(a:List aC.den)(h:List aP.den):Option (Int×Int×Int×Int×aD.den×(List bj.den)×(List aP.den)×List aC.den):=
(if(ah (4096<(aiE.wrap ((a.length:Int)+(b.length:Int)))))then
aa (4,c,d,e,f,g,h,a)
else
aiC (cA a b) λi=>aa (0,c,d,e,f,g,h,i))
def W67:Fo 67 (.j1 [.ptr 0 [] 0, .l (.slice aC)] [.box 43 (.pair (.pair (.leaf aB) (.pair (.leaf aB) (.pair (.leaf aB) (.own 1)))) (.pair (.own 2) (.pair (.own 3) (.leaf aD)))), .own 53 bj, .own 87 aC, .own 103 aP] 4) ⟨[(0, .l aB)],[(0, .box 43 (.pair (.pair (.leaf aB) (.pair (.leaf aB) (.pair (.leaf aB) (.own 1)))) (.pair (.own 4) (.pair (.own 3) (.leaf aD))))),(1, .own 53 bj),(3, .own 103 aP),(4, .own 87 aC)],[],8⟩ (λ(x:(List aC.den)×Int×Int×Int×aD.den×(List bj.den)×(List aC.den)×List aP.den)=>M.ig N x.1 x.2.1 x.2.2.1 x.2.2.2.1 x.2.2.2.2.1 x.2.2.2.2.2.1 x.2.2.2.2.2.2.1 x.2.2.2.2.2.2.2):=fz N [] [] Tryz.func67
def M.gL(k:bV.den)(j:aS.den)(b:b7.den)(e:Int)(f:Int)(g:Int)(c:aD.den)(h:List bj.den)(i:List aC.den)(d:List aP.den):Option (Int×Int×Int×Int×aD.den×(List bj.den)×(List aP.den)×List aC.den):=
aiC (M.iC N j b.2.2.1) λl=>(if(!l)then
aa (3,e,f,g,c,h,d,i)
else(if(ah (b.2.2.1<c.2))then
aa (9,e,f,g,c,h,d,i)
else
aiC (M.eh N k j ((e,(f,(g,h))),(i,(d,c))) b.2.2.1 b.2.1) λm=>aiC (M.dP N d) λn=>aiC (M.oa N m b.2.2.1 j b.2.1 n) λo=>aiC (M.ig N o e f g (c.1,b.2.2.1) h i d) λa=>aa (a.1,a.2.1,a.2.2.1,a.2.2.2.1,a.2.2.2.2.1,a.2.2.2.2.2.1,a.2.2.2.2.2.2.1,a.2.2.2.2.2.2.2)))
def W31:Fo 31 (.j1 [.g bV, .g aS, .ptr 0 [] 0, .g b7] [.box 43 (.pair (.pair (.leaf aB) (.pair (.leaf aB) (.pair (.leaf aB) (.own 1)))) (.pair (.own 2) (.pair (.own 3) (.leaf aD)))), .own 53 bj, .own 87 aC, .own 103 aP] 4) ⟨[(0, .l aB)],[(0, .box 43 (.pair (.pair (.leaf aB) (.pair (.leaf aB) (.pair (.leaf aB) (.own 1)))) (.pair (.own 4) (.pair (.own 3) (.leaf aD))))),(1, .own 53 bj),(3, .own 103 aP),(4, .own 87 aC)],[],8⟩ (λ(x:bV.den×aS.den×b7.den×Int×Int×Int×aD.den×(List bj.den)×(List aC.den)×List aP.den)=>M.gL N x.1 x.2.1 x.2.2.1 x.2.2.2.1 x.2.2.2.2.1 x.2.2.2.2.2.1 x.2.2.2.2.2.2.1 x.2.2.2.2.2.2.2.1 x.2.2.2.2.2.2.2.2.1 x.2.2.2.2.2.2.2.2.2):=fz N [W13 N,W44 N,W59 N,W66 N,W67 N] [] Tryz.func31
def M.my(N:Nat)(a:Int):Option Bool:=
aiC (if(ah (0<=a))then
aa (ah (a<=109572))
else
aa ag) λb=>aa b
def W99:Fo 99 (.i1 [.l aB]) (.i1 [.l .bool]) (M.my N):=fz N [] [O,B 2 16] Tryz.func99
def M.py(a:Int):Option Int:=
aiC (M.gZ N a) λb=>(if(!b)then
aa (-1)
else
aa (ajd a 7))
def aa2:Fo 222 (.i1 [.l aB]) (.i1 [.l aB]) (M.py N):=fz N [OL N] [] Tryz.func222
def M.mz(a:cO.den)(b:Int):Option Bool:=
aiC (M.py N b) λc=>aiC (BU .i64 a.1 c) λd=>(if(!ah ((fy .and .i64 d 1)=0))then
aa ag
else
aiC (M.cL N a.2 b) λe=>aa (!e.2))
def aa3:Fo 198 (.i1 [.g cO, .l aB]) (.i1 [.l .bool]) (u2 (M.mz N)):=fz N [W87 N,aa2 N] [] Tryz.func198
def M.mJ(b:cO.den)(c:Int)(d:Int):Option (Int×Int):=
Loop (S:=Int×Int) (X:=Int×Int) (λa=>(if(ah (a.1<=109572))then
b9 (J:=Int) (R:=(Int×Int)⊕(Int×Int)) (aiC (M.mz N b a.1) λe=>(if(!e)then
aa (.inl a.2)
else(if(ah ((aiE.wrap (a.2-1))=0))then
aa (.inr (.inr (a.1,0)))
else
aa (.inl (aiE.wrap (a.2-1)))))) λf=>aa (.inl (aiE.wrap (a.1+1),f))
else
aa (.inr (0,6)))) N (c,d)
def We:Fo 168 (.i1 [.g cO, .l aB, .l aB]) (.i1 [.l aB, .l aB]) (u3 (M.mJ N)):=fz N [aa3 N] [O,T,T,P ⟨[(1, .l aB),(2, .l aB)],[],[],48⟩,O,T,J ⟨[(2, .l aB)],[],[],80⟩] Tryz.func168
def M.pz(a:cO.den)(b:Int):Option (Int×Int):=
aiC (M.gb N a) λd=>(if(!d)then
aa (0,1)
else
aiC (M.eJ N b) λe=>(if(!e)then
aa (0,3)
else
aiC (M.mJ N a b 1) λc=>aa (c.1,c.2)))
def aa4:Fo 167 (.i1 [.g cO, .l aB]) (.i1 [.l aB, .l aB]) (u2 (M.pz N)):=fz N [XA N,R4 N,We N] [] Tryz.func167
def M.qi(b:cO.den)(c:Int)(a:Int):Option (Int×Int):=
aiC (M.gb N b) λf=>(if(!f)then
aa (0,1)
else
aiC (aiC (M.eJ N c) λg=>(if(!g)then
aa af
else(if(ah (a<0))then
aa af
else
aa (ah (365<a)))):Option Bool) λh=>(if h then
aa (0,3)
else(if(ah (a=0))then
aiC (M.pz N b c) λd=>aa (d.1,d.2)
else
aiC (M.mJ N b (aiE.wrap (c+1)) a) λe=>aa (e.1,e.2))))
def aa5:Fo 142 (.i1 [.g cO, .l aB, .l aB]) (.i1 [.l aB, .l aB]) (u3 (M.qi N)):=fz N [XA N,R4 N,aa4 N,We N] [O,O,T,B 21 96] Tryz.func142
def M.jC(b:cO.den)(c:Int)(d:Int):Option Int:=
aiC (M.qi N b c d) λa=>(if(!ah (a.2=0))then
aa 109572
else
aa a.1)
def aa6:Fo 100 (.i1 [.g cO, .l aB, .l aB]) (.i1 [.l aB]) (u3 (M.jC N)):=fz N [aa5 N] [] Tryz.func100
def M.oc(c:Int)(d:Int)(e:Int)(a:Int)(f:Int)(b:aS.den):Option (aP.den×Int):=
aiC (if(ah (c<0))then
aa af
else
aiC (M.my N a) λg=>(if(!g)then
aa af
else
aiC (M.my N f) λh=>(if(!h)then
aa af
else
aiC (M.fj N d e) λi=>aa (!i)))) λj=>(if j then
aa ((0,(0,(0,(0,(0,(0,0)))))),3)
else(if(ah (a<f))then
aa ((0,(0,(0,(0,(0,(0,0)))))),14)
else
aiC (aiC (M.gb N b.2.2.2.2.2.2.2) λk=>(if(!k)then
aa af
else(if(ah (b.2.2.2.2.2.2.1<0))then
aa af
else
aa (ah (365<b.2.2.2.2.2.2.1)))):Option Bool) λl=>(if l then
aa ((0,(0,(0,(0,(0,(0,0)))))),1)
else
aiC (aiC (M.jC N b.2.2.2.2.2.2.2 f b.2.2.2.2.2.2.1) λm=>(if(ah (m<a))then
aa (c,(d,(e,(a,(a,(6,0))))))
else
aiC (M.jC N b.2.2.2.2.2.2.2 a 60) λn=>aa (c,(d,(e,(a,(n,(1,0))))))):Option (aP.den)) λo=>aa (o,0))))
def W68:Fo 68 (.i1 [.l aB, .l aB, .l aB, .l aB, .l aB, .g aS]) (.i1 [.g aP, .l aB]) (u6 (M.oc N)):=fz N [XA N,W97 N,W99 N,aa6 N] [O,T,B 32 48,O,T,B 51 96,O,R ⟨[],[(176, .box 103 (.leaf aP))],[],209⟩] Tryz.func68
def M.gz(j:aS.den)(b:b7.den)(c:Int)(d:Int)(e:Int)(f:aD.den)(g:List bj.den)(h:List aC.den)(a:List aP.den):Option (Int×Int×Int×Int×aD.den×(List bj.den)×(List aC.den)×List aP.den):=
(if(ah (16<=(a.length:Int)))then
aa (4,c,d,e,f,g,h,a)
else
aiC (M.oc N (a.length:Int) b.2.2.1 b.2.2.2.1 b.2.1 b.2.2.2.2.1 j) λi=>(if(!ah (i.2=0))then
aa (i.2,c,d,e,f,g,h,a)
else
aiC (cA a ([i.1]:List aP.den)) λk=>aa (0,c,d,e,f,g,h,k)))
def W32:Fo 32 (.j1 [.g aS, .ptr 0 [] 0, .g b7] [.box 43 (.pair (.pair (.leaf aB) (.pair (.leaf aB) (.pair (.leaf aB) (.own 1)))) (.pair (.own 2) (.pair (.own 3) (.leaf aD)))), .own 53 bj, .own 87 aC, .own 103 aP] 4) ⟨[(0, .l aB)],[(0, .box 43 (.pair (.pair (.leaf aB) (.pair (.leaf aB) (.pair (.leaf aB) (.own 1)))) (.pair (.own 2) (.pair (.own 4) (.leaf aD))))),(1, .own 53 bj),(2, .own 87 aC),(4, .own 103 aP)],[],8⟩ (λ(x:aS.den×b7.den×Int×Int×Int×aD.den×(List bj.den)×(List aC.den)×List aP.den)=>M.gz N x.1 x.2.1 x.2.2.1 x.2.2.2.1 x.2.2.2.2.1 x.2.2.2.2.2.1 x.2.2.2.2.2.2.1 x.2.2.2.2.2.2.2.1 x.2.2.2.2.2.2.2.2):=fz N [W68 N] [] Tryz.func32
def M.mf(N:Nat)(b:Int)(a:Int):Option Bool:=
(if(ah (b=1))then
aiC (if(ah (a=2))then
aa af
else(if(ah (a=4))then
aa af
else
aa (ah (a=5)))) λc=>aa c
else(if(ah (b=2))then
aiC (if(ah (a=3))then
aa af
else(if(ah (a=4))then
aa af
else
aa (ah (a=5)))) λd=>aa d
else
aa ag))
def aa7:Fo 101 (.i1 [.l aB, .l aB]) (.i1 [.l .bool]) (u2 (M.mf N)):=fz N [] [O,T,O,T,O,T,B 4 64,O,T,B 4 96] Tryz.func101
def M.iZ(a:aP.den)(b:Int)(c:Int)(d:Int):Option (aP.den×Int):=
aiC (M.mf N a.2.2.2.2.2.1 b) λe=>(if(!e)then
aa ((0,(0,(0,(0,(0,(0,0)))))),13)
else(if(ah (d<a.2.2.2.1))then
aa ((0,(0,(0,(0,(0,(0,0)))))),9)
else
aiC (if(ah (a.2.2.2.2.1<d))then(if(ah (b=2))then
aa af
else
aa (ah (b=3)))
else
aa ag) λf=>(if f then
aa ((0,(0,(0,(0,(0,(0,0)))))),14)
else
aiC (if(ah (c<0))then
aa af
else(if(ah (1000000000000000<c))then
aa af
else(if(!ah (c=0))then
aa (!ah (b=3))
else
aa ag))) λg=>(if g then
aa ((0,(0,(0,(0,(0,(0,0)))))),3)
else
aa ((a.1,(a.2.1,(a.2.2.1,(a.2.2.2.1,(a.2.2.2.2.1,(b,c)))))),0)))))
def W69:Fo 69 (.i1 [.g aP, .l aB, .l aB, .l aB]) (.i1 [.g aP, .l aB]) (u4 (M.iZ N)):=fz N [aa7 N] [O,T,T,O,O,O,O,R ⟨[(23, .l .bool)],[],[],224⟩,X,O,B 37 224] Tryz.func69
def M.gA(a:b7.den)(c:Int)(d:Int)(e:Int)(f:aD.den)(g:List bj.den)(h:List aC.den)(b:List aP.den):Option (Int×Int×Int×Int×aD.den×(List bj.den)×(List aC.den)×List aP.den):=
aiC (if(ah (a.2.2.2.2.2.1<0))then
aa af
else
aa (ah ((b.length:Int)<=a.2.2.2.2.2.1))) λj=>(if j then
aa (6,c,d,e,f,g,h,b)
else
aiC (idx b a.2.2.2.2.2.1) λk=>aiC (M.iZ N k a.2.2.2.2.2.2.1 a.2.2.2.2.2.2.2.1 a.2.1) λi=>(if(!ah (i.2=0))then
aa (i.2,c,d,e,f,g,h,b)
else
aiC (idx b a.2.2.2.2.2.1) λl=>aa (0,c,d,e,f,g,h,b8 b a.2.2.2.2.2.1 i.1)))
def W33:Fo 33 (.j1 [.ptr 0 [] 0, .g b7] [.box 43 (.pair (.pair (.leaf aB) (.pair (.leaf aB) (.pair (.leaf aB) (.own 1)))) (.pair (.own 2) (.pair (.own 3) (.leaf aD)))), .own 53 bj, .own 87 aC, .own 103 aP] 4) (.j1 [.l aB] [.box 43 (.pair (.pair (.leaf aB) (.pair (.leaf aB) (.pair (.leaf aB) (.own 1)))) (.pair (.own 2) (.pair (.own 3) (.leaf aD)))), .own 53 bj, .own 87 aC, .own 103 aP] 8) (λ(x:b7.den×Int×Int×Int×aD.den×(List bj.den)×(List aC.den)×List aP.den)=>M.gA N x.1 x.2.1 x.2.2.1 x.2.2.2.1 x.2.2.2.2.1 x.2.2.2.2.2.1 x.2.2.2.2.2.2.1 x.2.2.2.2.2.2.2):=fz N [W69 N] [O,T,B 19 36] Tryz.func33
def M.nG(c:List aC.den)(a:Int)(d:Int):Option (Int×List aC.den):=
(if(ah (a<1))then
aa (0,([]:List aC.den))
else
aiC (M.eT N c a 3 d ([]:List (Int×Bool))) λb=>aa (b.1,b.2))
def W70:Fo 70 (.i1 [.l (.slice aC), .l aB, .l aB]) (.j1 [.val ag (.own 0), .l aB] [.own 87 aC] 1) (u3 (M.nG N)):=fz N [Wc N] [] Tryz.func70
def M.ij(k:bV.den)(l:aS.den)(b:b7.den)(d:Int)(e:Int)(f:Int)(c:aD.den)(g:List bj.den)(h:List aC.den)(i:List aP.den):Option (Int×Int×Int×Int×aD.den×(List bj.den)×(List aP.den)×List aC.den):=
aiC (if(ah (b.2.2.2.2.2.2.2.1<1))then
aa af
else
aa (ah (1000000000000000<b.2.2.2.2.2.2.2.1))) λm=>(if m then
aa (3,d,e,f,c,g,i,h)
else
aiC (M.eh N k l ((d,(e,(f,g))),(h,(i,c))) c.2 b.2.1) λn=>aiC (M.nG N n b.2.2.2.2.2.2.2.1 b.2.1) λj=>(if(ah (0<j.1))then
aa (3,d,e,f,c,g,i,h)
else
aiC (M.ig N j.2 d e f c g h i) λa=>aa (a.1,a.2.1,a.2.2.1,a.2.2.2.1,a.2.2.2.2.1,a.2.2.2.2.2.1,a.2.2.2.2.2.2.1,a.2.2.2.2.2.2.2)))
def W34:Fo 34 (.j1 [.g bV, .g aS, .ptr 0 [] 0, .g b7] [.box 43 (.pair (.pair (.leaf aB) (.pair (.leaf aB) (.pair (.leaf aB) (.own 1)))) (.pair (.own 2) (.pair (.own 3) (.leaf aD)))), .own 53 bj, .own 87 aC, .own 103 aP] 4) ⟨[(0, .l aB)],[(0, .box 43 (.pair (.pair (.leaf aB) (.pair (.leaf aB) (.pair (.leaf aB) (.own 1)))) (.pair (.own 4) (.pair (.own 3) (.leaf aD))))),(1, .own 53 bj),(3, .own 103 aP),(4, .own 87 aC)],[],8⟩ (λ(x:bV.den×aS.den×b7.den×Int×Int×Int×aD.den×(List bj.den)×(List aC.den)×List aP.den)=>M.ij N x.1 x.2.1 x.2.2.1 x.2.2.2.1 x.2.2.2.2.1 x.2.2.2.2.2.1 x.2.2.2.2.2.2.1 x.2.2.2.2.2.2.2.1 x.2.2.2.2.2.2.2.2.1 x.2.2.2.2.2.2.2.2.2):=fz N [W44 N,W67 N,W70 N] [O,T,B 18 68] Tryz.func34
def M.gk(N:Nat)(b:aC.den)(a:b7.den):Option (Bool×b7.den):=
aa (ah (b.1=a.2.2.1),a)
def Wf:Fo 72 (.j1 [.g aC, .ptr 0 [] 0] [.box 55 (.leaf b7)] 1) (.j1 [.l .bool] [.box 55 (.leaf b7)] 2) (u2 (M.gk N)):=fz N [] [] Tryz.func72
def M.bq(c:List aC.den)(d:b7.den):Option (Int×b7.den):=
Loop (S:=Int×b7.den) (X:=Int×b7.den) (λa=>(if(ah (a.1<(c.length:Int)))then
aiC (idx c a.1) λe=>aiC (M.gk N e a.2) λb=>(if b.1 then
aa (.inr (a.1,b.2))
else
aa (.inl (aiE.wrap (a.1+1),b.2)))
else
aa (.inr ((-1),a.2)))) N (0,d)
def Wg:Fo 71 (.j1 [.l (.slice aC), .fn 72 [(0,[],0)]] [.box 55 (.leaf b7)] 1) (.j1 [.l aB] [.box 55 (.leaf b7)] 2) (u2 (M.bq N)):=fz N [Wf N] [O,T,O,T,P ⟨[(8, .l aB)],[(0, .box 55 (.leaf b7))],[],66⟩] Tryz.func71
def M.ik(l:bV.den)(m:aS.den)(j:b7.den)(d:Int)(e:Int)(f:Int)(b:aD.den)(g:List bj.den)(h:List aC.den)(i:List aP.den):Option (Int×Int×Int×Int×aD.den×(List bj.den)×(List aP.den)×List aC.den):=
aiC (if(ah (j.2.2.2.2.2.2.2.1<1))then
aa af
else
aa (ah (1000000000000000<j.2.2.2.2.2.2.2.1))) λn=>(if n then
aa (3,d,e,f,b,g,i,h)
else
aiC (M.eh N l m ((d,(e,(f,g))),(h,(i,b))) b.2 j.2.1) λk=>aiC (M.bq N k j) λc=>(if(ah (c.1<0))then
aa (6,d,e,f,b,g,i,h)
else
aiC (idx k c.1) λo=>aiC (M.c9 N o) λp=>(if(ah (p<c.2.2.2.2.2.2.2.2.1))then
aa (3,d,e,f,b,g,i,h)
else
aiC (M.ig N ([(c.2.2.1,(c.2.2.2.1,(4,c.2.2.2.2.2.2.2.2.1)))]:List aC.den) d e f b g h i) λa=>aa (a.1,a.2.1,a.2.2.1,a.2.2.2.1,a.2.2.2.2.1,a.2.2.2.2.2.1,a.2.2.2.2.2.2.1,a.2.2.2.2.2.2.2))))
def W35:Fo 35 (.j1 [.g bV, .g aS, .ptr 0 [] 0, .g b7] [.box 43 (.pair (.pair (.leaf aB) (.pair (.leaf aB) (.pair (.leaf aB) (.own 1)))) (.pair (.own 2) (.pair (.own 3) (.leaf aD)))), .own 53 bj, .own 87 aC, .own 103 aP] 4) ⟨[(0, .l aB)],[(0, .box 43 (.pair (.pair (.leaf aB) (.pair (.leaf aB) (.pair (.leaf aB) (.own 1)))) (.pair (.own 4) (.pair (.own 3) (.leaf aD))))),(1, .own 53 bj),(3, .own 103 aP),(4, .own 87 aC)],[],8⟩ (λ(x:bV.den×aS.den×b7.den×Int×Int×Int×aD.den×(List bj.den)×(List aC.den)×List aP.den)=>M.ik N x.1 x.2.1 x.2.2.1 x.2.2.2.1 x.2.2.2.2.1 x.2.2.2.2.2.1 x.2.2.2.2.2.2.1 x.2.2.2.2.2.2.2.1 x.2.2.2.2.2.2.2.2.1 x.2.2.2.2.2.2.2.2.2):=fz N [W44 N,W46 N,W67 N,Wg N] [O,T,B 18 68] Tryz.func35
def M.fc(k:bV.den)(l:aS.den)(b:bH.den)(c:b7.den):Option (Int×Int×Int×(List bj.den)×(List aC.den)×(List aP.den)×aD.den×Int):=
aiC (M.gI N k l b) λm=>(if(!ah (m=0))then
aa (b.1.1,b.1.2.1,b.1.2.2.1,b.1.2.2.2,b.2.1,b.2.2.1,b.2.2.2,1)
else
aiC (M.jn N c.2.1) λn=>(if(!n)then
aa (b.1.1,b.1.2.1,b.1.2.2.1,b.1.2.2.2,b.2.1,b.2.2.1,b.2.2.2,3)
else(if(ah (c.2.1<b.2.2.2.1))then
aa (b.1.1,b.1.2.1,b.1.2.2.1,b.1.2.2.2,b.2.1,b.2.2.1,b.2.2.2,9)
else
aiC (M.mq N b) λa=>aiC ((if(ah (c.1=1))then
aiC (M.iR N k c a.1 a.2.1 a.2.2.1 a.2.2.2.1 a.2.2.2.2.1 a.2.2.2.2.2.1 a.2.2.2.2.2.2) λe=>aa (e.1,e.2.1,e.2.2.1,e.2.2.2.1,e.2.2.2.2.1,e.2.2.2.2.2.2.2,e.2.2.2.2.2.1,e.2.2.2.2.2.2.1)
else(if(ah (c.1=2))then
aiC (M.gL N k l c a.1 a.2.1 a.2.2.1 a.2.2.2.1 a.2.2.2.2.1 a.2.2.2.2.2.1 a.2.2.2.2.2.2) λf=>aa (f.1,f.2.1,f.2.2.1,f.2.2.2.1,f.2.2.2.2.1,f.2.2.2.2.2.1,f.2.2.2.2.2.2.2,f.2.2.2.2.2.2.1)
else(if(ah (c.1=3))then
aiC (M.gz N l c a.1 a.2.1 a.2.2.1 a.2.2.2.1 a.2.2.2.2.1 a.2.2.2.2.2.1 a.2.2.2.2.2.2) λg=>aa (g.1,g.2.1,g.2.2.1,g.2.2.2.1,g.2.2.2.2.1,g.2.2.2.2.2.1,g.2.2.2.2.2.2.1,g.2.2.2.2.2.2.2)
else(if(ah (c.1=4))then
aiC (M.gA N c a.1 a.2.1 a.2.2.1 a.2.2.2.1 a.2.2.2.2.1 a.2.2.2.2.2.1 a.2.2.2.2.2.2) λh=>aa (h.1,h.2.1,h.2.2.1,h.2.2.2.1,h.2.2.2.2.1,h.2.2.2.2.2.1,h.2.2.2.2.2.2.1,h.2.2.2.2.2.2.2)
else(if(ah (c.1=5))then
aiC (M.ij N k l c a.1 a.2.1 a.2.2.1 a.2.2.2.1 a.2.2.2.2.1 a.2.2.2.2.2.1 a.2.2.2.2.2.2) λi=>aa (i.1,i.2.1,i.2.2.1,i.2.2.2.1,i.2.2.2.2.1,i.2.2.2.2.2.1,i.2.2.2.2.2.2.2,i.2.2.2.2.2.2.1)
else(if(ah (c.1=6))then
aiC (M.ik N k l c a.1 a.2.1 a.2.2.1 a.2.2.2.1 a.2.2.2.2.1 a.2.2.2.2.2.1 a.2.2.2.2.2.2) λj=>aa (j.1,j.2.1,j.2.2.1,j.2.2.2.1,j.2.2.2.2.1,j.2.2.2.2.2.1,j.2.2.2.2.2.2.2,j.2.2.2.2.2.2.1)
else
aa (1,a.1,a.2.1,a.2.2.1,a.2.2.2.1,a.2.2.2.2.1,a.2.2.2.2.2.1,a.2.2.2.2.2.2))))))):Option (Int×Int×Int×Int×aD.den×(List bj.den)×(List aC.den)×List aP.den)) λd=>(if(!ah (d.1=0))then
aa (b.1.1,b.1.2.1,b.1.2.2.1,b.1.2.2.2,b.2.1,b.2.2.1,b.2.2.2,d.1)
else
aa (d.2.1,d.2.2.1,d.2.2.2.1,d.2.2.2.2.2.1,d.2.2.2.2.2.2.1,d.2.2.2.2.2.2.2,(c.2.1,d.2.2.2.2.1.2),0)))))
def W10:Fo 10 (.i1 [.g bV, .g aS, .g bH, .g b7]) (.i1 [.val af (.pair (.pair (.leaf aB) (.pair (.leaf aB) (.pair (.leaf aB) (.leaf (.slice bj))))) (.pair (.leaf (.slice aC)) (.pair (.leaf (.slice aP)) (.leaf aD)))), .l aB]) (u4 (M.fc N)):=fz N [W27 N,W28 N,W29 N,W30 N,W31 N,W32 N,W33 N,W34 N,W35 N] [O,O,O,O,O,O,T,O,R ⟨[(11, .l aB)],[(352, .box 43 (.pair (.pair (.leaf aB) (.pair (.leaf aB) (.pair (.leaf aB) (.own 432)))) (.pair (.own 433) (.pair (.own 434) (.leaf aD))))),(432, .own 53 bj),(433, .own 87 aC),(434, .own 103 aP)],[336,337,338],436⟩] Tryz.func10
def M.sS(N:Nat)(a:List aD.den):Option (List aM.den):=
aa ([((⟨#[104,111,117,115,101]⟩:ByteArray),((-1),(([((⟨#[97]⟩:ByteArray),(3,0))]:List bA.den),(([((⟨#[100]⟩:ByteArray),(3,0))]:List bA.den),([((⟨#[98,97,115,101]⟩:ByteArray),(0,((-1),(0,((0,109573),(([]:List aD.den),(a,ByteArray.empty)))))))]:List da.den)))))]:List aM.den)
def W54:Fo 54 (.i1 [.l (.slice aD)]) (.j1 [.val af (.pair .nil (.pair .nil (.own 0)))] [.own 81 aM] 1) (M.sS N):=fz N [] [] Tryz.func54
def M.pA:Option (List aM.den):=
aiC (M.sS N ([(7,0)]:List aD.den)) λa=>aa a
def W23:Fo 23 (.i1 []) (.j1 [.val af (.pair .nil (.pair .nil (.own 0)))] [.own 81 aM] 1) (λ(x:Unit)=>M.pA N):=fz N [W54 N] [] Tryz.func23
def M.sT(N:Nat):Option (aD.den):=
aa (0,109573)
def W55:Fo 55 (.i1 []) (.i1 [.g aD]) (λ(x:Unit)=>M.sT N):=fz N [] [] Tryz.func55
def M.k6(a:Int):Option (Int×Int×Int×List bj.den):=
aiC (M.sT N) λb=>aa (0,0,0,([(0,((-1),(0,((3,(0,a)),(b,0)))))]:List bj.den))
def W24:Fo 24 (.i1 [.l aB]) (.j1 [.val af (.pair (.leaf aB) (.pair (.leaf aB) (.pair (.leaf aB) (.own 0))))] [.own 53 bj] 1) (M.k6 N):=fz N [W55 N] [] Tryz.func24
def M.uQ(N:Nat)(a:List aC.den)(b:aD.den):Option Int:=Qb a b
def S56:oB:=⟨.i1 [.l (.slice aC), .g aD], .i1 [.l aB],u2 (M.uQ N)⟩
def W56(N:Nat):fN Tryz.prog 56 (S56 N):=OH
def M.il(a:bH.den):Option Int:=
aiC (M.uQ N a.2.1 (0,109573)) λb=>aa b
def W25:Fo 25 (.i1 [.g bH]) (.i1 [.l aB]) (M.il N):=fz N [W56 N] [] Tryz.func25
def M.oW:Option Bool:=
aiC (M.pA N) λd=>aiC (M.k6 N 500) λc=>aiC (M.jm N (c.1,(c.2.1,(c.2.2.1,c.2.2.2)))) λb=>aiC (M.fc N (([]:List dY.den),(([]:List bm.den),d)) (0,(0,(1,(0,(0,(0,(0,(0,([]:List Int))))))))) ((b.1,(b.2.1,(b.2.2.1,b.2.2.2.2))),(([]:List aC.den),(([]:List aP.den),b.2.2.2.1))) (2,(9,(0,(0,(0,(0,(0,(0,(0,(0,(0,((0,(0,0)),((0,0),0)))))))))))))) λa=>aiC (if(ah (a.2.2.2.2.2.2.2=0))then(if(ah ((a.2.2.2.2.1.length:Int)=1))then
aiC (idx a.2.2.2.2.1 0) λe=>(if(ah (e.2.2.2=500))then
aiC (M.il N ((a.1,(a.2.1,(a.2.2.1,a.2.2.2.1))),(a.2.2.2.2.1,(a.2.2.2.2.2.1,a.2.2.2.2.2.2.1)))) λf=>aa (ah (f=500))
else
aa ag)
else
aa ag)
else
aa ag) λg=>aa g
def W8:Fo 8 (.i1 []) (.i1 [.l .bool]) (λ(x:Unit)=>M.oW N):=fz N [W9 N,W10 N,W23 N,W24 N,W25 N] [O,O,O,B 0 256] Tryz.func8
def M.pB(b:List bj.den)(c:List bj.den):Option Bool:=
(if(!ah ((b.length:Int)=(c.length:Int)))then
aa ag
else
Loop (S:=Int) (X:=Bool) (λa=>aiC (if(ah (a<(b.length:Int)))then
aa (ah (a<(c.length:Int)))
else
aa ag) λd=>(if d then
aiC (idx b a) λe=>aiC (idx c a) λf=>(if(!(oo bj e f))then
aa (.inr ag)
else
aa (.inl (aiE.wrap (a+1))))
else
aa (.inr af))) N 0)
def W73:Fo 73 (.i1 [.l (.slice bj), .l (.slice bj)]) (.i1 [.l .bool]) (u2 (M.pB N)):=fz N [] [O,O,T,O,T,L 5 112,T,B 20 112] Tryz.func73
def M.nI(a:bB.den)(b:bB.den):Option Bool:=
aiC (if(ah (a.1=b.1))then(if(ah (a.2.1=b.2.1))then(if(ah (a.2.2.1=b.2.2.1))then
aiC (M.pB N a.2.2.2 b.2.2.2) λc=>aa c
else
aa ag)
else
aa ag)
else
aa ag) λd=>aa d
def W36:Fo 36 (.i1 [.g bB, .g bB]) (.i1 [.l .bool]) (u2 (M.nI N)):=fz N [W73 N] [O,B 4 48] Tryz.func36
def M.mA(b:List aC.den)(c:List aC.den):Option Bool:=
(if(!ah ((b.length:Int)=(c.length:Int)))then
aa ag
else
Loop (S:=Int) (X:=Bool) (λa=>aiC (if(ah (a<(b.length:Int)))then
aa (ah (a<(c.length:Int)))
else
aa ag) λd=>(if d then
aiC (idx b a) λe=>aiC (idx c a) λf=>(if(!(oo aC e f))then
aa (.inr ag)
else
aa (.inl (aiE.wrap (a+1))))
else
aa (.inr af))) N 0)
def W37:Fo 37 (.i1 [.l (.slice aC), .l (.slice aC)]) (.i1 [.l .bool]) (u2 (M.mA N)):=fz N [] [O,O,T,O,T,L 5 112,T,B 20 112] Tryz.func37
def M.nl(b:List aP.den)(c:List aP.den):Option Bool:=
(if(!ah ((b.length:Int)=(c.length:Int)))then
aa ag
else
Loop (S:=Int) (X:=Bool) (λa=>aiC (if(ah (a<(b.length:Int)))then
aa (ah (a<(c.length:Int)))
else
aa ag) λd=>(if d then
aiC (idx b a) λe=>aiC (idx c a) λf=>(if(!(oo aP e f))then
aa (.inr ag)
else
aa (.inl (aiE.wrap (a+1))))
else
aa (.inr af))) N 0)
def W38:Fo 38 (.i1 [.l (.slice aP), .l (.slice aP)]) (.i1 [.l .bool]) (u2 (M.nl N)):=fz N [] [O,O,T,O,T,L 5 112,T,B 20 112] Tryz.func38
def M.lK(a:bH.den)(b:bH.den):Option Bool:=
aiC (aiC (M.nI N a.1 b.1) λc=>(if c then
aiC (M.mA N a.2.1 b.2.1) λd=>(if d then
aiC (M.nl N a.2.2.1 b.2.2.1) λe=>(if e then(if(ah (a.2.2.2.1=b.2.2.2.1))then
aa (ah (a.2.2.2.2=b.2.2.2.2))
else
aa ag)
else
aa ag)
else
aa ag)
else
aa ag):Option Bool) λf=>aa f
def W11:Fo 11 (.i1 [.g bH, .g bH]) (.i1 [.l .bool]) (u2 (M.lK N)):=fz N [W36 N,W37 N,W38 N] [O,B 4 48] Tryz.func11
def M.kM(d:bH.den)(i:Int)(j:aS.den)(e:List Int):Option Bool:=
b9 (J:=Int×Int) (R:=Bool) (Loop (S:=Int×Int×Int) (X:=(Int×Int)⊕Bool) (λa=>(if(ah (a.2.2<(d.2.1.length:Int)))then
b9 (J:=Int×Int) (R:=(Int×Int×Int)⊕((Int×Int)⊕Bool)) (b9 (J:=Int×Int) (R:=(Int×Int)⊕((Int×Int×Int)⊕((Int×Int)⊕Bool))) (aiC (idx d.2.1 a.2.2) λb=>(if(ah (b.2.2.1=1))then
aa (.inl (aiE.wrap (a.1+b.2.2.2),a.2.1))
else
Loop (S:=Int) (X:=(Int×Int)⊕((Int×Int)⊕((Int×Int×Int)⊕((Int×Int)⊕Bool)))) (λc=>(if(ah (c<(e.length:Int)))then
aiC (idx e c) λk=>(if(ah (k=b.2.1))then
aa (.inr (.inr (.inr (.inr (.inr ag)))))
else
aa (.inl (aiE.wrap (c+1))))
else
aa (.inr (.inl (a.1,aiE.wrap (a.2.1+b.2.2.2)))))) N 0)) λf=>aa (.inl (f.1,f.2))) λg=>aa (.inl (g.1,g.2,aiE.wrap (a.2.2+1)))
else
aa (.inr (.inl (a.1,a.2.1))))) N (0,0,i)) λh=>aiC (M.dq N h.1 j) λl=>aa (ah (h.2<=l))
def W12:Fo 12 (.i1 [.g bH, .l aB, .g aS, .l (.slice aB)]) (.i1 [.l .bool]) (u4 (M.kM N)):=fz N [W39 N] [O,O,J ⟨[(9, .l aB),(10, .l aB)],[],[],80⟩,O,T,P ⟨[(9, .l aB),(10, .l aB),(11, .l aB)],[],[],112⟩,O,J ⟨[(9, .l aB),(10, .l aB)],[],[],192⟩,J ⟨[(9, .l aB),(10, .l aB)],[],[],192⟩,O,O,O,O,T,L 13 448] Tryz.func12
def M.iQ(h:bV.den)(f:aS.den)(i:bB.den)(e:List b7.den):Option Bool:=
aiC (aiC (M.iH N h) λk=>(if(!k)then
aa af
else
aiC (M.gx N i) λl=>(if(!l)then
aa af
else
aiC (M.mH N f e) λm=>aa (!m))):Option Bool) λn=>(if n then
aiC (M.oW N) λo=>aa o
else
aiC (M.jm N i) λd=>b9 (J:=bH.den) (R:=Bool) (Loop (S:=Int×Int×Int×Int×(List bj.den)×(List aC.den)×(List aP.den)×aD.den) (X:=(bH.den)⊕Bool) (λa=>(if(ah (a.1<(e.length:Int)))then
b9 (J:=bH.den) (R:=(Int×Int×Int×Int×(List bj.den)×(List aC.den)×(List aP.den)×aD.den)⊕((bH.den)⊕Bool)) (b9 (J:=bH.den) (R:=(bH.den)⊕((Int×Int×Int×Int×(List bj.den)×(List aC.den)×(List aP.den)×aD.den)⊕((bH.den)⊕Bool))) (aiC (idx e a.1) λp=>aiC (M.fc N h f ((a.2.1,(a.2.2.1,(a.2.2.2.1,a.2.2.2.2.1))),(a.2.2.2.2.2.1,(a.2.2.2.2.2.2.1,a.2.2.2.2.2.2.2))) p) λb=>(if(!ah (b.2.2.2.2.2.2.2=0))then
aiC (M.lK N ((b.1,(b.2.1,(b.2.2.1,b.2.2.2.1))),(b.2.2.2.2.1,(b.2.2.2.2.2.1,b.2.2.2.2.2.2.1))) ((a.2.1,(a.2.2.1,(a.2.2.2.1,a.2.2.2.2.1))),(a.2.2.2.2.2.1,(a.2.2.2.2.2.2.1,a.2.2.2.2.2.2.2)))) λq=>(if(!q)then
aa (.inr (.inr (.inr (.inr ag))))
else
aa (.inl ((a.2.1,(a.2.2.1,(a.2.2.2.1,a.2.2.2.2.1))),(a.2.2.2.2.2.1,(a.2.2.2.2.2.2.1,a.2.2.2.2.2.2.2)))))
else
aiC (aiC (idx e a.1) λr=>(if(ah (r.1=2))then
aiC (M.dP N a.2.2.2.2.2.2.1) λs=>aiC (M.kM N ((b.1,(b.2.1,(b.2.2.1,b.2.2.2.1))),(b.2.2.2.2.1,(b.2.2.2.2.2.1,b.2.2.2.2.2.2.1))) (a.2.2.2.2.2.1.length:Int) f s) λt=>aa (!t)
else
aa ag):Option Bool) λu=>(if u then
aa (.inr (.inr (.inr (.inr ag))))
else
aiC (M.kl N b.2.2.2.2.1) λj=>b9 (J:=Unit) (R:=(bH.den)⊕((bH.den)⊕((Int×Int×Int×Int×(List bj.den)×(List aC.den)×(List aP.den)×aD.den)⊕((bH.den)⊕Bool)))) (Loop (S:=Int) (X:=Unit⊕((bH.den)⊕((bH.den)⊕((Int×Int×Int×Int×(List bj.den)×(List aC.den)×(List aP.den)×aD.den)⊕((bH.den)⊕Bool))))) (λg=>(if(ah (g<(j.length:Int)))then
aiC (idx j g) λv=>aiC (M.dR N b.2.2.2.2.1 v) λw=>(if(ah (w<0))then
aa (.inr (.inr (.inr (.inr (.inr (.inr ag))))))
else
aa (.inl (aiE.wrap (g+1))))
else
aa (.inr (.inl ())))) N 0) λz=>aa (.inl ((b.1,(b.2.1,(b.2.2.1,b.2.2.2.1))),(b.2.2.2.2.1,(b.2.2.2.2.2.1,b.2.2.2.2.2.2.1))))))) λx=>aa (.inl x)) λc=>aa (.inl (aiE.wrap (a.1+1),c.1.1,c.1.2.1,c.1.2.2.1,c.1.2.2.2,c.2.1,c.2.2.1,c.2.2.2))
else
aa (.inr (.inl ((a.2.1,(a.2.2.1,(a.2.2.2.1,a.2.2.2.2.1))),(a.2.2.2.2.2.1,(a.2.2.2.2.2.2.1,a.2.2.2.2.2.2.2))))))) N (0,d.1,d.2.1,d.2.2.1,d.2.2.2.2,([]:List aC.den),([]:List aP.den),d.2.2.2.1)) λA=>aiC (M.oW N) λy=>aa y)
def W3:Fo 3 (.i1 [.g bV, .g aS, .g bB, .l (.slice b7)]) (.i1 [.l .bool]) (u4 (M.iQ N)):=fz N [W5 N,W6 N,W7 N,W8 N,W9 N,W10 N,W11 N,W12 N,W13 N,W14 N,Zw N] [O,T,B 28 64,O,J ⟨[],[(96, .box 43 (.leaf bH))],[80],129⟩,O,T,P ⟨[(10, .l aB)],[(96, .box 43 (.pair (.pair (.leaf aB) (.pair (.leaf aB) (.pair (.leaf aB) (.leaf (.slice bj))))) (.pair (.leaf (.slice aC)) (.pair (.leaf (.slice aP)) (.leaf aD)))))],[80],145⟩,O,J ⟨[],[(96, .box 43 (.leaf bH))],[],210⟩,J ⟨[],[(96, .box 43 (.leaf bH))],[],210⟩,O,O,T,B 72 465,O,E 529,O,T,L 14 545] Tryz.func3
def M.fm(b:bV.den)(c:bB.den)(d:aS.den)(a:Int)(e:Int):Option (aE.den):=
aiC (M.lg N a) λf=>(if(!ah (f.2=0))then
aa (a,(0,3))
else
aiC (M.gJ N b c d) λh=>(if(!h)then
aa (a,(0,1))
else
aiC (M.dO N b c e) λi=>aiC (M.jP N f.1 i) λj=>aiC (M.jN N b c d j e) λg=>aa (a,(g.1,g.2))))
end
end
section
noncomputable section
set_option maxRecDepth 100000
set_option linter.unusedVariables false
def M.od(N:Nat)(a:Int):Option Bool:=
aiC (if(ah (97<=a))then
aa (ah (a<=122))
else
aa ag) λb=>aa b
def M.qj(N:Nat)(a:Int):Option Bool:=
aiC (if(ah (48<=a))then
aa (ah (a<=57))
else
aa ag) λb=>aa b
def M.rQ(N:Nat)(a:Int):Option Bool:=
aiC (aiC (M.od N a) λb=>(if b then
aa af
else
aiC (M.qj N a) λc=>(if c then
aa af
else
aa (ah (a=95)))):Option Bool) λd=>aa d
def M.nJ(N:Nat):Option (List ByteArray):=
aa ([(⟨#[105,102]⟩:ByteArray),(⟨#[116,104,101,110]⟩:ByteArray),(⟨#[101,108,115,101]⟩:ByteArray),(⟨#[111,114]⟩:ByteArray),(⟨#[97,110,100]⟩:ByteArray),(⟨#[110,111,116]⟩:ByteArray),(⟨#[116,114,117,101]⟩:ByteArray),(⟨#[102,97,108,115,101]⟩:ByteArray),(⟨#[116,111,100,97,121]⟩:ByteArray),(⟨#[115,104,97,114,101]⟩:ByteArray),(⟨#[100,105,118]⟩:ByteArray),(⟨#[114,111,117,110,100]⟩:ByteArray),(⟨#[109,105,110]⟩:ByteArray),(⟨#[109,97,120]⟩:ByteArray),(⟨#[112,108,117,115]⟩:ByteArray),(⟨#[109,111,110,116,104,115]⟩:ByteArray),(⟨#[100,97,121,115]⟩:ByteArray),(⟨#[121,101,97,114,115]⟩:ByteArray),(⟨#[121,101,97,114]⟩:ByteArray),(⟨#[109,111,110,116,104]⟩:ByteArray),(⟨#[116,97,98]⟩:ByteArray),(⟨#[98,97,110,100]⟩:ByteArray),(⟨#[99,111,117,110,116]⟩:ByteArray),(⟨#[115,117,109]⟩:ByteArray),(⟨#[97,108,108]⟩:ByteArray),(⟨#[97,110,121]⟩:ByteArray),(⟨#[109,111,115,116]⟩:ByteArray),(⟨#[101,110,117,109]⟩:ByteArray),(⟨#[116,97,98,108,101]⟩:ByteArray),(⟨#[114,111,119]⟩:ByteArray),(⟨#[115,99,111,112,101]⟩:ByteArray),(⟨#[109,101,109,98,101,114,115]⟩:ByteArray),(⟨#[105,110,112,117,116]⟩:ByteArray),(⟨#[100,101,102]⟩:ByteArray),(⟨#[114,117,108,101]⟩:ByteArray),(⟨#[111,102]⟩:ByteArray),(⟨#[111,118,101,114]⟩:ByteArray),(⟨#[112,114,105,111]⟩:ByteArray),(⟨#[102,114,111,109]⟩:ByteArray),(⟨#[116,111]⟩:ByteArray),(⟨#[101,110,100]⟩:ByteArray),(⟨#[119,104,101,110]⟩:ByteArray),(⟨#[105,115]⟩:ByteArray),(⟨#[115,114,99]⟩:ByteArray),(⟨#[98,111,111,108]⟩:ByteArray),(⟨#[105,110,116]⟩:ByteArray),(⟨#[109,111,110,101,121]⟩:ByteArray),(⟨#[114,97,116,101]⟩:ByteArray),(⟨#[100,97,116,101]⟩:ByteArray),(⟨#[100,111,119,110]⟩:ByteArray),(⟨#[117,112]⟩:ByteArray),(⟨#[122,101,114,111]⟩:ByteArray),(⟨#[97,119,97,121]⟩:ByteArray),(⟨#[104,97,108,102]⟩:ByteArray),(⟨#[101,118,101,110]⟩:ByteArray)]:List ByteArray)
def M.k7(N:Nat)(a:ByteArray):Option Bool:=
aiC (if(ah ((a.size:Int)=0))then
aa af
else(if(ah (16<(a.size:Int)))then
aa af
else
aiC (lW a 0) λe=>aiC (M.od N e) λf=>aa (!f))) λg=>(if g then
aa ag
else
b9 (J:=Unit) (R:=Bool) (Loop (S:=Int) (X:=Unit⊕Bool) (λb=>(if(ah (b<(a.size:Int)))then
aiC (lW a b) λh=>aiC (M.rQ N h) λi=>(if(!i)then
aa (.inr (.inr ag))
else
aa (.inl (aiE.wrap (b+1))))
else
aa (.inr (.inl ())))) N 0) λk=>aiC (M.nJ N) λd=>Loop (S:=Int) (X:=Bool) (λc=>(if(ah (c<(d.length:Int)))then
aiC (idx d c) λj=>(if(ah (j=a))then
aa (.inr ag)
else
aa (.inl (aiE.wrap (c+1))))
else
aa (.inr af))) N 0)
def M.fI(N:Nat)(a:aD.den)(b:List dY.den):Option Bool:=
(if(ah (a.1=6))then
aiC (if(ah (0<=a.2))then
aa (ah (a.2<(b.length:Int)))
else
aa ag) λc=>aa c
else
aiC (if(ah (1<=a.1))then(if(ah (a.1<=5))then
aa (ah (a.2=0))
else
aa ag)
else
aa ag) λd=>aa d)
def M.pC(N:Nat)(a:aD.den)(b:List dY.den):Option (Int×Int):=
aiC (M.fI N a b) λc=>(if(!c)then
aa (0,(-1))
else(if(ah (a.1=1))then
aa (0,1)
else(if(ah (a.1=2))then
aa ((-1000000000000),1000000000000)
else(if(ah (a.1=3))then
aa ((-1000000000000000),1000000000000000)
else(if(ah (a.1=4))then
aa ((-1000000000),1000000000)
else(if(ah (a.1=5))then
aa (0,109572)
else
aiC (idx b a.2) λd=>aa (0,aiE.wrap ((d.2.length:Int)-1))))))))
def M.gM(N:Nat)(b:List bA.den):Option (List aD.den):=
Loop (S:=Int×List aD.den) (X:=List aD.den) (λa=>(if(ah (a.1<(b.length:Int)))then
aiC (idx b a.1) λc=>aiC (cA a.2 ([c.2]:List aD.den)) λd=>aa (.inl (aiE.wrap (a.1+1),d))
else
aa (.inr a.2))) N (0,([]:List aD.den))
def M.mS(N:Nat)(a:bV.den)(d:Int):Option ((List dY.den)×(List bm.den)×Bool×(List aD.den)×(List aD.den)×List aD.den):=
aiC (if(ah (d<0))then
aa af
else
aa (ah ((a.2.2.length:Int)<=d))) λg=>(if g then
aa (([]:List dY.den),([]:List bm.den),ag,([]:List aD.den),([]:List aD.den),([]:List aD.den))
else
aiC (idx a.2.2 d) λc=>aiC (M.gM N c.2.2.1) λe=>aiC (M.gM N c.2.2.2.1) λf=>aiC (aiC (if(ah (0<=c.2.1))then
aa (ah (c.2.1<(a.2.2.length:Int)))
else
aa ag) λh=>(if h then
aiC (idx a.2.2 c.2.1) λi=>aiC (M.gM N i.2.2.2.1) λj=>aa (e,f,a.1,a.2.1,af,j)
else
aa (e,f,a.1,a.2.1,ag,([]:List aD.den))):Option ((List aD.den)×(List aD.den)×(List dY.den)×(List bm.den)×Bool×List aD.den)) λb=>aa (b.2.2.1,b.2.2.2.1,b.2.2.2.2.1,b.1,b.2.1,b.2.2.2.2.2))
def M.ox(N:Nat)(a:Int):Option Bool:=
aiC (if(ah (1<=a))then(if(ah (a<=8))then
aa af
else(if(ah (36<=a))then
aa (ah (a<=39))
else
aa ag))
else(if(ah (36<=a))then
aa (ah (a<=39))
else
aa ag)) λb=>(if b then
aa af
else
aiC (if(ah (a=14))then
aa af
else(if(ah (a=15))then
aa af
else(if(ah (a=16))then
aa af
else(if(ah (a=33))then
aa af
else
aa (ah (a=34)))))) λc=>aa c)
def M.dD(N:Nat)(a:Int):Option (aD.den):=
aa (a,0)
def M.lL(N:Nat)(a:aD.den)(c:bT.den):Option Bool:=
aiC (if(ah (a.1=1))then
aa (ah (a.1=1))
else(if(ah (a.1=2))then
aa (ah (a.1=2))
else(if(ah (a.1=3))then
aa (ah (a.1=3))
else(if(ah (a.1=4))then
aa (ah (a.1=4))
else
aa (ah (a.1=5)))))) λd=>(if d then
aiC (M.dD N a.1) λe=>aiC (M.pC N e c.1) λb=>aiC (if(ah (b.1<=a.2))then
aa (ah (a.2<=b.2))
else
aa ag) λf=>aa f
else
aiC (if(ah (a.1=14))then
aa (ah (a.1=14))
else(if(ah (a.1=15))then
aa (ah (a.1=15))
else
aa (ah (a.1=16)))) λg=>(if g then
aiC (if(ah (0<=a.2))then
aa (ah (a.2<=5))
else
aa ag) λh=>aa h
else(if(ah (a.1=34))then
aiC (if(ah (0<=a.2))then
aa (ah ((ajd a.2 8)<=5))
else
aa ag) λi=>aa i
else(if(ah (a.1=6))then
aa (ah (0<=a.2))
else
aa af))))
def M.bE(N:Nat)(a:aD.den)(b:bT.den):Option Bool:=
(if(ah (a.1=6))then
aiC (if(ah ((aiE.wrap (aiQ a.2 16))<(b.1.length:Int)))then
aiC (idx b.1 (aiE.wrap (aiQ a.2 16))) λc=>aa (ah ((ajd a.2 16)<(c.2.length:Int)))
else
aa ag) λd=>aa d
else(if(ah (a.1=7))then
aiC (if(ah (0<=a.2))then
aa (ah (a.2<(b.2.2.1.length:Int)))
else
aa ag) λe=>aa e
else(if(ah (a.1=8))then
aiC (if(ah (0<=a.2))then
aa (ah (a.2<(b.2.2.2.1.length:Int)))
else
aa ag) λf=>aa f
else(if(ah (a.1=33))then
aiC (if(ah (0<=a.2))then
aa (ah (a.2<(b.2.1.length:Int)))
else
aa ag) λg=>aa g
else(if(ah (a.1=34))then
aa (ah ((aiE.wrap (aiQ a.2 8))<(b.2.1.length:Int)))
else(if(ah (a.1=35))then
aa b.2.2.2.2.2
else
aiC (if(ah (a.1=36))then
aa (ah (a.1=36))
else(if(ah (a.1=37))then
aa (ah (a.1=37))
else(if(ah (a.1=38))then
aa (ah (a.1=38))
else
aa (ah (a.1=39))))) λh=>(if h then
aiC (if b.2.2.2.2.2 then(if(ah (0<=a.2))then
aa (ah (a.2<(b.2.2.2.2.1.length:Int)))
else
aa ag)
else
aa ag) λi=>aa i
else
aa af)))))))
def M.lM(N:Nat)(a:Int):Option Bool:=
aiC (if(ah (a=2))then
aa af
else(if(ah (a=3))then
aa af
else
aa (ah (a=4)))) λb=>aa b
def M.iI(N:Nat)(a:Int):Option Bool:=
aiC (aiC (M.lM N a) λb=>(if b then
aa af
else
aa (ah (a=5))):Option Bool) λc=>aa c
def M.cy(N:Nat)(a:aD.den)(c:bT.den):Option (aD.den×Bool):=
aiC ((if(ah (a.1=6))then
aa (6,aiE.wrap (aiQ a.2 16))
else(if(ah (a.1=7))then
aiC (idx c.2.2.1 a.2) λe=>aa e
else(if(ah (a.1=8))then
aiC (idx c.2.2.2.1 a.2) λf=>aa f
else(if(ah (a.1=9))then
aiC (M.dD N 5) λg=>aa g
else(if(ah (a.1=35))then
aiC (M.dD N 2) λh=>aa h
else
aiC (if(ah (a.1=36))then
aa (ah (a.1=36))
else(if(ah (a.1=37))then
aa (ah (a.1=37))
else(if(ah (a.1=38))then
aa (ah (a.1=38))
else
aa (ah (a.1=39))))) λi=>(if i then
aiC (idx c.2.2.2.2.1 a.2) λj=>aa j
else
aiC (M.dD N a.1) λk=>aa k)))))):Option (aD.den)) λb=>aiC (M.fI N b c.1) λd=>aiC (if(ah (a.1=36))then(if d then(if(ah (b.1=2))then
aa af
else
aa (ah (b.1=3)))
else
aa ag)
else
aiC (if(ah (a.1=37))then
aa (ah (a.1=37))
else
aa (ah (a.1=38))) λl=>(if l then(if d then
aa (ah (b.1=1))
else
aa ag)
else(if(ah (a.1=39))then(if d then
aiC (M.iI N b.1) λm=>aa m
else
aa ag)
else
aa d))) λn=>aa (b,n)
def M.dz(N:Nat)(b:aD.den)(a:aD.den)(d:bT.den):Option (aD.den×Bool):=
(if(ah (b.1=10))then
aiC (M.lM N a.1) λh=>aa (a,h)
else(if(ah (b.1=25))then
aa (a,ah (a.1=1))
else
aiC (if(ah (b.1=31))then
aa (ah (b.1=31))
else
aa (ah (b.1=32))) λi=>(if i then
aiC (M.dD N 2) λj=>aa (j,ah (a.1=5))
else(if(ah (b.1=33))then
aiC (idx d.2.1 b.2) λc=>aiC (aiC (M.fI N c.2.1 d.1) λk=>(if k then
aiC (M.fI N c.2.2.1 d.1) λl=>(if l then
aa ((oo aD a c.2.1),c.2.2.1)
else
aa (ag,c.2.2.1))
else
aa (ag,c.2.2.1)):Option (Bool×aD.den)) λe=>aa (e.2,e.1)
else
aiC (idx d.2.1 (aiE.wrap (aiQ b.2 8))) λf=>aiC ((if(ah (a.1=3))then
aiC (M.dD N 3) λm=>(if(oo aD f.2.1 m)then
aiC (M.dD N 4) λn=>aa ((oo aD f.2.2.1 n),a)
else
aa (ag,a))
else
aa (ag,a)):Option (Bool×aD.den)) λg=>aa (g.2,g.1)))))
def M.lN(N:Nat)(f:Int)(a:Int)(b:Int):Option (aD.den×Bool):=
(if(ah (f=13))then
aiC (aiC (M.dD N a) λc=>(if(ah (b=2))then(if(ah (a=2))then
aa (af,c)
else
aa (ah (a=3),c))
else
aa (ag,c)):Option (Bool×aD.den)) λg=>aa (g.2,g.1)
else(if(ah (f=14))then
aiC (aiC (M.dD N a) λd=>(if(ah (b=4))then(if(ah (a=3))then
aa (af,d)
else
aa (ah (a=4),d))
else
aa (ag,d)):Option (Bool×aD.den)) λh=>aa (h.2,h.1)
else
aiC (if(ah (a=3))then
aa (ah (b=3))
else
aa ag) λj=>(if j then
aiC (M.dD N 4) λk=>aa (k,af)
else
aiC (aiC (M.dD N a) λe=>(if(ah (b=2))then(if(ah (a=2))then
aa (af,e)
else
aa (ah (a=3),e))
else
aa (ag,e)):Option (Bool×aD.den)) λi=>aa (i.2,i.1))))
def M.im(N:Nat)(a:Int)(b:aD.den)(c:aD.den):Option (aD.den×Bool):=
aiC (if(ah (a=11))then
aa (ah (a=11))
else
aa (ah (a=12))) λn=>(if n then
aiC ((if(oo aD b c)then
aiC (M.lM N b.1) λo=>aa (o,b)
else
aa (ag,b)):Option (Bool×aD.den)) λd=>aa (d.2,d.1)
else
aiC (if(ah (a=13))then
aa (ah (a=13))
else(if(ah (a=14))then
aa (ah (a=14))
else
aa (ah (a=15)))) λp=>(if p then
aiC (M.lN N a b.1 c.1) λe=>aa (e.1,e.2)
else(if(ah (a=16))then
aiC ((if(ah (b.1=3))then
aa (ah (c.1=3),b)
else
aa (ag,b)):Option (Bool×aD.den)) λf=>aa (f.2,f.1)
else
aiC (if(ah (a=17))then
aa (ah (a=17))
else
aa (ah (a=18))) λq=>(if q then
aiC ((if(oo aD b c)then
aiC (M.iI N b.1) λr=>aa (r,b)
else
aa (ag,b)):Option (Bool×aD.den)) λg=>aa (g.2,g.1)
else
aiC (if(ah (a=19))then
aa (ah (a=19))
else
aa (ah (a=20))) λs=>(if s then
aiC (M.dD N 1) λt=>aa (t,(oo aD b c))
else
aiC (if(ah (a=21))then
aa (ah (a=21))
else
aa (ah (a=22))) λu=>(if u then
aiC (aiC (M.dD N 1) λh=>(if(oo aD b c)then
aiC (M.iI N b.1) λv=>aa (v,h)
else
aa (ag,h)):Option (Bool×aD.den)) λi=>aa (i.2,i.1)
else
aiC (if(ah (a=23))then
aa (ah (a=23))
else
aa (ah (a=24))) λw=>(if w then
aiC ((if(ah (b.1=1))then
aa (ah (c.1=1),b)
else
aa (ag,b)):Option (Bool×aD.den)) λj=>aa (j.2,j.1)
else
aiC (if(ah (a=27))then
aa (ah (a=27))
else
aa (ah (a=28))) λx=>(if x then
aiC ((if(ah (b.1=5))then
aa (ah (c.1=2),b)
else
aa (ag,b)):Option (Bool×aD.den)) λk=>aa (k.2,k.1)
else
aiC (aiC (M.dD N 2) λl=>(if(ah (b.1=5))then
aa (ah (c.1=5),l)
else
aa (ag,l)):Option (Bool×aD.den)) λm=>aa (m.2,m.1)))))))))
def M.aZ(N:Nat)(b:aD.den)(a:List aD.den)(c:bT.den):Option (aD.den×Int):=
aiC (if(!ah (b.2=0))then
aiC (M.ox N b.1) λi=>aa (!i)
else
aa ag) λj=>(if j then
aa ((0,0),2)
else
aiC (M.lL N b c) λk=>(if(!k)then
aa ((0,0),3)
else
aiC (M.bE N b c) λl=>(if(!l)then
aa ((0,0),6)
else
aiC ((if(ah ((a.length:Int)=0))then
aiC (M.cy N b c) λd=>aa (d.2,d.1)
else(if(ah ((a.length:Int)=1))then
aiC (idx a 0) λm=>aiC (M.dz N b m c) λe=>aa (e.2,e.1)
else(if(ah ((a.length:Int)=2))then
aiC (idx a 0) λn=>aiC (idx a 1) λo=>aiC (M.im N b.1 n o) λf=>aa (f.2,f.1)
else
aiC (idx a 1) λg=>aiC (idx a 0) λp=>(if(ah (p.1=1))then
aiC (idx a 1) λq=>aiC (idx a 2) λr=>aa ((oo aD q r),g)
else
aa (ag,g))))):Option (Bool×aD.den)) λh=>(if(!h.1)then
aa ((0,0),8)
else
aa (h.2,0)))))
end
end
section
theorem aX{n:Int}(h0: -9223372036854775808<=n)(h1:n<=9223372036854775807):aiE.wrap n=n:=by
 simp[IntKind.wrap,IntKind.bits,IntKind.signed];omega
theorem aF{α:Type}{l:List α}{k:Nat}(h:k<l.length):idx l (k:Int)=aa l[k]:=by
 grind [idx]
def fJ{α:Type}{l m:List α}(h:l.length+m.length<=4294967296):cA l m=aa (l++m):=aj h
def zn{S X:Type}{body:S->Option (S⊕X)}(I:S->Prop)(μ:S->Nat)(Q:X->Prop)
 (step:∀s,I s->(∃s',body s=aa (.inl s')/\I s'/\μ s'<μ s)\/∃x,body s=aa (.inr x)/\Q x):
 ∀N s,I s->μ s<N->∃x,Loop body N s=aa x/\Q x
 |0,_,_,h=>absurd h (by omega)
 |N+1,s,hi,aH=>by
  rcases step s hi with⟨s',hb,pJ,hm⟩|⟨x,hb,hq⟩
  .obtain⟨x,hx,hq⟩:=zn I μ Q step N s' pJ (by omega)
   grind [Loop]
  grind [Loop]
def Fv{S X:Type}{body:S->Option (S⊕X)}(st:Nat->S){x:X}(m:Nat)(hs:∀i,i<m->body (st i)=aa (.inl (st (i+1))))(he:body (st m)=aa (.inr x)){N:Nat}(hN:m<N):Loop body N (st 0)=aa x:=by
 have:∀k i N,i+k=m->k<N->Loop body N (st i)=aa x:=by
  intro k
  induction k with
  |zero=>rintro i (_|N) hi hN;all_goals grind [Loop]
  |succ k ih=>
   rintro i (_|N) hi hN
   all_goals grind [Loop]
 grind
def AY{S X:Type}{body:S->Option (S⊕X)}{N:Nat}{s0:S}(st:Nat->S)(m:Nat)(x:X)(h0:s0=st 0)(hs:∀i,i<m->body (st i)=aa (.inl (st (i+1))))(he:body (st m)=aa (.inr x))(hN:m<N):Loop body N s0=aa x:=by
 rw[h0];exact Fv st m hs he hN
def Jj{S X Y:Type}{body:S->Option (S⊕X)}{N:Nat}{s0:S}{k:X->Option Y}{r:Option Y}(st:Nat->S)(m:Nat)(x:X)(h0:s0=st 0)(hs:∀i,i<m->body (st i)=aa (.inl (st (i+1))))(he:body (st m)=aa (.inr x))(hN:m<N)(hk:k x=r):(Loop body N s0).bind k=r:=by
 rw[AY st m x h0 hs he hN];exact hk
def aV:Nat:=18446744073709551616
section
variable {α:Type}
def yr(n:Nat)(C:Nat->α)(k:Nat)(v:α):((ajp n).map C).set k v=(ajp n).map (λj=>if j=k then v else C j):=by
 apply List.ext_getElem (by simp)
 grind
def lO(n:Nat)(p:Nat->Bool):(ajp (n+1)).filter p=(ajp n).filter p++(if p n=af then[n]else[]):=by
 grind [List.range_succ]
end
end
end Go.Proofs.YtleifhfeahnocaaGreatDoor
section
open _root_.Bool renaming false->ag,true->af,false_eq_true->aiX
open _root_.Option renaming none->ae,some->aa,bind_some->aiD
open _root_.Go.IntKind renaming i64->aiE
open _root_.List renaming replicate->aiN,take_append_getElem->aiP,take_length->aiS
open _root_.Nat renaming zero_le->ai6
namespace Go.Proofs.YtleifhfeahnocaaGreatDoor
open Go Go.RowKit
def Wp{α:Type}(m:Option α)(Q:α->Prop):Prop:=∃x,m=aa x/\Q x
def Wp.some{α:Type}{x:α}{Q:α->Prop}(h:Q x):Wp (aa x) Q:=⟨x,rfl,h⟩
def Wp.eq{α:Type}{m:Option α}{x:α}(h:Wp m (· =x)):m=Option.some x:=by obtain⟨y,e,rfl⟩:=h;exact e
def Wp.mono{α:Type}{m:Option α}{Q Q':α->Prop}(h:Wp m Q)(hq:∀x,Q x->Q' x):Wp m Q':=by obtain⟨x,e,h⟩:=h;exact⟨x,e,hq x h⟩
def Wp.bind{α β:Type}{m:Option α}{k:α->Option β}{Q:β->Prop}(h:Wp m λx=>Wp (k x) Q):Wp (m.bind k) Q:=by
 obtain⟨x,e,h⟩:=h;rw[e];exact h
def Wp.qk{α β:Type}{m:Option α}{k:α->Option β}{Q:β->Prop}{x:α}(e:m=Option.some x)(h:Wp (k x) Q):Wp (m.bind k) Q:=by
 rw[e];exact h
theorem Wp.seq{α β:Type}{m:Option α}{k:α->Option β}{Q:β->Prop}(A:α->Prop)(h:Wp m A)(hk:∀x,A x->Wp (k x) Q):Wp (m.bind k) Q:= .bind (h.mono hk)
def Wp.ite{α:Type}{c:Prop}[Decidable c]{a b:Option α}{Q:α->Prop}(ha:c->Wp a Q)(hb:¬c->Wp b Q):Wp (if c then a else b) Q:=by
 grind
def Wp.dec{α:Type}{c:Prop}[Decidable c]{a b:Option α}{Q:α->Prop}(ha:c->Wp a Q)(hb:¬c->Wp b Q):Wp (if decide c=af then a else b) Q:=by
 grind
def Wp.fD{α:Type}{c:Prop}[Decidable c]{a b:Option α}{Q:α->Prop}(ha:¬c->Wp a Q)(hb:c->Wp b Q):Wp (if(!decide c)=af then a else b) Q:=by
 grind
def uR{J R:Type}(k:J->Option R)(Q:R->Prop):J⊕R->Prop
 | .inl j=>Wp (k j) Q
 | .inr r=>Q r
def Wp.join{J R:Type}{m:Option (J⊕R)}{k:J->Option R}{Q:R->Prop}(h:Wp m (uR k Q)):Wp (b9 m k) Q:=by
 obtain⟨x,e,h⟩:=h;unfold b9;rw[e]
 cases x with
 |inl j=>exact h
 |inr r=>exact⟨r,rfl,h⟩
def zo{S X:Type}(I:S->Prop)(μ:S->Nat)(s:S)(Q:X->Prop):S⊕X->Prop
 | .inl s'=>I s'/\μ s'<μ s
 | .inr x=>Q x
def Wp.loop{S X:Type}{body:S->Option (S⊕X)}{N:Nat}{s0:S}{Q:X->Prop}(I:S->Prop)(μ:S->Nat)(h0:I s0)(hN:μ s0<N)(step:∀s,I s->Wp (body s) (zo I μ s Q)):Wp (Loop body N s0) Q:=
 zn I μ Q (λs hs=>by
  obtain⟨x,e,h⟩:=step s hs
  cases x with
  |inl s'=>exact .inl ⟨s',e,h⟩
  |inr x=>exact .inr ⟨x,e,h⟩) N s0 h0 hN
theorem Wp.idx{α:Type}{l:List α}{i:Int}{Q:α->Prop}(k:Nat)(hi:i=k)(hk:k<l.length)(h:Q l[k]):Wp (idx l i) Q:=by
 subst hi;exact⟨_,aF hk,h⟩
def Wp.app{α:Type}{l m:List α}{Q:List α->Prop}(hl:l.length+m.length<=4294967296)(h:Q (l++m)):Wp (cA l m) Q:=⟨_,fJ hl,h⟩
def qU{α:Type}{l:List α}{i j:Int}(a b:Nat)(hi:i=a)(hj:j=b)(h:a<=b)(hb:b<=l.length):fX l i j=Option.some ((l.take b).drop a):=by
 grind [fX]
def Wp.cut{α:Type}{l:List α}{i j:Int}{Q:List α->Prop}(a b:Nat)(hi:i=a)(hj:j=b)(h:a<=b)(hb:b<=l.length)(hq:Q ((l.take b).drop a)):Wp (fX l i j) Q:=⟨_,qU a b hi hj h hb,hq⟩
def qV{α:Type}{l:List α}{b:Nat}(hb:b<=l.length):fX l 0 (b:Int)=Option.some (l.take b):=by
 have:=qU (l:=l) 0 b rfl rfl (ai6 _) hb
 grind
def aT{k:Nat}(h:k<9223372036854775807):aiE.wrap ((k:Int)+1)=((k+1:Nat):Int):=by rw[aX]<;>omega
def Dd{k:Nat}(h:k<=9223372036854775807):aiE.wrap (k:Int)=(k:Int):=by rw[aX]<;>omega
end Go.Proofs.YtleifhfeahnocaaGreatDoor
namespace Go.Proofs.YtleifhfeahnocaaGreatDoor
open Go Go.RowKit
section
variable {α β:Type}
theorem kN{x:α}{Q:α->Prop}:Wp (aa x) Q↔Q x:=⟨λ⟨y,e,h⟩=>by grind,λh=>⟨x,rfl,h⟩⟩
theorem sU{Q:α->Prop}:Wp (ae:Option α) Q↔False:=⟨λ⟨y,e,h⟩=>(by cases e),False.elim⟩
def wp_bind{m:Option α}{k:α->Option β}{Q:β->Prop}:Wp (m.bind k) Q↔Wp m λx=>Wp (k x) Q:=by
 cases m with
 |none=>simp only[Option.bind_none,sU]
 |some x=>simp only[aiD,kN]
def L3{c:Prop}[Decidable c]{a b:Option α}{Q:α->Prop}:Wp (if c then a else b) Q↔(c->Wp a Q)/\(¬c->Wp b Q):=by
 grind
def L4{c:Prop}[Decidable c]{a b:Option α}{Q:α->Prop}:Wp (if decide c=af then a else b) Q↔(c->Wp a Q)/\(¬c->Wp b Q):=by
 grind
def G7{c:Prop}[Decidable c]{a b:Option α}{Q:α->Prop}:Wp (if(!decide c)=af then a else b) Q↔(¬c->Wp a Q)/\(c->Wp b Q):=by
 grind
def L5{c:Bool}{a b:Option α}{Q:α->Prop}:Wp (if(!c)=af then a else b) Q↔(c=ag->Wp a Q)/\(c=af->Wp b Q):=by
 grind
def wp_map{m:Option α}{f:α->β}{Q:β->Prop}:Wp (m.map f) Q↔Wp m λx=>Q (f x):=by
 cases m with
 |none=>simp only[Option.map_none,sU]
 |some x=>simp only[Option.map_some,kN]
def G8{J R:Type}{m:Option (J⊕R)}{k:J->Option R}{Q:R->Prop}:Wp (b9 m k) Q↔Wp m (uR k Q):=by
 cases m with
 |none=>exact⟨λ⟨_,e,_⟩=>(by cases e),λ⟨_,e,_⟩=>(by cases e)⟩
 |some s=>cases s with
  |inl j=>rw[kN];exact Iff.rfl
  |inr r=>exact(kN (x:=r)).trans (kN (x:=Sum.inr r) (Q:=uR k Q)).symm
def zp{J R:Type}{k:J->Option R}{Q:R->Prop}{j:J}:uR k Q (.inl j)=Wp (k j) Q:=rfl
def zq{J R:Type}{k:J->Option R}{Q:R->Prop}{r:R}:uR k Q (.inr r)=Q r:=rfl
theorem eQ{l:List α}{i:Int}{Q:α->Prop}:Wp (idx l i) Q↔∃h:0<=i/\i<(l.length:Int),Q (l[i.toNat]'(by omega)):=by
 by_cases h:0<=i/\i<(l.length:Int)
 .grind [idx,kN]
 .refine⟨λ⟨y,e,_⟩=>?_,λg=>absurd g.1 h⟩
  grind [iz]
def sW{s:ByteArray}{i:Int}{Q:Int->Prop}:Wp (lW s i) Q↔∃h:0<=i/\i<(s.size:Int),Q ((s[i.toNat]'(by omega)).toNat:Int):=by
 unfold lW;rw[wp_map];by_cases h:0<=i/\i<(s.size:Int)
 .grind [kN]
 .refine⟨λ⟨y,e,_⟩=>?_,λg=>absurd g.1 h⟩
  grind
theorem nK{l m:List α}{Q:List α->Prop}:Wp (cA l m) Q↔l.length+m.length<=4294967296/\Q (l++m):=by
 grind [cA,kN,sU]
def wp_cut{l:List α}{i j:Int}{Q:List α->Prop}:Wp (fX l i j) Q↔(0<=i/\i<=j/\j<=l.length)/\Q ((l.take j.toNat).drop i.toNat):=by
 grind [fX,kN,sU]
def rR{m:Int}{z:α}{Q:List α->Prop}:Wp (pT m z) Q↔(0<=m/\m<=4294967296)/\Q (aiN m.toNat z):=by
 grind [pT,kN,sU]
def Qd{m:Option α}{x:α}:Wp m (· =x)↔m=aa x:=⟨λ⟨_,e,h⟩=>h▸e,λe=>⟨x,e,rfl⟩⟩
def Wp.getD{m:Option α}{Q:α->Prop}(h:Wp m Q)(d:α):m=Option.some (m.getD d)/\Q (m.getD d):=by
 obtain⟨x,e,h⟩:=h
 grind
end
def Fw{S X:Type}(wW:S->Int)(m k:Nat)(J:Nat->S->Prop)(Q:X->Prop):S⊕X->Prop
 | .inl s=>k<m/\wW s=((k+1:Nat):Int)/\J (k+1) s
 | .inr x=>Q x
def bg{S X:Type}{wW:S->Int}{m k:Nat}{J:Nat->S->Prop}{Q:X->Prop}{s:S}:Fw wW m k J Q (.inl s)=(k<m/\wW s=((k+1:Nat):Int)/\J (k+1) s):=rfl
def aY{S X:Type}{wW:S->Int}{m k:Nat}{J:Nat->S->Prop}{Q:X->Prop}{x:X}:Fw wW m k J Q (.inr x)=Q x:=rfl
def Wp.count{S X:Type}{body:S->Option (S⊕X)}{s0:S}{Q:X->Prop}(wW:S->Int)(m:Nat)(J:Nat->S->Prop)(hm:m<=9223372036854775807)(h0:wW s0=0)(hJ:J 0 s0)
 (step:∀k s,k<=m->wW s=(k:Int)->J k s->Wp (body s) (Fw wW m k J Q)):Wp (Loop body aV s0) Q:=by
 refine Wp.loop (λs=>∃k:Nat,wW s=k/\k<=m/\J k s) (λs=>m-(wW s).toNat) ⟨0,h0,ai6 _,hJ⟩ (by unfold aV;omega) λs hs=>?_
 obtain⟨k,hi,hk,hj⟩:=hs
 refine(step k s hk hi hj).mono λr hr=>?_
 cases r with
 |inl s'=>
  obtain⟨h1,h2,h3⟩:=hr;exact⟨⟨k+1,h2,h1,h3⟩,by grind⟩
 |inr x=>exact hr
def cN{k:Nat}{m:Nat}(hm:m<=9223372036854775807)(h:k<m):aiE.wrap ((k:Int)+1)=((k+1:Nat):Int):=aT (by omega)
def mB{k m:Nat}(h:k<m):decide ((k:Int)<(m:Int))=af:=aq (by omega)
def Fx{k m:Nat}(h:k<m):((k:Int)<(m:Int))=True:=eq_true (by omega)
def oX{m:Nat}:((m:Int)<(m:Int))=False:=eq_false (by omega)
def cV{α:Type}(f:Nat->Option α):Nat->Option α
 |0=>ae
 |m+1=>(cV f m).or (f m)
theorem cr{α:Type}{f:Nat->Option α}:∀{m:Nat},cV f m=ae↔∀k,k<m->f k=ae
 |0=>by simp[cV]
 |m+1=>by
  rw[cV,Option.or_eq_none_iff,cr]
  grind
theorem fe{α:Type}{f:Nat->Option α}{x:α}:∀{m:Nat},cV f m=aa x->∃k,k<m/\f k=aa x/\∀j,j<k->f j=ae
 |0,h=>by cases h
 |m+1,h=>by
  rw[cV]at h
  cases e:cV f m with
  |none=>grind [cr]
  |some y=>
   rw[e]at h;cases h;obtain⟨k,hk,h1,h2⟩:=fe e
   grind
theorem ff{α:Type}{f:Nat->Option α}{x:α}{k:Nat}(hx:f k=aa x)(hn:∀j,j<k->f j=ae):∀{m:Nat},k<m->cV f m=aa x
 |0,h=>by omega
 |m+1,h=>by
  rw[cV]
  rcases Nat.lt_succ_iff_lt_or_eq.1 h with h1|rfl
  .rw[ff hx hn h1];rfl
  .rw[cr.2 hn];exact hx
def Qe{S X C:Type}(wW:S->Int)(acc:S->C)(k:Nat)(c:C)(I:Nat->C->Prop):S⊕X->Prop
 | .inl s=>wW s=((k+1:Nat):Int)/\acc s=c/\I (k+1) c
 | .inr _=>False
def Qf{S X:Type}(Q:X->Prop):S⊕X->Prop
 | .inl _=>False
 | .inr x=>Q x
def Jk{S X C:Type}{wW:S->Int}{acc:S->C}{k:Nat}{c:C}{I:Nat->C->Prop}{s:S}:Qe (X:=X) wW acc k c I (.inl s)=(wW s=((k+1:Nat):Int)/\acc s=c/\I (k+1) c):=rfl
def Jl{S X:Type}{Q:X->Prop}{x:X}:Qf (S:=S) Q (.inr x)=Q x:=rfl
def Wp.fold{S X C α:Type}{body:S->Option (S⊕X)}{s0:S}{Q:X->Prop}(wW:S->Int)(acc:S->C)(l:List α)(F:C->α->C)(c0:C)(I:Nat->C->Prop)(hm:l.length<=9223372036854775807)(h0:wW s0=0)(hc:acc s0=c0)(hI:I 0 c0)
 (step:∀k s(h:k<l.length),wW s=(k:Int)->I k (acc s)->Wp (body s) (Qe wW acc k (F (acc s) l[k]) I))
 (fin:∀s,wW s=(l.length:Int)->acc s=l.foldl F c0->I l.length (acc s)->Wp (body s) (Qf Q)):Wp (Loop body aV s0) Q:=by
 refine Wp.count wW l.length (λk s=>acc s=(l.take k).foldl F c0/\I k (acc s)) hm h0 ⟨by rw[hc];rfl,hc▸hI⟩ λk s hk hs hJ=>?_
 rcases Nat.lt_or_ge k l.length with aH|hge
 .refine(step k s aH hs hJ.2).mono λr hr=>?_
  cases r with
  |inl s'=>
   obtain⟨h1,h2,h3⟩:=hr;refine⟨aH,h1,?_,h2▸h3⟩
   grind [aiP]
  |inr x=>exact hr.elim
 .obtain rfl:k=l.length:=by omega
  rw[aiS]at hJ
  refine(fin s hs hJ.1 hJ.2).mono λr hr=>?_
  cases r with
  |inl s'=>exact hr.elim
  |inr x=>exact hr
def W_:type_of% @Classical.not_not/\type_of% @kN/\type_of% @wp_bind/\type_of% @L4/\type_of% @G7/\type_of% @L5/\type_of% @L3/\type_of% @G8/\type_of% @zp/\type_of% @zq/\type_of% @if_true.{1}/\type_of% @if_false.{1}/\type_of% @ite_true.{1}/\type_of% @ite_false.{1}/\type_of% @aiX/\type_of% @Bool.true_eq_false/\type_of% @decide_true/\type_of% @decide_false/\type_of% @decide_eq_decide/\type_of% @true_eq_decide_iff/\type_of% @false_eq_decide_iff/\type_of% @az/\type_of% @decide_eq_false_iff_not/\type_of% @true_implies/\type_of% @false_implies/\type_of% @and_true/\type_of% @true_and/\type_of% @and_false/\type_of% @false_and/\type_of% @or_true/\type_of% @true_or/\type_of% @or_false/\type_of% @false_or/\type_of% @not_true_eq_false/\type_of% @not_false_eq_true/\type_of% @Bool.not_true/\type_of% @Bool.not_false/\type_of% @Bool.not_eq_true/\type_of% @Bool.not_eq_false/\type_of% @Bool.not_eq_eq_eq_not:=
 ⟨@Classical.not_not,@kN,@wp_bind,@L4,@G7,@L5,@L3,@G8,@zp,@zq,@if_true.{1},@if_false.{1},@ite_true.{1},@ite_false.{1},@aiX,@Bool.true_eq_false,@decide_true,@decide_false,@decide_eq_decide,@true_eq_decide_iff,@false_eq_decide_iff,@az,@decide_eq_false_iff_not,@true_implies,@false_implies,@and_true,@true_and,@and_false,@false_and,@or_true,@true_or,@or_false,@false_or,@not_true_eq_false,@not_false_eq_true,@Bool.not_true,@Bool.not_false,@Bool.not_eq_true,@Bool.not_eq_false,@Bool.not_eq_eq_eq_not⟩
end Go.Proofs.YtleifhfeahnocaaGreatDoor
end
namespace Go.Proofs.YtleifhfeahnocaaGreatDoor
open Go Go.RowKit
set_option maxRecDepth 100000
set_option linter.unusedSimpArgs false
set_option linter.unusedVariables false
set_option linter.defProp false
namespace L
abbrev Ty:Type:=aD.den
abbrev eU(l:List Nat):List Int:=l.map (λn:Nat=>(n:Int))
def ar(op:Int):Int:=
 if(1<=op/\op<=9)\/(35<=op/\op<=39)then 0 else if op=10\/op=25\/(31<=op/\op<=34)then 1 else if(11<=op/\op<=24)\/(27<=op/\op<=30)then 2 else if op=26 then 3 else-1
def sX(op:Int):ar op<=3:=by unfold ar;omega
def vG(a:Int)(i:Nat)(sk:List Nat):Nat:=if a=0 then i else sk.getD (sk.length-a.toNat) 0
def k8:List Ty->Nat->List Nat->List Nat->(Nat×Int)⊕(List Nat×List Nat)
 |[],_,st,sk=> .inr (st,sk)
 |n::e,i,st,sk=>
  if ar n.1<0 then .inl (i,2)else if(sk.length:Int)<ar n.1 then .inl (i,5)else
  if 12<sk.length-(ar n.1).toNat+1 then .inl (i,16)else k8 e (i+1) (st++[vG (ar n.1) i sk]) (sk.take (sk.length-(ar n.1).toNat)++[vG (ar n.1) i sk])
def q8(e:List Ty):Int×Int×List Int:=
 if 48<e.length then(0,4,[])else if e.length=0 then(0,5,[])else match k8 e 0 [] []with
  | .inl (i,c)=>(i,c,[])
  | .inr (st,sk)=>if 1<sk.length then(e.length,4,[])else(0,0,eU st)
def oC(t:Ty)(n:Nat):Prop:=(1<=(t.1:Int)/\(t.1:Int)<=5/\(t.2:Int)=0)\/((t.1:Int)=6/\0<=(t.2:Int)/\(t.2:Int)<n)
instance(t:Ty)(n:Nat):Decidable (oC t n):=by unfold oC;infer_instance
def VR(r:Ty):Prop:=0<=(r.1:Int)/\(r.1:Int)<=r.2/\(r.2:Int)<=109573
instance(r:Ty):Decidable (VR r):=by unfold VR;infer_instance
def Kf(a b:Ty):oo aD a b=decide (a=b):=by
 grind [oo]
end L
section
namespace L
abbrev En:Type:=dY.den
abbrev Qg:Type:=bm.den
abbrev Rw:Type:=ki.den
abbrev Fd:Type:=bA.den
abbrev Lw:Type:=bV.den
abbrev iJ:Type:=aM.den
abbrev ue:Type:=da.den
def De(c:Int):M.od aV c=aa (decide (97<=c/\c<=122)):=by
 apply Wp.eq;unfold M.od;simp only[W_,av,ax,reduceCtorEq];omega
def L6(c:Int):M.qj aV c=aa (decide (48<=c/\c<=57)):=by
 apply Wp.eq;unfold M.qj;simp only[W_,av,ax,reduceCtorEq];omega
def OM(c:Int):M.rQ aV c=aa (decide ((97<=c/\c<=122)\/(48<=c/\c<=57)\/c=95)):=by
 apply Wp.eq;unfold M.rQ;simp only[De,L6,W_,av,ax,reduceCtorEq];omega
noncomputable def oY(s:ByteArray):Bool:=(M.k7 aV s).getD ag
def jQ{β:Type}(l:List (ByteArray×β))(nm:ByteArray):Prop:=∃x∈l,x.1=nm
noncomputable instance{β:Type}(l:List (ByteArray×β))(nm:ByteArray):Decidable (jQ l nm):=aiZ _
noncomputable instance(m:ByteArray)(l:List ByteArray):Decidable (m∈l):=aiZ _
def eH{p:Nat->Prop}{k:Nat}(h:∀j,j<k->p j)(hk:p k):∀j,j<k+1->p j:=(by grind)
open Classical in
def cm(t:Ty)(E:List En):M.fI aV t E=aa (decide (oC t E.length)):=by
 obtain⟨(k:Int),(e:Int)⟩:=t;apply Wp.eq;unfold M.fI;simp only[W_,av,ax,reduceCtorEq];simp only[oC];grind
def yo(t:Ty)(E:List En):Int×Int:=
 if¬oC t E.length then(0,-1)else if(t.1:Int)=1 then(0,1)else if(t.1:Int)=2 then(-1000000000000,1000000000000)else if(t.1:Int)=3 then(-1000000000000000,1000000000000000)else if(t.1:Int)=4 then(-1000000000,1000000000)else if(t.1:Int)=5 then(0,109572)
 else(0,aiE.wrap ((((E[(t.2:Int).toNat]?).map λe=>(e.2.length:Int)).getD 0)-1))
def SB(t:Ty)(E:List En):M.pC aV t E=aa (yo t E):=by
 obtain⟨(k:Int),(e:Int)⟩:=t;apply Wp.eq;unfold M.pC yo;simp only[cm,W_,av,ax,reduceCtorEq];by_cases hv:oC (k,e) E.length
 .simp only[hv,not_true_eq_false,if_false,false_implies,true_implies,true_and];refine⟨λh=>by rw[aj h],λh1=>⟨λh=>by rw[ai h1,aj h],λh2=>⟨λh=>by rw[ai h1,ai h2,aj h],λh3=>⟨λh=>by rw[ai h1,ai h2,ai h3,aj h],λh4=>⟨(by grind),λh5=>?_⟩⟩⟩⟩⟩;simp only[oC]at hv;dsimp only[aB,Row.den]at*
  have hi:e.toNat<E.length:=by omega
  refine eQ.2 ⟨by omega,?_⟩
  grind
 grind
def BL(n:Int)(t:Ty)(E:List En):Prop:=(yo t E).1<=n/\n<=(yo t E).2
instance(n:Int)(t:Ty)(E:List En):Decidable (BL n t E):=by unfold BL;infer_instance
def wX(x:Rw)(t:Qg)(E:List En):Prop:=¬VR x.1\/(x.1.1:Int)=x.1.2\/(x.2.2.1:Int)<=x.2.1\/¬BL x.2.1 t.2.1 E\/¬BL (aiE.wrap ((x.2.2.1:Int)-1)) t.2.1 E\/¬BL x.2.2.2 t.2.2.1 E
instance(x:Rw)(t:Qg)(E:List En):Decidable (wX x t E):=by unfold wX;infer_instance
def uS(a b:Rw):Prop:=VR a.1/\VR b.1/\((a.1.1:Int)<a.1.2/\(a.1.1:Int)<b.1.2/\(b.1.1:Int)<a.1.2/\(b.1.1:Int)<b.1.2)/\(a.2.1:Int)<a.2.2.1/\(a.2.1:Int)<b.2.2.1/\(b.2.1:Int)<a.2.2.1/\(b.2.1:Int)<b.2.2.1
instance(a b:Rw):Decidable (uS a b):=by simp only[uS];dsimp only[aB,Row.den]at*;infer_instance
open Classical in
noncomputable def AZ(t:Qg)(E:List En)(k:Nat):Option (Int×Int):=match t.2.2.2[k]? with
 |none=>ae
 |some x=>if wX x t E then aa ((k:Int),3)else if∃y∈t.2.2.2.take k,uS y x then aa ((k:Int),11)else ae
noncomputable def pV(t:Qg)(E:List En):Int×Int:=
 if 64<t.2.2.2.length then(64,4)else if¬(oC t.2.1 E.length/\oC t.2.2.1 E.length)then(-1,8)else(cV (AZ t E) t.2.2.2.length).getD (0,0)
end L
end
namespace L
abbrev rq:Type:=bT.den
theorem aQ(op:Int):M.ox aV op=aa (decide ((1<=op/\op<=8)\/(14<=op/\op<=16)\/op=33\/op=34\/(36<=op/\op<=39))):=by
 apply Wp.eq;unfold M.ox;simp only[W_,av,ax,reduceCtorEq];omega
def aU(k:Int):M.lM aV k=aa (decide (k=2\/k=3\/k=4)):=by
 apply Wp.eq;unfold M.lM;simp only[W_,av,ax,reduceCtorEq];omega
def aR(k:Int):M.iI aV k=aa (decide (k=2\/k=3\/k=4\/k=5)):=by
 apply Wp.eq;unfold M.iI;simp only[aU,W_,av,ax,reduceCtorEq];omega
def bn(k:Int):M.dD aV k=aa ((k,(0:Int)):Ty):=rfl
def Df(op m:Int)(s:rq):Prop:=(1<=op/\op<=5->BL m (op,(0:Int)) s.1)/\(14<=op/\op<=16->0<=m/\m<=5)/\(op=34->0<=m/\ajd m 8<=5)/\(op=6->0<=m)
instance(op m:Int)(s:rq):Decidable (Df op m s):=by unfold Df;infer_instance
def uf(n:Ty)(s:rq):M.lL aV n s=aa (decide (Df n.1 n.2 s)):=by
 obtain⟨(op:Int),(m:Int)⟩:=n;apply Wp.eq;unfold M.lL;simp only[bn,SB,W_,av,ax,reduceCtorEq];unfold Df BL;dsimp only[aB,Row.den]at*;omega
def L7(op m:Int)(s:rq):Prop:=
 (op=6->aiE.wrap (aiQ m 16)<(s.1.length:Int)/\ajd m 16<(((s.1[(aiE.wrap (aiQ m 16)).toNat]?).map λe=>(e.2.length:Int)).getD 0))/\
 (op=7->0<=m/\m<(s.2.2.1.length:Int))/\(op=8->0<=m/\m<(s.2.2.2.1.length:Int))/\(op=33->0<=m/\m<(s.2.1.length:Int))/\(op=34->aiE.wrap (aiQ m 8)<(s.2.1.length:Int))/\
 (35<=op/\op<=39->s.2.2.2.2.2=af)/\(36<=op/\op<=39->0<=m/\m<(s.2.2.2.2.1.length:Int))
instance(op m:Int)(s:rq):Decidable (L7 op m s):=by unfold L7;infer_instance
theorem G9{m k:Int}(h0:0<=m)(h1:m<=9223372036854775807)(hk:0<k):0<=aiE.wrap (aiQ m k):=by
 have h2:0<=aiQ m k:=Int.tdiv_nonneg h0 (by omega)
 have h3:aiQ m k<=m:=by rw[Int.tdiv_eq_ediv_of_nonneg h0];exact Int.ediv_le_self _ h0
 grind [aX]
def L8(n:Ty)(s:rq)(hm:(n.2:Int)<=9223372036854775807)(hr:Df n.1 n.2 s):M.bE aV n s=aa (decide (L7 n.1 n.2 s)):=by
 obtain⟨(op:Int),(m:Int)⟩:=n;apply Wp.eq;unfold M.bE;simp only[W_,av,ax,reduceCtorEq];unfold L7;unfold Df at hr;dsimp only[aB,Row.den]at*;refine⟨λh6=>⟨λh=>?_,λh=>?_⟩,λh6=>?_⟩
 .have h0:=G9 (k:=16) (hr.2.2.2 h6) hm (by omega);refine eQ.2 ⟨⟨h0,h⟩,?_⟩
  grind
 .grind
 simp only[h6,W_,av,ax,reduceCtorEq]
 cases h5:s.2.2.2.2.2<;>simp only[imp_false,W_,av,ax,reduceCtorEq]<;>omega
def L9{op m:Int}{s:rq}(hf:L7 op m s):Wp (M.cy aV (op,m) s) λ_=>True:=by
 unfold M.cy;simp only[bn,aR,cm,W_,av,ax,reduceCtorEq];unfold L7 at hf;dsimp only[aB,Row.den]at*
 refine λh6=>⟨λh7=>?_,λh7=>⟨λh8=>?_,λh8=>λh9 h35=>?_⟩⟩
 .exact eQ.2 ⟨hf.2.1 h7,trivial⟩
 .grind [eQ]
 .by_cases h:36<=op/\op<=39
  .have:Wp (idx s.2.2.2.2.1 m) λ_=>True:=eQ.2 ⟨hf.2.2.2.2.2.2 h,trivial⟩
   grind
  grind
def Fy{op m:Int}{a:Ty}{s:rq}(hm:m<=9223372036854775807)(h1:ar op=1)(hr:Df op m s)(hf:L7 op m s):Wp (M.dz aV (op,m) a s) λ_=>True:=by
 have sN:op=10\/op=25\/(31<=op/\op<=34):=by
  clear hr hf;unfold ar at h1;omega
 unfold M.dz;simp only[bn,aU,cm,W_,av,ax,reduceCtorEq];unfold L7 at hf;unfold Df at hr;dsimp only[aB,Row.den]at*
 grind [eQ,G9]
def Fz(op a b:Int):Wp (M.lN aV op a b) λ_=>True:=by
 unfold M.lN;simp only[bn,W_,av,ax,reduceCtorEq]
def FA(op:Int)(a b:Ty):Wp (M.im aV op a b) λ_=>True:=by
 obtain⟨r,e,_⟩:=Fz op a.1 b.1;unfold M.im
 repeat' first|exact Wp.some trivial|exact⟨_,aU _,trivial⟩|exact⟨_,aR _,trivial⟩|exact⟨_,bn _,trivial⟩|exact⟨_,e,trivial⟩|refine Wp.seq (λ_=>True) ?_ λ_ _=>?_|refine Wp.dec (λ_=>?_) λ_=>?_|refine Wp.ite (λ_=>?_) λ_=>?_
noncomputable def Ha(n:Ty)(l:List Ty)(s:rq):Ty×Int:=(M.aZ aV n l s).getD (((0:Int),(0:Int)),(0:Int))
def Ma{n:Ty}{l:List Ty}{s:rq}(hw:WF aD n)(hl:(l.length:Int)=ar n.1):M.aZ aV n l s=aa (Ha n l s):=by
 refine(Wp.getD (Q:=λ_=>True) ?_ _).1;have hm:(n.2:Int)<=9223372036854775807:=hw.2.2;have h3:=sX n.1
 have key:Wp (M.lL aV n s) λx=>x=af->Wp (M.bE aV n s) λx=>x=af->((l.length:Int)=0->Wp (M.cy aV n s) λ_=>True)/\(¬(l.length:Int)=0->((l.length:Int)=1->Wp (idx l 0) λx=>Wp (M.dz aV n x s) λ_=>True)/\
  (¬(l.length:Int)=1->((l.length:Int)=2->Wp (idx l 0) λx=>Wp (idx l 1) λx_1=>Wp (M.im aV n.1 x x_1) λ_=>True)/\(¬(l.length:Int)=2->Wp (idx l 1) λ_=>Wp (idx l 0) λx=>(x.1:Int)=1->Wp (idx l 1) λ_=>Wp (idx l 2) λ_=>True))):=by
  rw[uf]
  refine .some λhr=>?_
  have hr:Df n.1 n.2 s:=an hr;rw[L8 n s hm hr]
  refine .some λhf=>?_
  have hf:L7 n.1 n.2 s:=an hf;exact⟨λ_=>L9 hf,λh0=>⟨λh1=>eQ.2 ⟨by omega,Fy hm (by omega) hr hf⟩,λh1=>⟨λh2=>eQ.2 ⟨by omega,eQ.2 ⟨by omega,FA ..⟩⟩,λh2=>eQ.2 ⟨by omega,eQ.2 ⟨by omega,λ_=>eQ.2 ⟨by omega,eQ.2 ⟨by omega,trivial⟩⟩⟩⟩⟩⟩⟩
 unfold M.aZ;simp only[aQ,W_,av,ax,reduceCtorEq]
 grind
noncomputable def nL(s:rq):List Ty->Nat->List Ty->(Nat×Int)⊕List Ty
 |[],_,nw=> .inr nw
 |n::e,i,nw=>
  if(Ha n (nw.drop (nw.length-(ar n.1).toNat)) s).2≠0 then .inl (i,(Ha n (nw.drop (nw.length-(ar n.1).toNat)) s).2)
  else nL s e (i+1) (nw.take (nw.length-(ar n.1).toNat)++[(Ha n (nw.drop (nw.length-(ar n.1).toNat)) s).1])
noncomputable def Kg(e:List Ty)(s:rq):Ty×Int×Int:=
 if(q8 e).2.1≠0 then(((0:Int),(0:Int)),(q8 e).1,(q8 e).2.1)else match nL s e 0 []with
  | .inl (i,c)=>(((0:Int),(0:Int)),(i:Int),c)
  | .inr nw=>(nw.headD ((0:Int),(0:Int)),0,0)
def ON{e:List Ty}(h:(q8 e).2.1=0):e.length<=48/\e≠[]/\∃st sk,k8 e 0 [] []= .inr (st,sk):=by
 unfold q8 at h;split at h
 .cases h
 split at h
 .cases h
 rename_i h1 h2;refine⟨by omega,λe=>h2 (by rw[e];rfl),?_⟩;split at h
 .rename_i c hc;exfalso
  have:∀(e:List Ty)(i:Nat)(st sk:List Nat)(j:Nat),k8 e i st sk≠ .inl (j,0):=by
   intro e
   induction e with
   |nil=>intro i st sk j h;cases h
   |cons n e ih=>
    grind [k8]
  grind
 grind
end L
namespace L
def ins(n:Int):List Int->List Int
 |[]=>[n]
 |x::l=>if x<n then x::ins n l else if x=n then x::l else n::x::l
def Mb(n x:Int)(l:List Int):ins n (x::l)=if x<n then x::ins n l else if x=n then x::l else n::x::l:=rfl
theorem oe{n y:Int}:∀{l:List Int},y∈ins n l↔y=n\/y∈l
 |[]=>by simp[ins]
 |x::l=>by
  unfold ins;split
  .rw[aju,oe,aju]
   grind
  grind
def pD(p:Int->Bool)(e:List Ty):List Int:=e.foldl (λl n=>if p n.1=af then ins n.2 l else l) []
def uT(op:Int):Bool:=decide (op=8)
def ug(n:Nat)(l:List Int):Prop:=l.Pairwise (· < ·)/\∀x∈l,0<=x/\x<(n:Int)
def ug.nil{n:Nat}:ug n []:=⟨.nil,λ_ h=>by cases h⟩
def SC{l:List Int}:∀{a b:Int},l.Pairwise (· < ·)->(∀x∈l,a<=x/\x<b)->(l.length:Int)<=max 0 (b-a):=by
 induction l with
 |nil=>grind
 |cons x l ih=>
  intro a b hp hb;obtain⟨h1,h2⟩:=ajL.1 hp;have hx:=hb x (List.mem_cons_self ..);have:=ih (a:=x+1) (b:=b) h2 (by grind)
  grind
theorem ug.len{n:Nat}{l:List Int}(h:ug n l):l.length<=n:=by
 have:=SC h.1 h.2;omega
def FB{n:Int}:∀{l:List Int},l.Pairwise (· < ·)->(ins n l).Pairwise (· < ·)
 |[],_=>List.pairwise_singleton ..
 |x::l,h=>by
  obtain⟨h1,h2⟩:=ajL.1 h;rw[Mb];split
  .exact ajL.2 ⟨λy hy=>by grind [oe],FB h2⟩
  grind [ajL]
theorem ug.ins{n:Nat}{x:Int}{l:List Int}(h:ug n l)(hx:0<=x/\x<(n:Int)):ug n (ins x l):=
 ⟨FB h.1,λy hy=>by rcases oe.1 hy with rfl|hy;exact hx;exact h.2 y hy⟩
def oZ(n:Nat)(out l:List Int):List Int:=l.foldl (λo x=>if 0<=x/\x<(n:Int)then ins x o else o) out
theorem ug.oZ{n:Nat}:∀{l out:List Int},ug n out->ug n (oZ n out l)
 |[],_,h=>h
 |x::l,out,h=>by
  show ug n (L.oZ n (if 0<=x/\x<(n:Int)then L.ins x out else out) l)
  refine ug.oZ ?_;split
  .exact h.ins ‹_›
  .exact h
def oy(s:iJ)(d:Int):List Int:=
 if 0<=d/\d<(s.2.2.2.1.length:Int)then s.2.2.2.2.foldl (λout r=>if(r.2.1:Int)=d then oZ s.2.2.2.1.length (oZ s.2.2.2.1.length out (pD uT r.2.2.2.2.2.1)) (pD uT r.2.2.2.2.2.2.1)else out) []else[]
def nM(s:iJ)(d:Int):ug s.2.2.2.1.length (oy s d):=by
 unfold oy;split
 .suffices∀(rs:List ue)(out:List Int),ug s.2.2.2.1.length out->ug s.2.2.2.1.length (rs.foldl (λout r=>if(r.2.1:Int)=d then oZ s.2.2.2.1.length (oZ s.2.2.2.1.length out (pD uT r.2.2.2.2.2.1)) (pD uT r.2.2.2.2.2.2.1)else out) out)from this _ _ .nil
  intro rs
  induction rs with
  |nil=>grind
  |cons r rs ih=>
   grind [ug.oZ]
 .exact .nil
def stepT(s:iJ)(out:List Int):List Int:=out.foldl (λo x=>(oy s x).foldl (λo y=>ins y o) o) out
def lY(s:iJ):Nat->List Int->List Int
 |0,out=>out
 |n+1,out=>stepT s (lY s n out)
def Kh(s:iJ)(d:Int):List Int:=lY s s.2.2.2.1.length (oy s d)
def ug.Mc{n:Nat}:∀{l out:List Int},(∀x∈l,0<=x/\x<(n:Int))->ug n out->ug n (l.foldl (λo y=>L.ins y o) out)
 |[],_,_,h=>h
 |x::l,out,hx,h=>ug.Mc (l:=l) (out:=L.ins x out) (by grind) (h.ins (hx x (List.mem_cons_self ..)))
def qW(s:iJ){out:List Int}(h:ug s.2.2.2.1.length out):ug s.2.2.2.1.length (stepT s out):=by
 unfold stepT
 suffices∀(l o:List Int),ug s.2.2.2.1.length o->ug s.2.2.2.1.length (l.foldl (λo x=>(oy s x).foldl (λo y=>ins y o) o) o)from this _ _ h
 intro l
 induction l with
 |nil=>grind
 |cons x l ih=>intro o h;exact ih _ (h.Mc (nM s x).2)
end L
namespace L
def iq(s:iJ):Prop:=s.1.size<=80/\s.2.2.1.length<=14/\s.2.2.2.1.length<=14/\s.2.2.2.2.length<=60/\(∀f∈s.2.2.1,f.1.size<=80)/\(∀f∈s.2.2.2.1,f.1.size<=80)/\∀r∈s.2.2.2.2,r.1.size<=80/\r.2.2.2.2.2.2.2.size<=80/\r.2.2.2.2.2.1.length<=50/\r.2.2.2.2.2.2.1.length<=50
def ei(l:Lw):Prop:=l.1.length<=9/\l.2.1.length<=9/\l.2.2.length<=5/\(∀e∈l.1,e.1.size<=80/\e.2.length<=20/\∀m∈e.2,m.size<=80)/\(∀t∈l.2.1,t.1.size<=80)/\∀s∈l.2.2,iq s
def rS{α:Type}{l:List α}{p:α->Prop}(h:∀j,j<l.length->∀h:j<l.length,p l[j]):∀x∈l,p x:=λx hx=>by
 grind [aiR]
def Jm(s:iJ)(hw:WF aM s):Wp (M.kA aV s) λr=>r=af->iq s:=by
 have w1:=hw.2.2.1.1;have w2:=hw.2.2.2.1.1;have w3:=hw.2.2.2.2.1;unfold maxLen at w1 w2 w3;unfold M.kA;simp only[W_,av,ax,reduceCtorEq]
 refine λh1 h2 h3 h4=>?_
 refine Wp.count (λs=>s) s.2.2.1.length (λk _=>∀j,j<k->∀h:j<s.2.2.1.length,(s.2.2.1[j].1:ByteArray).size<=80) w1 rfl (λj hj=>by omega) λk c hk hs hA=>?_
 obtain rfl:c=_:=hs;simp only[W_,av,ax,reduceCtorEq,bg,aY];refine⟨λaH=>?_,λhge=>?_⟩
 .have aH:k<s.2.2.1.length:=by omega
  simp only[aF aH,cN w1 aH,W_,av,ax,reduceCtorEq]
  grind
 have hA:=λj(hj:j<s.2.2.1.length)=>hA j (by omega)
 refine Wp.count (λs=>s) s.2.2.2.1.length (λk _=>∀j,j<k->∀h:j<s.2.2.2.1.length,(s.2.2.2.1[j].1:ByteArray).size<=80) w2 rfl (λj hj=>by omega) λk c hk hs hB=>?_
 obtain rfl:c=_:=hs;simp only[W_,av,ax,reduceCtorEq,bg,aY];refine⟨λaH=>?_,λhge=>?_⟩
 .have aH:k<s.2.2.2.1.length:=by omega
  simp only[aF aH,cN w2 aH,W_,av,ax,reduceCtorEq]
  grind
 have hB:=λj(hj:j<s.2.2.2.1.length)=>hB j (by omega)
 refine Wp.count (λs=>s) s.2.2.2.2.length (λk _=>∀j,j<k->∀h:j<s.2.2.2.2.length,(s.2.2.2.2[j].1:ByteArray).size<=80/\(s.2.2.2.2[j].2.2.2.2.2.2.2:ByteArray).size<=80/\s.2.2.2.2[j].2.2.2.2.2.1.length<=50/\s.2.2.2.2[j].2.2.2.2.2.2.1.length<=50) w3 rfl (λj hj=>by omega) λk c hk hs hC=>?_
 obtain rfl:c=_:=hs;simp only[W_,av,ax,reduceCtorEq,bg,aY];refine⟨λaH=>?_,λhge=>?_⟩
 .have aH:k<s.2.2.2.2.length:=by omega
  simp only[aF aH,cN w3 aH,W_,av,ax,reduceCtorEq]
  exact λh1 h2 h3 h4=>⟨aH,eH hC (by omega)⟩
 exact⟨by omega,by omega,by omega,by omega,rS hA,rS hB,rS λj hj=>hC j (by omega)⟩
def zt(l:Lw)(hw:WF bV l):Wp (M.iH aV l) λr=>r=af->ei l:=by
 have w1:=hw.1.1;have w2:=hw.2.1.1;have w3:=hw.2.2.1;unfold maxLen at w1 w2 w3;unfold M.iH;simp only[W_,av,ax,reduceCtorEq]
 refine λh1 h2 h3=>?_
 refine Wp.count (λs=>s) l.1.length (λk _=>∀j,j<k->∀h:j<l.1.length,(l.1[j].1:ByteArray).size<=80/\l.1[j].2.length<=20/\∀m∈l.1[j].2,ByteArray.size m<=80) w1 rfl (λj hj=>by omega) λk c hk hs hA=>?_
 obtain rfl:c=_:=hs;simp only[W_,av,ax,reduceCtorEq,bg,aY];refine⟨λaH=>?_,λhge=>?_⟩
 .have aH:k<l.1.length:=by omega
  simp only[aF aH,cN w1 aH,W_,av,ax,reduceCtorEq]
  refine λg1 g2=>?_
  refine Wp.count (λs=>s) l.1[k].2.length (λi _=>∀j,j<i->∀h:j<l.1[k].2.length,ByteArray.size l.1[k].2[j]<=80) (by omega) rfl (λj hj=>by omega) λi c hi hs hB=>?_
  obtain rfl:c=_:=hs;simp only[W_,av,ax,reduceCtorEq,bg,aY];refine⟨λwY=>?_,λwY=>⟨aH,eH hA λ_=>⟨by omega,by omega,rS λj hj=>hB j (by omega)⟩⟩⟩
  have wY:i<l.1[k].2.length:=by omega
  simp only[aF wY,cN (m:=l.1[k].2.length) (by omega) wY,W_,av,ax,reduceCtorEq]
  grind
 have hA:=λj(hj:j<l.1.length)=>hA j (by omega)
 refine Wp.count (λs=>s.2) l.2.1.length (λk _=>∀j,j<k->∀h:j<l.2.1.length,(l.2.1[j].1:ByteArray).size<=80) w2 rfl (λj hj=>by omega) λk c hk hs hB=>?_
 obtain⟨c1,c2⟩:=c;dsimp only at hs;subst hs;simp only[W_,av,ax,reduceCtorEq,bg,aY];refine⟨λaH=>?_,λhge=>?_⟩
 .have aH:k<l.2.1.length:=by omega
  simp only[aF aH,cN w2 aH,W_,av,ax,reduceCtorEq]
  grind
 have hB:=λj(hj:j<l.2.1.length)=>hB j (by omega)
 refine Wp.count (λs=>s.2) l.2.2.length (λk _=>∀j,j<k->∀h:j<l.2.2.length,iq l.2.2[j]) w3 rfl (λj hj=>by omega) λk c hk hs hC=>?_
 obtain⟨c1,c2⟩:=c;dsimp only at hs;subst hs;simp only[W_,av,ax,reduceCtorEq,bg,aY];refine⟨λaH=>?_,λhge=>?_⟩
 .have aH:k<l.2.2.length:=by omega
  simp only[aF aH,cN w3 aH,W_,av,ax,reduceCtorEq]
  refine λh=>(Jm _ (hw.2.2.2 _ (aiJ aH))).mono (by grind)
 exact⟨by omega,by omega,by omega,rS hA,rS hB,rS λj hj=>hC j (by omega)⟩
abbrev LE:Type:=aC.den
def Md:LE:=((0:Int),((0:Int),((0:Int),(0:Int))))
def sY(sec:Int)(k:Int):Option (Int×Int)->LE
 |none=>Md
 |some (c,e)=>(c,(sec,(k,e)))
noncomputable def Me(ms:List ByteArray)(i:Nat):Option (Int×Int):=match ms[i]? with
 |none=>ae
 |some m=>if oY m=ag then aa (2,100+(i:Int))else if m∈ms.take i then aa (7,100+(i:Int))else ae
noncomputable def ql(l:Lw)(k:Nat):Option (Int×Int):=match l.1[k]? with
 |none=>ae
 |some x=>if oY x.1=ag then aa (2,0)else if jQ (l.1.take k) x.1 then aa (7,0)else if x.2.length=0 then aa (5,0)else if 16<x.2.length then aa (4,116)else cV (Me x.2) x.2.length
def sZ{k:Nat}{a:Int}(h:k<=100000)(ha:0<=a/\a<=1000):aiE.wrap (a+(k:Int))=a+(k:Int):=aX (by omega) (by omega)
end L
namespace L
noncomputable def s6(l:Lw)(k:Nat):Option (Int×Int):=match l.2.1[k]? with
 |none=>ae
 |some x=>if oY x.1=ag then aa (2,0)else if jQ l.1 x.1\/jQ (l.2.1.take k) x.1 then aa (7,0)else if(pV x l.1).2=0 then ae else aa ((pV x l.1).2,if 0<=(pV x l.1).1 then 100+(pV x l.1).1 else 0)
noncomputable def Mf(l:Lw)(x:iJ)(i:Nat):Option (Int×Int):=match x.2.2.1[i]? with
 |none=>ae
 |some f=>if oY f.1=ag then aa (2,100+(i:Int))else if jQ (x.2.2.1.take i) f.1 then aa (7,100+(i:Int))else if¬oC f.2 l.1.length then aa (8,100+(i:Int))else ae
noncomputable def Mg(l:Lw)(x:iJ)(i:Nat):Option (Int×Int):=match x.2.2.2.1[i]? with
 |none=>ae
 |some f=>if oY f.1=ag then aa (2,200+(i:Int))else if jQ x.2.2.1 f.1\/jQ (x.2.2.2.1.take i) f.1 then aa (7,200+(i:Int))else if¬oC f.2 l.1.length then aa (8,200+(i:Int))else ae
noncomputable def Jn(l:Lw)(x:iJ):Option (Int×Int):=(cV (Mf l x) x.2.2.1.length).or (cV (Mg l x) x.2.2.2.1.length)
def plain(s:ByteArray):Prop:=(∀i,∀h:i<s.size,32<=(s[i].toNat:Int)/\(s[i].toNat:Int)<=126/\(s[i].toNat:Int)≠34)/\s.size<=64
noncomputable instance(s:ByteArray):Decidable (plain s):=aiZ _
def wZ(f:List Fd)(hf:f.length<=100000):M.gM aV f=aa (f.map (·.2)):=by
 apply Wp.eq;unfold M.gM
 refine Wp.fold (λs=>s.1) (λs=>s.2) f (λ(o:List Ty)x=>o++[x.2]) [] (λk c=>c.length<=k) (by omega) rfl rfl (aiM _) (λk s aH hs hI=>?_) λs hs hc hI=>?_
 .obtain⟨i,o⟩:=s;dsimp only at hs hI;subst hs;simp only[Fx aH,aF aH,cN (m:=f.length) (by omega) aH,W_,av,ax,reduceCtorEq,Jk]
  grind [nK]
 .obtain⟨i,o⟩:=s;dsimp only at hs hc;subst hs;simp only[oX,W_,av,ax,reduceCtorEq,Jl];rw[hc]
  have:∀(f:List Fd)(o:List Ty),f.foldl (λ(o:List Ty)x=>o++[x.2]) o=o++f.map (·.2):=by
   intro f
   induction f with
   |nil=>intro o;simp
   |cons x f ih=>grind
  rw[this];rfl
def gn(l:Lw)(x:iJ):rq:=(l.1,(l.2.1,(x.2.2.1.map (·.2),(x.2.2.2.1.map (·.2),(match l.2.2[(x.2.1:Int).toNat]? with
 |some y=>if 0<=(x.2.1:Int)then y.2.2.2.1.map (·.2)else[]
 |none=>[],decide (0<=(x.2.1:Int)/\(x.2.1:Int)<(l.2.2.length:Int)))))))
def OO(l:Lw)(k:Nat)(hk:k<l.2.2.length)(hs:∀s∈l.2.2,s.2.2.1.length<=100000/\s.2.2.2.1.length<=100000):M.mS aV l (k:Int)=aa ((gn l l.2.2[k]).1,(gn l l.2.2[k]).2.1,(gn l l.2.2[k]).2.2.2.2.2,(gn l l.2.2[k]).2.2.1,(gn l l.2.2[k]).2.2.2.1,(gn l l.2.2[k]).2.2.2.2.1):=by
 apply Wp.eq;unfold M.mS;have h1:=hs _ (aiJ hk);simp only[show¬(k:Int)<0 by omega,show¬(l.2.2.length:Int)<=(k:Int) by omega,aF hk,wZ _ h1.1,wZ _ h1.2,W_,av,ax,reduceCtorEq];unfold gn;generalize l.2.2[k]=x at*;obtain⟨x1,(x2:Int),x3,x4,x5⟩:=x;dsimp only[aB,Row.den]at*;refine⟨λh=>⟨λh'=>?_,λh'=>?_⟩,λh=>?_⟩
 .refine eQ.2 ⟨by omega,?_⟩
  have hi:x2.toNat<l.2.2.length:=by omega
  simp only[wZ _ (hs _ (aiJ hi)).2,W_,av,ax,reduceCtorEq,aiG hi,h,h',if_true]
 .rw[List.getElem?_eq_none (by omega)];simp only[h',W_,av,ax,reduceCtorEq]
 .simp only[h,W_,av,ax,reduceCtorEq]
  split<;>rfl
end L
namespace L
noncomputable def w4(e:List Ty)(s:rq)(want:Ty):Int:=if(Kg e s).2.2≠0 then(Kg e s).2.2 else if(Kg e s).1≠want then 8 else 0
def OP(x:iJ)(k:Nat)(d:Int):Nat:=(x.2.2.2.2.take k).countP λr=>decide ((r.2.1:Int)=d)
def w5(x:iJ)(k:Nat)(r:ue):Prop:=(r.2.2.1:Int)≠-1/\((r.2.2.1:Int)<0\/(k:Int)<=r.2.2.1\/∃y,x.2.2.2.2[(r.2.2.1:Int).toNat]? =aa y/\(y.2.1:Int)≠r.2.1)
noncomputable instance(x:iJ)(k:Nat)(r:ue):Decidable (w5 x k r):=aiZ _
noncomputable def w6(l:Lw)(x:iJ)(k:Nat)(r:ue):Int:=
 if oY r.1=ag then 2 else if jQ (x.2.2.2.2.take k) r.1 then 7 else if¬(0<=(r.2.1:Int)/\(r.2.1:Int)<(x.2.2.2.1.length:Int))then 6 else if w5 x k r then 9 else
 if(r.2.2.2.1:Int)<0\/9<(r.2.2.2.1:Int)\/¬VR r.2.2.2.2.1\/(r.2.2.2.2.1.1:Int)=r.2.2.2.2.1.2 then 3 else if 8<=OP x k r.2.1 then 4 else if¬plain r.2.2.2.2.2.2.2 then 2 else
 if 0<r.2.2.2.2.2.1.length/\w4 r.2.2.2.2.2.1 (gn l x) ((1:Int),(0:Int))≠0 then w4 r.2.2.2.2.2.1 (gn l x) ((1:Int),(0:Int))else
 match x.2.2.2.1[(r.2.1:Int).toNat]? with
 |some d=>w4 r.2.2.2.2.2.2.1 (gn l x) d.2
 |none=>0
noncomputable def FC(l:Lw)(x:iJ)(k:Nat):Option (Int×Int):=match x.2.2.2.2[k]? with
 |none=>ae
 |some r=>if w6 l x k r≠0 then aa (w6 l x k r,300+(k:Int))else ae
noncomputable def Jo(x:iJ)(d:Nat):Option (Int×Int):=if(d:Int)∈Kh x d then aa (9,200+(d:Int))else ae
def qm(l:Lw)(k:Nat)(x:iJ):Prop:=(x.2.1:Int)≠-1/\((x.2.1:Int)<0\/(k:Int)<=x.2.1\/∃y,l.2.2[(x.2.1:Int).toNat]? =aa y/\(y.2.1:Int)≠-1)
noncomputable instance(l:Lw)(k:Nat)(x:iJ):Decidable (qm l k x):=aiZ _
noncomputable def vo(l:Lw)(k:Nat):Option (Int×Int):=match l.2.2[k]? with
 |none=>ae
 |some x=>
  if oY x.1=ag then aa (2,0)else if jQ l.1 x.1\/jQ l.2.1 x.1\/jQ (l.2.2.take k) x.1 then aa (7,0)else if qm l k x then aa (6,0)else
  if 12<x.2.2.1.length then aa (4,112)else if 12<x.2.2.2.1.length then aa (4,212)else((Jn l x).or (cV (FC l x) x.2.2.2.2.length)).or (cV (Jo x) x.2.2.2.1.length)
theorem Mh{l:Lw}{x:iJ}{e:Int×Int}(h:Jn l x=aa e):e.1≠0:=by
 grind [fe,Jn,Mf,Mg,Option.or_eq_some_iff]
def OQ(x:iJ)(d:Int):ug x.2.2.2.1.length (Kh x d):=by
 have:∀m,ug x.2.2.2.1.length (lY x m (oy x d)):=λm=>by
  induction m with
  |zero=>exact nM x d
  |succ m ih=>exact qW x ih
 exact this _
noncomputable def A4(l:Lw):LE:=
 if 8<l.1.length then((4:Int),((1:Int),((8:Int),(0:Int))))else match cV (λk=>(ql l k).map λe=>(k,e)) l.1.length with
 |some (k,e)=>sY 1 (k:Int) (aa e)
 |none=>if 8<l.2.1.length then((4:Int),((2:Int),((8:Int),(0:Int))))else match cV (λk=>(s6 l k).map λe=>(k,e)) l.2.1.length with
  |some (k,e)=>sY 2 (k:Int) (aa e)
  |none=>if 4<l.2.2.length then((4:Int),((3:Int),((4:Int),(0:Int))))else match cV (λk=>(vo l k).map λe=>(k,e)) l.2.2.length with
   |some (k,e)=>sY 3 (k:Int) (aa e)
   |none=>Md
theorem rT{f:Nat->Option (Int×Int)}(hf:∀i e,f i=aa e->e.1≠0){m:Nat}{e:Int×Int}(h:cV f m=aa e):e.1≠0:=by
 grind [fe]
theorem uh{l:Lw}{k:Nat}{e:Int×Int}(h:ql l k=aa e):e.1≠0:=by
 grind [ql,rT,Me]
def Dg{l:Lw}{k:Nat}{e:Int×Int}(h:s6 l k=aa e):e.1≠0:=by
 grind [s6]
theorem Dh{l:Lw}{k:Nat}{e:Int×Int}(h:vo l k=aa e):e.1≠0:=by
 unfold vo at h
 repeat' split at h
 all_goals first|cases h|skip
 all_goals first|simp;done|skip
 rcases Option.or_eq_some_iff.1 h with h|⟨_,h⟩
 .rcases Option.or_eq_some_iff.1 h with h|⟨_,h⟩
  all_goals grind [Mh,rT,FC]
 grind [rT,Jo]
def SD{f:Nat->Option (Int×Int)}{k:Nat}{e:Int×Int}(h:f k=aa e):(λk=>(f k).map λe=>(k,e)) k=aa (k,e):=by simp[h]
def Valid(l:Lw):Prop:=(A4 l).1=0
def Valid.scopes{l:Lw}(h:Valid l):l.1.length<=8/\l.2.1.length<=8/\l.2.2.length<=4/\(∀k,k<l.1.length->ql l k=ae)/\(∀k,k<l.2.1.length->s6 l k=ae)/\∀k,k<l.2.2.length->vo l k=ae:=by
 unfold Valid A4 at h;split at h
 .cases h
 split at h
 .rename_i k e hf;obtain⟨j,_,hj,_⟩:=fe hf;obtain⟨e',he',h2⟩:=Option.map_eq_some_iff.1 hj;cases h2;exact absurd h (uh he')
 rename_i hA;split at h
 .cases h
 split at h
 .rename_i k e hf;obtain⟨j,_,hj,_⟩:=fe hf;obtain⟨e',he',h2⟩:=Option.map_eq_some_iff.1 hj;cases h2;exact absurd h (Dg he')
 rename_i hB;split at h
 .cases h
 split at h
 .rename_i k e hf;obtain⟨j,_,hj,_⟩:=fe hf;obtain⟨e',he',h2⟩:=Option.map_eq_some_iff.1 hj;cases h2;exact absurd h (Dh he')
 rename_i hC;exact⟨by omega,by omega,by omega,λk hk=>by simpa using cr.1 hA k hk,λk hk=>by simpa using cr.1 hB k hk,λk hk=>by simpa using cr.1 hC k hk⟩
def Valid.scope{l:Lw}(h:Valid l)(k:Nat)(hk:k<l.2.2.length):oY l.2.2[k].1=af/\¬jQ (l.2.2.take k) l.2.2[k].1/\¬qm l k l.2.2[k]/\l.2.2[k].2.2.1.length<=12/\l.2.2[k].2.2.2.1.length<=12/\Jn l l.2.2[k]=ae/\
 (∀i,∀hi:i<l.2.2[k].2.2.2.2.length,w6 l l.2.2[k] i l.2.2[k].2.2.2.2[i]=0)/\∀d:Nat,d<l.2.2[k].2.2.2.1.length->¬(d:Int)∈Kh l.2.2[k] d:=by
 have h:=h.scopes.2.2.2.2.2 k hk;unfold vo at h;rw[aiG hk]at h
 grind [cr,FC,Jo]
end L
namespace L
def fE{α:Type}(p:α->Bool)(l:List α):Int:=if l.findIdx p<l.length then((l.findIdx p:Nat):Int)else-1
def A5{α:Type}{p:α->Bool}{l:List α}{k:Nat}(hk:k<l.length)(hp:p l[k]=af)(hn:∀j,j<k->∀h:j<l.length,p l[j]=ag):fE p l=(k:Int):=by
 grind [fE]
def zu{α:Type}{p:α->Bool}{l:List α}(hn:∀j,∀h:j<l.length,p l[j]=ag):fE p l= -1:=by
 grind [fE]
theorem og{α:Type}{p:α->Bool}{l:List α}:0<=fE p l↔∃x∈l,p x=af:=by
 grind [fE]
def w7{α Y:Type}{l:List α}{y:Y}{p:α->Bool}{body:Int×Y->Option ((Int×Y)⊕(Int×Y))}(hl:l.length<=maxLen)
 (hb:∀k,∀h:k<l.length,body ((k:Int),y)=if p l[k]=af then aa (.inr ((k:Int),y))else aa (.inl (aiE.wrap ((k:Int)+1),y)))
 (he:body ((l.length:Int),y)=aa (.inr ((-1:Int),y))):Loop body aV ((0:Int),y)=aa (fE p l,y):=by
 apply Wp.eq
 refine Wp.count (λs=>s.1) l.length (λk s=>s.2=y/\∀j,j<k->∀h:j<l.length,p l[j]=ag) hl rfl ⟨rfl,λj hj=>by omega⟩ λk c hk hs hJ=>?_
 obtain⟨c1,c2⟩:=c;obtain⟨h1,hJ⟩:=hJ;obtain rfl:c2=y:=h1;obtain rfl:c1=_:=hs
 rcases Nat.lt_or_ge k l.length with aH|hge
 .rw[hb k aH];simp only[W_,av,ax,reduceCtorEq,bg,aY,cN hl aH];exact⟨λh=>by rw[A5 aH h hJ],(by grind)⟩
 .obtain rfl:k=l.length:=by omega
  rw[he];simp only[W_,av,ax,reduceCtorEq,aY];rw[zu λj h=>hJ j h h]
def Hb{α:Type}{l:List α}{p:α->Bool}{body:Int->Option (Int⊕Int)}(hl:l.length<=maxLen)
 (hb:∀k,∀h:k<l.length,body (k:Int)=if p l[k]=af then aa (.inr (k:Int))else aa (.inl (aiE.wrap ((k:Int)+1))))
 (he:body (l.length:Int)=aa (.inr (-1:Int))):Loop body aV (0:Int)=aa (fE p l):=by
 apply Wp.eq
 refine Wp.count (λs=>s) l.length (λk _=>∀j,j<k->∀h:j<l.length,p l[j]=ag) hl rfl (λj hj=>by omega) λk c hk hs hJ=>?_
 obtain rfl:c=_:=hs
 rcases Nat.lt_or_ge k l.length with aH|hge
 .rw[hb k aH];simp only[W_,av,ax,reduceCtorEq,bg,aY,cN hl aH];exact⟨λh=>by rw[A5 aH h hJ],(by grind)⟩
 .obtain rfl:k=l.length:=by omega
  rw[he];simp only[W_,av,ax,reduceCtorEq,aY];rw[zu λj h=>hJ j h h]
def w8(r:Row)(x:r.den):oo r x x=af:=by unfold oo;simp
def w9{m:Nat}{body:Int->Option (Int⊕Bool)}(hm:m<=1048576)(hb:∀k,k<m->body (k:Int)=aa (.inl (aiE.wrap ((k:Int)+1))))(he:body (m:Int)=aa (.inr af)):Loop body aV (0:Int)=aa af:=by
 refine AY (λk=>(k:Int)) m _ (by simp) (λk hk=>?_) he (by unfold aV;omega);rw[hb k hk,cN (m:=m) (by omega) hk]
end L
end Go.Proofs.YtleifhfeahnocaaGreatDoor
