/- Joined texts: ModelA ModelZ Plain Wq PD RA RB RC RD RE RF RI. -/
import Derived.Test.YtleifhfeahnocaaGreatDoorU9
import Derived.Test.YtleifhfeahnocaaGreatDoorU1
import Derived.Test.YtleifhfeahnocaaGreatDoorU4
set_option linter.defProp false
open _root_.Decidable renaming decide->ah
open _root_.Bool renaming false->ag,true->af
open _root_.Option renaming none->ae,some->aa,bind->ai7
open _root_.Int renaming tdiv->ajl,tmod->ajH
open _root_.Go.IntKind renaming i64->ai9,u64->ajc
open _root_.List renaming range->ajY,mem_cons->ajQ,pairwise_cons->aka,getElem_mem->aje,getElem_of_mem->ajm,getElem?_eq_getElem->ajb
open _root_.Classical renaming propDecidable->aju
open _root_.Nat renaming le_refl->ajh
namespace Go.Proofs.YtleifhfeahnocaaGreatDoor
open Go Go.RowKit
set_option maxRecDepth 100000
set_option linter.unusedSimpArgs false
set_option linter.unusedVariables false
set_option linter.defProp false
section
noncomputable section
open Tk
variable (N:Nat)
set_option maxRecDepth 100000
set_option linter.unusedVariables false
def M.lK(d:bl.den)(j:Int)(c:Int)(e:Int):Option (Int×Int):=
ai7 (if(ah (e<0))then
aa af
else
aa (ah (5<e))) λk=>(if k then
aa (0,1)
else
ai7 (if(!(pT aD d.2.1 (3,0)))then
aa af
else
aa (!(pT aD d.2.2.1 (4,0)))) λl=>(if l then
aa (0,8)
else
ai7 (if(ah (c<(-1000000000000000)))then
aa af
else
aa (ah (1000000000000000<c))) λm=>(if m then
aa (0,3)
else
cd (J:=Int×Int) (R:=Int×Int) (Loop (S:=Int×Int×Int) (X:=(Int×Int)⊕(Int×Int)) (λb=>(if(ah (b.2.2<(d.2.2.2.length:Int)))then
cd (J:=Int×Int) (R:=(Int×Int×Int)⊕((Int×Int)⊕(Int×Int))) (ai7 (idx d.2.2.2 b.2.2) λa=>ai7 (ai7 (M.cg N a.1 j) λn=>(if(!n)then
aa af
else
aa (ah ((if c<a.2.2.1 then c else a.2.2.1)<=(if a.2.1<0 then 0 else a.2.1)))):Option Bool) λo=>(if o then
aa (.inl (b.1,b.2.1))
else
ai7 (M.ir N (ai9.wrap ((if c<a.2.2.1 then c else a.2.2.1)-(if a.2.1<0 then 0 else a.2.1))) a.2.2.2) λf=>(if(!f.2.2)then
aa (.inr (.inr (.inr (0,3))))
else
aa (.inl (ai9.wrap (b.1+f.1),ai9.wrap (b.2.1+f.2.1)))))) λg=>aa (.inl (g.1,g.2,ai9.wrap (b.2.2+1)))
else
aa (.inr (.inl (b.1,b.2.1))))) N (0,0,0)) λh=>ai7 (M.jH N h.1 h.2 e) λi=>aa (i.1,i.2))))
def aa3:Fo 259 (.i1 [.g bl, .l aB, .l aB, .l aB]) (.i1 [.l aB, .l aB]) (u4 (M.lK N)):=fz N [X6 N,aa1 N,aa2 N] [O,T,B 24 48,T,B 34 48,T,B 40 48,O,J ⟨[(10, .l aB),(11, .l aB)],[],[],80⟩,O,T,P ⟨[(10, .l aB),(11, .l aB),(44, .l aB)],[],[],144⟩,O,O,T,J ⟨[(10, .l aB),(11, .l aB)],[],[],160⟩,O,O,T,B 64 368] Tryz.func259
def M.eU(N:Nat)(a:Bool):Option (aE.den):=
(if a then
aa (1,(0,1))
else
aa (1,(0,0)))
def WA:Fo 274 (.i1 [.l .bool]) (.i1 [.g aE]) (M.eU N):=fz N [] [] Tryz.func274
def M.iu(N:Nat)(a:Int):Option Bool:=
ai7 (if(ah (0<=a))then
aa (ah (a<=109572))
else
aa ag) λb=>aa b
def O4:Fo 238 (.i1 [.l aB]) (.i1 [.l .bool]) (M.iu N):=fz N [] [O,B 2 16] Tryz.func238
def M.k6(b:Int):Option (Int×Int×Int):=
ai7 (M.iu N b) λf=>(if(!f)then
aa (0,0,0)
else
ai7 (Loop (S:=Int) (X:=Int) (λc=>ai7 (M.eH N (ai9.wrap (c+1))) λg=>(if(ah (g<=b))then
aa (.inl (ai9.wrap (c+1)))
else
aa (.inr c))) N (ai9.wrap (1900+(ai9.wrap (ajl b 366)))):Option Int) λd=>ai7 (M.eH N d) λh=>Loop (S:=Int×Int) (X:=Int×Int×Int) (λa=>(if(ah (a.2<12))then
ai7 (M.cK N d (ai9.wrap (a.2+1))) λe=>(if(ah (a.1<e))then
aa (.inr (d,ai9.wrap (a.2+1),ai9.wrap (a.1+1)))
else
aa (.inl (ai9.wrap (a.1-e),ai9.wrap (a.2+1))))
else
aa (.inr (0,0,0)))) N (ai9.wrap (b-h),0))
def SM:Fo 275 (.i1 [.l aB]) (.i1 [.l aB, .l aB, .l aB]) (M.k6 N):=fz N [O1 N,Wq N,O4 N] [O,O,O,R ⟨[(5, .l aB)],[],[],160⟩,T,L 5 160,X,X,O,T,O,T,P ⟨[(6, .l aB),(26, .l aB)],[],[],256⟩] Tryz.func275
def M.pH(b:Int)(a:aE.den):Option (aE.den):=
(if(ah (b=10))then
aa (a.1,(0,ai9.wrap (0-a.2.2)))
else(if(ah (b=25))then
ai7 (M.eU N (ah (a.2.2=0))) λd=>aa d
else
ai7 (M.k6 N a.2.2) λc=>(if(ah (b=31))then
aa (2,(0,c.1))
else
aa (2,(0,c.2.1)))))
def aa4:Fo 260 (.i1 [.l aB, .g aE]) (.i1 [.g aE]) (u2 (M.pH N)):=fz N [WA N,SM N] [] Tryz.func260
def M.nx(b:Int)(c:Int)(a:Int)(g:Int):Option (Int×Int):=
ai7 (M.fQ N g) λi=>(if(!i)then
aa (0,1)
else(if(ah (a=0))then
aa (0,12)
else
ai7 (ai7 (M.eB N b 1000000000000000) λj=>(if j then
aa af
else
ai7 (M.eB N c 1000000000) λk=>(if k then
aa af
else
ai7 (M.eB N a 1000000000) λl=>aa l)):Option Bool) λm=>(if m then
aa (0,3)
else
ai7 (M.dX N b) λn=>ai7 (M.dX N c) λo=>ai7 (M.eT N n o) λd=>ai7 (M.dX N a) λe=>(if(ah (e<=d.1))then
aa (0,3)
else
ai7 (M.dW N d.1 d.2 e) λf=>(if(ah (1000000000000000<f.1))then
aa (0,3)
else
ai7 (M.cW N f.1 f.2 e (!ah ((!ah ((ah (b<0))=(ah (c<0))))=(ah (a<0)))) g) λh=>(if(ah (1000000000000000<h))then
aa (0,3)
else
ai7 (M.jP N h (!ah ((!ah ((ah (b<0))=(ah (c<0))))=(ah (a<0))))) λp=>aa (p,0)))))))
def aa5:Fo 103 (.i1 [.l aB, .l aB, .l aB, .l aB]) (.i1 [.l aB, .l aB]) (u4 (M.nx N)):=fz N [SK N,SL N,Ww N,Wx N,Wy N,O2 N,SJ N] [O,O,O,T,B 30 112] Tryz.func103
def M.k7(b:Int)(c:Int)(d:Int):Option (Int×Int):=
ai7 (M.nx N b c 1000000 d) λa=>aa (a.1,a.2)
def W74:Fo 74 (.i1 [.l aB, .l aB, .l aB]) (.i1 [.l aB, .l aB]) (u3 (M.k7 N)):=fz N [aa5 N] [] Tryz.func74
def M.ny(a:Int)(b:Int):Option (Int×Int):=
ai7 (M.eT N (ajc.wrap (if a<(ai9.wrap (0-a))then(ai9.wrap (0-a))else a)) (ajc.wrap (if b<(ai9.wrap (0-b))then(ai9.wrap (0-b))else b))) λc=>ai7 (if(!ah (c.1=0))then
aa af
else
aa (ah (1000000000000000<c.2))) λd=>(if d then
aa (0,3)
else(if(!ah ((ah (a<0))=(ah (b<0))))then
aa (ai9.wrap (0-(ai9.wrap c.2)),0)
else
aa (ai9.wrap c.2,0)))
def aa6:Fo 285 (.i1 [.l aB, .l aB]) (.i1 [.l aB, .l aB]) (u2 (M.ny N)):=fz N [O2 N] [O,O,T,B 27 288] Tryz.func285
def M.lL(N:Nat)(a:Int):Option Bool:=
ai7 (if(ah (0<=a))then
aa (ah (a<=5))
else
aa ag) λb=>aa b
def WB:Fo 291 (.i1 [.l aB]) (.i1 [.l .bool]) (M.lL N):=fz N [] [O,B 2 16] Tryz.func291
def M.jI(N:Nat)(a:Int)(b:Int):Option Bool:=
ai7 (if(ah (b<a))then
aa af
else
aa (ah (a<(ai9.wrap (0-b))))) λc=>aa c
def WC:Fo 292 (.i1 [.l aB, .l aB]) (.i1 [.l .bool]) (u2 (M.jI N)):=fz N [] [O,B 4 16] Tryz.func292
def M.tj(b:Int)(c:Int)(d:Int):Option (Int×Int):=
ai7 (M.lL N d) λe=>(if(!e)then
aa (0,1)
else
ai7 (ai7 (M.jI N b 1000000000) λf=>(if f then
aa af
else
ai7 (M.jI N c 1000000000) λg=>aa g):Option Bool) λh=>(if h then
aa (0,3)
else
ai7 (M.dm N (ai9.wrap (b*c)) 1000000 d) λa=>(if(!ah (a.2=0))then
aa (0,a.2)
else
ai7 (M.jI N a.1 1000000000) λi=>(if i then
aa (0,3)
else
aa (a.1,0)))))
def aa7:Fo 286 (.i1 [.l aB, .l aB, .l aB]) (.i1 [.l aB, .l aB]) (u3 (M.tj N)):=fz N [Wz N,WB N,WC N] [O,O,T,B 18 80] Tryz.func286
def M.mE(c:Int)(a:Int)(d:Int):Option (Int×Int):=
ai7 (M.fQ N d) λe=>(if(!e)then
aa (0,1)
else(if(ah (a<1))then
aa (0,12)
else
ai7 (ai7 (M.eB N c 1000000000000000) λf=>(if f then
aa af
else
aa (ah (1000000000000000<a))):Option Bool) λg=>(if g then
aa (0,3)
else
ai7 (M.dm N c a d) λb=>(if(!ah (b.2=0))then
aa (0,b.2)
else
ai7 (M.eB N (ai9.wrap (b.1*a)) 1000000000000000) λh=>(if h then
aa (0,3)
else
aa (ai9.wrap (b.1*a),0))))))
def aa8:Fo 287 (.i1 [.l aB, .l aB, .l aB]) (.i1 [.l aB, .l aB]) (u3 (M.mE N)):=fz N [Wz N,SK N,SL N] [O,O,O,T,B 20 112] Tryz.func287
def M.mF(N:Nat)(e:Int)(a:Int)(c:Int)(d:Bool)(b:Int):Option Bool:=
(if(ah (a=0))then
aa ag
else(if(ah (b=0))then
aa d
else(if(ah (b=1))then
aa (!d)
else(if(ah (b=3))then
aa af
else(if(ah (b=4))then
aa (ah ((ajc.wrap (c-a))<=a))
else(if(ah (b=5))then
ai7 (if(ah ((ajc.wrap (c-a))<a))then
aa af
else(if(ah (a=(ajc.wrap (c-a))))then
aa (ah ((ajH e 2)=1))
else
aa ag)) λf=>aa f
else
aa ag))))))
def aa9:Fo 293 (.i1 [.l (.int .u64), .l (.int .u64), .l (.int .u64), .l .bool, .l aB]) (.i1 [.l .bool]) (u5 (M.mF N)):=fz N [] [O,O,T,O,T,O,O,O,O,O,O,O,O,O,T,B 10 224] Tryz.func293
def M.lM(b:Int)(a:Int)(f:Int):Option (Int×Int):=
ai7 (M.lL N f) λg=>(if(!g)then
aa (0,1)
else(if(ah (a=0))then
aa (0,12)
else
ai7 (ai7 (M.jI N b 1000000000000000) λh=>(if h then
aa af
else
ai7 (M.jI N a 1000000000000000) λi=>aa i):Option Bool) λj=>(if j then
aa (0,3)
else
ai7 (M.eT N (ajc.wrap (if b<(ai9.wrap (0-b))then(ai9.wrap (0-b))else b)) 1000000) λd=>(if(ah ((ajc.wrap (if a<(ai9.wrap (0-a))then(ai9.wrap (0-a))else a))<=d.1))then
aa (0,3)
else
ai7 (M.dW N d.1 d.2 (ajc.wrap (if a<(ai9.wrap (0-a))then(ai9.wrap (0-a))else a))) λc=>(if(ah (1000000000<c.1))then
aa (0,3)
else
ai7 (ai7 (M.mF N c.1 c.2 (ajc.wrap (if a<(ai9.wrap (0-a))then(ai9.wrap (0-a))else a)) (!ah ((ah (b<0))=(ah (a<0)))) f) λk=>(if k then
aa (ai9.wrap ((ai9.wrap c.1)+1))
else
aa (ai9.wrap c.1)):Option Int) λe=>(if(ah (1000000000<e))then
aa (0,3)
else
ai7 ((if(!ah ((ah (b<0))=(ah (a<0))))then
aa (ai9.wrap (0-e))
else
aa e):Option Int) λl=>aa (l,0)))))))
def aba:Fo 288 (.i1 [.l aB, .l aB, .l aB]) (.i1 [.l aB, .l aB]) (u3 (M.lM N)):=fz N [O2 N,SJ N,WB N,WC N,aa9 N] [O,O,O,T,B 25 112,O,O,O,O,O,O,O,R ⟨[(14, .l aB)],[],[],752⟩,X,O,R ⟨[(14, .l aB)],[],[],784⟩] Tryz.func288
def M.om(b:aD.den)(a:aE.den)(c:aE.den):Option (aE.den×Int):=
ai7 ((if(ah (b.1=13))then
ai7 (M.ny N a.2.2 c.2.2) λd=>aa (d.2,(a.1,(0,d.1)))
else
ai7 (if(ah (b.1=14))then
aa (ah (a.1=3))
else
aa ag) λk=>(if k then
ai7 (M.k7 N a.2.2 c.2.2 b.2) λe=>aa (e.2,(a.1,(0,e.1)))
else(if(ah (b.1=14))then
ai7 (M.tj N a.2.2 c.2.2 b.2) λf=>aa (f.2,(a.1,(0,f.1)))
else(if(ah (b.1=16))then
ai7 (M.mE N a.2.2 c.2.2 b.2) λg=>aa (g.2,(a.1,(0,g.1)))
else(if(ah (c.1=2))then
ai7 (M.dm N a.2.2 c.2.2 b.2) λh=>aa (h.2,(a.1,(0,h.1)))
else
ai7 (M.lM N a.2.2 c.2.2 b.2) λi=>aa (i.2,(4,(0,i.1)))))))):Option (Int×aE.den)) λj=>aa (j.2,j.1)
def abb:Fo 276 (.i1 [.g aD, .g aE, .g aE]) (.i1 [.g aE, .l aB]) (u3 (M.om N)):=fz N [W74 N,Wz N,aa6 N,aa7 N,aa8 N,aba N] [O,O,T,R ⟨[(9, .l aB)],[(128, .box 49 (.leaf aE))],[],177⟩,O,O,B 38 240] Tryz.func276
def M.jJ(c:Int)(b:Int):Option (Int×Int):=
ai7 (ai7 (M.iu N c) λf=>(if(!f)then
aa af
else(if(ah (b<(-3600)))then
aa af
else
aa (ah (3600<b)))):Option Bool) λg=>(if g then
aa (0,3)
else
ai7 (M.k6 N c) λa=>ai7 (if(ah ((ai9.wrap ((ai9.wrap ((ai9.wrap ((ai9.wrap ((ai9.wrap (a.1-1900))*12))+a.2.1))-1))+b))<0))then
aa af
else
aa (ah (3599<(ai9.wrap ((ai9.wrap ((ai9.wrap ((ai9.wrap ((ai9.wrap (a.1-1900))*12))+a.2.1))-1))+b))))) λh=>(if h then
aa (0,3)
else
ai7 (M.cK N (ai9.wrap (1900+(ai9.wrap (ajl (ai9.wrap ((ai9.wrap ((ai9.wrap ((ai9.wrap ((ai9.wrap (a.1-1900))*12))+a.2.1))-1))+b)) 12)))) (ai9.wrap ((ajH (ai9.wrap ((ai9.wrap ((ai9.wrap ((ai9.wrap ((ai9.wrap (a.1-1900))*12))+a.2.1))-1))+b)) 12)+1))) λd=>ai7 (M.il N (ai9.wrap (1900+(ai9.wrap (ajl (ai9.wrap ((ai9.wrap ((ai9.wrap ((ai9.wrap ((ai9.wrap (a.1-1900))*12))+a.2.1))-1))+b)) 12)))) (ai9.wrap ((ajH (ai9.wrap ((ai9.wrap ((ai9.wrap ((ai9.wrap ((ai9.wrap (a.1-1900))*12))+a.2.1))-1))+b)) 12)+1)) (if d<a.2.2 then d else a.2.2)) λe=>aa (e.1,e.2)))
def WD:Fo 277 (.i1 [.l aB, .l aB]) (.i1 [.l aB, .l aB]) (u2 (M.jJ N)):=fz N [W82 N,O1 N,O4 N,SM N] [O,T,B 20 32,O,O,T,B 40 320] Tryz.func277
def M.jh(a:Int)(b:Int):Option Int:=
ai7 (ai7 (M.iu N a) λg=>(if(!g)then
aa af
else
ai7 (M.iu N b) λh=>(if(!h)then
aa af
else
aa (ah (b<a)))):Option Bool) λi=>(if i then
aa 0
else
ai7 (M.k6 N a) λc=>ai7 (M.k6 N b) λd=>ai7 (ai7 (M.jJ N a (ai9.wrap (12*(ai9.wrap (d.1-c.1))))) λe=>ai7 (if(!ah (e.2=0))then
aa af
else
aa (ah (b<e.1))) λj=>(if j then
aa (ai9.wrap ((ai9.wrap (d.1-c.1))-1))
else
aa (ai9.wrap (d.1-c.1))):Option Int) λf=>aa (if f<0 then 0 else f))
def abc:Fo 278 (.i1 [.l aB, .l aB]) (.i1 [.l aB]) (u2 (M.jh N)):=fz N [O4 N,SM N,WD N] [O,T,B 26 16,O,O,O,R ⟨[(11, .l aB)],[],[],368⟩,O,B 55 512] Tryz.func278
def M.oo(a:aD.den)(b:aE.den)(c:aE.den):Option (aE.den×Int):=
ai7 (if(ah (a.1=11))then
aa (ah (a.1=11))
else
aa (ah (a.1=27))) λh=>(if h then
aa ((b.1,(0,ai9.wrap (b.2.2+c.2.2))),0)
else(if(ah (a.1=12))then
aa ((b.1,(0,ai9.wrap (b.2.2-c.2.2))),0)
else
ai7 (if(ah (a.1=13))then
aa (ah (a.1=13))
else(if(ah (a.1=14))then
aa (ah (a.1=14))
else(if(ah (a.1=15))then
aa (ah (a.1=15))
else
aa (ah (a.1=16))))) λi=>(if i then
ai7 (M.om N a b c) λd=>aa (d.1,d.2)
else
ai7 (if(ah (a.1=17))then
aa (ah (a.1=17))
else
aa (ah (a.1=18))) λj=>(if j then(if(ah ((ah (a.1=17))=(ah (c.2.2<b.2.2))))then
aa (c,0)
else
aa (b,0))
else(if(ah (a.1=19))then
ai7 (M.eU N (ah (b.2.2=c.2.2))) λk=>aa (k,0)
else(if(ah (a.1=20))then
ai7 (M.eU N (!ah (b.2.2=c.2.2))) λl=>aa (l,0)
else(if(ah (a.1=21))then
ai7 (M.eU N (ah (b.2.2<c.2.2))) λm=>aa (m,0)
else(if(ah (a.1=22))then
ai7 (M.eU N (ah (b.2.2<=c.2.2))) λn=>aa (n,0)
else(if(ah (a.1=23))then
ai7 ((if(ah (b.2.2=1))then
ai7 (M.eU N (ah (c.2.2=1))) λo=>aa (0,o)
else
ai7 (M.eU N ag) λp=>aa (0,p)):Option (Int×aE.den)) λe=>aa (e.2,e.1)
else(if(ah (a.1=24))then
ai7 ((if(ah (b.2.2=1))then
ai7 (M.eU N af) λq=>aa (0,q)
else
ai7 (M.eU N (ah (c.2.2=1))) λr=>aa (0,r)):Option (Int×aE.den)) λf=>aa (f.2,f.1)
else(if(ah (a.1=28))then
ai7 (M.jJ N b.2.2 c.2.2) λg=>aa ((5,(0,g.1)),g.2)
else(if(ah (a.1=29))then
aa ((2,(0,ai9.wrap (c.2.2-b.2.2))),0)
else
ai7 (M.jh N b.2.2 c.2.2) λs=>aa ((2,(0,s)),0)))))))))))))
def abd:Fo 261 (.i1 [.g aD, .g aE, .g aE]) (.i1 [.g aE, .l aB]) (u3 (M.oo N)):=fz N [WA N,abb N,WD N,abc N] [O,T,O,T,R ⟨[(12, .l .bool)],[],[],112⟩,X,O,O,O,R ⟨[(33, .l .bool)],[],[],144⟩,X,O,R ⟨[(44, .l .bool)],[],[],144⟩,X,O,O,O,O,O,O,O,O,O,O,T,R ⟨[(7, .l aB)],[(48, .box 49 (.leaf aE))],[],305⟩,X,X,O,T,R ⟨[(7, .l aB)],[(48, .box 49 (.leaf aE))],[],337⟩] Tryz.func261
def M.nz(a:aD.den)(b:List aE.den)(c:kz.den):Option (aE.den×Int):=
ai7 (if(ah (a.1=1))then
aa (ah (a.1=1))
else(if(ah (a.1=2))then
aa (ah (a.1=2))
else(if(ah (a.1=3))then
aa (ah (a.1=3))
else(if(ah (a.1=4))then
aa (ah (a.1=4))
else
aa (ah (a.1=5)))))) λi=>(if i then
aa ((a.1,(0,a.2)),0)
else(if(ah (a.1=6))then
aa ((6,(ai9.wrap (ajl a.2 16),ajH a.2 16)),0)
else(if(ah (a.1=7))then
ai7 (idx c.2.1 a.2) λj=>aa (j,0)
else(if(ah (a.1=8))then
ai7 (idx c.2.2.1 a.2) λk=>aa (k,0)
else(if(ah (a.1=9))then
aa ((5,(0,c.1)),0)
else(if(ah (a.1=35))then
aa ((2,(0,(c.2.2.2.1.length:Int))),0)
else
ai7 (if(ah (a.1=36))then
aa (ah (a.1=36))
else(if(ah (a.1=37))then
aa (ah (a.1=37))
else(if(ah (a.1=38))then
aa (ah (a.1=38))
else
aa (ah (a.1=39))))) λl=>(if l then
ai7 (M.jO N a c) λe=>aa (e.1,e.2)
else(if(ah (a.1=33))then
ai7 (idx c.2.2.2.2.2 a.2) λd=>ai7 (idx b 0) λm=>ai7 (M.nw N d c.1 m.2.2) λf=>(if(!f.2)then
aa ((0,(0,0)),6)
else
ai7 (idx d.2.2.2 f.1) λn=>aa ((d.2.2.1.1,(d.2.2.1.2,n.2.2.2)),0))
else(if(ah (a.1=34))then
ai7 (idx c.2.2.2.2.2 (ai9.wrap (ajl a.2 8))) λo=>ai7 (idx b 0) λp=>ai7 (M.lK N o c.1 p.2.2 (ajH a.2 8)) λg=>aa ((3,(0,g.1)),g.2)
else(if(ah ((b.length:Int)=1))then
ai7 (idx b 0) λq=>ai7 (M.pH N a.1 q) λr=>aa (r,0)
else(if(ah ((b.length:Int)=2))then
ai7 (idx b 0) λs=>ai7 (idx b 1) λt=>ai7 (M.oo N a s t) λh=>aa (h.1,h.2)
else
ai7 (idx b 0) λu=>(if(ah (u.2.2=1))then
ai7 (idx b 1) λv=>aa (v,0)
else
ai7 (idx b 2) λw=>aa (w,0)))))))))))))
def abe:Fo 246 (.i1 [.g aD, .l (.slice aE), .g kz]) (.i1 [.g aE, .l aB]) (u3 (M.nz N)):=fz N [aaX N,aaY N,aa3 N,aa4 N,abd N] [O,T,O,T,R ⟨[(15, .l .bool)],[],[],96⟩,X,O,O,O,O,O,O,O,O,O,O,O,B 62 256] Tryz.func246
def M.k8(a:aD.den)(b:List aE.den)(d:kz.den):Option (aE.den×Int):=
ai7 (ai7 (M.kM N a) λe=>(if(!e)then
aa af
else
ai7 (M.gu N a.1) λf=>aa (!ah ((b.length:Int)=f))):Option Bool) λg=>(if g then
aa ((0,(0,0)),2)
else
ai7 (M.oj N a d) λh=>(if(!h)then
aa ((0,(0,0)),6)
else
ai7 (ai7 (M.jd N b) λi=>(if(!i)then
aa af
else
ai7 (M.nv N a b d) λj=>aa (!j)):Option Bool) λk=>(if k then
aa ((0,(0,0)),8)
else
ai7 (M.nz N a b d) λc=>(if(!ah (c.2=0))then
aa ((0,(0,0)),c.2)
else
ai7 (M.dj N c.1) λl=>(if(!l)then
aa ((0,(0,0)),3)
else
aa (c.1,0))))))
def abf:Fo 233 (.i1 [.g aD, .l (.slice aE), .g kz]) (.i1 [.g aE, .l aB]) (u3 (M.k8 N)):=fz N [Mi N,aaQ N,aaR N,aaS N,aaW N,abe N,Jz N] [O,T,B 20 64,O,T,B 36 128] Tryz.func233
mutual
def M.b7(B:Nat):Nat->bP.den->Int->Option (aE.den×Int)
 |0,_,_=>ae
 |N+1,c,f=>
  ai7 (idx c.1 f) λb=>
  ai7 (M.eP B c f) λd=>
  ai7 (if(ah (b.1=23))then
  aa (ah (b.1=23))
  else
  (if(ah (b.1=24))then
  aa (ah (b.1=24))
  else
  aa (ah (b.1=26)))) λi=>
  (if i then
  ai7 (M.iZ B N c b d) λg=>
  aa (g.1,g.2)
  else
  ai7 (p6 (d.length:Int) (0,(0,0))) λj=>
  cd (J:=List aE.den) (R:=aE.den×Int) (Loop (S:=Int×List aE.den) (X:=(List aE.den)⊕(aE.den×Int)) (λa=>
  (if(ah (a.1<(d.length:Int)))then
  ai7 (idx d a.1) λk=>
  ai7 (M.b7 B N c k) λe=>
  (if(!ah (e.2=0))then
  aa (.inr (.inr ((0,(0,0)),e.2)))
  else
  ai7 (idx a.2 a.1) λm=>
  aa (.inl (ai9.wrap (a.1+1),b8 a.2 a.1 e.1)))
  else
  aa (.inr (.inl a.2)))) B (0,j)) λl=>
  ai7 (M.k8 B b l c.2.2) λh=>
  aa (h.1,h.2))
def M.iZ(B:Nat):Nat->bP.den->aD.den->(List Int)->Option (aE.den×Int)
 |0,_,_,_=>ae
 |N+1,b,c,d=>
  (if(!ah (c.2=0))then
  aa ((0,(0,0)),2)
  else
  ai7 (idx d 0) λh=>
  ai7 (M.dp B N b h) λa=>
  (if(!ah (a.2=0))then
  aa ((0,(0,0)),a.2)
  else
  ai7 (if(ah (c.1=26))then
  aa (ah (a.1.2.2=1))
  else
  aa ag) λi=>
  (if i then
  ai7 (idx d 1) λj=>
  ai7 (M.b7 B N b j) λe=>
  aa (e.1,e.2)
  else
  (if(ah (c.1=26))then
  ai7 (idx d 2) λk=>
  ai7 (M.b7 B N b k) λf=>
  aa (f.1,f.2)
  else
  (if(ah ((ah (c.1=23))=(ah (a.1.2.2=0))))then
  aa (a.1,0)
  else
  ai7 (idx d 1) λl=>
  ai7 (M.dp B N b l) λg=>
  aa (g.1,g.2))))))
def M.dp(B:Nat):Nat->bP.den->Int->Option (aE.den×Int)
 |0,_,_=>ae
 |N+1,b,c=>
  ai7 (M.b7 B N b c) λa=>
  (if(!ah (a.2=0))then
  aa ((0,(0,0)),a.2)
  else
  ai7 (if(!ah (a.1.1=1))then
  aa af
  else
  ai7 (M.dj B a.1) λd=>
  aa (!d)) λe=>
  (if e then
  aa ((0,(0,0)),8)
  else
  aa (a.1,0)))
end
def M.ko(a:bP.den)(b:Int):Option (aE.den×Int):=M.b7 N N a b
def abg:oN:=⟨.i1 [.g bP, .l aB], .i1 [.g aE, .l aB],u2 (M.ko N)⟩
def abh(B N:Nat):oN:={inn:=⟨[(0, .g bP),(1, .l aB)],[],[],0⟩,out:=⟨[(0, .g aE),(1, .l aB)],[],[],0⟩,fn:=λ(x:bP.den×Int)=>M.b7 B N x.1 x.2}
def abi(B N:Nat):oN:={inn:=⟨[(0, .g bP),(1, .g aD),(2, .l (.slice aB))],[],[],0⟩,out:=⟨[(0, .g aE),(1, .l aB)],[],[],0⟩,fn:=λ(x:bP.den×aD.den×List Int)=>M.iZ B N x.1 x.2.1 x.2.2}
def abj(B N:Nat):oN:={inn:=⟨[(0, .g bP),(1, .l aB)],[],[],0⟩,out:=⟨[(0, .g aE),(1, .l aB)],[],[],0⟩,fn:=λ(x:bP.den×Int)=>M.dp B N x.1 x.2}
def zJ(B:Nat):∀N,fZ Tryz.prog 207 (abh B N)/\fZ Tryz.prog 232 (abi B N)/\fZ Tryz.prog 241 (abj B N)
 |0=>⟨Bl Tryz.func207 (by kernel_rfl) (by kernel_rfl) λ_=>rfl,Bl Tryz.func232 (by kernel_rfl) (by kernel_rfl) λ_=>rfl,Bl Tryz.func241 (by kernel_rfl) (by kernel_rfl) λ_=>rfl⟩
 |N+1=>⟨fw (en [ck ((zJ B N).1),ck (aaP B),ck ((zJ B N).2.1),ck (abf B)] ag ag) (N:=B) (.o (.o (.o (.two (.o (.two (.meet ⟨[(23, .l .bool)],[],[],256⟩ .nil .nil) .nil)) (.o (.join ⟨[],[(288, .own 49 aE)],[],321⟩ (.o (.two (.loop ⟨[(38, .l aB)],[(288, .own 49 aE)],[],369⟩ .nil) .nil)) .nil)))))) Tryz.func207 (by kernel_rfl) λx=>by kernel_rfl,
  fw (en [ck ((zJ B N).1),ck ((zJ B N).2.2)] ag ag) (N:=B) (.o (.o (.o (.o (.two (.two (.meet ⟨[(26, .l .bool)],[],[],320⟩ .nil .nil) .nil) .nil))))) Tryz.func232 (by kernel_rfl) λx=>by kernel_rfl,
  fw (en [ck ((zJ B N).1),ck (Jz B)] ag ag) (N:=B) (.o (.o (.o (.two (.meet ⟨[(25, .l .bool)],[],[],224⟩ .nil .nil) .nil)))) Tryz.func241 (by kernel_rfl) λx=>by kernel_rfl⟩
def abk(N:Nat):fZ Tryz.prog 207 (abg N):=(zJ N N).1
def M.jQ(a:List aD.den)(d:kz.den):Option (aE.den×Int):=
ai7 (M.oi N a) λb=>(if(!ah (b.1=0))then
aa ((0,(0,0)),b.1)
else
ai7 (M.ko N (a,(b.2,d)) (ai9.wrap ((a.length:Int)-1))) λc=>aa (c.1,c.2))
def SN:Fo 180 (.i1 [.l (.slice aD), .g kz]) (.i1 [.g aE, .l aB]) (u2 (M.jQ N)):=fz N [aaO N,abk N] [] Tryz.func180
def M.fh(a:db.den)(b:Int)(c:Int):Option (Bool×Int×Int):=
ai7 (if(ah (a.2.1=b))then
ai7 (M.cg N a.2.2.2.2.1 c) λd=>aa d
else
aa ag) λe=>aa (e,b,c)
def SO:Fo 226 (.j1 [.g db, .ptr 0 [] 0, .ptr 1 [] 0] [.box 3 (.leaf aB), .box 3 (.leaf aB)] 2) (.j1 [.l .bool] [.box 3 (.leaf aB), .box 3 (.leaf aB)] 4) (u3 (M.fh N)):=fz N [X6 N] [O,B 4 34] Tryz.func226
def M.fi(f:List db.den)(g:Int)(h:Int):Option (Int×Int×(List Int)×List Int):=
ai7 (p6 (f.length:Int) 0) λi=>Loop (S:=Int×Int×Int×(List Int)×(List Int)×List Int) (X:=Int×Int×(List Int)×List Int) (λa=>(if(ah (a.1<(f.length:Int)))then
ai7 (ai7 (idx f a.1) λd=>ai7 (ai7 (if(ah (0<=d.2.2.1))then
aa (ah (d.2.2.1<a.1))
else
aa ag) λj=>(if j then
ai7 (idx a.2.2.2.1 d.2.2.1) λk=>aa k
else
aa (-1)):Option Int) λe=>ai7 (idx a.2.2.2.1 a.1) λn=>ai7 (M.fh N d a.2.1 a.2.2.1) λb=>(if b.1 then
ai7 (idx (b8 a.2.2.2.1 a.1 e) a.1) λo=>ai7 (cu a.2.2.2.2.1 ([a.1]:List Int)) λl=>ai7 (cu a.2.2.2.2.2 ([e]:List Int)) λm=>aa (b.2.1,b.2.2,b8 (b8 a.2.2.2.1 a.1 e) a.1 (a.2.2.2.2.1.length:Int),l,m)
else
aa (b.2.1,b.2.2,b8 a.2.2.2.1 a.1 e,a.2.2.2.2.1,a.2.2.2.2.2)):Option (Int×Int×(List Int)×(List Int)×List Int)) λc=>aa (.inl (ai9.wrap (a.1+1),c.1,c.2.1,c.2.2.1,c.2.2.2.1,c.2.2.2.2))
else
aa (.inr (a.2.1,a.2.2.1,a.2.2.2.2.1,a.2.2.2.2.2)))) N (0,g,h,i,([]:List Int),([]:List Int))
def SP:Fo 225 (.j1 [.l (.slice db), .fn 226 [(0,[],0),(1,[],0)]] [.box 3 (.leaf aB), .box 3 (.leaf aB)] 2) (.j1 [.val ag (.own 2), .val ag (.own 3)] [.box 3 (.leaf aB), .box 3 (.leaf aB), .own 3 aB, .own 3 aB] 6) (u3 (M.fi N)):=fz N [SO N] [O,O,O,T,O,T,P ⟨[(6, .val ag (.own 178)),(7, .val ag (.own 179)),(17, .l aB)],[(0, .box 3 (.leaf aB)),(1, .box 3 (.leaf aB)),(98, .own 3 aB),(178, .own 3 aB),(179, .own 3 aB)],[],183⟩,O,O,T,R ⟨[(6, .val ag (.own 199)),(7, .val ag (.own 200))],[(0, .box 3 (.leaf aB)),(1, .box 3 (.leaf aB)),(98, .own 3 aB),(199, .own 3 aB),(200, .own 3 aB)],[178,179],204⟩,O,O,R ⟨[(11, .l aB)],[],[],311⟩,B 30 311] Tryz.func225
def M.jR(c:aM.den)(d:Int)(e:Int):Option ((List Int)×(List Int)×List Int):=
ai7 (M.fi N c.2.2.2.2 d e) λb=>ai7 (Loop (S:=Int×List Int) (X:=List Int) (λa=>(if(ah (a.1<(b.2.2.1.length:Int)))then
ai7 (idx b.2.2.1 a.1) λf=>ai7 (idx c.2.2.2.2 f) λg=>ai7 (cu a.2 ([g.2.2.2.1]:List Int)) λh=>aa (.inl (ai9.wrap (a.1+1),h))
else
aa (.inr a.2))) N (0,([]:List Int)):Option (List Int)) λi=>aa (b.2.2.1,b.2.2.2,i)
def abl:Fo 204 (.i1 [.g aM, .l aB, .l aB]) (.j1 [.val ag (.own 0), .val ag (.own 1), .val ag (.own 2)] [.own 3 aB, .own 3 aB, .own 3 aB] 3) (u3 (M.jR N)):=fz N [SP N] [O,O,O,R ⟨[(11, .val ag (.own 256))],[(256, .own 3 aB)],[],257⟩,O,T,P ⟨[(11, .val ag (.own 304)),(23, .l aB)],[(304, .own 3 aB)],[],305⟩] Tryz.func204
def M.ji(b:List Int)(c:List Int):Option Int:=
(if(!ah ((b.length:Int)=(c.length:Int)))then
aa 2
else(if(ah (8<(b.length:Int)))then
aa 4
else
Loop (S:=Int) (X:=Int) (λa=>(if(ah (a<(b.length:Int)))then
ai7 (idx b a) λd=>ai7 (if(ah (d<(-1)))then
aa af
else
aa (ah (a<=d))) λe=>(if e then
aa (.inr 9)
else
ai7 (ai7 (idx c a) λf=>(if(ah (f<0))then
aa af
else
ai7 (idx c a) λg=>aa (ah (9<g))):Option Bool) λh=>(if h then
aa (.inr 3)
else
aa (.inl (ai9.wrap (a+1)))))
else
aa (.inr 0))) N 0))
def abm:Fo 227 (.i1 [.l (.slice aB), .l (.slice aB)]) (.i1 [.l aB]) (u2 (M.ji N)):=fz N [] [O,O,O,T,O,T,L 17 192,O,O,T,T,O,T,B 28 288,B 40 288] Tryz.func227
def M.jk(b:List Int)(c:Int):Option (List Int):=
Loop (S:=Int×List Int) (X:=List Int) (λa=>(if(ah (a.1<(b.length:Int)))then
ai7 (ai7 (idx b a.1) λd=>(if(ah (d=c))then
ai7 (cu a.2 ([a.1]:List Int)) λe=>aa e
else
aa a.2):Option (List Int)) λf=>aa (.inl (ai9.wrap (a.1+1),f))
else
aa (.inr a.2))) N (0,([]:List Int))
def abn:Fo 251 (.i1 [.l (.slice aB), .l aB]) (.w1 3 aB) (u2 (M.jk N)):=fz N [] [O,O,T,O,T,P ⟨[(5, .val ag (.own 80)),(10, .l aB)],[(80, .own 3 aB)],[],81⟩,O,O,T,R ⟨[(5, .val ag (.own 97))],[(97, .own 3 aB)],[80],98⟩] Tryz.func251
def M.iy(b:gP.den)(f:Int):Option (List Int):=
ai7 (M.jk N b.1 f) λe=>Loop (S:=Int×List Int) (X:=List Int) (λa=>(if(ah (a.1<(e.length:Int)))then
ai7 (ai7 (idx e a.1) λc=>ai7 (idx b.2.2 c) λg=>(if(ah (g=(-1)))then
aa a.2
else
ai7 (ai7 (if(ah (0<(a.2.length:Int)))then
ai7 (idx b.2.1 c) λh=>ai7 (idx a.2 0) λi=>ai7 (idx b.2.1 i) λj=>aa (ah (j<h))
else
aa ag) λk=>(if k then
ai7 (gq a.2 0 0) λl=>aa l
else
aa a.2):Option (List Int)) λd=>ai7 (if(ah ((d.length:Int)=0))then
aa af
else
ai7 (idx b.2.1 c) λm=>ai7 (idx d 0) λn=>ai7 (idx b.2.1 n) λo=>aa (ah (m=o))) λp=>(if p then
ai7 (cu d ([c]:List Int)) λq=>aa q
else
aa d)):Option (List Int)) λr=>aa (.inl (ai9.wrap (a.1+1),r))
else
aa (.inr a.2))) N (0,([]:List Int))
def abo:Fo 239 (.i1 [.g gP, .l aB]) (.w1 3 aB) (u2 (M.iy N)):=fz N [abn N] [O,O,T,O,T,P ⟨[(5, .val ag (.own 144)),(13, .l aB)],[(144, .own 3 aB)],[],145⟩,O,O,T,R ⟨[(5, .val ag (.own 161))],[(161, .own 3 aB)],[144],162⟩,O,O,R ⟨[(5, .val ag (.own 305))],[(305, .own 3 aB)],[144],306⟩,B 40 305,B 60 306] Tryz.func239
def M.dq(b:gP.den)(c:Int):Option Int:=
ai7 (M.iy N b c) λa=>(if(ah ((a.length:Int)=0))then
aa (-1)
else(if(ah ((a.length:Int)=1))then
ai7 (idx a 0) λd=>ai7 (idx b.2.2 d) λe=>aa e
else
aa (-2)))
def WE:Fo 229 (.i1 [.g gP, .l aB]) (.i1 [.l aB]) (u2 (M.dq N)):=fz N [abo N] [] Tryz.func229
def M.jm(c:List Int)(d:List Int)(e:List Bool):Option (List Int):=
ai7 (p6 (c.length:Int) 0) λf=>Loop (S:=Int×List Int) (X:=List Int) (λa=>(if(ah (0<=a.1))then
ai7 (ai7 (M.dq N (c,(d,a.2)) a.1) λb=>ai7 (idx a.2 a.1) λk=>ai7 (ai7 (idx (b8 a.2 a.1 b) a.1) λg=>(if(ah (g=(-1)))then
ai7 (idx e a.1) λh=>aa h
else
aa ag):Option Bool) λi=>(if i then
ai7 (idx (b8 a.2 a.1 b) a.1) λl=>aa (b8 (b8 a.2 a.1 b) a.1 a.1)
else
aa (b8 a.2 a.1 b)):Option (List Int)) λj=>aa (.inl (ai9.wrap (a.1-1),j))
else
aa (.inr a.2))) N (ai9.wrap ((c.length:Int)-1),f)
def abp:Fo 228 (.i1 [.l (.slice aB), .l (.slice aB), .l (.slice .bool)]) (.w1 3 aB) (u3 (M.jm N)):=fz N [WE N] [O,O,T,O,T,P ⟨[(8, .l aB)],[(80, .own 3 aB)],[],209⟩,O,T,R ⟨[],[(80, .own 3 aB)],[],242⟩,O,B 40 369] Tryz.func228
def M.kO(a:List Int)(b:List Int)(c:List Bool):Option Int:=
ai7 (ai7 (M.ji N a b) λd=>(if(!ah (d=0))then
aa af
else
aa (!ah ((c.length:Int)=(a.length:Int)))):Option Bool) λe=>(if e then
aa (-1)
else
ai7 (M.jm N a b c) λf=>ai7 (M.dq N (a,(b,f)) (-1)) λg=>aa g)
def abq:Fo 205 (.i1 [.l (.slice aB), .l (.slice aB), .l (.slice .bool)]) (.i1 [.l aB]) (u3 (M.kO N)):=fz N [abm N,abp N,WE N] [O,T,B 17 16] Tryz.func205
def M.iO(c:aM.den)(g:kz.den)(i:Int)(h:Int):Option (Int×aC.den):=
ai7 (M.jR N c h g.1) λb=>ai7 (p6 (b.1.length:Int) ag) λj=>cd (J:=List Bool) (R:=Int×aC.den) (Loop (S:=Int×List Bool) (X:=(List Bool)⊕(Int×aC.den)) (λa=>(if(ah (a.1<(b.1.length:Int)))then
cd (J:=List Bool) (R:=(Int×List Bool)⊕((List Bool)⊕(Int×aC.den))) (ai7 (idx b.1 a.1) λd=>ai7 (idx c.2.2.2.2 d) λk=>(if(ah ((k.2.2.2.2.2.1.length:Int)=0))then
ai7 (idx a.2 a.1) λp=>aa (.inl (b8 a.2 a.1 af))
else
ai7 (idx c.2.2.2.2 d) λl=>ai7 (M.jQ N l.2.2.2.2.2.1 g) λe=>(if(!ah (e.2=0))then
aa (.inr (.inr (.inr (0,(e.2,(i,(h,d)))))))
else
ai7 (idx a.2 a.1) λq=>aa (.inl (b8 a.2 a.1 (ah (e.1.2.2=1))))))) λm=>aa (.inl (ai9.wrap (a.1+1),m))
else
aa (.inr (.inl a.2)))) N (0,j)) λn=>ai7 (M.kO N b.2.1 b.2.2 n) λf=>(if(ah (f<0))then
aa (f,(0,(0,(0,0))))
else
ai7 (idx b.1 f) λo=>aa (o,(0,(0,(0,0)))))
def WG:Fo 179 (.i1 [.g aM, .g kz, .l aB, .l aB]) (.i1 [.l aB, .g aC]) (u4 (M.iO N)):=fz N [SN N,abl N,abq N] [O,O,O,J ⟨[],[(288, .own 4 .bool)],[],321⟩,O,T,P ⟨[(33, .l aB)],[(288, .own 4 .bool)],[],369⟩,O,O,T,J ⟨[],[(288, .own 4 .bool)],[],386⟩] Tryz.func179
def M.dA(b:Int)(g:aM.den)(c:aM.den)(h:List Bool)(d:List Bool):Option (aM.den×aM.den×(List Bool)×List Bool):=
ai7 (idx d b) λi=>ai7 (M.dz N c b) λe=>Loop (S:=Int×List Bool) (X:=aM.den×aM.den×(List Bool)×List Bool) (λa=>(if(ah (a.1<(e.length:Int)))then
ai7 (idx e a.1) λf=>ai7 (idx a.2 f) λj=>aa (.inl (ai9.wrap (a.1+1),b8 a.2 f af))
else
aa (.inr (g,c,h,a.2)))) N (0,b8 d b af)
def SQ:Fo 157 (.j1 [.ptr 0 [] 0, .l aB] [.box 254 (.pair (.leaf aM) (.pair (.leaf aM) (.pair (.own 1) (.own 2)))), .own 4 .bool, .own 4 .bool] 3) (.j1 [] [.box 254 (.pair (.leaf aM) (.pair (.leaf aM) (.pair (.own 1) (.own 2)))), .own 4 .bool, .own 4 .bool] 6) (u5 (M.dA N)):=fz N [Si N] [O,O,T,P ⟨[(19, .l aB)],[(2, .own 4 .bool)],[],244⟩] Tryz.func157
def M.fj(c:Int)(e:aM.den)(j:aM.den)(f:List Bool)(k:List Bool):Option (aM.den×aM.den×(List Bool)×List Bool):=
ai7 (idx f c) λn=>ai7 (ai7 (M.dz N e c) λg=>Loop (S:=Int×List Bool) (X:=List Bool) (λb=>(if(ah (b.1<(g.length:Int)))then
ai7 (idx g b.1) λh=>ai7 (idx b.2 h) λo=>aa (.inl (ai9.wrap (b.1+1),b8 b.2 h af))
else
aa (.inr b.2))) N (0,b8 f c af):Option (List Bool)) λl=>ai7 (M.kL N e c) λi=>Loop (S:=Int×aM.den×aM.den×(List Bool)×List Bool) (X:=aM.den×aM.den×(List Bool)×List Bool) (λa=>(if(ah (a.1<(i.length:Int)))then
ai7 (idx i a.1) λm=>ai7 (M.dA N m a.2.1 a.2.2.1 a.2.2.2.1 a.2.2.2.2) λd=>aa (.inl (ai9.wrap (a.1+1),d.1,d.2.1,d.2.2.1,d.2.2.2))
else
aa (.inr (a.2.1,a.2.2.1,a.2.2.2.1,a.2.2.2.2)))) N (0,e,j,l,k)
def SR:Fo 122 (.j1 [.ptr 0 [] 0, .l aB] [.box 254 (.pair (.leaf aM) (.pair (.leaf aM) (.pair (.own 1) (.own 2)))), .own 4 .bool, .own 4 .bool] 3) (.j1 [] [.box 254 (.pair (.leaf aM) (.pair (.leaf aM) (.pair (.own 1) (.own 2)))), .own 4 .bool, .own 4 .bool] 6) (u5 (M.fj N)):=fz N [Si N,aaL N,SQ N] [O,R ⟨[],[(1, .own 4 .bool)],[],116⟩,O,T,P ⟨[(21, .l aB)],[(1, .own 4 .bool)],[],244⟩,X,X,O,T,P ⟨[(39, .l aB)],[(0, .box 254 (.pair (.leaf aM) (.pair (.leaf aM) (.pair (.own 1) (.own 2))))),(1, .own 4 .bool),(2, .own 4 .bool)],[],247⟩] Tryz.func122
def M.eQ(h:aM.den)(i:Int)(c:Int)(d:List aE.den)(e:List bl.den)(g:List Bool):Option (aC.den×Int×(List aE.den)×(List bl.den)×(List Bool)×(List Int)×List aE.den):=
ai7 (p6 (h.2.2.2.1.length:Int) (0,(0,0))) λn=>ai7 (p6 (h.2.2.2.1.length:Int) 0) λo=>ai7 (M.dM N h) λk=>cd (J:=(List aE.den)×List Int) (R:=aC.den×Int×(List aE.den)×(List bl.den)×(List Bool)×(List Int)×List aE.den) (Loop (S:=Int×(List aE.den)×List Int) (X:=((List aE.den)×List Int)⊕(aC.den×Int×(List aE.den)×(List bl.den)×(List Bool)×(List Int)×List aE.den)) (λa=>(if(ah (a.1<(k.2.length:Int)))then
cd (J:=(List aE.den)×List Int) (R:=(Int×(List aE.den)×List Int)⊕(((List aE.den)×List Int)⊕(aC.den×Int×(List aE.den)×(List bl.den)×(List Bool)×(List Int)×List aE.den))) (ai7 (idx k.2 a.1) λb=>ai7 (idx g b) λp=>(if(!p)then
aa (.inl (a.2.1,a.2.2))
else
ai7 (M.iO N h (c,(d,(a.2.1,(([]:List (List aE.den)),(([]:List aD.den),e))))) i b) λf=>(if(!ah (f.2.1=0))then
aa (.inr (.inr (.inr (f.2,c,d,e,g,([]:List Int),a.2.1))))
else(if(ah (f.1=(-1)))then
aa (.inr (.inr (.inr ((10,(i,(b,(-1)))),c,d,e,g,([]:List Int),a.2.1))))
else(if(ah (f.1=(-2)))then
aa (.inr (.inr (.inr ((11,(i,(b,(-1)))),c,d,e,g,([]:List Int),a.2.1))))
else
ai7 (idx h.2.2.2.2 f.1) λq=>ai7 (M.jQ N q.2.2.2.2.2.2.1 (c,(d,(a.2.1,(([]:List (List aE.den)),(([]:List aD.den),e)))))) λj=>(if(!ah (j.2=0))then
aa (.inr (.inr (.inr ((j.2,(i,(b,f.1))),c,d,e,g,([]:List Int),a.2.1))))
else
ai7 (idx a.2.1 b) λr=>ai7 (idx a.2.2 b) λs=>aa (.inl (b8 a.2.1 b j.1,b8 a.2.2 b f.1)))))))) λl=>aa (.inl (ai9.wrap (a.1+1),l.1,l.2))
else
aa (.inr (.inl (a.2.1,a.2.2))))) N (0,n,o)) λm=>aa ((0,(0,(0,0))),c,d,e,g,m.2,m.1)
def SU:Fo 158 (.j1 [.g aM, .ptr 0 [] 0, .l aB, .val ag (.own 1)] [.box 221 (.pair (.leaf aB) (.pair (.leaf (.slice aE)) (.pair .nil (.pair .nil (.pair .nil (.leaf (.slice bl))))))), .own 4 .bool] 2) (.j1 [.val ag (.own 2), .g aC] [.box 221 (.pair (.leaf aB) (.pair (.leaf (.slice aE)) (.pair (.own 3) (.pair .nil (.pair .nil (.leaf (.slice bl))))))), .own 4 .bool, .own 3 aB, .own 49 aE] 6) (u6 (M.eQ N)):=fz N [Wt N,WG N,SN N] [O,O,O,O,J ⟨[],[(114, .own 49 aE),(226, .own 3 aB)],[],372⟩,O,T,P ⟨[(37, .l aB)],[(114, .own 49 aE),(226, .own 3 aB)],[],420⟩,O,O,T,J ⟨[],[(114, .own 49 aE),(226, .own 3 aB)],[],438⟩] Tryz.func158
def M.eR(j:aM.den)(k:Int)(c:Int)(d:List aE.den)(e:List bl.den)(f:List (List aE.den))(g:List aD.den)(i:List Bool):Option (aC.den×Int×(List aE.den)×(List bl.den)×(List (List aE.den))×(List aD.den)×(List Bool)×(List Int)×List aE.den):=
ai7 (p6 (j.2.2.2.1.length:Int) (0,(0,0))) λp=>ai7 (p6 (j.2.2.2.1.length:Int) 0) λq=>ai7 (M.dM N j) λm=>cd (J:=(List aE.den)×List Int) (R:=aC.den×Int×(List aE.den)×(List bl.den)×(List (List aE.den))×(List aD.den)×(List Bool)×(List Int)×List aE.den) (Loop (S:=Int×(List aE.den)×List Int) (X:=((List aE.den)×List Int)⊕(aC.den×Int×(List aE.den)×(List bl.den)×(List (List aE.den))×(List aD.den)×(List Bool)×(List Int)×List aE.den)) (λa=>(if(ah (a.1<(m.2.length:Int)))then
cd (J:=(List aE.den)×List Int) (R:=(Int×(List aE.den)×List Int)⊕(((List aE.den)×List Int)⊕(aC.den×Int×(List aE.den)×(List bl.den)×(List (List aE.den))×(List aD.den)×(List Bool)×(List Int)×List aE.den))) (ai7 (idx m.2 a.1) λb=>ai7 (idx i b) λr=>(if(!r)then
aa (.inl (a.2.1,a.2.2))
else
ai7 (M.iO N j (c,(d,(a.2.1,(f,(g,e))))) k b) λh=>(if(!ah (h.2.1=0))then
aa (.inr (.inr (.inr (h.2,c,d,e,f,g,i,([]:List Int),a.2.1))))
else(if(ah (h.1=(-1)))then
aa (.inr (.inr (.inr ((10,(k,(b,(-1)))),c,d,e,f,g,i,([]:List Int),a.2.1))))
else(if(ah (h.1=(-2)))then
aa (.inr (.inr (.inr ((11,(k,(b,(-1)))),c,d,e,f,g,i,([]:List Int),a.2.1))))
else
ai7 (idx j.2.2.2.2 h.1) λs=>ai7 (M.jQ N s.2.2.2.2.2.2.1 (c,(d,(a.2.1,(f,(g,e)))))) λl=>(if(!ah (l.2=0))then
aa (.inr (.inr (.inr ((l.2,(k,(b,h.1))),c,d,e,f,g,i,([]:List Int),a.2.1))))
else
ai7 (idx a.2.1 b) λt=>ai7 (idx a.2.2 b) λu=>aa (.inl (b8 a.2.1 b l.1,b8 a.2.2 b h.1)))))))) λn=>aa (.inl (ai9.wrap (a.1+1),n.1,n.2))
else
aa (.inr (.inl (a.2.1,a.2.2))))) N (0,p,q)) λo=>aa ((0,(0,(0,0))),c,d,e,f,g,i,o.2,o.1)
def SV:Fo 158 (.j1 [.g aM, .ptr 0 [] 0, .l aB, .val ag (.own 3)] [.box 221 (.pair (.leaf aB) (.pair (.leaf (.slice aE)) (.pair .nil (.pair (.own 1) (.pair (.own 2) (.leaf (.slice bl))))))), .own 163 (.slice aE), .own 74 aD, .own 4 .bool] 4) (.j1 [.val ag (.own 4), .g aC] [.box 221 (.pair (.leaf aB) (.pair (.leaf (.slice aE)) (.pair (.own 5) (.pair (.own 1) (.pair (.own 2) (.leaf (.slice bl))))))), .own 163 (.slice aE), .own 74 aD, .own 4 .bool, .own 3 aB, .own 49 aE] 10) (λ(x:aM.den×Int×Int×(List aE.den)×(List bl.den)×(List (List aE.den))×(List aD.den)×List Bool)=>M.eR N x.1 x.2.1 x.2.2.1 x.2.2.2.1 x.2.2.2.2.1 x.2.2.2.2.2.1 x.2.2.2.2.2.2.1 x.2.2.2.2.2.2.2):=fz N [Wt N,WG N,SN N] [O,O,O,O,J ⟨[],[(116, .own 49 aE),(228, .own 3 aB)],[],374⟩,O,T,P ⟨[(37, .l aB)],[(116, .own 49 aE),(228, .own 3 aB)],[],422⟩,O,O,T,J ⟨[],[(116, .own 49 aE),(228, .own 3 aB)],[],440⟩] Tryz.func158
def M.iz(j:bG.den)(r:Int)(g:oe.den)(h:aM.den)(f:aM.den)(k:List Bool)(l:List Bool):Option (Int×(List aE.den)×(List bl.den)×aC.den×aM.den×aM.den×(List Bool)×(List Bool)×(List aE.den)×(List Int)×(List bZ.den)×(List (List aE.den))×List aD.den):=
ai7 (Loop (S:=Int×Int×(List aE.den)×(List bl.den)×List aD.den) (X:=Int×(List aE.den)×(List bl.den)×List aD.den) (λb=>(if(ah (b.1<(f.2.2.2.1.length:Int)))then
ai7 (idx f.2.2.2.1 b.1) λm=>ai7 (cu b.2.2.2.2 ([m.2]:List aD.den)) λn=>aa (.inl (ai9.wrap (b.1+1),b.2.1,b.2.2.1,b.2.2.2.1,n))
else
aa (.inr (b.2.1,b.2.2.1,b.2.2.2.1,b.2.2.2.2)))) N (0,g.1,g.2.1,j.2.1,([]:List aD.den)):Option (Int×(List aE.den)×(List bl.den)×List aD.den)) λi=>cd (J:=(List Bool)×Int×(List aE.den)×(List bl.den)×(List aD.den)×(List (List aE.den))×List bZ.den) (R:=Int×(List aE.den)×(List bl.den)×aC.den×aM.den×aM.den×(List Bool)×(List Bool)×(List aE.den)×(List Int)×(List bZ.den)×(List (List aE.den))×List aD.den) (Loop (S:=Int×(List Bool)×Int×(List aE.den)×(List bl.den)×(List aD.den)×(List (List aE.den))×List bZ.den) (X:=((List Bool)×Int×(List aE.den)×(List bl.den)×(List aD.den)×(List (List aE.den))×List bZ.den)⊕(Int×(List aE.den)×(List bl.den)×aC.den×aM.den×aM.den×(List Bool)×(List Bool)×(List aE.den)×(List Int)×(List bZ.den)×(List (List aE.den))×List aD.den)) (λa=>(if(ah (a.1<(g.2.2.length:Int)))then
ai7 (idx g.2.2 a.1) λo=>ai7 (M.eQ N f a.1 g.1 o j.2.1 a.2.1) λe=>(if(!ah (e.1.1=0))then
aa (.inr (.inr (0,([]:List aE.den),([]:List bl.den),e.1,h,f,k,e.2.2.2.2.1,([]:List aE.den),([]:List Int),([]:List bZ.den),([]:List (List aE.den)),([]:List aD.den))))
else
ai7 (cu a.2.2.2.2.2.2.1 ([e.2.2.2.2.2.2]:List (List aE.den))) λp=>ai7 (cu a.2.2.2.2.2.2.2 ([(e.2.2.2.2.2.2,e.2.2.2.2.2.1)]:List bZ.den)) λq=>aa (.inl (ai9.wrap (a.1+1),e.2.2.2.2.1,a.2.2.1,a.2.2.2.1,a.2.2.2.2.1,a.2.2.2.2.2.1,p,q)))
else
aa (.inr (.inl (a.2.1,a.2.2.1,a.2.2.2.1,a.2.2.2.2.1,a.2.2.2.2.2.1,a.2.2.2.2.2.2.1,a.2.2.2.2.2.2.2))))) N (0,l,i.1,i.2.1,i.2.2.1,i.2.2.2,([]:List (List aE.den)),([]:List bZ.den))) λd=>ai7 (M.eR N h (-1) d.2.1 d.2.2.1 d.2.2.2.1 d.2.2.2.2.2.1 d.2.2.2.2.1 k) λc=>(if(!ah (c.1.1=0))then
aa (0,([]:List aE.den),([]:List bl.den),c.1,h,f,c.2.2.2.2.2.2.1,d.1,([]:List aE.den),([]:List Int),([]:List bZ.den),([]:List (List aE.den)),([]:List aD.den))
else
aa (c.2.1,c.2.2.1,c.2.2.2.1,(0,(0,(0,0))),h,f,c.2.2.2.2.2.2.1,d.1,c.2.2.2.2.2.2.2.2,c.2.2.2.2.2.2.2.1,d.2.2.2.2.2.2,c.2.2.2.2.1,c.2.2.2.2.2.1))
def SW:Fo 123 (.j1 [.g bG, .l aB, .g oe, .ptr 0 [] 0] [.box 254 (.pair (.leaf aM) (.pair (.leaf aM) (.pair (.own 1) (.own 2)))), .own 4 .bool, .own 4 .bool] 3) (.j1 [.val af (.pair (.own 3) (.pair (.own 4) (.own 5))), .val af (.pair (.leaf aB) (.pair (.leaf (.slice aE)) (.pair (.own 3) (.pair (.own 6) (.pair (.own 7) (.leaf (.slice bl))))))), .g aC] [.box 254 (.pair (.leaf aM) (.pair (.leaf aM) (.pair (.own 1) (.own 2)))), .own 4 .bool, .own 4 .bool, .own 49 aE, .own 3 aB, .own 260 bZ, .own 163 (.slice aE), .own 74 aD] 11) (λ(x:bG.den×Int×oe.den×aM.den×aM.den×(List Bool)×List Bool)=>M.iz N x.1 x.2.1 x.2.2.1 x.2.2.2.1 x.2.2.2.2.1 x.2.2.2.2.2.1 x.2.2.2.2.2.2):=fz N [SU N,SV N] [O,O,O,R ⟨[],[(195, .box 221 (.pair (.leaf aB) (.pair (.leaf (.slice aE)) (.pair .nil (.pair .nil (.pair (.own 243) (.leaf (.slice bl)))))))),(243, .own 74 aD)],[],245⟩,O,T,P ⟨[(35, .l aB)],[(195, .box 221 (.pair (.leaf aB) (.pair (.leaf (.slice aE)) (.pair .nil (.pair .nil (.pair (.own 355) (.leaf (.slice bl)))))))),(355, .own 74 aD)],[],357⟩,X,X,J ⟨[],[(2, .own 4 .bool),(195, .box 221 (.pair (.leaf aB) (.pair (.leaf (.slice aE)) (.pair .nil (.pair (.own 245) (.pair (.own 243) (.leaf (.slice bl)))))))),(227, .box 218 (.pair .nil (.pair .nil (.own 246)))),(243, .own 74 aD),(245, .own 163 (.slice aE)),(246, .own 260 bZ)],[],251⟩,O,T,P ⟨[(50, .l aB)],[(2, .own 4 .bool),(195, .box 221 (.pair (.leaf aB) (.pair (.leaf (.slice aE)) (.pair .nil (.pair (.own 309) (.pair (.own 243) (.leaf (.slice bl)))))))),(227, .box 218 (.pair .nil (.pair .nil (.own 310)))),(243, .own 74 aD),(309, .own 163 (.slice aE)),(310, .own 260 bZ)],[],315⟩] Tryz.func123
def M.lN(e:bG.den)(f:Int)(g:oe.den)(a:Int):Option (aE.den×Int×aC.den):=
ai7 (M.iY N e f g af a) λh=>(if(!ah (h.1=0))then
aa ((0,(0,0)),0,h)
else
ai7 (M.kK N e f) λb=>ai7 (M.fj N a b.1 b.2.1 b.2.2.1 b.2.2.2) λc=>ai7 (M.iz N e f g c.1 c.2.1 c.2.2.1 c.2.2.2) λd=>(if(!ah (d.2.2.2.1.1=0))then
aa ((0,(0,0)),0,d.2.2.2.1)
else
ai7 (idx d.2.2.2.2.2.2.2.2.1 a) λi=>ai7 (idx d.2.2.2.2.2.2.2.2.2.1 a) λj=>aa (i,j,(0,(0,(0,0))))))
def W85:Fo 85 (.i1 [.g bG, .l aB, .g oe, .l aB]) (.i1 [.g aE, .l aB, .g aC]) (u4 (M.lN N)):=fz N [aaJ N,aaK N,SR N,SW N] [] Tryz.func85
def M.fk(f:bG.den)(g:bI.den)(h:aO.den)(i:List aD.den)(k:Int):Option (Int×Int):=
cd (J:=Int×Int) (R:=Int×Int) (Loop (S:=Int×Int×Int) (X:=(Int×Int)⊕(Int×Int)) (λa=>(if(ah (a.2.2<(i.length:Int)))then
ai7 (idx i a.2.2) λb=>ai7 (M.fu N f g b.1 k) λc=>(if(!ah (c.2.1=0))then
aa (.inr (.inr (0,c.2.1)))
else
ai7 (M.lN N f g.2.1 (c.1,(c.2.2.1,c.2.2.2)) h.1) λe=>(if(!ah (e.2.2.1=0))then
aa (.inr (.inr (0,e.2.2.1)))
else
aa (.inl (ai9.wrap (a.1+(ai9.wrap (e.1.2.2*(ai9.wrap (b.2-b.1))))),ai9.wrap (a.2.1+(ai9.wrap (b.2-b.1))),ai9.wrap (a.2.2+1)))))
else
aa (.inr (.inl (a.1,a.2.1))))) N (0,0,0)) λj=>ai7 (M.dm N j.1 j.2 h.2.1) λd=>(if(!ah (d.2=0))then
aa (0,d.2)
else
aa (if d.1<0 then 0 else d.1,0))
def W50:Fo 50 (.i1 [.g bG, .g bI, .g aO, .l (.slice aD), .l aB]) (.i1 [.l aB, .l aB]) (u5 (M.fk N)):=fz N [W84 N,W85 N,Wz N] [O,O,J ⟨[(12, .l aB),(13, .l aB)],[],[],112⟩,O,T,P ⟨[(12, .l aB),(13, .l aB),(25, .l aB)],[],[],160⟩] Tryz.func50
def M.cmp_isNaN_int(N:Nat)(a:Int):Option Bool:=
aa (!ah (a=a))
def abr:Fo 150 (.i1 [.l aB]) (.i1 [.l .bool]) (M.cmp_isNaN_int N):=fz N [] [] Tryz.func150
def M.cmp_Less_int(a:Int)(b:Int):Option Bool:=
ai7 (ai7 (M.cmp_isNaN_int N a) λc=>(if c then
ai7 (M.cmp_isNaN_int N b) λd=>(if(!d)then
aa af
else
aa (ah (a<b)))
else
aa (ah (a<b))):Option Bool) λe=>aa e
def abt:Fo 110 (.i1 [.l aB, .l aB]) (.i1 [.l .bool]) (u2 (M.cmp_Less_int N)):=fz N [abr N] [O,B 4 16] Tryz.func110
def M.jS(N:Nat)(a:Int):Option Bool:=
aa (!ah (a=a))
def abu:Fo 129 (.i1 [.l aB]) (.i1 [.l .bool]) (M.jS N):=fz N [] [] Tryz.func129
def M.cP(c:List Int)(d:Int):Option (Int×Bool):=
ai7 (Loop (S:=Int×Int) (X:=Int) (λa=>(if(ah (a.1<a.2))then
ai7 (ai7 (idx c (ai9.wrap (gF .u64 (ajc.wrap (ai9.wrap (a.1+a.2))) 1))) λg=>ai7 (M.cmp_Less_int N g d) λh=>(if h then
aa (ai9.wrap ((ai9.wrap (gF .u64 (ajc.wrap (ai9.wrap (a.1+a.2))) 1))+1),a.2)
else
aa (a.1,ai9.wrap (gF .u64 (ajc.wrap (ai9.wrap (a.1+a.2))) 1))):Option (Int×Int)) λe=>aa (.inl (e.1,e.2))
else
aa (.inr a.1))) N (0,(c.length:Int)):Option Int) λb=>ai7 ((if(ah (b<(c.length:Int)))then
ai7 (idx c b) λi=>(if(ah (i=d))then
aa (b,af)
else
ai7 (idx c b) λj=>ai7 (M.jS N j) λk=>(if k then
ai7 (M.jS N d) λl=>aa (b,l)
else
aa (b,ag)))
else
aa (b,ag)):Option (Int×Bool)) λf=>aa (f.1,f.2)
def W87:Fo 87 (.i1 [.l (.slice aB), .l aB]) (.i1 [.l aB, .l .bool]) (u2 (M.cP N)):=fz N [abt N,abu N] [O,O,O,R ⟨[(7, .l aB)],[],[],128⟩,T,P ⟨[(7, .l aB),(8, .l aB)],[],[],128⟩,O,R ⟨[(7, .l aB),(8, .l aB)],[],[],176⟩,X,X,X,R ⟨[(4, .l aB),(5, .l .bool)],[],[],128⟩] Tryz.func87
def M.jT(c:aD.den)(b:List Int):Option (List aD.den):=
ai7 (M.cP N b (ai9.wrap (c.1+1))) λe=>ai7 (Loop (S:=Int×aD.den×List aD.den) (X:=aD.den×List aD.den) (λa=>ai7 (if(ah (a.1<(b.length:Int)))then
ai7 (idx b a.1) λf=>aa (ah (f<a.2.1.2))
else
aa ag) λg=>(if g then
ai7 (idx b a.1) λh=>ai7 (cu a.2.2 ([(a.2.1.1,h)]:List aD.den)) λi=>ai7 (idx b a.1) λj=>aa (.inl (ai9.wrap (a.1+1),(j,a.2.1.2),i))
else
aa (.inr (a.2.1,a.2.2)))) N (e.1,c,([]:List aD.den)):Option (aD.den×List aD.den)) λd=>ai7 (cu d.2 ([d.1]:List aD.den)) λk=>aa k
def W51:Fo 51 (.i1 [.g aD, .l (.slice aB)]) (.w1 51 aD) (u2 (M.jT N)):=fz N [W87 N] [O,O,O,R ⟨[(5, .val ag (.own 208))],[(0, .box 51 (.leaf aD)),(208, .own 51 aD)],[],210⟩,T,P ⟨[(5, .val ag (.own 208)),(6, .l aB)],[(0, .box 51 (.leaf aD)),(208, .own 51 aD)],[],210⟩,T,B 28 210] Tryz.func51
def M.iA(N:Nat)(a:Int):Option (List Int):=
(if(ah (a<0))then
ae
else
ai7 ((if(ah (0<(ai9.wrap (a-(ai9.wrap (0-0))))))then
ai7 (gq ([]:List Int) 0 0) λe=>ai7 (XI (ai9.wrap (a-(ai9.wrap (0-0)))) 0) λb=>ai7 (gq b 0 0) λc=>aa c
else
aa ([]:List Int)):Option (List Int)) λd=>aa d)
def SX:Fo 130 (.i1 [.val ag .nil, .l aB]) (.w1 3 aB) (M.iA N):=fz N [] [O,O,R ⟨[(0, .val ag (.own 48))],[(48, .own 3 aB)],[],49⟩] Tryz.func130
def M.fH(c:List (List Int)):Option (List Int):=
ai7 (Loop (S:=Int×Int) (X:=Int) (λa=>(if(ah (a.2<(c.length:Int)))then
ai7 (idx c a.2) λd=>(if(ah ((ai9.wrap (a.1+(d.length:Int)))<0))then
ae
else
aa (.inl (ai9.wrap (a.1+(d.length:Int)),ai9.wrap (a.2+1))))
else
aa (.inr a.1))) N (0,0):Option Int) λe=>ai7 (M.iA N e) λf=>Loop (S:=Int×List Int) (X:=List Int) (λb=>(if(ah (b.1<(c.length:Int)))then
ai7 (idx c b.1) λg=>ai7 (cu b.2 g) λh=>aa (.inl (ai9.wrap (b.1+1),h))
else
aa (.inr b.2))) N (0,f)
def W88:Fo 88 (.i1 [.l (.slice (.slice aB))]) (.w1 3 aB) (M.fH N):=fz N [SX N] [O,O,R ⟨[(3, .l aB)],[],[],32⟩,O,T,P ⟨[(3, .l aB),(11, .l aB)],[],[],80⟩,X,X,O,T,O,T,P ⟨[(6, .val ag (.own 128)),(27, .l aB)],[(128, .own 3 aB)],[48],129⟩] Tryz.func88
def M.dN(c:List aD.den):Option (List Int):=
ai7 (Loop (S:=Int×List Int) (X:=List Int) (λa=>(if(ah (a.1<(c.length:Int)))then
ai7 (ai7 (idx c a.1) λb=>ai7 (M.dP N b) λd=>(if d then
ai7 (cu a.2 ([b.1,b.2]:List Int)) λe=>aa e
else
aa a.2):Option (List Int)) λf=>aa (.inl (ai9.wrap (a.1+1),f))
else
aa (.inr a.2))) N (0,([]:List Int)):Option (List Int)) λg=>ai7 (M.bQ N g) λh=>ai7 (M.bz N h) λi=>aa i
def WH:Fo 132 (.i1 [.l (.slice aD)]) (.w1 3 aB) (M.dN N):=fz N [V8 N,V9 N,Wb N] [O,O,R ⟨[(3, .val ag (.own 32))],[(32, .own 3 aB)],[],33⟩,O,T,P ⟨[(3, .val ag (.own 80)),(8, .l aB)],[(80, .own 3 aB)],[],81⟩,O,O,T,R ⟨[(3, .val ag (.own 97))],[(97, .own 3 aB)],[80],98⟩] Tryz.func132
def M.gj(e:List bg.den)(g:Int):Option (List Int):=
ai7 (Loop (S:=Int×List aD.den) (X:=List aD.den) (λa=>(if(ah (a.1<(e.length:Int)))then
ai7 (ai7 (idx e a.1) λc=>ai7 (if(ah (c.2.2.2.2.2<=g))then
ai7 (M.jE N c.2.2.2.2.1) λh=>aa h
else
aa ag) λi=>(if i then
ai7 (cu a.2 ([c.2.2.2.2.1]:List aD.den)) λj=>aa j
else
aa a.2):Option (List aD.den)) λk=>aa (.inl (ai9.wrap (a.1+1),k))
else
aa (.inr a.2))) N (0,([]:List aD.den)):Option (List aD.den)) λl=>ai7 (M.dN N l) λf=>Loop (S:=Int×List Int) (X:=List Int) (λb=>(if(ah (b.1<(f.length:Int)))then
ai7 (ai7 (idx f b.1) λd=>ai7 (if(ah (1<=d))then
aa (ah (d<=109572))
else
aa ag) λm=>(if m then
ai7 (cu b.2 ([d]:List Int)) λn=>aa n
else
aa b.2):Option (List Int)) λo=>aa (.inl (ai9.wrap (b.1+1),o))
else
aa (.inr b.2))) N (0,([]:List Int))
def W89:Fo 89 (.i1 [.l (.slice bg), .l aB]) (.w1 3 aB) (u2 (M.gj N)):=fz N [Wo N,WH N] [O,O,R ⟨[(5, .val ag (.own 32))],[(32, .own 51 aD)],[],33⟩,O,T,P ⟨[(5, .val ag (.own 80)),(13, .l aB)],[(80, .own 51 aD)],[],81⟩,O,O,T,R ⟨[(5, .val ag (.own 97))],[(97, .own 51 aD)],[80],98⟩,O,B 25 161,X,X,X,O,T,O,T,P ⟨[(8, .val ag (.own 113)),(35, .l aB)],[(113, .own 3 aB)],[],114⟩,O,O,T,R ⟨[(8, .val ag (.own 130))],[(130, .own 3 aB)],[113],131⟩,O,B 44 178] Tryz.func89
def M.cG(N:Nat)(a:List Int):Option (List Int):=pE zI a
def SY:oN:=⟨.j1 [.val ag (.own 0), .fn 134 []] [.own 3 aB] 1,⟨[(0, .val ag (.own 1))],[(1, .own 3 aB)],[],2⟩,M.cG N⟩
def SZ(N:Nat):fZ Tryz.prog 133 (SY N):=FK
def M.cv(e:bG.den):Option (List Int):=
ai7 (Loop (S:=Int×List aD.den) (X:=List aD.den) (λa=>(if(ah (a.1<(e.2.1.length:Int)))then
ai7 (ai7 (idx e.2.1 a.1) λf=>Loop (S:=Int×List aD.den) (X:=List aD.den) (λb=>(if(ah (b.1<(f.2.2.2.length:Int)))then
ai7 (idx f.2.2.2 b.1) λh=>ai7 (cu b.2 ([h.1]:List aD.den)) λi=>aa (.inl (ai9.wrap (b.1+1),i))
else
aa (.inr b.2))) N (0,a.2):Option (List aD.den)) λj=>aa (.inl (ai9.wrap (a.1+1),j))
else
aa (.inr a.2))) N (0,([]:List aD.den)):Option (List aD.den)) λk=>ai7 (Loop (S:=Int×List aD.den) (X:=List aD.den) (λc=>(if(ah (c.1<(e.2.2.length:Int)))then
ai7 (ai7 (idx e.2.2 c.1) λg=>Loop (S:=Int×List aD.den) (X:=List aD.den) (λd=>(if(ah (d.1<(g.2.2.2.2.length:Int)))then
ai7 (idx g.2.2.2.2 d.1) λl=>ai7 (cu d.2 ([l.2.2.2.2.1]:List aD.den)) λm=>aa (.inl (ai9.wrap (d.1+1),m))
else
aa (.inr d.2))) N (0,c.2):Option (List aD.den)) λn=>aa (.inl (ai9.wrap (c.1+1),n))
else
aa (.inr c.2))) N (0,k):Option (List aD.den)) λo=>ai7 (M.dN N o) λp=>ai7 (M.cG N p) λq=>aa q
def W90:Fo 90 (.i1 [.g bG]) (.w1 3 aB) (M.cv N):=fz N [WH N,SZ N] [O,O,R ⟨[(3, .val ag (.own 48))],[(48, .own 51 aD)],[],49⟩,O,T,P ⟨[(3, .val ag (.own 112)),(15, .l aB)],[(112, .own 51 aD)],[],113⟩,O,O,R ⟨[(3, .val ag (.own 129))],[(129, .own 51 aD)],[112],130⟩,T,O,O,T,P ⟨[(3, .val ag (.own 257)),(22, .l aB)],[(257, .own 51 aD)],[112],258⟩,X,X,X,X,X,R ⟨[(3, .val ag (.own 49))],[(49, .own 51 aD)],[48],50⟩,O,T,P ⟨[(3, .val ag (.own 113)),(36, .l aB)],[(113, .own 51 aD)],[48],114⟩,O,O,R ⟨[(3, .val ag (.own 130))],[(130, .own 51 aD)],[113],131⟩,T,O,O,T,P ⟨[(3, .val ag (.own 258)),(43, .l aB)],[(258, .own 51 aD)],[113],259⟩] Tryz.func90
def M.dS(a:bG.den)(b:bI.den)(c:Int):Option (List Int):=
ai7 (M.gj N b.2.2.2 c) λd=>ai7 (M.cv N a) λe=>ai7 (M.fH N ([d,e]:List (List Int))) λf=>ai7 (M.bQ N f) λg=>ai7 (M.bz N g) λh=>aa h
def W52:Fo 52 (.i1 [.g bG, .g bI, .l aB]) (.w1 3 aB) (u3 (M.dS N)):=fz N [V8 N,V9 N,W88 N,W89 N,W90 N] [] Tryz.func52
def M.kP(d:bG.den)(e:bI.den)(f:aO.den)(b:Int)(c:Int)(g:Int):Option (List aE.den):=
ai7 (if(ah (b<0))then
aa af
else(if(ah (c<b))then
aa af
else(if(ah (3600<c))then
aa af
else
aa (ah (120<(ai9.wrap (c-b))))))) λk=>(if k then
aa ([]:List aE.den)
else
ai7 (TW 0 (ai9.wrap (c-b)) (0,(0,0))) λl=>ai7 (M.gT N d e f) λh=>ai7 ((if h then
ai7 (M.dS N d e g) λm=>aa m
else
aa ([]:List Int)):Option (List Int)) λn=>Loop (S:=Int×List aE.den) (X:=List aE.den) (λa=>(if(ah (a.1<c))then
ai7 (ai7 (M.ln N a.1) λi=>(if(!ah (i.2=0))then
aa (a.1,(0,3))
else(if h then
ai7 (M.jT N i.1 n) λo=>ai7 (M.fk N d e f o g) λj=>aa (a.1,(j.1,j.2))
else
aa (a.1,(0,1)))):Option (aE.den)) λp=>ai7 (cu a.2 ([p]:List aE.den)) λq=>aa (.inl (ai9.wrap (a.1+1),q))
else
aa (.inr a.2))) N (b,l))
def W78:Fo 78 (.i1 [.g bG, .g bI, .g aO, .l aB, .l aB, .l aB]) (.w1 67 aE) (u6 (M.kP N)):=fz N [W48 N,W49 N,W50 N,W51 N,W52 N] [O,T,B 36 64,O,O,O,R ⟨[(15, .val ag (.own 240))],[(240, .own 3 aB)],[],241⟩,X,T,O,T,P ⟨[(13, .val ag (.own 273)),(16, .l aB)],[(273, .own 67 aE)],[112],274⟩,O,T,T,O,R ⟨[],[(354, .box 67 (.leaf aE))],[],387⟩] Tryz.func78
def M.pI(g:List aE.den)(h:List aC.den):Option (List aC.den):=
ai7 (Loop (S:=Int×List (Int×List aC.den)) (X:=List (Int×List aC.den)) (λf=>(if(ah (f.1<(g.length:Int)))then
ai7 (idx g f.1) λk=>aa (.inl (ai9.wrap (f.1+1),fL aB f.2 k.1 ([]:List aC.den)))
else
aa (.inr f.2))) N (0,([]:List (Int×List aC.den))):Option (List (Int×List aC.den))) λl=>ai7 (Loop (S:=Int×List (Int×List aC.den)) (X:=List (Int×List aC.den)) (λc=>(if(ah (c.1<(h.length:Int)))then
ai7 (ai7 (idx h c.1) λd=>(if((bn aB c.2 d.2.1).isSome)then
ai7 (cu ((bn aB c.2 d.2.1).getD ([]:List aC.den)) ([d]:List aC.den)) λm=>(if ah (d.2.1=d.2.1)then
aa (fL aB c.2 d.2.1 m)
else ae)
else
aa (yw aB c.2 d.2.1 ((bn aB c.2 d.2.1).getD ([]:List aC.den)))):Option (List (Int×List aC.den))) λn=>aa (.inl (ai9.wrap (c.1+1),n))
else
aa (.inr c.2))) N (0,l):Option (List (Int×List aC.den))) λo=>Loop (S:=(List (Int×(List aC.den)))×Int×(List (Int×aC.den))×List aC.den) (X:=List aC.den) (λa=>(if(ah (a.2.1<(g.length:Int)))then
ai7 (idx g a.2.1) λb=>ai7 ((if(!((bn aB a.2.2.1 b.1).isSome))then
ai7 (M.dx N ((bn aB a.1 b.1).getD ([]:List aC.den)) b.1) λi=>ai7 (M.gy N ((bn aB a.1 b.1).getD ([]:List aC.den)) b.1) λj=>aa (fL aB a.2.2.1 b.1 (b.1,(0,(i,j))),(b.1,(0,(i,j))))
else
aa (a.2.2.1,(bn aB a.2.2.1 b.1).getD (0,(0,(0,0))))):Option ((List (Int×aC.den))×aC.den)) λe=>ai7 ((if(!ah (b.2.2=0))then
aa (e.2.1,(e.2.2.2.1,e.2.2.2))
else
aa (e.2.1,(b.2.1,e.2.2.2))):Option (aC.den)) λp=>ai7 (cu a.2.2.2 ([p]:List aC.den)) λq=>aa (.inl (a.1,ai9.wrap (a.2.1+1),e.1,q))
else
aa (.inr a.2.2.2))) N (o,0,([]:List (Int×aC.den)),([]:List aC.den))
def S79:oN:=⟨.i1 [.l (.slice aE), .l (.slice aC)], .w1 114 aC,u2 (M.pI N)⟩
def W79(N:Nat):fZ Tryz.prog 79 (S79 N):=fw (en [ck (Z1 N),ck (W61 N)] af ag) (N:=N) (.o (.o (.meet ⟨[],[(16, .dmap 203 aB 87 aC)],[],49⟩ (.o (.two (.loop ⟨[(22, .l aB)],[(16, .dmap 203 aB 87 aC)],[],97⟩ .nil) .nil)) (.meet ⟨[],[(16, .dmap 203 aB 87 aC)],[],50⟩ (.o (.two (.loop ⟨[(32, .l aB)],[(16, .dmap 203 aB 87 aC)],[],98⟩ (.o (.o (.two (.meet ⟨[],[(16, .dmap 203 aB 87 aC)],[],115⟩ .nil .nil) .nil)))) .nil)) (.o (.o (.two (.o (.two (.loop ⟨[(5, .l (.map aB ag (.slice aC))),(13, .val ag (.own 146)),(55, .l aB)],[(50, .map 205 aB af aC),(146, .own 114 aC)],[16],148⟩ (.o (.o (.two (.two (.o (.o (.meet ⟨[],[(50, .map 205 aB af aC),(340, .box 114 (.leaf aC))],[],390⟩ .nil (.o (.meet ⟨[],[(340, .box 114 (.leaf aC))],[],455⟩ .nil .nil))))) .nil) .nil)))) .nil)) .nil))))))) Tryz.func79 (by kernel_rfl) λx=>by kernel_rfl
def M.gU(c:List aP.den)(d:Int):Option (Int×Bool):=
Loop (S:=Int) (X:=Int×Bool) (λb=>(if(ah (0<=b))then
ai7 (idx c b) λa=>ai7 (if(ah (a.2.2.2.2.2.1=3))then(if(ah (a.2.1<=d))then
aa (ah (d<a.2.2.1))
else
aa ag)
else
aa ag) λe=>(if e then
aa (.inr (a.2.2.2.2.2.2,af))
else
aa (.inl (ai9.wrap (b-1))))
else
aa (.inr (0,ag)))) N (ai9.wrap ((c.length:Int)-1))
def abv:Fo 115 (.i1 [.l (.slice aP), .l aB]) (.i1 [.l aB, .l .bool]) (u2 (M.gU N)):=fz N [] [O,T,O,T,L 6 96,O,T,T,O,B 33 224] Tryz.func115
def M.nA(c:List aE.den)(e:List aP.den):Option (List aE.den):=
Loop (S:=Int×List aE.den) (X:=List aE.den) (λa=>(if(ah (a.1<(c.length:Int)))then
ai7 (idx c a.1) λb=>ai7 (ai7 (M.gU N e b.1) λd=>(if d.2 then
aa (b.1,(d.1,0))
else
aa b):Option (aE.den)) λf=>ai7 (cu a.2 ([f]:List aE.den)) λg=>aa (.inl (ai9.wrap (a.1+1),g))
else
aa (.inr a.2))) N (0,([]:List aE.den))
def W80:Fo 80 (.i1 [.l (.slice aE), .l (.slice aP)]) (.w1 67 aE) (u2 (M.nA N)):=fz N [abv N] [O,O,T,O,T,P ⟨[(5, .val ag (.own 80)),(12, .l aB)],[(80, .own 67 aE)],[],81⟩,O,O,T,T,O,R ⟨[],[(129, .box 67 (.leaf aE))],[],162⟩] Tryz.func80
def M.cL(e:bG.den)(a:aO.den)(b:b9.den)(c:Int)(f:Int):Option (List aC.den):=
ai7 (if(ah (c<a.2.2.2.2.2.1))then
aa af
else
aa (ah (3599<c))) λg=>(if g then
aa ([]:List aC.den)
else
ai7 (M.kP N e b.1 a a.2.2.2.2.2.1 (ai9.wrap (c+1)) f) λd=>(if(ah ((d.length:Int)=0))then
aa ([]:List aC.den)
else
ai7 (M.nA N d b.2.2.1) λh=>ai7 (M.pI N h b.2.1) λi=>aa i))
def WI:Fo 44 (.i1 [.g bG, .g aO, .g b9, .l aB, .l aB]) (.w1 114 aC) (u5 (M.cL N)):=fz N [W78 N,W79 N,W80 N] [O,T,B 19 64] Tryz.func44
def M.eV(N:Nat)(a:aC.den):Option Int:=
aa (if(ai9.wrap (a.2.1-a.2.2.1))<0 then 0 else(ai9.wrap (a.2.1-a.2.2.1)))
def W45:Fo 45 (.i1 [.g aC]) (.i1 [.l aB]) (M.eV N):=fz N [] [] Tryz.func45
def M.eJ(b:Int)(a:aO.den):Option Int:=
(if(ah (b<1))then
aa 0
else
ai7 (M.k7 N b a.2.2.2.1 0) λc=>(if(!ah (c.2=0))then
aa 0
else
aa (if(if c.1<(ai9.wrap (b-(if a.2.2.2.2.1<0 then 0 else a.2.2.2.2.1)))then c.1 else(ai9.wrap (b-(if a.2.2.2.2.1<0 then 0 else a.2.2.2.2.1))))<0 then 0 else(if c.1<(ai9.wrap (b-(if a.2.2.2.2.1<0 then 0 else a.2.2.2.2.1)))then c.1 else(ai9.wrap (b-(if a.2.2.2.2.1<0 then 0 else a.2.2.2.2.1)))))))
def W39:Fo 39 (.i1 [.l aB, .g aO]) (.i1 [.l aB]) (u2 (M.eJ N)):=fz N [W74 N] [] Tryz.func39
def M.cx(N:Nat)(a:aC.den):Option Int:=
aa (if(ai9.wrap ((ai9.wrap (a.2.2.1-a.2.1))-a.2.2.2))<0 then 0 else(ai9.wrap ((ai9.wrap (a.2.2.1-a.2.1))-a.2.2.2)))
def X7:Fo 46 (.i1 [.g aC]) (.i1 [.l aB]) (M.cx N):=fz N [] [] Tryz.func46
def M.fb(c:List aC.den)(f:Int)(g:Int)(h:Int)(i:List (Int×Bool)):Option (Int×List aC.den):=
ai7 (we c 0 (c.length:Int) (c.length:Int)) λj=>Loop (S:=Int×(List aC.den)×List aC.den) (X:=Int×List aC.den) (λa=>ai7 (if(ah (0<(a.2.1.length:Int)))then
aa (ah (0<a.1))
else
aa ag) λk=>(if k then
ai7 (ai7 (idx a.2.1 0) λd=>ai7 (M.cx N d) λb=>ai7 (if(ah (b<=0))then
aa af
else
aa ((bn aB i d.1).getD ag)) λl=>(if l then
aa (a.1,a.2.2)
else
ai7 (cu a.2.2 ([(h,(d.1,(g,if a.1<b then a.1 else b)))]:List aC.den)) λm=>aa (ai9.wrap (a.1-(if a.1<b then a.1 else b)),m)):Option (Int×List aC.den)) λe=>ai7 (we a.2.1 1 (a.2.1.length:Int) (a.2.1.length:Int)) λn=>aa (.inl (e.1,n,e.2))
else
aa (.inr (a.1,a.2.2)))) N (f,j,([]:List aC.den))
def WJ:Fo 102 (.i1 [.l (.slice aC), .l aB, .l aB, .l aB, .l (.map aB ag .bool)]) (.j1 [.val ag (.own 0), .l aB] [.own 87 aC] 1) (u5 (M.fb N)):=fz N [X7 N] [O,O,T,O,T,P ⟨[(1, .l aB),(12, .val ag (.own 160)),(13, .l (.slice aC))],[(160, .own 87 aC)],[],161⟩,T,B 29 161,T,R ⟨[(1, .l aB),(12, .val ag (.own 161))],[(161, .own 87 aC)],[160],162⟩,O,O,T,B 48 289] Tryz.func102
def M.mG(c:List aC.den)(d:Int)(e:aO.den)(f:Int)(b:List Int):Option (List aC.den):=
ai7 (Loop (S:=Int×List (Int×Bool)) (X:=List (Int×Bool)) (λa=>(if(ah (a.1<(b.length:Int)))then
ai7 (idx b a.1) λg=>aa (.inl (ai9.wrap (a.1+1),fL aB a.2 g af))
else
aa (.inr a.2))) N (0,([]:List (Int×Bool))):Option (List (Int×Bool))) λh=>ai7 (M.eJ N d e) λi=>ai7 (M.fb N c i 2 f h) λj=>aa j.2
def W98:Fo 98 (.i1 [.l (.slice aC), .l aB, .g aO, .l aB, .l (.slice aB)]) (.w1 87 aC) (u5 (M.mG N)):=fz N [W39 N,WJ N] [O,O,R ⟨[],[(32, .map 234 aB ag .bool)],[],65⟩,O,T,P ⟨[(19, .l aB)],[(32, .map 234 aB ag .bool)],[],113⟩] Tryz.func98
def M.oq(b:List aC.den)(h:Int)(i:aO.den)(e:Int)(j:List Int):Option (List aC.den):=
ai7 (Loop (S:=Int×Int×List aC.den) (X:=Int×List aC.den) (λa=>(if(ah (a.2.1<(b.length:Int)))then
ai7 (ai7 (idx b a.2.1) λc=>ai7 (M.eV N c) λd=>ai7 (if(ah (h<c.1))then
aa af
else
aa (ah (d<=0))) λk=>(if k then
aa (a.1,a.2.2)
else
ai7 (cu a.2.2 ([(e,(c.1,(1,d)))]:List aC.den)) λl=>aa (ai9.wrap (a.1+d),l)):Option (Int×List aC.den)) λf=>aa (.inl (f.1,ai9.wrap (a.2.1+1),f.2))
else
aa (.inr (a.1,a.2.2)))) N (0,0,([]:List aC.den)):Option (Int×List aC.den)) λg=>ai7 (M.mG N b g.1 i e j) λm=>ai7 (cu g.2 m) λn=>aa n
def W66:Fo 66 (.i1 [.l (.slice aC), .l aB, .g aO, .l aB, .l (.slice aB)]) (.w1 87 aC) (u5 (M.oq N)):=fz N [W45 N,W98 N] [O,O,O,R ⟨[(11, .val ag (.own 64)),(12, .l aB)],[(64, .own 87 aC)],[],65⟩,O,T,P ⟨[(11, .val ag (.own 112)),(12, .l aB),(18, .l aB)],[(112, .own 87 aC)],[],113⟩,O,O,T,R ⟨[(11, .val ag (.own 129)),(12, .l aB)],[(129, .own 87 aC)],[112],130⟩,O,O,T,B 31 241] Tryz.func66
def M.iB(N:Nat)(b:List aC.den)(c:Int)(d:Int)(e:Int)(f:aD.den)(g:List bg.den)(a:List aC.den)(h:List aP.den):Option (Int×Int×Int×Int×aD.den×(List bg.den)×(List aP.den)×List aC.den):=
(if(ah (4096<(ai9.wrap ((a.length:Int)+(b.length:Int)))))then
aa (4,c,d,e,f,g,h,a)
else
ai7 (cu a b) λi=>aa (0,c,d,e,f,g,h,i))
def W67:Fo 67 (.j1 [.ptr 0 [] 0, .l (.slice aC)] [.box 43 (.pair (.pair (.leaf aB) (.pair (.leaf aB) (.pair (.leaf aB) (.own 1)))) (.pair (.own 2) (.pair (.own 3) (.leaf aD)))), .own 53 bg, .own 87 aC, .own 103 aP] 4) ⟨[(0, .l aB)],[(0, .box 43 (.pair (.pair (.leaf aB) (.pair (.leaf aB) (.pair (.leaf aB) (.own 1)))) (.pair (.own 4) (.pair (.own 3) (.leaf aD))))),(1, .own 53 bg),(3, .own 103 aP),(4, .own 87 aC)],[],8⟩ (λ(x:(List aC.den)×Int×Int×Int×aD.den×(List bg.den)×(List aC.den)×List aP.den)=>M.iB N x.1 x.2.1 x.2.2.1 x.2.2.2.1 x.2.2.2.2.1 x.2.2.2.2.2.1 x.2.2.2.2.2.2.1 x.2.2.2.2.2.2.2):=fz N [] [] Tryz.func67
def M.gV(k:bG.den)(j:aO.den)(b:bN.den)(e:Int)(f:Int)(g:Int)(c:aD.den)(h:List bg.den)(i:List aC.den)(d:List aP.den):Option (Int×Int×Int×Int×aD.den×(List bg.den)×(List aP.den)×List aC.den):=
ai7 (M.iN N j b.2.2.1) λl=>(if(!l)then
aa (3,e,f,g,c,h,d,i)
else(if(ah (b.2.2.1<c.2))then
aa (9,e,f,g,c,h,d,i)
else
ai7 (M.cL N k j ((e,(f,(g,h))),(i,(d,c))) b.2.2.1 b.2.1) λm=>ai7 (M.fa N d) λn=>ai7 (M.oq N m b.2.2.1 j b.2.1 n) λo=>ai7 (M.iB N o e f g (c.1,b.2.2.1) h i d) λa=>aa (a.1,a.2.1,a.2.2.1,a.2.2.2.1,a.2.2.2.2.1,a.2.2.2.2.2.1,a.2.2.2.2.2.2.1,a.2.2.2.2.2.2.2)))
def W31:Fo 31 (.j1 [.g bG, .g aO, .ptr 0 [] 0, .g bN] [.box 43 (.pair (.pair (.leaf aB) (.pair (.leaf aB) (.pair (.leaf aB) (.own 1)))) (.pair (.own 2) (.pair (.own 3) (.leaf aD)))), .own 53 bg, .own 87 aC, .own 103 aP] 4) ⟨[(0, .l aB)],[(0, .box 43 (.pair (.pair (.leaf aB) (.pair (.leaf aB) (.pair (.leaf aB) (.own 1)))) (.pair (.own 4) (.pair (.own 3) (.leaf aD))))),(1, .own 53 bg),(3, .own 103 aP),(4, .own 87 aC)],[],8⟩ (λ(x:bG.den×aO.den×bN.den×Int×Int×Int×aD.den×(List bg.den)×(List aC.den)×List aP.den)=>M.gV N x.1 x.2.1 x.2.2.1 x.2.2.2.1 x.2.2.2.2.1 x.2.2.2.2.2.1 x.2.2.2.2.2.2.1 x.2.2.2.2.2.2.2.1 x.2.2.2.2.2.2.2.2.1 x.2.2.2.2.2.2.2.2.2):=fz N [W13 N,WI N,W59 N,W66 N,W67 N] [] Tryz.func31
def M.mH(N:Nat)(a:Int):Option Bool:=
ai7 (if(ah (0<=a))then
aa (ah (a<=109572))
else
aa ag) λb=>aa b
def W99:Fo 99 (.i1 [.l aB]) (.i1 [.l .bool]) (M.mH N):=fz N [] [O,B 2 16] Tryz.func99
def M.pJ(a:Int):Option Int:=
ai7 (M.iu N a) λb=>(if(!b)then
aa (-1)
else
aa (ajH a 7))
def aby:Fo 222 (.i1 [.l aB]) (.i1 [.l aB]) (M.pJ N):=fz N [O4 N] [] Tryz.func222
def M.mI(a:cQ.den)(b:Int):Option Bool:=
ai7 (M.pJ N b) λc=>ai7 (Cc .i64 a.1 c) λd=>(if(!ah ((fI .and .i64 d 1)=0))then
aa ag
else
ai7 (M.cP N a.2 b) λe=>aa (!e.2))
def abz:Fo 198 (.i1 [.g cQ, .l aB]) (.i1 [.l .bool]) (u2 (M.mI N)):=fz N [W87 N,aby N] [] Tryz.func198
def M.mQ(b:cQ.den)(c:Int)(d:Int):Option (Int×Int):=
Loop (S:=Int×Int) (X:=Int×Int) (λa=>(if(ah (a.1<=109572))then
cd (J:=Int) (R:=(Int×Int)⊕(Int×Int)) (ai7 (M.mI N b a.1) λe=>(if(!e)then
aa (.inl a.2)
else(if(ah ((ai9.wrap (a.2-1))=0))then
aa (.inr (.inr (a.1,0)))
else
aa (.inl (ai9.wrap (a.2-1)))))) λf=>aa (.inl (ai9.wrap (a.1+1),f))
else
aa (.inr (0,6)))) N (c,d)
def WK:Fo 168 (.i1 [.g cQ, .l aB, .l aB]) (.i1 [.l aB, .l aB]) (u3 (M.mQ N)):=fz N [abz N] [O,T,T,P ⟨[(1, .l aB),(2, .l aB)],[],[],48⟩,O,T,J ⟨[(2, .l aB)],[],[],80⟩] Tryz.func168
def M.pK(a:cQ.den)(b:Int):Option (Int×Int):=
ai7 (M.gx N a) λd=>(if(!d)then
aa (0,1)
else
ai7 (M.eN N b) λe=>(if(!e)then
aa (0,3)
else
ai7 (M.mQ N a b 1) λc=>aa (c.1,c.2)))
def abA:Fo 167 (.i1 [.g cQ, .l aB]) (.i1 [.l aB, .l aB]) (u2 (M.pK N)):=fz N [X4 N,Sv N,WK N] [] Tryz.func167
def M.qv(b:cQ.den)(c:Int)(a:Int):Option (Int×Int):=
ai7 (M.gx N b) λf=>(if(!f)then
aa (0,1)
else
ai7 (ai7 (M.eN N c) λg=>(if(!g)then
aa af
else(if(ah (a<0))then
aa af
else
aa (ah (365<a)))):Option Bool) λh=>(if h then
aa (0,3)
else(if(ah (a=0))then
ai7 (M.pK N b c) λd=>aa (d.1,d.2)
else
ai7 (M.mQ N b (ai9.wrap (c+1)) a) λe=>aa (e.1,e.2))))
def abB:Fo 142 (.i1 [.g cQ, .l aB, .l aB]) (.i1 [.l aB, .l aB]) (u3 (M.qv N)):=fz N [X4 N,Sv N,abA N,WK N] [O,O,T,B 21 96] Tryz.func142
def M.jK(b:cQ.den)(c:Int)(d:Int):Option Int:=
ai7 (M.qv N b c d) λa=>(if(!ah (a.2=0))then
aa 109572
else
aa a.1)
def abC:Fo 100 (.i1 [.g cQ, .l aB, .l aB]) (.i1 [.l aB]) (u3 (M.jK N)):=fz N [abB N] [] Tryz.func100
def M.ot(c:Int)(d:Int)(e:Int)(a:Int)(f:Int)(b:aO.den):Option (aP.den×Int):=
ai7 (if(ah (c<0))then
aa af
else
ai7 (M.mH N a) λg=>(if(!g)then
aa af
else
ai7 (M.mH N f) λh=>(if(!h)then
aa af
else
ai7 (M.fC N d e) λi=>aa (!i)))) λj=>(if j then
aa ((0,(0,(0,(0,(0,(0,0)))))),3)
else(if(ah (a<f))then
aa ((0,(0,(0,(0,(0,(0,0)))))),14)
else
ai7 (ai7 (M.gx N b.2.2.2.2.2.2.2) λk=>(if(!k)then
aa af
else(if(ah (b.2.2.2.2.2.2.1<0))then
aa af
else
aa (ah (365<b.2.2.2.2.2.2.1)))):Option Bool) λl=>(if l then
aa ((0,(0,(0,(0,(0,(0,0)))))),1)
else
ai7 (ai7 (M.jK N b.2.2.2.2.2.2.2 f b.2.2.2.2.2.2.1) λm=>(if(ah (m<a))then
aa (c,(d,(e,(a,(a,(6,0))))))
else
ai7 (M.jK N b.2.2.2.2.2.2.2 a 60) λn=>aa (c,(d,(e,(a,(n,(1,0))))))):Option (aP.den)) λo=>aa (o,0))))
def W68:Fo 68 (.i1 [.l aB, .l aB, .l aB, .l aB, .l aB, .g aO]) (.i1 [.g aP, .l aB]) (u6 (M.ot N)):=fz N [X4 N,W97 N,W99 N,abC N] [O,T,B 32 48,O,T,B 51 96,O,R ⟨[],[(176, .box 103 (.leaf aP))],[],209⟩] Tryz.func68
def M.gJ(j:aO.den)(b:bN.den)(c:Int)(d:Int)(e:Int)(f:aD.den)(g:List bg.den)(h:List aC.den)(a:List aP.den):Option (Int×Int×Int×Int×aD.den×(List bg.den)×(List aC.den)×List aP.den):=
(if(ah (16<=(a.length:Int)))then
aa (4,c,d,e,f,g,h,a)
else
ai7 (M.ot N (a.length:Int) b.2.2.1 b.2.2.2.1 b.2.1 b.2.2.2.2.1 j) λi=>(if(!ah (i.2=0))then
aa (i.2,c,d,e,f,g,h,a)
else
ai7 (cu a ([i.1]:List aP.den)) λk=>aa (0,c,d,e,f,g,h,k)))
def W32:Fo 32 (.j1 [.g aO, .ptr 0 [] 0, .g bN] [.box 43 (.pair (.pair (.leaf aB) (.pair (.leaf aB) (.pair (.leaf aB) (.own 1)))) (.pair (.own 2) (.pair (.own 3) (.leaf aD)))), .own 53 bg, .own 87 aC, .own 103 aP] 4) ⟨[(0, .l aB)],[(0, .box 43 (.pair (.pair (.leaf aB) (.pair (.leaf aB) (.pair (.leaf aB) (.own 1)))) (.pair (.own 2) (.pair (.own 4) (.leaf aD))))),(1, .own 53 bg),(2, .own 87 aC),(4, .own 103 aP)],[],8⟩ (λ(x:aO.den×bN.den×Int×Int×Int×aD.den×(List bg.den)×(List aC.den)×List aP.den)=>M.gJ N x.1 x.2.1 x.2.2.1 x.2.2.2.1 x.2.2.2.2.1 x.2.2.2.2.2.1 x.2.2.2.2.2.2.1 x.2.2.2.2.2.2.2.1 x.2.2.2.2.2.2.2.2):=fz N [W68 N] [] Tryz.func32
def M.mu(N:Nat)(b:Int)(a:Int):Option Bool:=
(if(ah (b=1))then
ai7 (if(ah (a=2))then
aa af
else(if(ah (a=4))then
aa af
else
aa (ah (a=5)))) λc=>aa c
else(if(ah (b=2))then
ai7 (if(ah (a=3))then
aa af
else(if(ah (a=4))then
aa af
else
aa (ah (a=5)))) λd=>aa d
else
aa ag))
def abD:Fo 101 (.i1 [.l aB, .l aB]) (.i1 [.l .bool]) (u2 (M.mu N)):=fz N [] [O,T,O,T,O,T,B 4 64,O,T,B 4 96] Tryz.func101
def M.jn(a:aP.den)(b:Int)(c:Int)(d:Int):Option (aP.den×Int):=
ai7 (M.mu N a.2.2.2.2.2.1 b) λe=>(if(!e)then
aa ((0,(0,(0,(0,(0,(0,0)))))),13)
else(if(ah (d<a.2.2.2.1))then
aa ((0,(0,(0,(0,(0,(0,0)))))),9)
else
ai7 (if(ah (a.2.2.2.2.1<d))then(if(ah (b=2))then
aa af
else
aa (ah (b=3)))
else
aa ag) λf=>(if f then
aa ((0,(0,(0,(0,(0,(0,0)))))),14)
else
ai7 (if(ah (c<0))then
aa af
else(if(ah (1000000000000000<c))then
aa af
else(if(!ah (c=0))then
aa (!ah (b=3))
else
aa ag))) λg=>(if g then
aa ((0,(0,(0,(0,(0,(0,0)))))),3)
else
aa ((a.1,(a.2.1,(a.2.2.1,(a.2.2.2.1,(a.2.2.2.2.1,(b,c)))))),0)))))
def W69:Fo 69 (.i1 [.g aP, .l aB, .l aB, .l aB]) (.i1 [.g aP, .l aB]) (u4 (M.jn N)):=fz N [abD N] [O,T,T,O,O,O,O,R ⟨[(23, .l .bool)],[],[],224⟩,X,O,B 37 224] Tryz.func69
def M.gK(a:bN.den)(c:Int)(d:Int)(e:Int)(f:aD.den)(g:List bg.den)(h:List aC.den)(b:List aP.den):Option (Int×Int×Int×Int×aD.den×(List bg.den)×(List aC.den)×List aP.den):=
ai7 (if(ah (a.2.2.2.2.2.1<0))then
aa af
else
aa (ah ((b.length:Int)<=a.2.2.2.2.2.1))) λj=>(if j then
aa (6,c,d,e,f,g,h,b)
else
ai7 (idx b a.2.2.2.2.2.1) λk=>ai7 (M.jn N k a.2.2.2.2.2.2.1 a.2.2.2.2.2.2.2.1 a.2.1) λi=>(if(!ah (i.2=0))then
aa (i.2,c,d,e,f,g,h,b)
else
ai7 (idx b a.2.2.2.2.2.1) λl=>aa (0,c,d,e,f,g,h,b8 b a.2.2.2.2.2.1 i.1)))
def W33:Fo 33 (.j1 [.ptr 0 [] 0, .g bN] [.box 43 (.pair (.pair (.leaf aB) (.pair (.leaf aB) (.pair (.leaf aB) (.own 1)))) (.pair (.own 2) (.pair (.own 3) (.leaf aD)))), .own 53 bg, .own 87 aC, .own 103 aP] 4) (.j1 [.l aB] [.box 43 (.pair (.pair (.leaf aB) (.pair (.leaf aB) (.pair (.leaf aB) (.own 1)))) (.pair (.own 2) (.pair (.own 3) (.leaf aD)))), .own 53 bg, .own 87 aC, .own 103 aP] 8) (λ(x:bN.den×Int×Int×Int×aD.den×(List bg.den)×(List aC.den)×List aP.den)=>M.gK N x.1 x.2.1 x.2.2.1 x.2.2.2.1 x.2.2.2.2.1 x.2.2.2.2.2.1 x.2.2.2.2.2.2.1 x.2.2.2.2.2.2.2):=fz N [W69 N] [O,T,B 19 36] Tryz.func33
def M.nP(c:List aC.den)(a:Int)(d:Int):Option (Int×List aC.den):=
(if(ah (a<1))then
aa (0,([]:List aC.den))
else
ai7 (M.fb N c a 3 d ([]:List (Int×Bool))) λb=>aa (b.1,b.2))
def W70:Fo 70 (.i1 [.l (.slice aC), .l aB, .l aB]) (.j1 [.val ag (.own 0), .l aB] [.own 87 aC] 1) (u3 (M.nP N)):=fz N [WJ N] [] Tryz.func70
def M.iC(k:bG.den)(l:aO.den)(b:bN.den)(d:Int)(e:Int)(f:Int)(c:aD.den)(g:List bg.den)(h:List aC.den)(i:List aP.den):Option (Int×Int×Int×Int×aD.den×(List bg.den)×(List aP.den)×List aC.den):=
ai7 (if(ah (b.2.2.2.2.2.2.2.1<1))then
aa af
else
aa (ah (1000000000000000<b.2.2.2.2.2.2.2.1))) λm=>(if m then
aa (3,d,e,f,c,g,i,h)
else
ai7 (M.cL N k l ((d,(e,(f,g))),(h,(i,c))) c.2 b.2.1) λn=>ai7 (M.nP N n b.2.2.2.2.2.2.2.1 b.2.1) λj=>(if(ah (0<j.1))then
aa (3,d,e,f,c,g,i,h)
else
ai7 (M.iB N j.2 d e f c g h i) λa=>aa (a.1,a.2.1,a.2.2.1,a.2.2.2.1,a.2.2.2.2.1,a.2.2.2.2.2.1,a.2.2.2.2.2.2.1,a.2.2.2.2.2.2.2)))
def W34:Fo 34 (.j1 [.g bG, .g aO, .ptr 0 [] 0, .g bN] [.box 43 (.pair (.pair (.leaf aB) (.pair (.leaf aB) (.pair (.leaf aB) (.own 1)))) (.pair (.own 2) (.pair (.own 3) (.leaf aD)))), .own 53 bg, .own 87 aC, .own 103 aP] 4) ⟨[(0, .l aB)],[(0, .box 43 (.pair (.pair (.leaf aB) (.pair (.leaf aB) (.pair (.leaf aB) (.own 1)))) (.pair (.own 4) (.pair (.own 3) (.leaf aD))))),(1, .own 53 bg),(3, .own 103 aP),(4, .own 87 aC)],[],8⟩ (λ(x:bG.den×aO.den×bN.den×Int×Int×Int×aD.den×(List bg.den)×(List aC.den)×List aP.den)=>M.iC N x.1 x.2.1 x.2.2.1 x.2.2.2.1 x.2.2.2.2.1 x.2.2.2.2.2.1 x.2.2.2.2.2.2.1 x.2.2.2.2.2.2.2.1 x.2.2.2.2.2.2.2.2.1 x.2.2.2.2.2.2.2.2.2):=fz N [WI N,W67 N,W70 N] [O,T,B 18 68] Tryz.func34
def M.gB(N:Nat)(b:aC.den)(a:bN.den):Option (Bool×bN.den):=
aa (ah (b.1=a.2.2.1),a)
def WL:Fo 72 (.j1 [.g aC, .ptr 0 [] 0] [.box 55 (.leaf bN)] 1) (.j1 [.l .bool] [.box 55 (.leaf bN)] 2) (u2 (M.gB N)):=fz N [] [] Tryz.func72
def M.bp(c:List aC.den)(d:bN.den):Option (Int×bN.den):=
Loop (S:=Int×bN.den) (X:=Int×bN.den) (λa=>(if(ah (a.1<(c.length:Int)))then
ai7 (idx c a.1) λe=>ai7 (M.gB N e a.2) λb=>(if b.1 then
aa (.inr (a.1,b.2))
else
aa (.inl (ai9.wrap (a.1+1),b.2)))
else
aa (.inr ((-1),a.2)))) N (0,d)
def WM:Fo 71 (.j1 [.l (.slice aC), .fn 72 [(0,[],0)]] [.box 55 (.leaf bN)] 1) (.j1 [.l aB] [.box 55 (.leaf bN)] 2) (u2 (M.bp N)):=fz N [WL N] [O,T,O,T,P ⟨[(8, .l aB)],[(0, .box 55 (.leaf bN))],[],66⟩] Tryz.func71
def M.iD(l:bG.den)(m:aO.den)(j:bN.den)(d:Int)(e:Int)(f:Int)(b:aD.den)(g:List bg.den)(h:List aC.den)(i:List aP.den):Option (Int×Int×Int×Int×aD.den×(List bg.den)×(List aP.den)×List aC.den):=
ai7 (if(ah (j.2.2.2.2.2.2.2.1<1))then
aa af
else
aa (ah (1000000000000000<j.2.2.2.2.2.2.2.1))) λn=>(if n then
aa (3,d,e,f,b,g,i,h)
else
ai7 (M.cL N l m ((d,(e,(f,g))),(h,(i,b))) b.2 j.2.1) λk=>ai7 (M.bp N k j) λc=>(if(ah (c.1<0))then
aa (6,d,e,f,b,g,i,h)
else
ai7 (idx k c.1) λo=>ai7 (M.cx N o) λp=>(if(ah (p<c.2.2.2.2.2.2.2.2.1))then
aa (3,d,e,f,b,g,i,h)
else
ai7 (M.iB N ([(c.2.2.1,(c.2.2.2.1,(4,c.2.2.2.2.2.2.2.2.1)))]:List aC.den) d e f b g h i) λa=>aa (a.1,a.2.1,a.2.2.1,a.2.2.2.1,a.2.2.2.2.1,a.2.2.2.2.2.1,a.2.2.2.2.2.2.1,a.2.2.2.2.2.2.2))))
def W35:Fo 35 (.j1 [.g bG, .g aO, .ptr 0 [] 0, .g bN] [.box 43 (.pair (.pair (.leaf aB) (.pair (.leaf aB) (.pair (.leaf aB) (.own 1)))) (.pair (.own 2) (.pair (.own 3) (.leaf aD)))), .own 53 bg, .own 87 aC, .own 103 aP] 4) ⟨[(0, .l aB)],[(0, .box 43 (.pair (.pair (.leaf aB) (.pair (.leaf aB) (.pair (.leaf aB) (.own 1)))) (.pair (.own 4) (.pair (.own 3) (.leaf aD))))),(1, .own 53 bg),(3, .own 103 aP),(4, .own 87 aC)],[],8⟩ (λ(x:bG.den×aO.den×bN.den×Int×Int×Int×aD.den×(List bg.den)×(List aC.den)×List aP.den)=>M.iD N x.1 x.2.1 x.2.2.1 x.2.2.2.1 x.2.2.2.2.1 x.2.2.2.2.2.1 x.2.2.2.2.2.2.1 x.2.2.2.2.2.2.2.1 x.2.2.2.2.2.2.2.2.1 x.2.2.2.2.2.2.2.2.2):=fz N [WI N,X7 N,W67 N,WM N] [O,T,B 18 68] Tryz.func35
def M.du(k:bG.den)(l:aO.den)(b:b9.den)(c:bN.den):Option (Int×Int×Int×(List bg.den)×(List aC.den)×(List aP.den)×aD.den×Int):=
ai7 (M.dL N k l b) λm=>(if(!ah (m=0))then
aa (b.1.1,b.1.2.1,b.1.2.2.1,b.1.2.2.2,b.2.1,b.2.2.1,b.2.2.2,1)
else
ai7 (M.jx N c.2.1) λn=>(if(!n)then
aa (b.1.1,b.1.2.1,b.1.2.2.1,b.1.2.2.2,b.2.1,b.2.2.1,b.2.2.2,3)
else(if(ah (c.2.1<b.2.2.2.1))then
aa (b.1.1,b.1.2.1,b.1.2.2.1,b.1.2.2.2,b.2.1,b.2.2.1,b.2.2.2,9)
else
ai7 (M.kC N b) λa=>ai7 ((if(ah (c.1=1))then
ai7 (M.jb N k c a.1 a.2.1 a.2.2.1 a.2.2.2.1 a.2.2.2.2.1 a.2.2.2.2.2.1 a.2.2.2.2.2.2) λe=>aa (e.1,e.2.1,e.2.2.1,e.2.2.2.1,e.2.2.2.2.1,e.2.2.2.2.2.2.2,e.2.2.2.2.2.1,e.2.2.2.2.2.2.1)
else(if(ah (c.1=2))then
ai7 (M.gV N k l c a.1 a.2.1 a.2.2.1 a.2.2.2.1 a.2.2.2.2.1 a.2.2.2.2.2.1 a.2.2.2.2.2.2) λf=>aa (f.1,f.2.1,f.2.2.1,f.2.2.2.1,f.2.2.2.2.1,f.2.2.2.2.2.1,f.2.2.2.2.2.2.2,f.2.2.2.2.2.2.1)
else(if(ah (c.1=3))then
ai7 (M.gJ N l c a.1 a.2.1 a.2.2.1 a.2.2.2.1 a.2.2.2.2.1 a.2.2.2.2.2.1 a.2.2.2.2.2.2) λg=>aa (g.1,g.2.1,g.2.2.1,g.2.2.2.1,g.2.2.2.2.1,g.2.2.2.2.2.1,g.2.2.2.2.2.2.1,g.2.2.2.2.2.2.2)
else(if(ah (c.1=4))then
ai7 (M.gK N c a.1 a.2.1 a.2.2.1 a.2.2.2.1 a.2.2.2.2.1 a.2.2.2.2.2.1 a.2.2.2.2.2.2) λh=>aa (h.1,h.2.1,h.2.2.1,h.2.2.2.1,h.2.2.2.2.1,h.2.2.2.2.2.1,h.2.2.2.2.2.2.1,h.2.2.2.2.2.2.2)
else(if(ah (c.1=5))then
ai7 (M.iC N k l c a.1 a.2.1 a.2.2.1 a.2.2.2.1 a.2.2.2.2.1 a.2.2.2.2.2.1 a.2.2.2.2.2.2) λi=>aa (i.1,i.2.1,i.2.2.1,i.2.2.2.1,i.2.2.2.2.1,i.2.2.2.2.2.1,i.2.2.2.2.2.2.2,i.2.2.2.2.2.2.1)
else(if(ah (c.1=6))then
ai7 (M.iD N k l c a.1 a.2.1 a.2.2.1 a.2.2.2.1 a.2.2.2.2.1 a.2.2.2.2.2.1 a.2.2.2.2.2.2) λj=>aa (j.1,j.2.1,j.2.2.1,j.2.2.2.1,j.2.2.2.2.1,j.2.2.2.2.2.1,j.2.2.2.2.2.2.2,j.2.2.2.2.2.2.1)
else
aa (1,a.1,a.2.1,a.2.2.1,a.2.2.2.1,a.2.2.2.2.1,a.2.2.2.2.2.1,a.2.2.2.2.2.2))))))):Option (Int×Int×Int×Int×aD.den×(List bg.den)×(List aC.den)×List aP.den)) λd=>(if(!ah (d.1=0))then
aa (b.1.1,b.1.2.1,b.1.2.2.1,b.1.2.2.2,b.2.1,b.2.2.1,b.2.2.2,d.1)
else
aa (d.2.1,d.2.2.1,d.2.2.2.1,d.2.2.2.2.2.1,d.2.2.2.2.2.2.1,d.2.2.2.2.2.2.2,(c.2.1,d.2.2.2.2.1.2),0)))))
def W10:Fo 10 (.i1 [.g bG, .g aO, .g b9, .g bN]) (.i1 [.val af (.pair (.pair (.leaf aB) (.pair (.leaf aB) (.pair (.leaf aB) (.leaf (.slice bg))))) (.pair (.leaf (.slice aC)) (.pair (.leaf (.slice aP)) (.leaf aD)))), .l aB]) (u4 (M.du N)):=fz N [W27 N,W28 N,W29 N,W30 N,W31 N,W32 N,W33 N,W34 N,W35 N] [O,O,O,O,O,O,T,O,R ⟨[(11, .l aB)],[(352, .box 43 (.pair (.pair (.leaf aB) (.pair (.leaf aB) (.pair (.leaf aB) (.own 432)))) (.pair (.own 433) (.pair (.own 434) (.leaf aD))))),(432, .own 53 bg),(433, .own 87 aC),(434, .own 103 aP)],[336,337,338],436⟩] Tryz.func10
def M.tl(N:Nat)(a:List aD.den):Option (List aM.den):=
aa ([((⟨#[104,111,117,115,101]⟩:ByteArray),((-1),(([((⟨#[97]⟩:ByteArray),(3,0))]:List bA.den),(([((⟨#[100]⟩:ByteArray),(3,0))]:List bA.den),([((⟨#[98,97,115,101]⟩:ByteArray),(0,((-1),(0,((0,109573),(([]:List aD.den),(a,ByteArray.empty)))))))]:List db.den)))))]:List aM.den)
def W54:Fo 54 (.i1 [.l (.slice aD)]) (.j1 [.val af (.pair .nil (.pair .nil (.own 0)))] [.own 81 aM] 1) (M.tl N):=fz N [] [] Tryz.func54
def M.pL:Option (List aM.den):=
ai7 (M.tl N ([(7,0)]:List aD.den)) λa=>aa a
def W23:Fo 23 (.i1 []) (.j1 [.val af (.pair .nil (.pair .nil (.own 0)))] [.own 81 aM] 1) (λ(x:Unit)=>M.pL N):=fz N [W54 N] [] Tryz.func23
def M.tn(N:Nat):Option (aD.den):=
aa (0,109573)
def W55:Fo 55 (.i1 []) (.i1 [.g aD]) (λ(x:Unit)=>M.tn N):=fz N [] [] Tryz.func55
def M.k9(a:Int):Option (Int×Int×Int×List bg.den):=
ai7 (M.tn N) λb=>aa (0,0,0,([(0,((-1),(0,((3,(0,a)),(b,0)))))]:List bg.den))
def W24:Fo 24 (.i1 [.l aB]) (.j1 [.val af (.pair (.leaf aB) (.pair (.leaf aB) (.pair (.leaf aB) (.own 0))))] [.own 53 bg] 1) (M.k9 N):=fz N [W55 N] [] Tryz.func24
def M.vl(N:Nat)(a:List aC.den)(b:aD.den):Option Int:=QB a b
def S56:oN:=⟨.i1 [.l (.slice aC), .g aD], .i1 [.l aB],u2 (M.vl N)⟩
def W56(N:Nat):fZ Tryz.prog 56 (S56 N):=OZ
def M.iE(a:b9.den):Option Int:=
ai7 (M.vl N a.2.1 (0,109573)) λb=>aa b
def W25:Fo 25 (.i1 [.g b9]) (.i1 [.l aB]) (M.iE N):=fz N [W56 N] [] Tryz.func25
def M.nQ:Option Bool:=
ai7 (M.pL N) λd=>ai7 (M.k9 N 500) λc=>ai7 (M.ie N (c.1,(c.2.1,(c.2.2.1,c.2.2.2)))) λb=>ai7 (M.du N (([]:List ef.den),(([]:List bl.den),d)) (0,(0,(1,(0,(0,(0,(0,(0,([]:List Int))))))))) ((b.1,(b.2.1,(b.2.2.1,b.2.2.2.2))),(([]:List aC.den),(([]:List aP.den),b.2.2.2.1))) (2,(9,(0,(0,(0,(0,(0,(0,(0,(0,(0,((0,(0,0)),((0,0),0)))))))))))))) λa=>ai7 (if(ah (a.2.2.2.2.2.2.2=0))then(if(ah ((a.2.2.2.2.1.length:Int)=1))then
ai7 (idx a.2.2.2.2.1 0) λe=>(if(ah (e.2.2.2=500))then
ai7 (M.iE N ((a.1,(a.2.1,(a.2.2.1,a.2.2.2.1))),(a.2.2.2.2.1,(a.2.2.2.2.2.1,a.2.2.2.2.2.2.1)))) λf=>aa (ah (f=500))
else
aa ag)
else
aa ag)
else
aa ag) λg=>aa g
def W8:Fo 8 (.i1 []) (.i1 [.l .bool]) (λ(x:Unit)=>M.nQ N):=fz N [W9 N,W10 N,W23 N,W24 N,W25 N] [O,O,O,B 0 256] Tryz.func8
def M.jU(g:bG.den)(h:aO.den)(i:b9.den)(e:List bN.den):Option (b9.den×Int):=
ai7 (M.kC N i) λd=>ai7 (Loop (S:=Int×Int×Int×Int×Int×(List bg.den)×(List aC.den)×(List aP.den)×aD.den) (X:=Int×b9.den) (λa=>(if(ah (a.2.1<(e.length:Int)))then
ai7 (ai7 (idx e a.2.1) λj=>ai7 (M.du N g h ((a.2.2.1,(a.2.2.2.1,(a.2.2.2.2.1,a.2.2.2.2.2.1))),(a.2.2.2.2.2.2.1,(a.2.2.2.2.2.2.2.1,a.2.2.2.2.2.2.2.2))) j) λb=>(if(!ah (b.2.2.2.2.2.2.2=0))then
aa (ai9.wrap (a.1+1),((a.2.2.1,(a.2.2.2.1,(a.2.2.2.2.1,a.2.2.2.2.2.1))),(a.2.2.2.2.2.2.1,(a.2.2.2.2.2.2.2.1,a.2.2.2.2.2.2.2.2))))
else
aa (a.1,((b.1,(b.2.1,(b.2.2.1,b.2.2.2.1))),(b.2.2.2.2.1,(b.2.2.2.2.2.1,b.2.2.2.2.2.2.1))))):Option (Int×b9.den)) λc=>aa (.inl (c.1,ai9.wrap (a.2.1+1),c.2.1.1,c.2.1.2.1,c.2.1.2.2.1,c.2.1.2.2.2,c.2.2.1,c.2.2.2.1,c.2.2.2.2))
else
aa (.inr (a.1,((a.2.2.1,(a.2.2.2.1,(a.2.2.2.2.1,a.2.2.2.2.2.1))),(a.2.2.2.2.2.2.1,(a.2.2.2.2.2.2.2.1,a.2.2.2.2.2.2.2.2))))))) N (0,0,d.1,d.2.1,d.2.2.1,d.2.2.2.2.1,d.2.2.2.2.2.1,d.2.2.2.2.2.2,d.2.2.2.1):Option (Int×b9.den)) λf=>aa (f.2,f.1)
def W16:Fo 16 (.i1 [.g bG, .g aO, .g b9, .l (.slice bN)]) (.i1 [.g b9, .l aB]) (u4 (M.jU N)):=fz N [W10 N,W29 N] [O,O,O,R ⟨[(10, .l aB)],[(32, .box 43 (.leaf b9))],[96,97,98],145⟩,O,T,P ⟨[(10, .l aB),(19, .l aB)],[(32, .box 43 (.pair (.pair (.leaf aB) (.pair (.leaf aB) (.pair (.leaf aB) (.leaf (.slice bg))))) (.pair (.leaf (.slice aC)) (.pair (.leaf (.slice aP)) (.leaf aD)))))],[96,97,98],193⟩,O,O,T,R ⟨[(10, .l aB)],[(32, .box 43 (.leaf b9))],[],210⟩] Tryz.func16
def M.lO(a:b9.den):Option (Int×Int×Int×aD.den×(List bg.den)×(List aC.den)×List aP.den):=
ai7 (M.bw N a.1.2.2.2) λb=>ai7 (M.bE N a.2.1) λc=>ai7 (M.bF N a.2.2.1) λd=>aa (a.1.1,a.1.2.1,a.1.2.2.1,a.2.2.2,b,c,d)
def W47:Fo 47 (.i1 [.g b9]) (.j1 [.val af (.pair (.pair (.leaf aB) (.pair (.leaf aB) (.pair (.leaf aB) (.own 0)))) (.pair (.own 1) (.pair (.own 2) (.leaf aD))))] [.own 53 bg, .own 87 aC, .own 103 aP] 3) (M.lO N):=fz N [Z0 N,W64 N,W65 N] [] Tryz.func47
def M.jV(g:bG.den)(h:aO.den)(a:b9.den)(b:Int):Option (Int×Int×Int×(List bg.den)×(List aC.den)×(List aP.den)×aD.den×Int):=
ai7 (M.dL N g h a) λn=>(if(!ah (n=0))then
aa (a.1.1,a.1.2.1,a.1.2.2.1,a.1.2.2.2,a.2.1,a.2.2.1,a.2.2.2,1)
else
ai7 (if(ah (b<0))then
aa af
else
aa (ah (109572<b))) λo=>(if o then
aa (a.1.1,a.1.2.1,a.1.2.2.1,a.1.2.2.2,a.2.1,a.2.2.1,a.2.2.2,3)
else(if(ah (b<a.2.2.2.1))then
aa (a.1.1,a.1.2.1,a.1.2.2.1,a.1.2.2.2,a.2.1,a.2.2.1,a.2.2.2,9)
else
ai7 (M.cL N g h a a.2.2.2.2 b) λf=>ai7 (Loop (S:=Int×List aC.den) (X:=List aC.den) (λd=>(if(ah (d.1<(f.length:Int)))then
ai7 (ai7 (idx f d.1) λi=>ai7 (M.eV N i) λj=>(if(ah (0<j))then
ai7 (cu d.2 ([(b,(i.1,(1,j)))]:List aC.den)) λp=>aa p
else
aa d.2):Option (List aC.den)) λq=>aa (.inl (ai9.wrap (d.1+1),q))
else
aa (.inr d.2))) N (0,([]:List aC.den)):Option (List aC.den)) λr=>ai7 (Loop (S:=Int×List aC.den) (X:=List aC.den) (λe=>(if(ah (e.1<(f.length:Int)))then
ai7 (ai7 (idx f e.1) λk=>ai7 (M.cx N k) λl=>(if(ah (0<l))then
ai7 (cu e.2 ([(b,(k.1,(3,l)))]:List aC.den)) λs=>aa s
else
aa e.2):Option (List aC.den)) λt=>aa (.inl (ai9.wrap (e.1+1),t))
else
aa (.inr e.2))) N (0,r):Option (List aC.den)) λm=>(if(ah (4096<(ai9.wrap ((a.2.1.length:Int)+(m.length:Int)))))then
aa (a.1.1,a.1.2.1,a.1.2.2.1,a.1.2.2.2,a.2.1,a.2.2.1,a.2.2.2,4)
else
ai7 (M.lO N a) λc=>ai7 (cu c.2.2.2.2.2.1 m) λu=>aa (c.1,c.2.1,c.2.2.1,c.2.2.2.2.1,u,c.2.2.2.2.2.2,(b,c.2.2.2.1.2),0)))))
def W17:Fo 17 (.i1 [.g bG, .g aO, .g b9, .l aB]) (.i1 [.val af (.pair (.pair (.leaf aB) (.pair (.leaf aB) (.pair (.leaf aB) (.leaf (.slice bg))))) (.pair (.leaf (.slice aC)) (.pair (.leaf (.slice aP)) (.leaf aD)))), .l aB]) (u4 (M.jV N)):=fz N [W27 N,WI N,W45 N,X7 N,W47 N] [O,O,T,B 30 160,O,O,O,R ⟨[(10, .val ag (.own 368))],[(368, .own 87 aC)],[],369⟩,O,T,P ⟨[(10, .val ag (.own 416)),(46, .l aB)],[(416, .own 87 aC)],[],417⟩,O,O,T,R ⟨[(10, .val ag (.own 433))],[(433, .own 87 aC)],[416],434⟩,X,X,X,X,R ⟨[(10, .val ag (.own 369))],[(369, .own 87 aC)],[368],370⟩,O,T,P ⟨[(10, .val ag (.own 417)),(65, .l aB)],[(417, .own 87 aC)],[368],418⟩,O,O,T,R ⟨[(10, .val ag (.own 434))],[(434, .own 87 aC)],[417],435⟩] Tryz.func17
def M.lP(a:b9.den):Option Bool:=
cd (J:=Unit) (R:=Bool) (Loop (S:=Int) (X:=Unit⊕Bool) (λb=>(if(ah (b<(a.2.1.length:Int)))then
ai7 (idx a.2.1 b) λc=>(if(ah (c.2.2.1=4))then
aa (.inr (.inr ag))
else
aa (.inl (ai9.wrap (b+1))))
else
aa (.inr (.inl ())))) N 0) λd=>aa (ah ((a.2.2.1.length:Int)=0))
def W18:Fo 18 (.i1 [.g b9]) (.i1 [.l .bool]) (M.lP N):=fz N [] [O,E 32,O,T,L 3 48] Tryz.func18
def M.cH(b:bG.den)(c:bI.den)(d:aO.den)(a:Int)(e:Int):Option (aE.den):=
ai7 (M.ln N a) λf=>(if(!ah (f.2=0))then
aa (a,(0,3))
else
ai7 (M.gT N b c d) λh=>(if(!h)then
aa (a,(0,1))
else
ai7 (M.dS N b c e) λi=>ai7 (M.jT N f.1 i) λj=>ai7 (M.fk N b c d j e) λg=>aa (a,(g.1,g.2))))
def W19:Fo 19 (.i1 [.g bG, .g bI, .g aO, .l aB, .l aB]) (.i1 [.g aE]) (u5 (M.cH N)):=fz N [W48 N,W49 N,W50 N,W51 N,W52 N] [] Tryz.func19
def M.lQ(b:List aC.den):Option (Int×Int):=
Loop (S:=Int×Int×Int) (X:=Int×Int) (λa=>(if(ah (a.2.2<(b.length:Int)))then
ai7 (idx b a.2.2) λc=>ai7 (M.eV N c) λd=>ai7 (M.cx N c) λe=>aa (.inl (ai9.wrap (a.1+d),ai9.wrap (a.2.1+e),ai9.wrap (a.2.2+1)))
else
aa (.inr (a.1,a.2.1)))) N (0,0,0)
def W53:Fo 53 (.i1 [.l (.slice aC)]) (.i1 [.l aB, .l aB]) (M.lQ N):=fz N [W45 N,X7 N] [O,O,T,O,T,P ⟨[(4, .l aB),(5, .l aB),(10, .l aB)],[],[],112⟩] Tryz.func53
def M.eK(c:bG.den)(d:aO.den)(a:b9.den):Option Bool:=
ai7 (M.cL N c d a a.2.2.2.2 a.2.2.2.1) λe=>ai7 (M.lQ N e) λb=>ai7 (if(ah (b.1=0))then
aa (ah (b.2=0))
else
aa ag) λf=>aa f
def W20:Fo 20 (.i1 [.g bG, .g aO, .g b9]) (.i1 [.l .bool]) (u3 (M.eK N)):=fz N [WI N,W53 N] [O,O,B 6 288] Tryz.func20
def M.la(f:bG.den)(e:aO.den)(g:bI.den)(k:List bN.den):Option Bool:=
ai7 (ai7 (M.iR N f) λo=>(if(!o)then
aa af
else
ai7 (M.gH N g) λp=>(if(!p)then
aa af
else
ai7 (M.mO N e k) λq=>aa (!q))):Option Bool) λr=>(if r then
ai7 (M.nQ N) λs=>aa s
else
ai7 (M.ie N g) λh=>ai7 (M.jU N f e ((h.1,(h.2.1,(h.2.2.1,h.2.2.2.2))),(([]:List aC.den),(([]:List aP.den),h.2.2.2.1))) k) λb=>ai7 (M.jV N f e b.1 b.1.2.2.2.1) λc=>ai7 (if(!ah (c.2.2.2.2.2.2.2=0))then
aa af
else
ai7 (M.lP N b.1) λt=>(if(!t)then
aa af
else
aa (ah (b.1.2.2.2.2<0)))) λu=>(if u then
ai7 (M.nQ N) λv=>aa v
else
ai7 (Loop (S:=Int×Int×Int×Int×List bg.den) (X:=Int×Int×Int×List bg.den) (λa=>(if(ah (0<=a.1))then
ai7 (idx b.1.1.2.2.2 a.1) λw=>ai7 (cu a.2.2.2.2 ([w]:List bg.den)) λx=>aa (.inl (ai9.wrap (a.1-1),a.2.1,a.2.2.1,a.2.2.2.1,x))
else
aa (.inr (a.2.1,a.2.2.1,a.2.2.2.1,a.2.2.2.2)))) N (ai9.wrap ((b.1.1.2.2.2.length:Int)-1),g.1,g.2.1,g.2.2.1,([]:List bg.den)):Option (Int×Int×Int×List bg.den)) λd=>ai7 (M.ie N (d.1,(d.2.1,(d.2.2.1,d.2.2.2)))) λi=>ai7 (M.du N f e ((i.1,(i.2.1,(i.2.2.1,i.2.2.2.2))),(([]:List aC.den),(([]:List aP.den),i.2.2.2.1))) (2,(b.1.2.2.2.1,(b.1.2.2.2.2,(0,(0,(0,(0,(0,(0,(0,(0,((0,(0,0)),((0,0),0)))))))))))))) λl=>(if(!ah (l.2.2.2.2.2.2.2=0))then
aa ag
else
cd (J:=Unit) (R:=Bool) (Loop (S:=Int) (X:=Unit⊕Bool) (λj=>(if(ah (j<=b.1.2.2.2.2))then
ai7 (M.cH N f (d.1,(d.2.1,(d.2.2.1,d.2.2.2))) e j b.1.2.2.2.1) λm=>ai7 (M.dx N c.2.2.2.2.1 j) λn=>ai7 (if(ah (m.2.2=0))then(if(!ah (n=m.2.1))then
aa af
else
ai7 (M.dx N l.2.2.2.2.1 j) λy=>aa (!ah (n=y)))
else
aa ag) λz=>(if z then
aa (.inr (.inr ag))
else
aa (.inl (ai9.wrap (j+1))))
else
aa (.inr (.inl ())))) N e.2.2.2.2.2.1) λF=>ai7 (ai7 (M.eK N f e ((c.1,(c.2.1,(c.2.2.1,c.2.2.2.1))),(c.2.2.2.2.1,(c.2.2.2.2.2.1,c.2.2.2.2.2.2.1)))) λA=>(if A then
ai7 (M.nQ N) λC=>aa C
else
aa ag):Option Bool) λD=>aa D)))
def W4:Fo 4 (.i1 [.g bG, .g aO, .g bI, .l (.slice bN)]) (.i1 [.l .bool]) (u4 (M.la N)):=fz N [W5 N,W6 N,W7 N,W8 N,W9 N,W10 N,Z1 N,W16 N,W17 N,W18 N,W19 N,W20 N] [O,T,B 33 64,O,O,T,B 64 448,O,R ⟨[],[(560, .box 34 (.pair (.leaf aB) (.pair (.leaf aB) (.pair (.leaf aB) (.own 592))))),(592, .own 53 bg)],[],594⟩,O,T,P ⟨[(14, .l aB)],[(560, .box 34 (.pair (.leaf aB) (.pair (.leaf aB) (.pair (.leaf aB) (.own 688))))),(688, .own 53 bg)],[],690⟩,X,X,O,O,E 882,O,T,L 17 930,O,T,T,O,O,B 143 1218,X,X,X,B 8 882] Tryz.func4
end
end
section
noncomputable section
set_option maxRecDepth 100000
set_option linter.unusedVariables false
def M.ou(N:Nat)(a:Int):Option Bool:=
ai7 (if(ah (97<=a))then
aa (ah (a<=122))
else
aa ag) λb=>aa b
def M.qw(N:Nat)(a:Int):Option Bool:=
ai7 (if(ah (48<=a))then
aa (ah (a<=57))
else
aa ag) λb=>aa b
def M.sj(N:Nat)(a:Int):Option Bool:=
ai7 (ai7 (M.ou N a) λb=>(if b then
aa af
else
ai7 (M.qw N a) λc=>(if c then
aa af
else
aa (ah (a=95)))):Option Bool) λd=>aa d
def M.nR(N:Nat):Option (List ByteArray):=
aa ([(⟨#[105,102]⟩:ByteArray),(⟨#[116,104,101,110]⟩:ByteArray),(⟨#[101,108,115,101]⟩:ByteArray),(⟨#[111,114]⟩:ByteArray),(⟨#[97,110,100]⟩:ByteArray),(⟨#[110,111,116]⟩:ByteArray),(⟨#[116,114,117,101]⟩:ByteArray),(⟨#[102,97,108,115,101]⟩:ByteArray),(⟨#[116,111,100,97,121]⟩:ByteArray),(⟨#[115,104,97,114,101]⟩:ByteArray),(⟨#[100,105,118]⟩:ByteArray),(⟨#[114,111,117,110,100]⟩:ByteArray),(⟨#[109,105,110]⟩:ByteArray),(⟨#[109,97,120]⟩:ByteArray),(⟨#[112,108,117,115]⟩:ByteArray),(⟨#[109,111,110,116,104,115]⟩:ByteArray),(⟨#[100,97,121,115]⟩:ByteArray),(⟨#[121,101,97,114,115]⟩:ByteArray),(⟨#[121,101,97,114]⟩:ByteArray),(⟨#[109,111,110,116,104]⟩:ByteArray),(⟨#[116,97,98]⟩:ByteArray),(⟨#[98,97,110,100]⟩:ByteArray),(⟨#[99,111,117,110,116]⟩:ByteArray),(⟨#[115,117,109]⟩:ByteArray),(⟨#[97,108,108]⟩:ByteArray),(⟨#[97,110,121]⟩:ByteArray),(⟨#[109,111,115,116]⟩:ByteArray),(⟨#[101,110,117,109]⟩:ByteArray),(⟨#[116,97,98,108,101]⟩:ByteArray),(⟨#[114,111,119]⟩:ByteArray),(⟨#[115,99,111,112,101]⟩:ByteArray),(⟨#[109,101,109,98,101,114,115]⟩:ByteArray),(⟨#[105,110,112,117,116]⟩:ByteArray),(⟨#[100,101,102]⟩:ByteArray),(⟨#[114,117,108,101]⟩:ByteArray),(⟨#[111,102]⟩:ByteArray),(⟨#[111,118,101,114]⟩:ByteArray),(⟨#[112,114,105,111]⟩:ByteArray),(⟨#[102,114,111,109]⟩:ByteArray),(⟨#[116,111]⟩:ByteArray),(⟨#[101,110,100]⟩:ByteArray),(⟨#[119,104,101,110]⟩:ByteArray),(⟨#[105,115]⟩:ByteArray),(⟨#[115,114,99]⟩:ByteArray),(⟨#[98,111,111,108]⟩:ByteArray),(⟨#[105,110,116]⟩:ByteArray),(⟨#[109,111,110,101,121]⟩:ByteArray),(⟨#[114,97,116,101]⟩:ByteArray),(⟨#[100,97,116,101]⟩:ByteArray),(⟨#[100,111,119,110]⟩:ByteArray),(⟨#[117,112]⟩:ByteArray),(⟨#[122,101,114,111]⟩:ByteArray),(⟨#[97,119,97,121]⟩:ByteArray),(⟨#[104,97,108,102]⟩:ByteArray),(⟨#[101,118,101,110]⟩:ByteArray)]:List ByteArray)
def M.lc(N:Nat)(a:ByteArray):Option Bool:=
ai7 (if(ah ((a.size:Int)=0))then
aa af
else(if(ah (16<(a.size:Int)))then
aa af
else
ai7 (me a 0) λe=>ai7 (M.ou N e) λf=>aa (!f))) λg=>(if g then
aa ag
else
cd (J:=Unit) (R:=Bool) (Loop (S:=Int) (X:=Unit⊕Bool) (λb=>(if(ah (b<(a.size:Int)))then
ai7 (me a b) λh=>ai7 (M.sj N h) λi=>(if(!i)then
aa (.inr (.inr ag))
else
aa (.inl (ai9.wrap (b+1))))
else
aa (.inr (.inl ())))) N 0) λk=>ai7 (M.nR N) λd=>Loop (S:=Int) (X:=Bool) (λc=>(if(ah (c<(d.length:Int)))then
ai7 (idx d c) λj=>(if(ah (j=a))then
aa (.inr ag)
else
aa (.inl (ai9.wrap (c+1))))
else
aa (.inr af))) N 0)
def M.fT(N:Nat)(a:aD.den)(b:List ef.den):Option Bool:=
(if(ah (a.1=6))then
ai7 (if(ah (0<=a.2))then
aa (ah (a.2<(b.length:Int)))
else
aa ag) λc=>aa c
else
ai7 (if(ah (1<=a.1))then(if(ah (a.1<=5))then
aa (ah (a.2=0))
else
aa ag)
else
aa ag) λd=>aa d)
def M.pM(N:Nat)(a:aD.den)(b:List ef.den):Option (Int×Int):=
ai7 (M.fT N a b) λc=>(if(!c)then
aa (0,(-1))
else(if(ah (a.1=1))then
aa (0,1)
else(if(ah (a.1=2))then
aa ((-1000000000000),1000000000000)
else(if(ah (a.1=3))then
aa ((-1000000000000000),1000000000000000)
else(if(ah (a.1=4))then
aa ((-1000000000),1000000000)
else(if(ah (a.1=5))then
aa (0,109572)
else
ai7 (idx b a.2) λd=>aa (0,ai9.wrap ((d.2.length:Int)-1))))))))
def M.gW(N:Nat)(b:List bA.den):Option (List aD.den):=
Loop (S:=Int×List aD.den) (X:=List aD.den) (λa=>(if(ah (a.1<(b.length:Int)))then
ai7 (idx b a.1) λc=>ai7 (cu a.2 ([c.2]:List aD.den)) λd=>aa (.inl (ai9.wrap (a.1+1),d))
else
aa (.inr a.2))) N (0,([]:List aD.den))
def M.nc(N:Nat)(a:bG.den)(d:Int):Option ((List ef.den)×(List bl.den)×Bool×(List aD.den)×(List aD.den)×List aD.den):=
ai7 (if(ah (d<0))then
aa af
else
aa (ah ((a.2.2.length:Int)<=d))) λg=>(if g then
aa (([]:List ef.den),([]:List bl.den),ag,([]:List aD.den),([]:List aD.den),([]:List aD.den))
else
ai7 (idx a.2.2 d) λc=>ai7 (M.gW N c.2.2.1) λe=>ai7 (M.gW N c.2.2.2.1) λf=>ai7 (ai7 (if(ah (0<=c.2.1))then
aa (ah (c.2.1<(a.2.2.length:Int)))
else
aa ag) λh=>(if h then
ai7 (idx a.2.2 c.2.1) λi=>ai7 (M.gW N i.2.2.2.1) λj=>aa (e,f,a.1,a.2.1,af,j)
else
aa (e,f,a.1,a.2.1,ag,([]:List aD.den))):Option ((List aD.den)×(List aD.den)×(List ef.den)×(List bl.den)×Bool×List aD.den)) λb=>aa (b.2.2.1,b.2.2.2.1,b.2.2.2.2.1,b.1,b.2.1,b.2.2.2.2.2))
def M.oJ(N:Nat)(a:Int):Option Bool:=
ai7 (if(ah (1<=a))then(if(ah (a<=8))then
aa af
else(if(ah (36<=a))then
aa (ah (a<=39))
else
aa ag))
else(if(ah (36<=a))then
aa (ah (a<=39))
else
aa ag)) λb=>(if b then
aa af
else
ai7 (if(ah (a=14))then
aa af
else(if(ah (a=15))then
aa af
else(if(ah (a=16))then
aa af
else(if(ah (a=33))then
aa af
else
aa (ah (a=34)))))) λc=>aa c)
def M.dF(N:Nat)(a:Int):Option (aD.den):=
aa (a,0)
def M.lR(N:Nat)(a:aD.den)(c:bV.den):Option Bool:=
ai7 (if(ah (a.1=1))then
aa (ah (a.1=1))
else(if(ah (a.1=2))then
aa (ah (a.1=2))
else(if(ah (a.1=3))then
aa (ah (a.1=3))
else(if(ah (a.1=4))then
aa (ah (a.1=4))
else
aa (ah (a.1=5)))))) λd=>(if d then
ai7 (M.dF N a.1) λe=>ai7 (M.pM N e c.1) λb=>ai7 (if(ah (b.1<=a.2))then
aa (ah (a.2<=b.2))
else
aa ag) λf=>aa f
else
ai7 (if(ah (a.1=14))then
aa (ah (a.1=14))
else(if(ah (a.1=15))then
aa (ah (a.1=15))
else
aa (ah (a.1=16)))) λg=>(if g then
ai7 (if(ah (0<=a.2))then
aa (ah (a.2<=5))
else
aa ag) λh=>aa h
else(if(ah (a.1=34))then
ai7 (if(ah (0<=a.2))then
aa (ah ((ajH a.2 8)<=5))
else
aa ag) λi=>aa i
else(if(ah (a.1=6))then
aa (ah (0<=a.2))
else
aa af))))
def M.bD(N:Nat)(a:aD.den)(b:bV.den):Option Bool:=
(if(ah (a.1=6))then
ai7 (if(ah ((ai9.wrap (ajl a.2 16))<(b.1.length:Int)))then
ai7 (idx b.1 (ai9.wrap (ajl a.2 16))) λc=>aa (ah ((ajH a.2 16)<(c.2.length:Int)))
else
aa ag) λd=>aa d
else(if(ah (a.1=7))then
ai7 (if(ah (0<=a.2))then
aa (ah (a.2<(b.2.2.1.length:Int)))
else
aa ag) λe=>aa e
else(if(ah (a.1=8))then
ai7 (if(ah (0<=a.2))then
aa (ah (a.2<(b.2.2.2.1.length:Int)))
else
aa ag) λf=>aa f
else(if(ah (a.1=33))then
ai7 (if(ah (0<=a.2))then
aa (ah (a.2<(b.2.1.length:Int)))
else
aa ag) λg=>aa g
else(if(ah (a.1=34))then
aa (ah ((ai9.wrap (ajl a.2 8))<(b.2.1.length:Int)))
else(if(ah (a.1=35))then
aa b.2.2.2.2.2
else
ai7 (if(ah (a.1=36))then
aa (ah (a.1=36))
else(if(ah (a.1=37))then
aa (ah (a.1=37))
else(if(ah (a.1=38))then
aa (ah (a.1=38))
else
aa (ah (a.1=39))))) λh=>(if h then
ai7 (if b.2.2.2.2.2 then(if(ah (0<=a.2))then
aa (ah (a.2<(b.2.2.2.2.1.length:Int)))
else
aa ag)
else
aa ag) λi=>aa i
else
aa af)))))))
def M.lS(N:Nat)(a:Int):Option Bool:=
ai7 (if(ah (a=2))then
aa af
else(if(ah (a=3))then
aa af
else
aa (ah (a=4)))) λb=>aa b
def M.iS(N:Nat)(a:Int):Option Bool:=
ai7 (ai7 (M.lS N a) λb=>(if b then
aa af
else
aa (ah (a=5))):Option Bool) λc=>aa c
def M.cz(N:Nat)(a:aD.den)(c:bV.den):Option (aD.den×Bool):=
ai7 ((if(ah (a.1=6))then
aa (6,ai9.wrap (ajl a.2 16))
else(if(ah (a.1=7))then
ai7 (idx c.2.2.1 a.2) λe=>aa e
else(if(ah (a.1=8))then
ai7 (idx c.2.2.2.1 a.2) λf=>aa f
else(if(ah (a.1=9))then
ai7 (M.dF N 5) λg=>aa g
else(if(ah (a.1=35))then
ai7 (M.dF N 2) λh=>aa h
else
ai7 (if(ah (a.1=36))then
aa (ah (a.1=36))
else(if(ah (a.1=37))then
aa (ah (a.1=37))
else(if(ah (a.1=38))then
aa (ah (a.1=38))
else
aa (ah (a.1=39))))) λi=>(if i then
ai7 (idx c.2.2.2.2.1 a.2) λj=>aa j
else
ai7 (M.dF N a.1) λk=>aa k)))))):Option (aD.den)) λb=>ai7 (M.fT N b c.1) λd=>ai7 (if(ah (a.1=36))then(if d then(if(ah (b.1=2))then
aa af
else
aa (ah (b.1=3)))
else
aa ag)
else
ai7 (if(ah (a.1=37))then
aa (ah (a.1=37))
else
aa (ah (a.1=38))) λl=>(if l then(if d then
aa (ah (b.1=1))
else
aa ag)
else(if(ah (a.1=39))then(if d then
ai7 (M.iS N b.1) λm=>aa m
else
aa ag)
else
aa d))) λn=>aa (b,n)
def M.dB(N:Nat)(b:aD.den)(a:aD.den)(d:bV.den):Option (aD.den×Bool):=
(if(ah (b.1=10))then
ai7 (M.lS N a.1) λh=>aa (a,h)
else(if(ah (b.1=25))then
aa (a,ah (a.1=1))
else
ai7 (if(ah (b.1=31))then
aa (ah (b.1=31))
else
aa (ah (b.1=32))) λi=>(if i then
ai7 (M.dF N 2) λj=>aa (j,ah (a.1=5))
else(if(ah (b.1=33))then
ai7 (idx d.2.1 b.2) λc=>ai7 (ai7 (M.fT N c.2.1 d.1) λk=>(if k then
ai7 (M.fT N c.2.2.1 d.1) λl=>(if l then
aa ((pT aD a c.2.1),c.2.2.1)
else
aa (ag,c.2.2.1))
else
aa (ag,c.2.2.1)):Option (Bool×aD.den)) λe=>aa (e.2,e.1)
else
ai7 (idx d.2.1 (ai9.wrap (ajl b.2 8))) λf=>ai7 ((if(ah (a.1=3))then
ai7 (M.dF N 3) λm=>(if(pT aD f.2.1 m)then
ai7 (M.dF N 4) λn=>aa ((pT aD f.2.2.1 n),a)
else
aa (ag,a))
else
aa (ag,a)):Option (Bool×aD.den)) λg=>aa (g.2,g.1)))))
def M.lT(N:Nat)(f:Int)(a:Int)(b:Int):Option (aD.den×Bool):=
(if(ah (f=13))then
ai7 (ai7 (M.dF N a) λc=>(if(ah (b=2))then(if(ah (a=2))then
aa (af,c)
else
aa (ah (a=3),c))
else
aa (ag,c)):Option (Bool×aD.den)) λg=>aa (g.2,g.1)
else(if(ah (f=14))then
ai7 (ai7 (M.dF N a) λd=>(if(ah (b=4))then(if(ah (a=3))then
aa (af,d)
else
aa (ah (a=4),d))
else
aa (ag,d)):Option (Bool×aD.den)) λh=>aa (h.2,h.1)
else
ai7 (if(ah (a=3))then
aa (ah (b=3))
else
aa ag) λj=>(if j then
ai7 (M.dF N 4) λk=>aa (k,af)
else
ai7 (ai7 (M.dF N a) λe=>(if(ah (b=2))then(if(ah (a=2))then
aa (af,e)
else
aa (ah (a=3),e))
else
aa (ag,e)):Option (Bool×aD.den)) λi=>aa (i.2,i.1))))
def M.iF(N:Nat)(a:Int)(b:aD.den)(c:aD.den):Option (aD.den×Bool):=
ai7 (if(ah (a=11))then
aa (ah (a=11))
else
aa (ah (a=12))) λn=>(if n then
ai7 ((if(pT aD b c)then
ai7 (M.lS N b.1) λo=>aa (o,b)
else
aa (ag,b)):Option (Bool×aD.den)) λd=>aa (d.2,d.1)
else
ai7 (if(ah (a=13))then
aa (ah (a=13))
else(if(ah (a=14))then
aa (ah (a=14))
else
aa (ah (a=15)))) λp=>(if p then
ai7 (M.lT N a b.1 c.1) λe=>aa (e.1,e.2)
else(if(ah (a=16))then
ai7 ((if(ah (b.1=3))then
aa (ah (c.1=3),b)
else
aa (ag,b)):Option (Bool×aD.den)) λf=>aa (f.2,f.1)
else
ai7 (if(ah (a=17))then
aa (ah (a=17))
else
aa (ah (a=18))) λq=>(if q then
ai7 ((if(pT aD b c)then
ai7 (M.iS N b.1) λr=>aa (r,b)
else
aa (ag,b)):Option (Bool×aD.den)) λg=>aa (g.2,g.1)
else
ai7 (if(ah (a=19))then
aa (ah (a=19))
else
aa (ah (a=20))) λs=>(if s then
ai7 (M.dF N 1) λt=>aa (t,(pT aD b c))
else
ai7 (if(ah (a=21))then
aa (ah (a=21))
else
aa (ah (a=22))) λu=>(if u then
ai7 (ai7 (M.dF N 1) λh=>(if(pT aD b c)then
ai7 (M.iS N b.1) λv=>aa (v,h)
else
aa (ag,h)):Option (Bool×aD.den)) λi=>aa (i.2,i.1)
else
ai7 (if(ah (a=23))then
aa (ah (a=23))
else
aa (ah (a=24))) λw=>(if w then
ai7 ((if(ah (b.1=1))then
aa (ah (c.1=1),b)
else
aa (ag,b)):Option (Bool×aD.den)) λj=>aa (j.2,j.1)
else
ai7 (if(ah (a=27))then
aa (ah (a=27))
else
aa (ah (a=28))) λx=>(if x then
ai7 ((if(ah (b.1=5))then
aa (ah (c.1=2),b)
else
aa (ag,b)):Option (Bool×aD.den)) λk=>aa (k.2,k.1)
else
ai7 (ai7 (M.dF N 2) λl=>(if(ah (b.1=5))then
aa (ah (c.1=5),l)
else
aa (ag,l)):Option (Bool×aD.den)) λm=>aa (m.2,m.1)))))))))
def M.aY(N:Nat)(b:aD.den)(a:List aD.den)(c:bV.den):Option (aD.den×Int):=
ai7 (if(!ah (b.2=0))then
ai7 (M.oJ N b.1) λi=>aa (!i)
else
aa ag) λj=>(if j then
aa ((0,0),2)
else
ai7 (M.lR N b c) λk=>(if(!k)then
aa ((0,0),3)
else
ai7 (M.bD N b c) λl=>(if(!l)then
aa ((0,0),6)
else
ai7 ((if(ah ((a.length:Int)=0))then
ai7 (M.cz N b c) λd=>aa (d.2,d.1)
else(if(ah ((a.length:Int)=1))then
ai7 (idx a 0) λm=>ai7 (M.dB N b m c) λe=>aa (e.2,e.1)
else(if(ah ((a.length:Int)=2))then
ai7 (idx a 0) λn=>ai7 (idx a 1) λo=>ai7 (M.iF N b.1 n o) λf=>aa (f.2,f.1)
else
ai7 (idx a 1) λg=>ai7 (idx a 0) λp=>(if(ah (p.1=1))then
ai7 (idx a 1) λq=>ai7 (idx a 2) λr=>aa ((pT aD q r),g)
else
aa (ag,g))))):Option (Bool×aD.den)) λh=>(if(!h.1)then
aa ((0,0),8)
else
aa (h.2,0)))))
end
end
section
theorem aW{n:Int}(h0: -9223372036854775808<=n)(h1:n<=9223372036854775807):ai9.wrap n=n:=by
 simp[IntKind.wrap,IntKind.bits,IntKind.signed];omega
theorem aF{α:Type}{l:List α}{k:Nat}(h:k<l.length):idx l (k:Int)=aa l[k]:=by
 grind [idx]
def fU{α:Type}{l m:List α}(h:l.length+m.length<=4294967296):cu l m=aa (l++m):=aj h
def zK{S X:Type}{body:S->Option (S⊕X)}(I:S->Prop)(μ:S->Nat)(Q:X->Prop)
 (step:∀s,I s->(∃s',body s=aa (.inl s')/\I s'/\μ s'<μ s)\/∃x,body s=aa (.inr x)/\Q x):
 ∀N s,I s->μ s<N->∃x,Loop body N s=aa x/\Q x
 |0,_,_,h=>absurd h (by omega)
 |N+1,s,hi,aG=>by
  rcases step s hi with⟨s',hb,qS,hm⟩|⟨x,hb,hq⟩
  .obtain⟨x,hx,hq⟩:=zK I μ Q step N s' qS (by omega)
   grind [Loop]
  grind [Loop]
def FN{S X:Type}{body:S->Option (S⊕X)}(st:Nat->S){x:X}(m:Nat)(hs:∀i,i<m->body (st i)=aa (.inl (st (i+1))))(he:body (st m)=aa (.inr x)){N:Nat}(hN:m<N):Loop body N (st 0)=aa x:=by
 have:∀k i N,i+k=m->k<N->Loop body N (st i)=aa x:=by
  intro k
  induction k with
  |zero=>rintro i (_|N) hi hN;all_goals grind [Loop]
  |succ k ih=>
   rintro i (_|N) hi hN
   all_goals grind [Loop]
 grind
def Hp{S X:Type}{body:S->Option (S⊕X)}{N:Nat}{s0:S}(st:Nat->S)(m:Nat)(x:X)(h0:s0=st 0)(hs:∀i,i<m->body (st i)=aa (.inl (st (i+1))))(he:body (st m)=aa (.inr x))(hN:m<N):Loop body N s0=aa x:=by
 rw[h0];exact FN st m hs he hN
def JA{S X Y:Type}{body:S->Option (S⊕X)}{N:Nat}{s0:S}{k:X->Option Y}{r:Option Y}(st:Nat->S)(m:Nat)(x:X)(h0:s0=st 0)(hs:∀i,i<m->body (st i)=aa (.inl (st (i+1))))(he:body (st m)=aa (.inr x))(hN:m<N)(hk:k x=r):(Loop body N s0).bind k=r:=by
 rw[Hp st m x h0 hs he hN];exact hk
def aU:Nat:=18446744073709551616
section
variable {α:Type}
def yL(n:Nat)(C:Nat->α)(k:Nat)(v:α):((ajY n).map C).set k v=(ajY n).map (λj=>if j=k then v else C j):=by
 apply List.ext_getElem (by simp)
 grind
def lU(n:Nat)(p:Nat->Bool):(ajY (n+1)).filter p=(ajY n).filter p++(if p n=af then[n]else[]):=by
 grind [List.range_succ]
end
end
end Go.Proofs.YtleifhfeahnocaaGreatDoor
section
open _root_.Bool renaming false->ag,true->af,false_eq_true->ajI
open _root_.Option renaming none->ae,some->aa,bind_some->ai8
open _root_.Go.IntKind renaming i64->ai9
open _root_.List renaming replicate->aji,take_append_getElem->ajk,take_length->ajn
open _root_.Nat renaming zero_le->ajB
namespace Go.Proofs.YtleifhfeahnocaaGreatDoor
open Go Go.RowKit
def Wp{α:Type}(m:Option α)(Q:α->Prop):Prop:=∃x,m=aa x/\Q x
def Wp.some{α:Type}{x:α}{Q:α->Prop}(h:Q x):Wp (aa x) Q:=⟨x,rfl,h⟩
def Wp.eq{α:Type}{m:Option α}{x:α}(h:Wp m (· =x)):m=Option.some x:=by obtain⟨y,e,rfl⟩:=h;exact e
def Wp.mono{α:Type}{m:Option α}{Q Q':α->Prop}(h:Wp m Q)(hq:∀x,Q x->Q' x):Wp m Q':=by obtain⟨x,e,h⟩:=h;exact⟨x,e,hq x h⟩
def Wp.bind{α β:Type}{m:Option α}{k:α->Option β}{Q:β->Prop}(h:Wp m λx=>Wp (k x) Q):Wp (m.bind k) Q:=by
 obtain⟨x,e,h⟩:=h;rw[e];exact h
def Wp.oK{α β:Type}{m:Option α}{k:α->Option β}{Q:β->Prop}{x:α}(e:m=Option.some x)(h:Wp (k x) Q):Wp (m.bind k) Q:=by
 rw[e];exact h
theorem Wp.seq{α β:Type}{m:Option α}{k:α->Option β}{Q:β->Prop}(A:α->Prop)(h:Wp m A)(hk:∀x,A x->Wp (k x) Q):Wp (m.bind k) Q:= .bind (h.mono hk)
def Wp.ite{α:Type}{c:Prop}[Decidable c]{a b:Option α}{Q:α->Prop}(ha:c->Wp a Q)(hb:¬c->Wp b Q):Wp (if c then a else b) Q:=by
 grind
def Wp.dec{α:Type}{c:Prop}[Decidable c]{a b:Option α}{Q:α->Prop}(ha:c->Wp a Q)(hb:¬c->Wp b Q):Wp (if decide c=af then a else b) Q:=by
 grind
def Wp.eC{α:Type}{c:Prop}[Decidable c]{a b:Option α}{Q:α->Prop}(ha:¬c->Wp a Q)(hb:c->Wp b Q):Wp (if(!decide c)=af then a else b) Q:=by
 grind
def vm{J R:Type}(k:J->Option R)(Q:R->Prop):J⊕R->Prop
 | .inl j=>Wp (k j) Q
 | .inr r=>Q r
def Wp.join{J R:Type}{m:Option (J⊕R)}{k:J->Option R}{Q:R->Prop}(h:Wp m (vm k Q)):Wp (cd m k) Q:=by
 obtain⟨x,e,h⟩:=h;unfold cd;rw[e]
 cases x with
 |inl j=>exact h
 |inr r=>exact⟨r,rfl,h⟩
def zL{S X:Type}(I:S->Prop)(μ:S->Nat)(s:S)(Q:X->Prop):S⊕X->Prop
 | .inl s'=>I s'/\μ s'<μ s
 | .inr x=>Q x
def Wp.loop{S X:Type}{body:S->Option (S⊕X)}{N:Nat}{s0:S}{Q:X->Prop}(I:S->Prop)(μ:S->Nat)(h0:I s0)(hN:μ s0<N)(step:∀s,I s->Wp (body s) (zL I μ s Q)):Wp (Loop body N s0) Q:=
 zK I μ Q (λs hs=>by
  obtain⟨x,e,h⟩:=step s hs
  cases x with
  |inl s'=>exact .inl ⟨s',e,h⟩
  |inr x=>exact .inr ⟨x,e,h⟩) N s0 h0 hN
theorem Wp.idx{α:Type}{l:List α}{i:Int}{Q:α->Prop}(k:Nat)(hi:i=k)(hk:k<l.length)(h:Q l[k]):Wp (idx l i) Q:=by
 subst hi;exact⟨_,aF hk,h⟩
def Wp.app{α:Type}{l m:List α}{Q:List α->Prop}(hl:l.length+m.length<=4294967296)(h:Q (l++m)):Wp (cu l m) Q:=⟨_,fU hl,h⟩
def rn{α:Type}{l:List α}{i j:Int}(a b:Nat)(hi:i=a)(hj:j=b)(h:a<=b)(hb:b<=l.length):gq l i j=Option.some ((l.take b).drop a):=by
 grind [gq]
def Wp.cut{α:Type}{l:List α}{i j:Int}{Q:List α->Prop}(a b:Nat)(hi:i=a)(hj:j=b)(h:a<=b)(hb:b<=l.length)(hq:Q ((l.take b).drop a)):Wp (gq l i j) Q:=⟨_,rn a b hi hj h hb,hq⟩
def rp{α:Type}{l:List α}{b:Nat}(hb:b<=l.length):gq l 0 (b:Int)=Option.some (l.take b):=by
 have:=rn (l:=l) 0 b rfl rfl (ajB _) hb
 grind
def aS{k:Nat}(h:k<9223372036854775807):ai9.wrap ((k:Int)+1)=((k+1:Nat):Int):=by rw[aW]<;>omega
def Dv{k:Nat}(h:k<=9223372036854775807):ai9.wrap (k:Int)=(k:Int):=by rw[aW]<;>omega
end Go.Proofs.YtleifhfeahnocaaGreatDoor
namespace Go.Proofs.YtleifhfeahnocaaGreatDoor
open Go Go.RowKit
section
variable {α β:Type}
theorem kQ{x:α}{Q:α->Prop}:Wp (aa x) Q↔Q x:=⟨λ⟨y,e,h⟩=>by grind,λh=>⟨x,rfl,h⟩⟩
theorem tq{Q:α->Prop}:Wp (ae:Option α) Q↔False:=⟨λ⟨y,e,h⟩=>(by cases e),False.elim⟩
def wp_bind{m:Option α}{k:α->Option β}{Q:β->Prop}:Wp (m.bind k) Q↔Wp m λx=>Wp (k x) Q:=by
 cases m with
 |none=>simp only[Option.bind_none,tq]
 |some x=>simp only[ai8,kQ]
def Mj{c:Prop}[Decidable c]{a b:Option α}{Q:α->Prop}:Wp (if c then a else b) Q↔(c->Wp a Q)/\(¬c->Wp b Q):=by
 grind
def Mk{c:Prop}[Decidable c]{a b:Option α}{Q:α->Prop}:Wp (if decide c=af then a else b) Q↔(c->Wp a Q)/\(¬c->Wp b Q):=by
 grind
def Hq{c:Prop}[Decidable c]{a b:Option α}{Q:α->Prop}:Wp (if(!decide c)=af then a else b) Q↔(¬c->Wp a Q)/\(c->Wp b Q):=by
 grind
def Ml{c:Bool}{a b:Option α}{Q:α->Prop}:Wp (if(!c)=af then a else b) Q↔(c=ag->Wp a Q)/\(c=af->Wp b Q):=by
 grind
def wp_map{m:Option α}{f:α->β}{Q:β->Prop}:Wp (m.map f) Q↔Wp m λx=>Q (f x):=by
 cases m with
 |none=>simp only[Option.map_none,tq]
 |some x=>simp only[Option.map_some,kQ]
def Hr{J R:Type}{m:Option (J⊕R)}{k:J->Option R}{Q:R->Prop}:Wp (cd m k) Q↔Wp m (vm k Q):=by
 cases m with
 |none=>exact⟨λ⟨_,e,_⟩=>(by cases e),λ⟨_,e,_⟩=>(by cases e)⟩
 |some s=>cases s with
  |inl j=>rw[kQ];exact Iff.rfl
  |inr r=>exact(kQ (x:=r)).trans (kQ (x:=Sum.inr r) (Q:=vm k Q)).symm
def zM{J R:Type}{k:J->Option R}{Q:R->Prop}{j:J}:vm k Q (.inl j)=Wp (k j) Q:=rfl
def zN{J R:Type}{k:J->Option R}{Q:R->Prop}{r:R}:vm k Q (.inr r)=Q r:=rfl
theorem eW{l:List α}{i:Int}{Q:α->Prop}:Wp (idx l i) Q↔∃h:0<=i/\i<(l.length:Int),Q (l[i.toNat]'(by omega)):=by
 by_cases h:0<=i/\i<(l.length:Int)
 .grind [idx,kQ]
 .refine⟨λ⟨y,e,_⟩=>?_,λg=>absurd g.1 h⟩
  grind [iK]
def tt{s:ByteArray}{i:Int}{Q:Int->Prop}:Wp (me s i) Q↔∃h:0<=i/\i<(s.size:Int),Q ((s[i.toNat]'(by omega)).toNat:Int):=by
 unfold me;rw[wp_map];by_cases h:0<=i/\i<(s.size:Int)
 .grind [kQ]
 .refine⟨λ⟨y,e,_⟩=>?_,λg=>absurd g.1 h⟩
  grind
theorem nS{l m:List α}{Q:List α->Prop}:Wp (cu l m) Q↔l.length+m.length<=4294967296/\Q (l++m):=by
 grind [cu,kQ,tq]
def wp_cut{l:List α}{i j:Int}{Q:List α->Prop}:Wp (gq l i j) Q↔(0<=i/\i<=j/\j<=l.length)/\Q ((l.take j.toNat).drop i.toNat):=by
 grind [gq,kQ,tq]
def sq{m:Int}{z:α}{Q:List α->Prop}:Wp (p6 m z) Q↔(0<=m/\m<=4294967296)/\Q (aji m.toNat z):=by
 grind [p6,kQ,tq]
def QD{m:Option α}{x:α}:Wp m (· =x)↔m=aa x:=⟨λ⟨_,e,h⟩=>h▸e,λe=>⟨x,e,rfl⟩⟩
def Wp.getD{m:Option α}{Q:α->Prop}(h:Wp m Q)(d:α):m=Option.some (m.getD d)/\Q (m.getD d):=by
 obtain⟨x,e,h⟩:=h
 grind
end
def FO{S X:Type}(xk:S->Int)(m k:Nat)(J:Nat->S->Prop)(Q:X->Prop):S⊕X->Prop
 | .inl s=>k<m/\xk s=((k+1:Nat):Int)/\J (k+1) s
 | .inr x=>Q x
def bf{S X:Type}{xk:S->Int}{m k:Nat}{J:Nat->S->Prop}{Q:X->Prop}{s:S}:FO xk m k J Q (.inl s)=(k<m/\xk s=((k+1:Nat):Int)/\J (k+1) s):=rfl
def aX{S X:Type}{xk:S->Int}{m k:Nat}{J:Nat->S->Prop}{Q:X->Prop}{x:X}:FO xk m k J Q (.inr x)=Q x:=rfl
def Wp.count{S X:Type}{body:S->Option (S⊕X)}{s0:S}{Q:X->Prop}(xk:S->Int)(m:Nat)(J:Nat->S->Prop)(hm:m<=9223372036854775807)(h0:xk s0=0)(hJ:J 0 s0)
 (step:∀k s,k<=m->xk s=(k:Int)->J k s->Wp (body s) (FO xk m k J Q)):Wp (Loop body aU s0) Q:=by
 refine Wp.loop (λs=>∃k:Nat,xk s=k/\k<=m/\J k s) (λs=>m-(xk s).toNat) ⟨0,h0,ajB _,hJ⟩ (by unfold aU;omega) λs hs=>?_
 obtain⟨k,hi,hk,hj⟩:=hs
 refine(step k s hk hi hj).mono λr hr=>?_
 cases r with
 |inl s'=>
  obtain⟨h1,h2,h3⟩:=hr;exact⟨⟨k+1,h2,h1,h3⟩,by grind⟩
 |inr x=>exact hr
def cR{k:Nat}{m:Nat}(hm:m<=9223372036854775807)(h:k<m):ai9.wrap ((k:Int)+1)=((k+1:Nat):Int):=aS (by omega)
def ow{k m:Nat}(h:k<m):decide ((k:Int)<(m:Int))=af:=aq (by omega)
def FP{k m:Nat}(h:k<m):((k:Int)<(m:Int))=True:=eq_true (by omega)
def tv{m:Nat}:((m:Int)<(m:Int))=False:=eq_false (by omega)
def cX{α:Type}(f:Nat->Option α):Nat->Option α
 |0=>ae
 |m+1=>(cX f m).or (f m)
theorem cq{α:Type}{f:Nat->Option α}:∀{m:Nat},cX f m=ae↔∀k,k<m->f k=ae
 |0=>by simp[cX]
 |m+1=>by
  rw[cX,Option.or_eq_none_iff,cq]
  grind
theorem fq{α:Type}{f:Nat->Option α}{x:α}:∀{m:Nat},cX f m=aa x->∃k,k<m/\f k=aa x/\∀j,j<k->f j=ae
 |0,h=>by cases h
 |m+1,h=>by
  rw[cX]at h
  cases e:cX f m with
  |none=>grind [cq]
  |some y=>
   rw[e]at h;cases h;obtain⟨k,hk,h1,h2⟩:=fq e
   grind
theorem fx{α:Type}{f:Nat->Option α}{x:α}{k:Nat}(hx:f k=aa x)(hn:∀j,j<k->f j=ae):∀{m:Nat},k<m->cX f m=aa x
 |0,h=>by omega
 |m+1,h=>by
  rw[cX]
  rcases Nat.lt_succ_iff_lt_or_eq.1 h with h1|rfl
  .rw[fx hx hn h1];rfl
  .rw[cq.2 hn];exact hx
def QE{S X C:Type}(xk:S->Int)(acc:S->C)(k:Nat)(c:C)(I:Nat->C->Prop):S⊕X->Prop
 | .inl s=>xk s=((k+1:Nat):Int)/\acc s=c/\I (k+1) c
 | .inr _=>False
def QF{S X:Type}(Q:X->Prop):S⊕X->Prop
 | .inl _=>False
 | .inr x=>Q x
def zO{S X C:Type}{xk:S->Int}{acc:S->C}{k:Nat}{c:C}{I:Nat->C->Prop}{s:S}:QE (X:=X) xk acc k c I (.inl s)=(xk s=((k+1:Nat):Int)/\acc s=c/\I (k+1) c):=rfl
def zP{S X:Type}{Q:X->Prop}{x:X}:QF (S:=S) Q (.inr x)=Q x:=rfl
def Wp.fold{S X C α:Type}{body:S->Option (S⊕X)}{s0:S}{Q:X->Prop}(xk:S->Int)(acc:S->C)(l:List α)(F:C->α->C)(c0:C)(I:Nat->C->Prop)(hm:l.length<=9223372036854775807)(h0:xk s0=0)(hc:acc s0=c0)(hI:I 0 c0)
 (step:∀k s(h:k<l.length),xk s=(k:Int)->I k (acc s)->Wp (body s) (QE xk acc k (F (acc s) l[k]) I))
 (fin:∀s,xk s=(l.length:Int)->acc s=l.foldl F c0->I l.length (acc s)->Wp (body s) (QF Q)):Wp (Loop body aU s0) Q:=by
 refine Wp.count xk l.length (λk s=>acc s=(l.take k).foldl F c0/\I k (acc s)) hm h0 ⟨by rw[hc];rfl,hc▸hI⟩ λk s hk hs hJ=>?_
 rcases Nat.lt_or_ge k l.length with aG|hge
 .refine(step k s aG hs hJ.2).mono λr hr=>?_
  cases r with
  |inl s'=>
   obtain⟨h1,h2,h3⟩:=hr;refine⟨aG,h1,?_,h2▸h3⟩
   grind [ajk]
  |inr x=>exact hr.elim
 .obtain rfl:k=l.length:=by omega
  rw[ajn]at hJ
  refine(fin s hs hJ.1 hJ.2).mono λr hr=>?_
  cases r with
  |inl s'=>exact hr.elim
  |inr x=>exact hr
def W_:type_of% @Classical.not_not/\type_of% @kQ/\type_of% @wp_bind/\type_of% @Mk/\type_of% @Hq/\type_of% @Ml/\type_of% @Mj/\type_of% @Hr/\type_of% @zM/\type_of% @zN/\type_of% @if_true.{1}/\type_of% @if_false.{1}/\type_of% @ite_true.{1}/\type_of% @ite_false.{1}/\type_of% @ajI/\type_of% @Bool.true_eq_false/\type_of% @decide_true/\type_of% @decide_false/\type_of% @decide_eq_decide/\type_of% @true_eq_decide_iff/\type_of% @false_eq_decide_iff/\type_of% @az/\type_of% @decide_eq_false_iff_not/\type_of% @true_implies/\type_of% @false_implies/\type_of% @and_true/\type_of% @true_and/\type_of% @and_false/\type_of% @false_and/\type_of% @or_true/\type_of% @true_or/\type_of% @or_false/\type_of% @false_or/\type_of% @not_true_eq_false/\type_of% @not_false_eq_true/\type_of% @Bool.not_true/\type_of% @Bool.not_false/\type_of% @Bool.not_eq_true/\type_of% @Bool.not_eq_false/\type_of% @Bool.not_eq_eq_eq_not:=
 ⟨@Classical.not_not,@kQ,@wp_bind,@Mk,@Hq,@Ml,@Mj,@Hr,@zM,@zN,@if_true.{1},@if_false.{1},@ite_true.{1},@ite_false.{1},@ajI,@Bool.true_eq_false,@decide_true,@decide_false,@decide_eq_decide,@true_eq_decide_iff,@false_eq_decide_iff,@az,@decide_eq_false_iff_not,@true_implies,@false_implies,@and_true,@true_and,@and_false,@false_and,@or_true,@true_or,@or_false,@false_or,@not_true_eq_false,@not_false_eq_true,@Bool.not_true,@Bool.not_false,@Bool.not_eq_true,@Bool.not_eq_false,@Bool.not_eq_eq_eq_not⟩
end Go.Proofs.YtleifhfeahnocaaGreatDoor
end
namespace Go.Proofs.YtleifhfeahnocaaGreatDoor
open Go Go.RowKit
set_option maxRecDepth 100000
set_option linter.unusedSimpArgs false
set_option linter.unusedVariables false
set_option linter.defProp false
namespace L
abbrev Ty:Type:=aD.den
abbrev fc(l:List Nat):List Int:=l.map (λn:Nat=>(n:Int))
def ar(op:Int):Int:=
 if(1<=op/\op<=9)\/(35<=op/\op<=39)then 0 else if op=10\/op=25\/(31<=op/\op<=34)then 1 else if(11<=op/\op<=24)\/(27<=op/\op<=30)then 2 else if op=26 then 3 else-1
def tw(op:Int):ar op<=3:=by unfold ar;omega
def vX(a:Int)(i:Nat)(sk:List Nat):Nat:=if a=0 then i else sk.getD (sk.length-a.toNat) 0
def ld:List Ty->Nat->List Nat->List Nat->(Nat×Int)⊕(List Nat×List Nat)
 |[],_,st,sk=> .inr (st,sk)
 |n::e,i,st,sk=>
  if ar n.1<0 then .inl (i,2)else if(sk.length:Int)<ar n.1 then .inl (i,5)else
  if 12<sk.length-(ar n.1).toNat+1 then .inl (i,16)else ld e (i+1) (st++[vX (ar n.1) i sk]) (sk.take (sk.length-(ar n.1).toNat)++[vX (ar n.1) i sk])
def rB(e:List Ty):Int×Int×List Int:=
 if 48<e.length then(0,4,[])else if e.length=0 then(0,5,[])else match ld e 0 [] []with
  | .inl (i,c)=>(i,c,[])
  | .inr (st,sk)=>if 1<sk.length then(e.length,4,[])else(0,0,fc st)
def oO(t:Ty)(n:Nat):Prop:=(1<=(t.1:Int)/\(t.1:Int)<=5/\(t.2:Int)=0)\/((t.1:Int)=6/\0<=(t.2:Int)/\(t.2:Int)<n)
instance(t:Ty)(n:Nat):Decidable (oO t n):=by unfold oO;infer_instance
def VR(r:Ty):Prop:=0<=(r.1:Int)/\(r.1:Int)<=r.2/\(r.2:Int)<=109573
instance(r:Ty):Decidable (VR r):=by unfold VR;infer_instance
def KA(a b:Ty):pT aD a b=decide (a=b):=by
 grind [pT]
end L
section
namespace L
abbrev En:Type:=ef.den
abbrev QG:Type:=bl.den
abbrev Rw:Type:=kw.den
abbrev Fd:Type:=bA.den
abbrev Lw:Type:=bG.den
abbrev iT:Type:=aM.den
abbrev uz:Type:=db.den
def Dw(c:Int):M.ou aU c=aa (decide (97<=c/\c<=122)):=by
 apply Wp.eq;unfold M.ou;simp only[W_,av,ax,reduceCtorEq];omega
def Mm(c:Int):M.qw aU c=aa (decide (48<=c/\c<=57)):=by
 apply Wp.eq;unfold M.qw;simp only[W_,av,ax,reduceCtorEq];omega
def O5(c:Int):M.sj aU c=aa (decide ((97<=c/\c<=122)\/(48<=c/\c<=57)\/c=95)):=by
 apply Wp.eq;unfold M.sj;simp only[Dw,Mm,W_,av,ax,reduceCtorEq];omega
noncomputable def pc(s:ByteArray):Bool:=(M.lc aU s).getD ag
def jW{β:Type}(l:List (ByteArray×β))(nm:ByteArray):Prop:=∃x∈l,x.1=nm
noncomputable instance{β:Type}(l:List (ByteArray×β))(nm:ByteArray):Decidable (jW l nm):=aju _
noncomputable instance(m:ByteArray)(l:List ByteArray):Decidable (m∈l):=aju _
def eL{p:Nat->Prop}{k:Nat}(h:∀j,j<k->p j)(hk:p k):∀j,j<k+1->p j:=(by grind)
open Classical in
def ch(t:Ty)(E:List En):M.fT aU t E=aa (decide (oO t E.length)):=by
 obtain⟨(k:Int),(e:Int)⟩:=t;apply Wp.eq;unfold M.fT;simp only[W_,av,ax,reduceCtorEq];simp only[oO];grind
def yI(t:Ty)(E:List En):Int×Int:=
 if¬oO t E.length then(0,-1)else if(t.1:Int)=1 then(0,1)else if(t.1:Int)=2 then(-1000000000000,1000000000000)else if(t.1:Int)=3 then(-1000000000000000,1000000000000000)else if(t.1:Int)=4 then(-1000000000,1000000000)else if(t.1:Int)=5 then(0,109572)
 else(0,ai9.wrap ((((E[(t.2:Int).toNat]?).map λe=>(e.2.length:Int)).getD 0)-1))
def S0(t:Ty)(E:List En):M.pM aU t E=aa (yI t E):=by
 obtain⟨(k:Int),(e:Int)⟩:=t;apply Wp.eq;unfold M.pM yI;simp only[ch,W_,av,ax,reduceCtorEq];by_cases hv:oO (k,e) E.length
 .simp only[hv,not_true_eq_false,if_false,false_implies,true_implies,true_and];refine⟨λh=>by rw[aj h],λh1=>⟨λh=>by rw[ai h1,aj h],λh2=>⟨λh=>by rw[ai h1,ai h2,aj h],λh3=>⟨λh=>by rw[ai h1,ai h2,ai h3,aj h],λh4=>⟨(by grind),λh5=>?_⟩⟩⟩⟩⟩;simp only[oO]at hv;dsimp only[aB,Row.den]at*
  have hi:e.toNat<E.length:=by omega
  refine eW.2 ⟨by omega,?_⟩
  grind
 grind
def B4(n:Int)(t:Ty)(E:List En):Prop:=(yI t E).1<=n/\n<=(yI t E).2
instance(n:Int)(t:Ty)(E:List En):Decidable (B4 n t E):=by unfold B4;infer_instance
def xl(x:Rw)(t:QG)(E:List En):Prop:=¬VR x.1\/(x.1.1:Int)=x.1.2\/(x.2.2.1:Int)<=x.2.1\/¬B4 x.2.1 t.2.1 E\/¬B4 (ai9.wrap ((x.2.2.1:Int)-1)) t.2.1 E\/¬B4 x.2.2.2 t.2.2.1 E
instance(x:Rw)(t:QG)(E:List En):Decidable (xl x t E):=by unfold xl;infer_instance
def vn(a b:Rw):Prop:=VR a.1/\VR b.1/\((a.1.1:Int)<a.1.2/\(a.1.1:Int)<b.1.2/\(b.1.1:Int)<a.1.2/\(b.1.1:Int)<b.1.2)/\(a.2.1:Int)<a.2.2.1/\(a.2.1:Int)<b.2.2.1/\(b.2.1:Int)<a.2.2.1/\(b.2.1:Int)<b.2.2.1
instance(a b:Rw):Decidable (vn a b):=by simp only[vn];dsimp only[aB,Row.den]at*;infer_instance
open Classical in
noncomputable def Bn(t:QG)(E:List En)(k:Nat):Option (Int×Int):=match t.2.2.2[k]? with
 |none=>ae
 |some x=>if xl x t E then aa ((k:Int),3)else if∃y∈t.2.2.2.take k,vn y x then aa ((k:Int),11)else ae
noncomputable def p8(t:QG)(E:List En):Int×Int:=
 if 64<t.2.2.2.length then(64,4)else if¬(oO t.2.1 E.length/\oO t.2.2.1 E.length)then(-1,8)else(cX (Bn t E) t.2.2.2.length).getD (0,0)
end L
end
namespace L
abbrev rM:Type:=bV.den
theorem aQ(op:Int):M.oJ aU op=aa (decide ((1<=op/\op<=8)\/(14<=op/\op<=16)\/op=33\/op=34\/(36<=op/\op<=39))):=by
 apply Wp.eq;unfold M.oJ;simp only[W_,av,ax,reduceCtorEq];omega
def aT(k:Int):M.lS aU k=aa (decide (k=2\/k=3\/k=4)):=by
 apply Wp.eq;unfold M.lS;simp only[W_,av,ax,reduceCtorEq];omega
def aR(k:Int):M.iS aU k=aa (decide (k=2\/k=3\/k=4\/k=5)):=by
 apply Wp.eq;unfold M.iS;simp only[aT,W_,av,ax,reduceCtorEq];omega
def bm(k:Int):M.dF aU k=aa ((k,(0:Int)):Ty):=rfl
def Dx(op m:Int)(s:rM):Prop:=(1<=op/\op<=5->B4 m (op,(0:Int)) s.1)/\(14<=op/\op<=16->0<=m/\m<=5)/\(op=34->0<=m/\ajH m 8<=5)/\(op=6->0<=m)
instance(op m:Int)(s:rM):Decidable (Dx op m s):=by unfold Dx;infer_instance
def uA(n:Ty)(s:rM):M.lR aU n s=aa (decide (Dx n.1 n.2 s)):=by
 obtain⟨(op:Int),(m:Int)⟩:=n;apply Wp.eq;unfold M.lR;simp only[bm,S0,W_,av,ax,reduceCtorEq];unfold Dx B4;dsimp only[aB,Row.den]at*;omega
def Mn(op m:Int)(s:rM):Prop:=
 (op=6->ai9.wrap (ajl m 16)<(s.1.length:Int)/\ajH m 16<(((s.1[(ai9.wrap (ajl m 16)).toNat]?).map λe=>(e.2.length:Int)).getD 0))/\
 (op=7->0<=m/\m<(s.2.2.1.length:Int))/\(op=8->0<=m/\m<(s.2.2.2.1.length:Int))/\(op=33->0<=m/\m<(s.2.1.length:Int))/\(op=34->ai9.wrap (ajl m 8)<(s.2.1.length:Int))/\
 (35<=op/\op<=39->s.2.2.2.2.2=af)/\(36<=op/\op<=39->0<=m/\m<(s.2.2.2.2.1.length:Int))
instance(op m:Int)(s:rM):Decidable (Mn op m s):=by unfold Mn;infer_instance
theorem Hs{m k:Int}(h0:0<=m)(h1:m<=9223372036854775807)(hk:0<k):0<=ai9.wrap (ajl m k):=by
 have h2:0<=ajl m k:=Int.tdiv_nonneg h0 (by omega)
 have h3:ajl m k<=m:=by rw[Int.tdiv_eq_ediv_of_nonneg h0];exact Int.ediv_le_self _ h0
 grind [aW]
def Mo(n:Ty)(s:rM)(hm:(n.2:Int)<=9223372036854775807)(hr:Dx n.1 n.2 s):M.bD aU n s=aa (decide (Mn n.1 n.2 s)):=by
 obtain⟨(op:Int),(m:Int)⟩:=n;apply Wp.eq;unfold M.bD;simp only[W_,av,ax,reduceCtorEq];unfold Mn;unfold Dx at hr;dsimp only[aB,Row.den]at*;refine⟨λh6=>⟨λh=>?_,λh=>?_⟩,λh6=>?_⟩
 .have h0:=Hs (k:=16) (hr.2.2.2 h6) hm (by omega);refine eW.2 ⟨⟨h0,h⟩,?_⟩
  grind
 .grind
 simp only[h6,W_,av,ax,reduceCtorEq]
 cases h5:s.2.2.2.2.2<;>simp only[imp_false,W_,av,ax,reduceCtorEq]<;>omega
def Mp{op m:Int}{s:rM}(hf:Mn op m s):Wp (M.cz aU (op,m) s) λ_=>True:=by
 unfold M.cz;simp only[bm,aR,ch,W_,av,ax,reduceCtorEq];unfold Mn at hf;dsimp only[aB,Row.den]at*
 refine λh6=>⟨λh7=>?_,λh7=>⟨λh8=>?_,λh8=>λh9 h35=>?_⟩⟩
 .exact eW.2 ⟨hf.2.1 h7,trivial⟩
 .grind [eW]
 .by_cases h:36<=op/\op<=39
  .have:Wp (idx s.2.2.2.2.1 m) λ_=>True:=eW.2 ⟨hf.2.2.2.2.2.2 h,trivial⟩
   grind
  grind
def FQ{op m:Int}{a:Ty}{s:rM}(hm:m<=9223372036854775807)(h1:ar op=1)(hr:Dx op m s)(hf:Mn op m s):Wp (M.dB aU (op,m) a s) λ_=>True:=by
 have tf:op=10\/op=25\/(31<=op/\op<=34):=by
  clear hr hf;unfold ar at h1;omega
 unfold M.dB;simp only[bm,aT,ch,W_,av,ax,reduceCtorEq];unfold Mn at hf;unfold Dx at hr;dsimp only[aB,Row.den]at*
 grind [eW,Hs]
def FU(op a b:Int):Wp (M.lT aU op a b) λ_=>True:=by
 unfold M.lT;simp only[bm,W_,av,ax,reduceCtorEq]
def FV(op:Int)(a b:Ty):Wp (M.iF aU op a b) λ_=>True:=by
 obtain⟨r,e,_⟩:=FU op a.1 b.1;unfold M.iF
 repeat' first|exact Wp.some trivial|exact⟨_,aT _,trivial⟩|exact⟨_,aR _,trivial⟩|exact⟨_,bm _,trivial⟩|exact⟨_,e,trivial⟩|refine Wp.seq (λ_=>True) ?_ λ_ _=>?_|refine Wp.dec (λ_=>?_) λ_=>?_|refine Wp.ite (λ_=>?_) λ_=>?_
noncomputable def Ht(n:Ty)(l:List Ty)(s:rM):Ty×Int:=(M.aY aU n l s).getD (((0:Int),(0:Int)),(0:Int))
def Mq{n:Ty}{l:List Ty}{s:rM}(hw:WF aD n)(hl:(l.length:Int)=ar n.1):M.aY aU n l s=aa (Ht n l s):=by
 refine(Wp.getD (Q:=λ_=>True) ?_ _).1;have hm:(n.2:Int)<=9223372036854775807:=hw.2.2;have h3:=tw n.1
 have key:Wp (M.lR aU n s) λx=>x=af->Wp (M.bD aU n s) λx=>x=af->((l.length:Int)=0->Wp (M.cz aU n s) λ_=>True)/\(¬(l.length:Int)=0->((l.length:Int)=1->Wp (idx l 0) λx=>Wp (M.dB aU n x s) λ_=>True)/\
  (¬(l.length:Int)=1->((l.length:Int)=2->Wp (idx l 0) λx=>Wp (idx l 1) λx_1=>Wp (M.iF aU n.1 x x_1) λ_=>True)/\(¬(l.length:Int)=2->Wp (idx l 1) λ_=>Wp (idx l 0) λx=>(x.1:Int)=1->Wp (idx l 1) λ_=>Wp (idx l 2) λ_=>True))):=by
  rw[uA]
  refine .some λhr=>?_
  have hr:Dx n.1 n.2 s:=an hr;rw[Mo n s hm hr]
  refine .some λhf=>?_
  have hf:Mn n.1 n.2 s:=an hf;exact⟨λ_=>Mp hf,λh0=>⟨λh1=>eW.2 ⟨by omega,FQ hm (by omega) hr hf⟩,λh1=>⟨λh2=>eW.2 ⟨by omega,eW.2 ⟨by omega,FV ..⟩⟩,λh2=>eW.2 ⟨by omega,eW.2 ⟨by omega,λ_=>eW.2 ⟨by omega,eW.2 ⟨by omega,trivial⟩⟩⟩⟩⟩⟩⟩
 unfold M.aY;simp only[aQ,W_,av,ax,reduceCtorEq]
 grind
noncomputable def nT(s:rM):List Ty->Nat->List Ty->(Nat×Int)⊕List Ty
 |[],_,nF=> .inr nF
 |n::e,i,nF=>
  if(Ht n (nF.drop (nF.length-(ar n.1).toNat)) s).2≠0 then .inl (i,(Ht n (nF.drop (nF.length-(ar n.1).toNat)) s).2)
  else nT s e (i+1) (nF.take (nF.length-(ar n.1).toNat)++[(Ht n (nF.drop (nF.length-(ar n.1).toNat)) s).1])
noncomputable def KB(e:List Ty)(s:rM):Ty×Int×Int:=
 if(rB e).2.1≠0 then(((0:Int),(0:Int)),(rB e).1,(rB e).2.1)else match nT s e 0 []with
  | .inl (i,c)=>(((0:Int),(0:Int)),(i:Int),c)
  | .inr nF=>(nF.headD ((0:Int),(0:Int)),0,0)
def O6{e:List Ty}(h:(rB e).2.1=0):e.length<=48/\e≠[]/\∃st sk,ld e 0 [] []= .inr (st,sk):=by
 unfold rB at h;split at h
 .cases h
 split at h
 .cases h
 rename_i h1 h2;refine⟨by omega,λe=>h2 (by rw[e];rfl),?_⟩;split at h
 .rename_i c hc;exfalso
  have:∀(e:List Ty)(i:Nat)(st sk:List Nat)(j:Nat),ld e i st sk≠ .inl (j,0):=by
   intro e
   induction e with
   |nil=>intro i st sk j h;cases h
   |cons n e ih=>
    grind [ld]
  grind
 grind
end L
namespace L
def ins(n:Int):List Int->List Int
 |[]=>[n]
 |x::l=>if x<n then x::ins n l else if x=n then x::l else n::x::l
def Mr(n x:Int)(l:List Int):ins n (x::l)=if x<n then x::ins n l else if x=n then x::l else n::x::l:=rfl
theorem ox{n y:Int}:∀{l:List Int},y∈ins n l↔y=n\/y∈l
 |[]=>by simp[ins]
 |x::l=>by
  unfold ins;split
  .rw[ajQ,ox,ajQ]
   grind
  grind
def pO(p:Int->Bool)(e:List Ty):List Int:=e.foldl (λl n=>if p n.1=af then ins n.2 l else l) []
def vo(op:Int):Bool:=decide (op=8)
def uB(n:Nat)(l:List Int):Prop:=l.Pairwise (· < ·)/\∀x∈l,0<=x/\x<(n:Int)
def uB.nil{n:Nat}:uB n []:=⟨.nil,λ_ h=>by cases h⟩
def S3{l:List Int}:∀{a b:Int},l.Pairwise (· < ·)->(∀x∈l,a<=x/\x<b)->(l.length:Int)<=max 0 (b-a):=by
 induction l with
 |nil=>grind
 |cons x l ih=>
  intro a b hp hb;obtain⟨h1,h2⟩:=aka.1 hp;have hx:=hb x (List.mem_cons_self ..);have:=ih (a:=x+1) (b:=b) h2 (by grind)
  grind
theorem uB.len{n:Nat}{l:List Int}(h:uB n l):l.length<=n:=by
 have:=S3 h.1 h.2;omega
def FW{n:Int}:∀{l:List Int},l.Pairwise (· < ·)->(ins n l).Pairwise (· < ·)
 |[],_=>List.pairwise_singleton ..
 |x::l,h=>by
  obtain⟨h1,h2⟩:=aka.1 h;rw[Mr];split
  .exact aka.2 ⟨λy hy=>by grind [ox],FW h2⟩
  grind [aka]
theorem uB.ins{n:Nat}{x:Int}{l:List Int}(h:uB n l)(hx:0<=x/\x<(n:Int)):uB n (ins x l):=
 ⟨FW h.1,λy hy=>by rcases ox.1 hy with rfl|hy;exact hx;exact h.2 y hy⟩
def pd(n:Nat)(out l:List Int):List Int:=l.foldl (λo x=>if 0<=x/\x<(n:Int)then ins x o else o) out
theorem uB.pd{n:Nat}:∀{l out:List Int},uB n out->uB n (pd n out l)
 |[],_,h=>h
 |x::l,out,h=>by
  show uB n (L.pd n (if 0<=x/\x<(n:Int)then L.ins x out else out) l)
  refine uB.pd ?_;split
  .exact h.ins ‹_›
  .exact h
def oL(s:iT)(d:Int):List Int:=
 if 0<=d/\d<(s.2.2.2.1.length:Int)then s.2.2.2.2.foldl (λout r=>if(r.2.1:Int)=d then pd s.2.2.2.1.length (pd s.2.2.2.1.length out (pO vo r.2.2.2.2.2.1)) (pO vo r.2.2.2.2.2.2.1)else out) []else[]
def nU(s:iT)(d:Int):uB s.2.2.2.1.length (oL s d):=by
 unfold oL;split
 .suffices∀(rs:List uz)(out:List Int),uB s.2.2.2.1.length out->uB s.2.2.2.1.length (rs.foldl (λout r=>if(r.2.1:Int)=d then pd s.2.2.2.1.length (pd s.2.2.2.1.length out (pO vo r.2.2.2.2.2.1)) (pO vo r.2.2.2.2.2.2.1)else out) out)from this _ _ .nil
  intro rs
  induction rs with
  |nil=>grind
  |cons r rs ih=>
   grind [uB.pd]
 .exact .nil
def stepT(s:iT)(out:List Int):List Int:=out.foldl (λo x=>(oL s x).foldl (λo y=>ins y o) o) out
def mf(s:iT):Nat->List Int->List Int
 |0,out=>out
 |n+1,out=>stepT s (mf s n out)
def KC(s:iT)(d:Int):List Int:=mf s s.2.2.2.1.length (oL s d)
def uB.Ms{n:Nat}:∀{l out:List Int},(∀x∈l,0<=x/\x<(n:Int))->uB n out->uB n (l.foldl (λo y=>L.ins y o) out)
 |[],_,_,h=>h
 |x::l,out,hx,h=>uB.Ms (l:=l) (out:=L.ins x out) (by grind) (h.ins (hx x (List.mem_cons_self ..)))
def rq(s:iT){out:List Int}(h:uB s.2.2.2.1.length out):uB s.2.2.2.1.length (stepT s out):=by
 unfold stepT
 suffices∀(l o:List Int),uB s.2.2.2.1.length o->uB s.2.2.2.1.length (l.foldl (λo x=>(oL s x).foldl (λo y=>ins y o) o) o)from this _ _ h
 intro l
 induction l with
 |nil=>grind
 |cons x l ih=>intro o h;exact ih _ (h.Ms (nU s x).2)
end L
namespace L
def iG(s:iT):Prop:=s.1.size<=80/\s.2.2.1.length<=14/\s.2.2.2.1.length<=14/\s.2.2.2.2.length<=60/\(∀f∈s.2.2.1,f.1.size<=80)/\(∀f∈s.2.2.2.1,f.1.size<=80)/\∀r∈s.2.2.2.2,r.1.size<=80/\r.2.2.2.2.2.2.2.size<=80/\r.2.2.2.2.2.1.length<=50/\r.2.2.2.2.2.2.1.length<=50
def dG(l:Lw):Prop:=l.1.length<=9/\l.2.1.length<=9/\l.2.2.length<=5/\(∀e∈l.1,e.1.size<=80/\e.2.length<=20/\∀m∈e.2,m.size<=80)/\(∀t∈l.2.1,t.1.size<=80)/\∀s∈l.2.2,iG s
def sr{α:Type}{l:List α}{p:α->Prop}(h:∀j,j<l.length->∀h:j<l.length,p l[j]):∀x∈l,p x:=λx hx=>by
 grind [ajm]
def JB(s:iT)(hw:WF aM s):Wp (M.kF aU s) λr=>r=af->iG s:=by
 have w1:=hw.2.2.1.1;have w2:=hw.2.2.2.1.1;have w3:=hw.2.2.2.2.1;unfold maxLen at w1 w2 w3;unfold M.kF;simp only[W_,av,ax,reduceCtorEq]
 refine λh1 h2 h3 h4=>?_
 refine Wp.count (λs=>s) s.2.2.1.length (λk _=>∀j,j<k->∀h:j<s.2.2.1.length,(s.2.2.1[j].1:ByteArray).size<=80) w1 rfl (λj hj=>by omega) λk c hk hs hA=>?_
 obtain rfl:c=_:=hs;simp only[W_,av,ax,reduceCtorEq,bf,aX];refine⟨λaG=>?_,λhge=>?_⟩
 .have aG:k<s.2.2.1.length:=by omega
  simp only[aF aG,cR w1 aG,W_,av,ax,reduceCtorEq]
  grind
 have hA:=λj(hj:j<s.2.2.1.length)=>hA j (by omega)
 refine Wp.count (λs=>s) s.2.2.2.1.length (λk _=>∀j,j<k->∀h:j<s.2.2.2.1.length,(s.2.2.2.1[j].1:ByteArray).size<=80) w2 rfl (λj hj=>by omega) λk c hk hs hB=>?_
 obtain rfl:c=_:=hs;simp only[W_,av,ax,reduceCtorEq,bf,aX];refine⟨λaG=>?_,λhge=>?_⟩
 .have aG:k<s.2.2.2.1.length:=by omega
  simp only[aF aG,cR w2 aG,W_,av,ax,reduceCtorEq]
  grind
 have hB:=λj(hj:j<s.2.2.2.1.length)=>hB j (by omega)
 refine Wp.count (λs=>s) s.2.2.2.2.length (λk _=>∀j,j<k->∀h:j<s.2.2.2.2.length,(s.2.2.2.2[j].1:ByteArray).size<=80/\(s.2.2.2.2[j].2.2.2.2.2.2.2:ByteArray).size<=80/\s.2.2.2.2[j].2.2.2.2.2.1.length<=50/\s.2.2.2.2[j].2.2.2.2.2.2.1.length<=50) w3 rfl (λj hj=>by omega) λk c hk hs hC=>?_
 obtain rfl:c=_:=hs;simp only[W_,av,ax,reduceCtorEq,bf,aX];refine⟨λaG=>?_,λhge=>?_⟩
 .have aG:k<s.2.2.2.2.length:=by omega
  simp only[aF aG,cR w3 aG,W_,av,ax,reduceCtorEq]
  exact λh1 h2 h3 h4=>⟨aG,eL hC (by omega)⟩
 exact⟨by omega,by omega,by omega,by omega,sr hA,sr hB,sr λj hj=>hC j (by omega)⟩
def zQ(l:Lw)(hw:WF bG l):Wp (M.iR aU l) λr=>r=af->dG l:=by
 have w1:=hw.1.1;have w2:=hw.2.1.1;have w3:=hw.2.2.1;unfold maxLen at w1 w2 w3;unfold M.iR;simp only[W_,av,ax,reduceCtorEq]
 refine λh1 h2 h3=>?_
 refine Wp.count (λs=>s) l.1.length (λk _=>∀j,j<k->∀h:j<l.1.length,(l.1[j].1:ByteArray).size<=80/\l.1[j].2.length<=20/\∀m∈l.1[j].2,ByteArray.size m<=80) w1 rfl (λj hj=>by omega) λk c hk hs hA=>?_
 obtain rfl:c=_:=hs;simp only[W_,av,ax,reduceCtorEq,bf,aX];refine⟨λaG=>?_,λhge=>?_⟩
 .have aG:k<l.1.length:=by omega
  simp only[aF aG,cR w1 aG,W_,av,ax,reduceCtorEq]
  refine λg1 g2=>?_
  refine Wp.count (λs=>s) l.1[k].2.length (λi _=>∀j,j<i->∀h:j<l.1[k].2.length,ByteArray.size l.1[k].2[j]<=80) (by omega) rfl (λj hj=>by omega) λi c hi hs hB=>?_
  obtain rfl:c=_:=hs;simp only[W_,av,ax,reduceCtorEq,bf,aX];refine⟨λxm=>?_,λxm=>⟨aG,eL hA λ_=>⟨by omega,by omega,sr λj hj=>hB j (by omega)⟩⟩⟩
  have xm:i<l.1[k].2.length:=by omega
  simp only[aF xm,cR (m:=l.1[k].2.length) (by omega) xm,W_,av,ax,reduceCtorEq]
  grind
 have hA:=λj(hj:j<l.1.length)=>hA j (by omega)
 refine Wp.count (λs=>s.2) l.2.1.length (λk _=>∀j,j<k->∀h:j<l.2.1.length,(l.2.1[j].1:ByteArray).size<=80) w2 rfl (λj hj=>by omega) λk c hk hs hB=>?_
 obtain⟨c1,c2⟩:=c;dsimp only at hs;subst hs;simp only[W_,av,ax,reduceCtorEq,bf,aX];refine⟨λaG=>?_,λhge=>?_⟩
 .have aG:k<l.2.1.length:=by omega
  simp only[aF aG,cR w2 aG,W_,av,ax,reduceCtorEq]
  grind
 have hB:=λj(hj:j<l.2.1.length)=>hB j (by omega)
 refine Wp.count (λs=>s.2) l.2.2.length (λk _=>∀j,j<k->∀h:j<l.2.2.length,iG l.2.2[j]) w3 rfl (λj hj=>by omega) λk c hk hs hC=>?_
 obtain⟨c1,c2⟩:=c;dsimp only at hs;subst hs;simp only[W_,av,ax,reduceCtorEq,bf,aX];refine⟨λaG=>?_,λhge=>?_⟩
 .have aG:k<l.2.2.length:=by omega
  simp only[aF aG,cR w3 aG,W_,av,ax,reduceCtorEq]
  refine λh=>(JB _ (hw.2.2.2 _ (aje aG))).mono (by grind)
 exact⟨by omega,by omega,by omega,sr hA,sr hB,sr λj hj=>hC j (by omega)⟩
abbrev LE:Type:=aC.den
def Mu:LE:=((0:Int),((0:Int),((0:Int),(0:Int))))
def tx(sec:Int)(k:Int):Option (Int×Int)->LE
 |none=>Mu
 |some (c,e)=>(c,(sec,(k,e)))
noncomputable def Mv(ms:List ByteArray)(i:Nat):Option (Int×Int):=match ms[i]? with
 |none=>ae
 |some m=>if pc m=ag then aa (2,100+(i:Int))else if m∈ms.take i then aa (7,100+(i:Int))else ae
noncomputable def qx(l:Lw)(k:Nat):Option (Int×Int):=match l.1[k]? with
 |none=>ae
 |some x=>if pc x.1=ag then aa (2,0)else if jW (l.1.take k) x.1 then aa (7,0)else if x.2.length=0 then aa (5,0)else if 16<x.2.length then aa (4,116)else cX (Mv x.2) x.2.length
def tA{k:Nat}{a:Int}(h:k<=100000)(ha:0<=a/\a<=1000):ai9.wrap (a+(k:Int))=a+(k:Int):=aW (by omega) (by omega)
end L
namespace L
noncomputable def tB(l:Lw)(k:Nat):Option (Int×Int):=match l.2.1[k]? with
 |none=>ae
 |some x=>if pc x.1=ag then aa (2,0)else if jW l.1 x.1\/jW (l.2.1.take k) x.1 then aa (7,0)else if(p8 x l.1).2=0 then ae else aa ((p8 x l.1).2,if 0<=(p8 x l.1).1 then 100+(p8 x l.1).1 else 0)
noncomputable def Mw(l:Lw)(x:iT)(i:Nat):Option (Int×Int):=match x.2.2.1[i]? with
 |none=>ae
 |some f=>if pc f.1=ag then aa (2,100+(i:Int))else if jW (x.2.2.1.take i) f.1 then aa (7,100+(i:Int))else if¬oO f.2 l.1.length then aa (8,100+(i:Int))else ae
noncomputable def Mx(l:Lw)(x:iT)(i:Nat):Option (Int×Int):=match x.2.2.2.1[i]? with
 |none=>ae
 |some f=>if pc f.1=ag then aa (2,200+(i:Int))else if jW x.2.2.1 f.1\/jW (x.2.2.2.1.take i) f.1 then aa (7,200+(i:Int))else if¬oO f.2 l.1.length then aa (8,200+(i:Int))else ae
noncomputable def JC(l:Lw)(x:iT):Option (Int×Int):=(cX (Mw l x) x.2.2.1.length).or (cX (Mx l x) x.2.2.2.1.length)
def plain(s:ByteArray):Prop:=(∀i,∀h:i<s.size,32<=(s[i].toNat:Int)/\(s[i].toNat:Int)<=126/\(s[i].toNat:Int)≠34)/\s.size<=64
noncomputable instance(s:ByteArray):Decidable (plain s):=aju _
def xn(f:List Fd)(hf:f.length<=100000):M.gW aU f=aa (f.map (·.2)):=by
 apply Wp.eq;unfold M.gW
 refine Wp.fold (λs=>s.1) (λs=>s.2) f (λ(o:List Ty)x=>o++[x.2]) [] (λk c=>c.length<=k) (by omega) rfl rfl (ajh _) (λk s aG hs hI=>?_) λs hs hc hI=>?_
 .obtain⟨i,o⟩:=s;dsimp only at hs hI;subst hs;simp only[FP aG,aF aG,cR (m:=f.length) (by omega) aG,W_,av,ax,reduceCtorEq,zO]
  grind [nS]
 .obtain⟨i,o⟩:=s;dsimp only at hs hc;subst hs;simp only[tv,W_,av,ax,reduceCtorEq,zP];rw[hc]
  have:∀(f:List Fd)(o:List Ty),f.foldl (λ(o:List Ty)x=>o++[x.2]) o=o++f.map (·.2):=by
   intro f
   induction f with
   |nil=>intro o;simp
   |cons x f ih=>grind
  rw[this];rfl
def gC(l:Lw)(x:iT):rM:=(l.1,(l.2.1,(x.2.2.1.map (·.2),(x.2.2.2.1.map (·.2),(match l.2.2[(x.2.1:Int).toNat]? with
 |some y=>if 0<=(x.2.1:Int)then y.2.2.2.1.map (·.2)else[]
 |none=>[],decide (0<=(x.2.1:Int)/\(x.2.1:Int)<(l.2.2.length:Int)))))))
def O7(l:Lw)(k:Nat)(hk:k<l.2.2.length)(hs:∀s∈l.2.2,s.2.2.1.length<=100000/\s.2.2.2.1.length<=100000):M.nc aU l (k:Int)=aa ((gC l l.2.2[k]).1,(gC l l.2.2[k]).2.1,(gC l l.2.2[k]).2.2.2.2.2,(gC l l.2.2[k]).2.2.1,(gC l l.2.2[k]).2.2.2.1,(gC l l.2.2[k]).2.2.2.2.1):=by
 apply Wp.eq;unfold M.nc;have h1:=hs _ (aje hk);simp only[show¬(k:Int)<0 by omega,show¬(l.2.2.length:Int)<=(k:Int) by omega,aF hk,xn _ h1.1,xn _ h1.2,W_,av,ax,reduceCtorEq];unfold gC;generalize l.2.2[k]=x at*;obtain⟨x1,(x2:Int),x3,x4,x5⟩:=x;dsimp only[aB,Row.den]at*;refine⟨λh=>⟨λh'=>?_,λh'=>?_⟩,λh=>?_⟩
 .refine eW.2 ⟨by omega,?_⟩
  have hi:x2.toNat<l.2.2.length:=by omega
  simp only[xn _ (hs _ (aje hi)).2,W_,av,ax,reduceCtorEq,ajb hi,h,h',if_true]
 .rw[List.getElem?_eq_none (by omega)];simp only[h',W_,av,ax,reduceCtorEq]
 .simp only[h,W_,av,ax,reduceCtorEq]
  split<;>rfl
end L
namespace L
noncomputable def xo(e:List Ty)(s:rM)(want:Ty):Int:=if(KB e s).2.2≠0 then(KB e s).2.2 else if(KB e s).1≠want then 8 else 0
def O8(x:iT)(k:Nat)(d:Int):Nat:=(x.2.2.2.2.take k).countP λr=>decide ((r.2.1:Int)=d)
def xp(x:iT)(k:Nat)(r:uz):Prop:=(r.2.2.1:Int)≠-1/\((r.2.2.1:Int)<0\/(k:Int)<=r.2.2.1\/∃y,x.2.2.2.2[(r.2.2.1:Int).toNat]? =aa y/\(y.2.1:Int)≠r.2.1)
noncomputable instance(x:iT)(k:Nat)(r:uz):Decidable (xp x k r):=aju _
noncomputable def xq(l:Lw)(x:iT)(k:Nat)(r:uz):Int:=
 if pc r.1=ag then 2 else if jW (x.2.2.2.2.take k) r.1 then 7 else if¬(0<=(r.2.1:Int)/\(r.2.1:Int)<(x.2.2.2.1.length:Int))then 6 else if xp x k r then 9 else
 if(r.2.2.2.1:Int)<0\/9<(r.2.2.2.1:Int)\/¬VR r.2.2.2.2.1\/(r.2.2.2.2.1.1:Int)=r.2.2.2.2.1.2 then 3 else if 8<=O8 x k r.2.1 then 4 else if¬plain r.2.2.2.2.2.2.2 then 2 else
 if 0<r.2.2.2.2.2.1.length/\xo r.2.2.2.2.2.1 (gC l x) ((1:Int),(0:Int))≠0 then xo r.2.2.2.2.2.1 (gC l x) ((1:Int),(0:Int))else
 match x.2.2.2.1[(r.2.1:Int).toNat]? with
 |some d=>xo r.2.2.2.2.2.2.1 (gC l x) d.2
 |none=>0
noncomputable def FX(l:Lw)(x:iT)(k:Nat):Option (Int×Int):=match x.2.2.2.2[k]? with
 |none=>ae
 |some r=>if xq l x k r≠0 then aa (xq l x k r,300+(k:Int))else ae
noncomputable def JD(x:iT)(d:Nat):Option (Int×Int):=if(d:Int)∈KC x d then aa (9,200+(d:Int))else ae
def qy(l:Lw)(k:Nat)(x:iT):Prop:=(x.2.1:Int)≠-1/\((x.2.1:Int)<0\/(k:Int)<=x.2.1\/∃y,l.2.2[(x.2.1:Int).toNat]? =aa y/\(y.2.1:Int)≠-1)
noncomputable instance(l:Lw)(k:Nat)(x:iT):Decidable (qy l k x):=aju _
noncomputable def vH(l:Lw)(k:Nat):Option (Int×Int):=match l.2.2[k]? with
 |none=>ae
 |some x=>
  if pc x.1=ag then aa (2,0)else if jW l.1 x.1\/jW l.2.1 x.1\/jW (l.2.2.take k) x.1 then aa (7,0)else if qy l k x then aa (6,0)else
  if 12<x.2.2.1.length then aa (4,112)else if 12<x.2.2.2.1.length then aa (4,212)else((JC l x).or (cX (FX l x) x.2.2.2.2.length)).or (cX (JD x) x.2.2.2.1.length)
theorem My{l:Lw}{x:iT}{e:Int×Int}(h:JC l x=aa e):e.1≠0:=by
 grind [fq,JC,Mw,Mx,Option.or_eq_some_iff]
def Pa(x:iT)(d:Int):uB x.2.2.2.1.length (KC x d):=by
 have:∀m,uB x.2.2.2.1.length (mf x m (oL x d)):=λm=>by
  induction m with
  |zero=>exact nU x d
  |succ m ih=>exact rq x ih
 exact this _
noncomputable def Bo(l:Lw):LE:=
 if 8<l.1.length then((4:Int),((1:Int),((8:Int),(0:Int))))else match cX (λk=>(qx l k).map λe=>(k,e)) l.1.length with
 |some (k,e)=>tx 1 (k:Int) (aa e)
 |none=>if 8<l.2.1.length then((4:Int),((2:Int),((8:Int),(0:Int))))else match cX (λk=>(tB l k).map λe=>(k,e)) l.2.1.length with
  |some (k,e)=>tx 2 (k:Int) (aa e)
  |none=>if 4<l.2.2.length then((4:Int),((3:Int),((4:Int),(0:Int))))else match cX (λk=>(vH l k).map λe=>(k,e)) l.2.2.length with
   |some (k,e)=>tx 3 (k:Int) (aa e)
   |none=>Mu
theorem su{f:Nat->Option (Int×Int)}(hf:∀i e,f i=aa e->e.1≠0){m:Nat}{e:Int×Int}(h:cX f m=aa e):e.1≠0:=by
 grind [fq]
theorem uC{l:Lw}{k:Nat}{e:Int×Int}(h:qx l k=aa e):e.1≠0:=by
 grind [qx,su,Mv]
def Dy{l:Lw}{k:Nat}{e:Int×Int}(h:tB l k=aa e):e.1≠0:=by
 grind [tB]
theorem Dz{l:Lw}{k:Nat}{e:Int×Int}(h:vH l k=aa e):e.1≠0:=by
 unfold vH at h
 repeat' split at h
 all_goals first|cases h|skip
 all_goals first|simp;done|skip
 rcases Option.or_eq_some_iff.1 h with h|⟨_,h⟩
 .rcases Option.or_eq_some_iff.1 h with h|⟨_,h⟩
  all_goals grind [My,su,FX]
 grind [su,JD]
def S4{f:Nat->Option (Int×Int)}{k:Nat}{e:Int×Int}(h:f k=aa e):(λk=>(f k).map λe=>(k,e)) k=aa (k,e):=by simp[h]
def Valid(l:Lw):Prop:=(Bo l).1=0
def Valid.scopes{l:Lw}(h:Valid l):l.1.length<=8/\l.2.1.length<=8/\l.2.2.length<=4/\(∀k,k<l.1.length->qx l k=ae)/\(∀k,k<l.2.1.length->tB l k=ae)/\∀k,k<l.2.2.length->vH l k=ae:=by
 unfold Valid Bo at h;split at h
 .cases h
 split at h
 .rename_i k e hf;obtain⟨j,_,hj,_⟩:=fq hf;obtain⟨e',he',h2⟩:=Option.map_eq_some_iff.1 hj;cases h2;exact absurd h (uC he')
 rename_i hA;split at h
 .cases h
 split at h
 .rename_i k e hf;obtain⟨j,_,hj,_⟩:=fq hf;obtain⟨e',he',h2⟩:=Option.map_eq_some_iff.1 hj;cases h2;exact absurd h (Dy he')
 rename_i hB;split at h
 .cases h
 split at h
 .rename_i k e hf;obtain⟨j,_,hj,_⟩:=fq hf;obtain⟨e',he',h2⟩:=Option.map_eq_some_iff.1 hj;cases h2;exact absurd h (Dz he')
 rename_i hC;exact⟨by omega,by omega,by omega,λk hk=>by simpa using cq.1 hA k hk,λk hk=>by simpa using cq.1 hB k hk,λk hk=>by simpa using cq.1 hC k hk⟩
def Valid.scope{l:Lw}(h:Valid l)(k:Nat)(hk:k<l.2.2.length):pc l.2.2[k].1=af/\¬jW (l.2.2.take k) l.2.2[k].1/\¬qy l k l.2.2[k]/\l.2.2[k].2.2.1.length<=12/\l.2.2[k].2.2.2.1.length<=12/\JC l l.2.2[k]=ae/\
 (∀i,∀hi:i<l.2.2[k].2.2.2.2.length,xq l l.2.2[k] i l.2.2[k].2.2.2.2[i]=0)/\∀d:Nat,d<l.2.2[k].2.2.2.1.length->¬(d:Int)∈KC l.2.2[k] d:=by
 have h:=h.scopes.2.2.2.2.2 k hk;unfold vH at h;rw[ajb hk]at h
 grind [cq,FX,JD]
end L
namespace L
def fM{α:Type}(p:α->Bool)(l:List α):Int:=if l.findIdx p<l.length then((l.findIdx p:Nat):Int)else-1
def Bp{α:Type}{p:α->Bool}{l:List α}{k:Nat}(hk:k<l.length)(hp:p l[k]=af)(hn:∀j,j<k->∀h:j<l.length,p l[j]=ag):fM p l=(k:Int):=by
 grind [fM]
def zR{α:Type}{p:α->Bool}{l:List α}(hn:∀j,∀h:j<l.length,p l[j]=ag):fM p l= -1:=by
 grind [fM]
theorem oy{α:Type}{p:α->Bool}{l:List α}:0<=fM p l↔∃x∈l,p x=af:=by
 grind [fM]
def xr{α Y:Type}{l:List α}{y:Y}{p:α->Bool}{body:Int×Y->Option ((Int×Y)⊕(Int×Y))}(hl:l.length<=maxLen)
 (hb:∀k,∀h:k<l.length,body ((k:Int),y)=if p l[k]=af then aa (.inr ((k:Int),y))else aa (.inl (ai9.wrap ((k:Int)+1),y)))
 (he:body ((l.length:Int),y)=aa (.inr ((-1:Int),y))):Loop body aU ((0:Int),y)=aa (fM p l,y):=by
 apply Wp.eq
 refine Wp.count (λs=>s.1) l.length (λk s=>s.2=y/\∀j,j<k->∀h:j<l.length,p l[j]=ag) hl rfl ⟨rfl,λj hj=>by omega⟩ λk c hk hs hJ=>?_
 obtain⟨c1,c2⟩:=c;obtain⟨h1,hJ⟩:=hJ;obtain rfl:c2=y:=h1;obtain rfl:c1=_:=hs
 rcases Nat.lt_or_ge k l.length with aG|hge
 .rw[hb k aG];simp only[W_,av,ax,reduceCtorEq,bf,aX,cR hl aG];exact⟨λh=>by rw[Bp aG h hJ],(by grind)⟩
 .obtain rfl:k=l.length:=by omega
  rw[he];simp only[W_,av,ax,reduceCtorEq,aX];rw[zR λj h=>hJ j h h]
def Hu{α:Type}{l:List α}{p:α->Bool}{body:Int->Option (Int⊕Int)}(hl:l.length<=maxLen)
 (hb:∀k,∀h:k<l.length,body (k:Int)=if p l[k]=af then aa (.inr (k:Int))else aa (.inl (ai9.wrap ((k:Int)+1))))
 (he:body (l.length:Int)=aa (.inr (-1:Int))):Loop body aU (0:Int)=aa (fM p l):=by
 apply Wp.eq
 refine Wp.count (λs=>s) l.length (λk _=>∀j,j<k->∀h:j<l.length,p l[j]=ag) hl rfl (λj hj=>by omega) λk c hk hs hJ=>?_
 obtain rfl:c=_:=hs
 rcases Nat.lt_or_ge k l.length with aG|hge
 .rw[hb k aG];simp only[W_,av,ax,reduceCtorEq,bf,aX,cR hl aG];exact⟨λh=>by rw[Bp aG h hJ],(by grind)⟩
 .obtain rfl:k=l.length:=by omega
  rw[he];simp only[W_,av,ax,reduceCtorEq,aX];rw[zR λj h=>hJ j h h]
end L
end Go.Proofs.YtleifhfeahnocaaGreatDoor
