/- Joined texts: Model. -/
import Derived.Test.YtlfjlhcigpejdaaGreatDoorU6
import Derived.Test.YtlfjlhcigpejdaaGreatDoorProg
section
open _root_.Int renaming tdiv->Yn,tmod->Yl
open _root_.Go.IntKind renaming i64->X6,u64->Ya
open _root_.Nat renaming beq->Yb
namespace Go.Proofs.YtlfjlhcigpejdaaGreatDoor
open Go Go.RowKit
noncomputable section
set_option maxRecDepth 100000
set_option linter.unusedVariables false
@[reducible] def aa:Row:= .pair ae ae
@[reducible] def af:Row:= .pair ae aa
@[reducible] def mw:Row:= .pair aa af
@[reducible] def cG:Row:= .pair .str (.pair aa (.pair aa (.slice mw)))
@[reducible] def aP:Row:= .pair ae (.pair (.slice af) (.pair (.slice af) (.pair (.slice (.slice af)) (.pair (.slice aa) (.slice cG)))))
theorem Le:TI Tryz.prog 3 ae:=TI.mk (k:=1) (by kernel_rfl) rfl
theorem Tt:TI Tryz.prog 4 .bool:=TI.mk (k:=1) (by kernel_rfl) rfl
theorem Oe:TI Tryz.prog 28 aa:=TI.mk (k:=2) (by kernel_rfl) rfl
theorem Of:TI Tryz.prog 41 (.slice ae):=TI.mk (k:=1) (by kernel_rfl) rfl
theorem Og:TI Tryz.prog 43 (.slice af):=TI.mk (k:=1) (by kernel_rfl) rfl
theorem Oh:TI Tryz.prog 45 af:=TI.mk (k:=3) (by kernel_rfl) rfl
theorem Oi:TI Tryz.prog 50 (.slice (.slice af)):=TI.mk (k:=1) (by kernel_rfl) rfl
theorem Oj:TI Tryz.prog 51 (.slice aa):=TI.mk (k:=1) (by kernel_rfl) rfl
theorem Ok:TI Tryz.prog 52 (.slice cG):=TI.mk (k:=1) (by kernel_rfl) rfl
theorem Ol:TI Tryz.prog 54 aP:=TI.mk (k:=6) (by kernel_rfl) rfl
theorem Om:TI Tryz.prog 60 (.slice ae):=TI.mk (k:=1) (by kernel_rfl) rfl
theorem On:TI Tryz.prog 69 aa:=TI.mk (k:=2) (by kernel_rfl) rfl
theorem Oo:TI Tryz.prog 70 (.slice mw):=TI.mk (k:=1) (by kernel_rfl) rfl
theorem Oq:TI Tryz.prog 72 cG:=TI.mk (k:=6) (by kernel_rfl) rfl
theorem Ot:TI Tryz.prog 82 aa:=TI.mk (k:=2) (by kernel_rfl) rfl
theorem Ou:TI Tryz.prog 84 mw:=TI.mk (k:=5) (by kernel_rfl) rfl
theorem MN:p9 Tryz.prog 3 ae 1:=F5 Tryz.underlying3
theorem Ov:p9 Tryz.prog 69 aa 2:=qa Tryz.underlying69 (by kernel_rfl) (u7 rfl rfl Tryz.underlying3 (by simp[iY]) Le MN (u5 rfl rfl Tryz.underlying3 (by simp[iY]) Le MN))
theorem Ow:p9 Tryz.prog 28 aa 2:=qa Tryz.underlying28 (by kernel_rfl) (u7 rfl rfl Tryz.underlying3 (by simp[iY]) Le MN (u5 rfl rfl Tryz.underlying3 (by simp[iY]) Le MN))
theorem tu:∀p∈([(3, .int .i64),(4, .bool),(5, .int .u8),(9, .str),(22, .slice 28),(28, .struct [(3,0),(3,1)]),(29, .slice 4),(37, .int .i64),(41, .slice 3),(43, .slice 45),(45, .struct [(3,0),(3,1),(3,2)]),(50, .slice 43),(51, .slice 69),(52, .slice 72),(54, .struct [(3,0),(43,1),(43,2),(50,3),(51,4),(52,5)]),(58, .ptr 60),(60, .struct [(41,0)]),(69, .struct [(3,0),(3,1)]),(70, .slice 84),(72, .struct [(9,0),(69,1),(69,3),(70,5)]),(82, .struct [(3,0),(3,1)]),(84, .struct [(82,0),(3,2),(3,3),(3,4)]),(92, .other),(104, .int .u64),(115, .int .u64),(122, .array 12 3)]:List (Nat×CM)),sr Tryz.prog p.1 p.2:=by
 simp only[List.forall_mem_cons];exact⟨Tryz.underlying3,Tryz.underlying4,Tryz.underlying5,Tryz.underlying9,Tryz.underlying22,⟨_,Tryz.underlying28,rfl⟩,Tryz.underlying29,Tryz.underlying37,Tryz.underlying41,Tryz.underlying43,⟨_,Tryz.underlying45,rfl⟩,Tryz.underlying50,Tryz.underlying51,Tryz.underlying52,⟨_,Tryz.underlying54,rfl⟩,Tryz.underlying58,⟨_,Tryz.underlying60,rfl⟩,⟨_,Tryz.underlying69,rfl⟩,Tryz.underlying70,⟨_,Tryz.underlying72,rfl⟩,⟨_,Tryz.underlying82,rfl⟩,⟨_,Tryz.underlying84,rfl⟩,⟨_,Tryz.underlying92,rfl⟩,Tryz.underlying104,Tryz.underlying115,Tryz.underlying122,fun _ h=>absurd h (by simp)⟩
theorem tr:∀p∈([(3,ae),(4, .bool),(28,aa),(41,(.slice ae)),(43,(.slice af)),(45,af),(50,(.slice (.slice af))),(51,(.slice aa)),(52,(.slice cG)),(54,aP),(60,(.slice ae)),(69,aa),(70,(.slice mw)),(72,cG),(82,aa),(84,mw)]:List (Nat×Row)),TI Tryz.prog p.1 p.2:=by
 simp only[List.forall_mem_cons];exact⟨Le,Tt,Oe,Of,Og,Oh,Oi,Oj,Ok,Ol,Om,On,Oo,Oq,Ot,Ou,fun _ h=>absurd h (by simp)⟩
theorem te:∀p∈([(28,aa),(69,aa)]:List (Nat×Row)),∃K d,p9 Tryz.prog p.1 p.2 K/\d+K=10000/\Tryz.prog.eqGuardType Tryz.prog.depth p.1=false/\(Tryz.prog.underlying p.1).any iY=true:=by
 simp only[List.forall_mem_cons];exact⟨⟨2,9998,Ow,rfl,by kernel_rfl,by kernel_rfl⟩,⟨2,9998,Ov,rfl,by kernel_rfl,by kernel_rfl⟩,fun _ h=>absurd h (by simp)⟩
def Ox:aG Tryz.prog:=⟨_,_,_,[],lg tu,lg tr,lg te,fun _ _ _ h=>(by cases h),[],fun _ h=>absurd h (by simp)⟩
theorem mixed:Tryz.prog.follows .mixedOrders=true:=by kernel_rfl
def en(l:List (CT Tryz.prog))(d p:Bool):Env Tryz.prog:=⟨Ox,CT.tab l,CT.uB,mixed,d,p⟩
def M.aE(N:Nat)(a0:List aa.den):Option (List aa.den):=
(if Yb (a0).length 0 then
yr (some ([]:List aa.den))
((eW ([]:List aa.den) a0).bind fun l1=>
some l1)
else
(eW ([]:List aa.den) a0).bind fun l2=>
some l2)
def Tu(N:Nat):bf:=⟨⟨[(0, .l (.slice aa))],[],[],0⟩,⟨[(0, .val false (.own 0))],[(0, .own 28 aa)],[],1⟩,fun(x:List aa.den)=>M.aE N x⟩
theorem Oy(N:Nat):aC Tryz.prog 11 (Tu N):=fw (en [] false false) (N:=N) .nil Tryz.func11 (by kernel_rfl) fun x=>by kernel_rfl
def M.eA(N:Nat)(a0:Int):Option Int:=
((if(decide (a0=1))then
some (decide (a0=1))
else
(if(decide (a0=2))then
some (decide (a0=2))
else
(if(decide (a0=3))then
some (decide (a0=3))
else
(if(decide (a0=4))then
some (decide (a0=4))
else
(if(decide (a0=5))then
some (decide (a0=5))
else
(if(decide (a0=6))then
some (decide (a0=6))
else
(if(decide (a0=7))then
some (decide (a0=7))
else
(if(decide (a0=8))then
some (decide (a0=8))
else
(if(decide (a0=9))then
some (decide (a0=9))
else
(if(decide (a0=35))then
some (decide (a0=35))
else
(if(decide (a0=36))then
some (decide (a0=36))
else
(if(decide (a0=37))then
some (decide (a0=37))
else
(if(decide (a0=38))then
some (decide (a0=38))
else
some (decide (a0=39))))))))))))))):Option Bool).bind fun j1=>
(if j1 then
some 0
else
((if(decide (a0=10))then
some (decide (a0=10))
else
(if(decide (a0=25))then
some (decide (a0=25))
else
(if(decide (a0=31))then
some (decide (a0=31))
else
(if(decide (a0=32))then
some (decide (a0=32))
else
(if(decide (a0=33))then
some (decide (a0=33))
else
some (decide (a0=34))))))):Option Bool).bind fun j2=>
(if j2 then
some 1
else
((if(decide (a0=11))then
some (decide (a0=11))
else
(if(decide (a0=12))then
some (decide (a0=12))
else
(if(decide (a0=13))then
some (decide (a0=13))
else
(if(decide (a0=14))then
some (decide (a0=14))
else
(if(decide (a0=15))then
some (decide (a0=15))
else
(if(decide (a0=16))then
some (decide (a0=16))
else
(if(decide (a0=17))then
some (decide (a0=17))
else
(if(decide (a0=18))then
some (decide (a0=18))
else
(if(decide (a0=19))then
some (decide (a0=19))
else
(if(decide (a0=20))then
some (decide (a0=20))
else
(if(decide (a0=21))then
some (decide (a0=21))
else
(if(decide (a0=22))then
some (decide (a0=22))
else
(if(decide (a0=23))then
some (decide (a0=23))
else
(if(decide (a0=24))then
some (decide (a0=24))
else
(if(decide (a0=27))then
some (decide (a0=27))
else
(if(decide (a0=28))then
some (decide (a0=28))
else
(if(decide (a0=29))then
some (decide (a0=29))
else
some (decide (a0=30))))))))))))))))))):Option Bool).bind fun j3=>
(if j3 then
some 2
else
(if(decide (a0=26))then
some 3
else
some (-1)))))
def Tv(N:Nat):bf:=⟨⟨[(0, .l ae)],[],[],0⟩,⟨[(0, .l ae)],[],[],0⟩,fun(x:Int)=>M.eA N x⟩
theorem Lf(N:Nat):aC Tryz.prog 24 (Tv N):=fw (en [] false false) (N:=N) (.o (.two (.o (.two (.meet ⟨[(4, .l .bool)],[],[],32⟩ .nil (.o (.meet ⟨[(19, .l .bool)],[],[],32⟩ .nil (.o (.meet ⟨[(26, .l .bool)],[],[],32⟩ .nil .nil))))) .nil)) .nil)) Tryz.func24 (by kernel_rfl) fun x=>by kernel_rfl
def M.eH(N:Nat)(a0:Int):Option Bool:=
((if(decide (50<=a0))then
some (decide (a0<=53))
else
some false):Option Bool).bind fun j1=>
some j1
def Tw(N:Nat):bf:=⟨⟨[(0, .l ae)],[],[],0⟩,⟨[(0, .l .bool)],[],[],0⟩,fun(x:Int)=>M.eH N x⟩
theorem Rn(N:Nat):aC Tryz.prog 43 (Tw N):=fw (en [] false false) (N:=N) (.o (.meet ⟨[(2, .l .bool)],[],[],16⟩ .nil .nil)) Tryz.func43 (by kernel_rfl) fun x=>by kernel_rfl
def M.db(N:Nat)(a0:Int):Option Bool:=
((if(decide (a0=23))then
some (decide (a0=23))
else
(if(decide (a0=24))then
some (decide (a0=24))
else
some (decide (a0=26)))):Option Bool).bind fun j1=>
(if j1 then
some false
else
((M.eH N a0).bind fun y3=>
(if y3 then
some true
else
(M.eA N a0).bind fun y4=>
some (decide (0<=y4))):Option Bool).bind fun j2=>
some j2)
def Tx(N:Nat):bf:=⟨⟨[(0, .l ae)],[],[],0⟩,⟨[(0, .l .bool)],[],[],0⟩,fun(x:Int)=>M.db N x⟩
theorem Tz(N:Nat):aC Tryz.prog 42 (Tx N):=fw (en [ck (Lf N),ck (Rn N)] false false) (N:=N) (.o (.two (.o (.two (.meet ⟨[(4, .l .bool)],[],[],32⟩ .nil .nil) .nil)) (.meet ⟨[(2, .l .bool)],[],[],32⟩ .nil .nil))) Tryz.func42 (by kernel_rfl) fun x=>by kernel_rfl
def M.aH(N:Nat)(a0:Int)(a1:Int)(a2:List Int):Option (Int×List Int):=
((idx a2 a0).bind fun x2=>
(if(decide (0<=x2))then
(idx a2 a0).bind fun x3=>
some (!decide (x3=a1))
else
some false):Option Bool).bind fun j1=>
(if j1 then
some (9,a2)
else
(idx a2 a0).bind fun x4=>
some (0,aQ a2 a0 a1))
def TA(N:Nat):bf:=⟨⟨[(0, .ptr 0 [] 0),(1, .l ae),(2, .l ae)],[(0, .box 60 (.own 1)),(1, .own 3 ae)],[],2⟩,⟨[(0, .l ae)],[(0, .box 60 (.own 1)),(1, .own 3 ae)],[],4⟩,fun(x:Int×Int×List Int)=>M.aH N x.1 x.2.1 x.2.2⟩
theorem TB(N:Nat):aC Tryz.prog 44 (TA N):=fw (en [] false false) (N:=N) (.o (.two (.meet ⟨[(25, .l .bool)],[],[],18⟩ .nil .nil) .nil)) Tryz.func44 (by kernel_rfl) fun x=>by kernel_rfl
def M.aX(N:Nat)(a0:List aa.den)(a1:Int)(a2:aa.den)(a3:List Int):Option (Int×List Int):=
((M.db N a2.1).bind fun y2=>
(if(!y2)then
some true
else
(M.eH N a2.1).bind fun y3=>
(if y3 then
(if(decide (a2.2<=a1))then
some true
else
some (decide ((a0.length:Int)<a2.2)))
else
some false)):Option Bool).bind fun j1=>
(if j1 then
some (2,a3)
else
(idx a3 a1).bind fun x4=>
(if(decide (a2.1=51))then
(M.aH N a2.2 x4 a3).bind fun y5=>
some (y5.1,y5.2)
else
((if(decide (a2.1=50))then
some (decide (a2.1=50))
else
(if(decide (a2.1=52))then
some (decide (a2.1=52))
else
some (decide (a2.1=53)))):Option Bool).bind fun j6=>
(if j6 then
(if(decide (x4<1))then
some (5,a3)
else
(M.aH N (X6.wrap (a1+1)) (X6.wrap (x4-1)) a3).bind fun y7=>
(if(!decide (y7.1=0))then
some (y7.1,y7.2)
else
((if(decide (a2.1=50))then
some (X6.wrap (x4-1))
else
some x4):Option Int).bind fun j8=>
(M.aH N a2.2 j8 y7.2).bind fun y9=>
some (y9.1,y9.2)))
else
(M.eA N a2.1).bind fun kF=>
(if(decide (x4<kF))then
some (5,a3)
else
(if(decide (12<(X6.wrap ((X6.wrap (x4-kF))+1))))then
some (16,a3)
else
(M.aH N (X6.wrap (a1+1)) (X6.wrap ((X6.wrap (x4-kF))+1)) a3).bind fun ph=>
some (ph.1,ph.2))))))
def TC(N:Nat):bf:=⟨⟨[(0, .ptr 0 [] 0),(1, .l (.slice aa)),(2, .l ae),(3, .g aa)],[(0, .box 60 (.own 1)),(1, .own 3 ae)],[],2⟩,⟨[(0, .l ae)],[(0, .box 60 (.own 1)),(1, .own 3 ae)],[],4⟩,fun(x:(List aa.den)×Int×aa.den×List Int)=>M.aX N x.1 x.2.1 x.2.2.1 x.2.2.2⟩
theorem TD(N:Nat):aC Tryz.prog 32 (TC N):=fw (en [ck (Lf N),ck (Tz N),ck (Rn N),ck (TB N)] false false) (N:=N) (.o (.two (.meet ⟨[(33, .l .bool)],[],[],34⟩ .nil .nil) (.o (.two (.o (.two (.o (.o (.meet ⟨[(50, .l .bool)],[],[],226⟩ .nil (.two (.o (.o (.meet ⟨[(9, .l ae)],[],[],402⟩ .nil .nil))) .nil)))) .nil)) .nil)))) Tryz.func32 (by kernel_rfl) fun x=>by kernel_rfl
def M.cX(N:Nat)(a0:List aa.den):Option (Int×Int):=
(if(decide (128<(a0.length:Int)))then
some (0,4)
else
(if(decide ((a0.length:Int)=0))then
some (0,5)
else
(rK (X6.wrap ((a0.length:Int)+1)) 0).bind fun l1=>
(Loop (S:=Int×List Int) (X:=List Int) (fun s3=>
(if(decide (s3.1<(l1.length:Int)))then
(idx s3.2 s3.1).bind fun x4=>
some (.inl (X6.wrap (s3.1+1),aQ s3.2 s3.1 (-1)))
else
some (.inr s3.2))) N (0,l1):Option (List Int)).bind fun j2=>
(idx j2 0).bind fun x5=>
da (J:=Int×List Int) (R:=Int×Int) (Loop (S:=Int×Int×List Int) (X:=(Int×List Int)⊕(Int×Int)) (fun s7=>
(if(decide (s7.2.1<(a0.length:Int)))then
da (J:=Int×List Int) (R:=(Int×Int×List Int)⊕((Int×List Int)⊕(Int×Int))) ((idx a0 s7.2.1).bind fun x9=>
(idx s7.2.2 s7.2.1).bind fun rI=>
(if(decide (rI<0))then
some (.inl (s7.1,s7.2.2))
else
(idx s7.2.2 s7.2.1).bind fun pi=>
(M.aX N a0 s7.2.1 x9 s7.2.2).bind fun mL=>
(if(!decide (mL.1=0))then
some (.inr (.inr (.inr (0,mL.1))))
else
some (.inl (if s7.1<pi then pi else s7.1,mL.2))))) fun j8=>
some (.inl (j8.1,X6.wrap (s7.2.1+1),j8.2))
else
some (.inr (.inl (s7.1,s7.2.2))))) N (0,0,aQ j2 0 0)) fun j6=>
(idx j6.2 (a0.length:Int)).bind fun kY=>
(if(decide (kY<=0))then
some (0,5)
else
(if(decide (1<kY))then
some (0,4)
else
some (if j6.1<kY then kY else j6.1,0)))))
def TE(N:Nat):bf:=⟨⟨[(0, .l (.slice aa))],[],[],0⟩,⟨[(0, .l ae),(1, .l ae)],[],[],0⟩,fun(x:List aa.den)=>M.cX N x⟩
theorem TF(N:Nat):aC Tryz.prog 22 (TE N):=fw (en [ck (TD N)] false false) (N:=N) (.o (.o (.o (.o (.meet ⟨[],[(176, .own 3 ae)],[],241⟩ (.o (.two (.loop ⟨[(28, .l ae)],[(176, .own 3 ae)],[],337⟩ .nil) .nil)) (.o (.o (.join ⟨[(6, .l ae)],[(176, .own 3 ae),(208, .box 60 (.own 176))],[],355⟩ (.o (.two (.loop ⟨[(6, .l ae),(45, .l ae)],[(176, .own 3 ae),(208, .box 60 (.own 176))],[],403⟩ (.o (.o (.two (.join ⟨[(6, .l ae)],[(176, .own 3 ae),(208, .box 60 (.own 176))],[],421⟩ .nil .nil) .nil)))) .nil)) .nil)))))))) Tryz.func22 (by kernel_rfl) fun x=>by kernel_rfl
def M.bE(N:Nat)(a0:List aa.den):Option Bool:=
(M.cX N a0).bind fun y1=>
some (decide (y1.2=0))
def TG(N:Nat):bf:=⟨⟨[(0, .l (.slice aa))],[],[],0⟩,⟨[(0, .l .bool)],[],[],0⟩,fun(x:List aa.den)=>M.bE N x⟩
theorem Oz(N:Nat):aC Tryz.prog 12 (TG N):=fw (en [ck (TF N)] false false) (N:=N) .nil Tryz.func12 (by kernel_rfl) fun x=>by kernel_rfl
def M.bZ(N:Nat)(a0:Int):Option Bool:=
((if(decide (50<=a0))then
some (decide (a0<=53))
else
some false):Option Bool).bind fun j1=>
some j1
def TH(N:Nat):bf:=⟨⟨[(0, .l ae)],[],[],0⟩,⟨[(0, .l .bool)],[],[],0⟩,fun(x:Int)=>M.bZ N x⟩
theorem Lg(N:Nat):aC Tryz.prog 16 (TH N):=fw (en [] false false) (N:=N) (.o (.meet ⟨[(2, .l .bool)],[],[],16⟩ .nil .nil)) Tryz.func16 (by kernel_rfl) fun x=>by kernel_rfl
def M.cc(N:Nat)(a0:List aa.den):Option (List Bool):=
(rK (X6.wrap ((a0.length:Int)+1)) false).bind fun l1=>
(idx l1 0).bind fun x2=>
(Loop (S:=Int×List Bool) (X:=List Bool) (fun s4=>
(if(decide (s4.1<(a0.length:Int)))then
((idx a0 s4.1).bind fun x6=>
(idx s4.2 s4.1).bind fun x7=>
(if(!x7)then
some s4.2
else
((if(!decide (x6.1=51))then
(idx s4.2 (X6.wrap (s4.1+1))).bind fun x9=>
some (aQ s4.2 (X6.wrap (s4.1+1)) true)
else
some s4.2):Option (List Bool)).bind fun j8=>
(M.bZ N x6.1).bind fun kF=>
(if kF then
(idx j8 x6.2).bind fun pi=>
some (aQ j8 x6.2 true)
else
some j8)):Option (List Bool)).bind fun j5=>
some (.inl (X6.wrap (s4.1+1),j5))
else
some (.inr s4.2))) N (0,aQ l1 0 true):Option (List Bool)).bind fun j3=>
(fO j3 0 (a0.length:Int)).bind fun Jh=>
some Jh
def TJ(N:Nat):bf:=⟨⟨[(0, .l (.slice aa))],[],[],0⟩,⟨[(0, .val false (.own 0))],[(0, .own 4 .bool)],[],1⟩,fun(x:List aa.den)=>M.cc N x⟩
theorem TK(N:Nat):aC Tryz.prog 13 (TJ N):=fw (en [ck (Lg N)] false false) (N:=N) (.o (.o (.o (.meet ⟨[],[(64, .own 4 .bool)],[],145⟩ (.o (.two (.loop ⟨[(14, .l ae)],[(64, .own 4 .bool)],[],193⟩ (.o (.o (.two (.meet ⟨[],[(64, .own 4 .bool)],[],210⟩ (.o (.o (.meet ⟨[],[(64, .own 4 .bool)],[],386⟩ .nil .nil))) .nil) .nil)))) .nil)) .nil)))) Tryz.func13 (by kernel_rfl) fun x=>by kernel_rfl
def M.dc(N:Nat)(a0:List Bool)(a1:Bool):Option Int:=
Loop (S:=Int) (X:=Int) (fun s1=>
(if(decide (s1<(a0.length:Int)))then
(idx a0 s1).bind fun x2=>
(if(decide (a1=x2))then
some (.inr s1)
else
some (.inl (X6.wrap (s1+1))))
else
some (.inr (-1)))) N 0
def TL(N:Nat):bf:=⟨⟨[(0, .l (.slice .bool)),(1, .l .bool)],[],[],0⟩,⟨[(0, .l ae)],[],[],0⟩,fun(x:(List Bool)×Bool)=>M.dc N x.1 x.2⟩
theorem TM(N:Nat):aC Tryz.prog 23 (TL N):=fw (en [] false false) (N:=N) (.o (.two (.o (.two (.loop ⟨[(8, .l ae)],[],[],64⟩ .nil) .nil)) .nil)) Tryz.func23 (by kernel_rfl) fun x=>by kernel_rfl
def M.aT(N:Nat)(a0:List Bool)(a1:Bool):Option Bool:=
(M.dc N a0 a1).bind fun y1=>
some (decide (0<=y1))
def TN(N:Nat):bf:=⟨⟨[(0, .l (.slice .bool)),(1, .l .bool)],[],[],0⟩,⟨[(0, .l .bool)],[],[],0⟩,fun(x:(List Bool)×Bool)=>M.aT N x.1 x.2⟩
theorem TO(N:Nat):aC Tryz.prog 14 (TN N):=fw (en [ck (TM N)] false false) (N:=N) .nil Tryz.func14 (by kernel_rfl) fun x=>by kernel_rfl
def M.cE(N:Nat)(a0:List aa.den)(a1:List Bool):Option (List aa.den):=
(rK (X6.wrap ((a0.length:Int)+1)) 0).bind fun l1=>
(Loop (S:=Int×(List Int)×List aa.den) (X:=(List Int)×List aa.den) (fun s3=>
(if(decide (s3.1<(a0.length:Int)))then
((idx a0 s3.1).bind fun x5=>
(idx s3.2.1 s3.1).bind fun x6=>
(idx a1 s3.1).bind fun x7=>
(if x7 then
(eW s3.2.2 ([x5]:List aa.den)).bind fun l8=>
some (aQ s3.2.1 s3.1 (s3.2.2.length:Int),l8)
else
some (aQ s3.2.1 s3.1 (s3.2.2.length:Int),s3.2.2)):Option ((List Int)×List aa.den)).bind fun j4=>
some (.inl (X6.wrap (s3.1+1),j4.1,j4.2))
else
some (.inr (s3.2.1,s3.2.2)))) N (0,l1,([]:List aa.den)):Option ((List Int)×List aa.den)).bind fun j2=>
(idx j2.1 (a0.length:Int)).bind fun x9=>
Loop (S:=Int×List aa.den) (X:=List aa.den) (fun iO=>
(if(decide (iO.1<(j2.2.length:Int)))then
((idx iO.2 iO.1).bind fun uV=>
(M.bZ N uV.1).bind fun pX=>
(if pX then
(idx (aQ j2.1 (a0.length:Int) (j2.2.length:Int)) uV.2).bind fun xB=>
(idx iO.2 iO.1).bind fun uW=>
some (aQ iO.2 iO.1 (uW.1,xB))
else
some iO.2):Option (List aa.den)).bind fun uD=>
some (.inl (X6.wrap (iO.1+1),uD))
else
some (.inr iO.2))) N (0,j2.2)
def TP(N:Nat):bf:=⟨⟨[(0, .l (.slice aa)),(1, .l (.slice .bool))],[],[],0⟩,⟨[(0, .val false (.own 0))],[(0, .own 28 aa)],[],1⟩,fun(x:(List aa.den)×List Bool)=>M.cE N x.1 x.2⟩
theorem TQ(N:Nat):aC Tryz.prog 15 (TP N):=fw (en [ck (Lg N)] false false) (N:=N) (.o (.o (.o (.meet ⟨[(6, .val false (.own 112))],[(64, .own 3 ae),(112, .own 28 aa)],[],114⟩ (.o (.two (.loop ⟨[(6, .val false (.own 160)),(17, .l ae)],[(64, .own 3 ae),(160, .own 28 aa)],[],162⟩ (.o (.o (.two (.meet ⟨[(6, .val false (.own 178))],[(64, .own 3 ae),(178, .own 28 aa)],[160],180⟩ .nil .nil) .nil)))) .nil)) (.o (.two (.o (.two (.loop ⟨[(44, .l ae)],[(112, .own 28 aa)],[],275⟩ (.o (.o (.two (.meet ⟨[],[(112, .own 28 aa)],[],292⟩ .nil .nil) .nil)))) .nil)) .nil)))))) Tryz.func15 (by kernel_rfl) fun x=>by kernel_rfl
def M.aJ(N:Nat)(a0:List aa.den):Option (List aa.den):=
da (J:=List aa.den) (R:=List aa.den) ((M.aE N a0).bind fun y1=>
(M.bE N a0).bind fun y2=>
(if(!y2)then
some (.inr y1)
else
some (.inl y1)):Option ((List aa.den)⊕(List aa.den))) fun s3=>
Loop (S:=List aa.den) (X:=List aa.den) (fun s4=>
(M.cc N s4).bind fun y5=>
(Loop (S:=Int×List Bool) (X:=List Bool) (fun s7=>
(if(decide (s7.1<(s4.length:Int)))then
((idx s4 s7.1).bind fun x9=>
((if(decide (x9.1=51))then
some (decide (x9.2=(X6.wrap (s7.1+1))))
else
some false):Option Bool).bind fun yJ=>
(if yJ then
(idx s7.2 s7.1).bind fun pi=>
some (aQ s7.2 s7.1 false)
else
some s7.2):Option (List Bool)).bind fun j8=>
some (.inl (X6.wrap (s7.1+1),j8))
else
some (.inr s7.2))) N (0,y5):Option (List Bool)).bind fun j6=>
(M.aT N j6 false).bind fun mL=>
(if mL then
(M.cE N s4 j6).bind fun pX=>
some (.inl pX)
else
some (.inr s4))) N s3
def S5(N:Nat):bf:=⟨⟨[(0, .l (.slice aa))],[],[],0⟩,⟨[(0, .val false (.own 0))],[(0, .own 28 aa)],[],1⟩,fun(x:List aa.den)=>M.aJ N x⟩
theorem W5(N:Nat):aC Tryz.prog 5 (S5 N):=EN (E:=(en [ck (Oy N),ck (Oz N),ck (TK N),ck (TO N),ck (TQ N)] false false)) (N:=N) (l:=0) (L:=⟨[(3, .val false (.own 16))],[(16, .own 28 aa)],[],17⟩) (a0:= .nil) (a1:=(.o (.o (.two .nil .nil)))) (a2:=(.o (.meet ⟨[],[(33, .own 4 .bool)],[],66⟩ (.o (.two (.loop ⟨[(17, .l ae)],[(33, .own 4 .bool)],[],114⟩ (.o (.o (.two (.meet ⟨[],[(33, .own 4 .bool)],[],131⟩ (.o (.meet ⟨[(31, .l .bool)],[],[],226⟩ .nil .nil)) .nil) .nil)))) .nil)) .nil))) (sg:=S5 N) (c:=Tryz.f5.body.getD .skip) (rs:=Tryz.f5.results.toList) Tryz.func5 (by kernel_rfl) (by kernel_rfl) rfl rfl rfl rfl (fun x=>by kernel_rfl)
def M.bB(N:Nat)(a0:aa.den):Option (af.den×Bool):=
da (J:=Unit) (R:=af.den×Bool) ((if(decide (a0.1=1))then
some (.inr ((1,(0,a0.2)),true))
else
(if(decide (a0.1=2))then
some (.inr ((2,(0,a0.2)),true))
else
(if(decide (a0.1=3))then
some (.inr ((3,(0,a0.2)),true))
else
(if(decide (a0.1=4))then
some (.inr ((4,(0,a0.2)),true))
else
(if(decide (a0.1=5))then
some (.inr ((5,(0,a0.2)),true))
else
(if(decide (a0.1=6))then
((if(decide (0<=a0.2))then
some (decide (a0.2<128))
else
some false):Option Bool).bind fun j2=>
(if j2 then
some (.inr ((6,(X6.wrap (Yn a0.2 16),Yl a0.2 16)),true))
else
some (.inl ()))
else
some (.inl ())))))))) fun j1=>
some ((0,(0,0)),false)
def TR(N:Nat):bf:=⟨⟨[(0, .g aa)],[],[],0⟩,⟨[(0, .g af),(1, .l .bool)],[],[],0⟩,fun(x:aa.den)=>M.bB N x⟩
theorem TS(N:Nat):aC Tryz.prog 25 (TR N):=fw (en [] false false) (N:=N) (.o (.two (.o (.join ⟨[],[],[],80⟩ (.o (.o (.o (.o (.o (.o (.o (.o (.o (.o (.o (.two (.meet ⟨[(40, .l .bool)],[],[],272⟩ .nil .nil) .nil)))))))))))) .nil)) .nil)) Tryz.func25 (by kernel_rfl) fun x=>by kernel_rfl
def M.fj(N:Nat)(a0:Int):Option Bool:=
((if(decide (a0=1))then
some (decide (a0=1))
else
(if(decide (a0=2))then
some (decide (a0=2))
else
(if(decide (a0=3))then
some (decide (a0=3))
else
(if(decide (a0=4))then
some (decide (a0=4))
else
(if(decide (a0=5))then
some (decide (a0=5))
else
(if(decide (a0=6))then
some (decide (a0=6))
else
(if(decide (a0=7))then
some (decide (a0=7))
else
(if(decide (a0=8))then
some (decide (a0=8))
else
(if(decide (a0=14))then
some (decide (a0=14))
else
(if(decide (a0=15))then
some (decide (a0=15))
else
(if(decide (a0=16))then
some (decide (a0=16))
else
(if(decide (a0=33))then
some (decide (a0=33))
else
(if(decide (a0=34))then
some (decide (a0=34))
else
(if(decide (a0=36))then
some (decide (a0=36))
else
(if(decide (a0=37))then
some (decide (a0=37))
else
(if(decide (a0=38))then
some (decide (a0=38))
else
some (decide (a0=39)))))))))))))))))):Option Bool).bind fun j1=>
(if j1 then
some true
else
some false)
def TT(N:Nat):bf:=⟨⟨[(0, .l ae)],[],[],0⟩,⟨[(0, .l .bool)],[],[],0⟩,fun(x:Int)=>M.fj N x⟩
theorem TU(N:Nat):aC Tryz.prog 45 (TT N):=fw (en [] false false) (N:=N) (.o (.two (.o (.two (.meet ⟨[(4, .l .bool)],[],[],32⟩ .nil .nil) .nil)) .nil)) Tryz.func45 (by kernel_rfl) fun x=>by kernel_rfl
def M.bP(N:Nat)(a0:aa.den):Option Bool:=
((M.eA N a0.1).bind fun y2=>
(if(decide (y2<0))then
some true
else
(if(!decide (a0.2=0))then
(M.fj N a0.1).bind fun y3=>
some (!y3)
else
some false)):Option Bool).bind fun j1=>
(if j1 then
some false
else
((if(decide (a0.1=14))then
some (decide (a0.1=14))
else
(if(decide (a0.1=15))then
some (decide (a0.1=15))
else
some (decide (a0.1=16)))):Option Bool).bind fun j4=>
(if j4 then
((if(decide (0<=a0.2))then
some (decide (a0.2<=5))
else
some false):Option Bool).bind fun j5=>
some j5
else
(if(decide (a0.1=34))then
((if(decide (0<=a0.2))then
some (decide ((Yl a0.2 8)<=5))
else
some false):Option Bool).bind fun j6=>
some j6
else
(if(decide (a0.1=6))then
some (decide (0<=a0.2))
else
some true))))
def TV(N:Nat):bf:=⟨⟨[(0, .g aa)],[],[],0⟩,⟨[(0, .l .bool)],[],[],0⟩,fun(x:aa.den)=>M.bP N x⟩
theorem TW(N:Nat):aC Tryz.prog 33 (TV N):=fw (en [ck (Lf N),ck (TU N)] false false) (N:=N) (.o (.two (.meet ⟨[(17, .l .bool)],[],[],32⟩ .nil .nil) (.two (.o (.two (.meet ⟨[(20, .l .bool)],[],[],64⟩ .nil (.two (.meet ⟨[(2, .l .bool)],[],[],64⟩ .nil .nil) (.o (.two (.meet ⟨[(2, .l .bool)],[],[],96⟩ .nil .nil) .nil)))) .nil)) .nil))) Tryz.func33 (by kernel_rfl) fun x=>by kernel_rfl
def M.cz(N:Nat)(a0:aa.den)(a1:aP.den):Option Bool:=
(if(decide (a0.1=7))then
((if(decide (0<=a0.2))then
some (decide (a0.2<(a1.2.1.length:Int)))
else
some false):Option Bool).bind fun j1=>
some j1
else
(if(decide (a0.1=8))then
((if(decide (0<=a0.2))then
(if(decide (a0.2<(a1.2.2.1.length:Int)))then
(idx a1.2.2.1 a0.2).bind fun x3=>
some (!decide (x3.1=0))
else
some false)
else
some false):Option Bool).bind fun j2=>
some j2
else
(if(decide (a0.1=33))then
((if(decide (0<=a0.2))then
some (decide (a0.2<(a1.2.2.2.2.2.length:Int)))
else
some false):Option Bool).bind fun j4=>
some j4
else
(if(decide (a0.1=34))then
some (decide ((X6.wrap (Yn a0.2 8))<(a1.2.2.2.2.2.length:Int)))
else
((if(decide (a0.1=36))then
some (decide (a0.1=36))
else
(if(decide (a0.1=37))then
some (decide (a0.1=37))
else
(if(decide (a0.1=38))then
some (decide (a0.1=38))
else
some (decide (a0.1=39))))):Option Bool).bind fun j5=>
(if j5 then
((if(decide (0<=a0.2))then
some (decide (a0.2<(a1.2.2.2.2.1.length:Int)))
else
some false):Option Bool).bind fun j6=>
some j6
else
some true)))))
def TX(N:Nat):bf:=⟨⟨[(0, .g aa),(1, .g aP)],[],[],0⟩,⟨[(0, .l .bool)],[],[],0⟩,fun(x:aa.den×aP.den)=>M.cz N x.1 x.2⟩
theorem TY(N:Nat):aC Tryz.prog 34 (TX N):=fw (en [] false false) (N:=N) (.o (.two (.o (.two (.o (.two (.meet ⟨[(4, .l .bool)],[],[],112⟩ .nil .nil) (.o (.two (.meet ⟨[(4, .l .bool)],[],[],144⟩ .nil .nil) (.o (.two (.meet ⟨[(4, .l .bool)],[],[],176⟩ .nil .nil) (.o (.o (.meet ⟨[(65, .l .bool)],[],[],208⟩ .nil (.two (.meet ⟨[(4, .l .bool)],[],[],208⟩ .nil .nil) .nil)))))))))) .nil)) .nil)) Tryz.func34 (by kernel_rfl) fun x=>by kernel_rfl
def M.bY(N:Nat)(a0:af.den):Option Bool:=
((if(!decide (a0.1=6))then
some (!decide (a0.2.1=0))
else
some false):Option Bool).bind fun j1=>
(if j1 then
some false
else
(if(decide (a0.1=1))then
((if(decide (a0.2.2=0))then
some true
else
some (decide (a0.2.2=1))):Option Bool).bind fun j2=>
some j2
else
(if(decide (a0.1=2))then
((if(decide ((-1000000000000)<=a0.2.2))then
some (decide (a0.2.2<=1000000000000))
else
some false):Option Bool).bind fun j3=>
some j3
else
(if(decide (a0.1=3))then
((if(decide ((-1000000000000000)<=a0.2.2))then
some (decide (a0.2.2<=1000000000000000))
else
some false):Option Bool).bind fun j4=>
some j4
else
(if(decide (a0.1=4))then
((if(decide ((-1000000000)<=a0.2.2))then
some (decide (a0.2.2<=1000000000))
else
some false):Option Bool).bind fun j5=>
some j5
else
(if(decide (a0.1=5))then
((if(decide (0<=a0.2.2))then
some (decide (a0.2.2<=109572))
else
some false):Option Bool).bind fun j6=>
some j6
else
(if(decide (a0.1=6))then
((if(decide (0<=a0.2.1))then
(if(decide (a0.2.1<8))then
(if(decide (0<=a0.2.2))then
some (decide (a0.2.2<16))
else
some false)
else
some false)
else
some false):Option Bool).bind fun j7=>
some j7
else
some false)))))))
def TZ(N:Nat):bf:=⟨⟨[(0, .g af)],[],[],0⟩,⟨[(0, .l .bool)],[],[],0⟩,fun(x:af.den)=>M.bY N x⟩
theorem Lh(N:Nat):aC Tryz.prog 38 (TZ N):=fw (en [] false false) (N:=N) (.o (.two (.meet ⟨[(10, .l .bool)],[],[],32⟩ .nil .nil) (.two (.o (.two (.o (.two (.meet ⟨[(2, .l .bool)],[],[],96⟩ .nil .nil) (.o (.two (.meet ⟨[(2, .l .bool)],[],[],128⟩ .nil .nil) (.o (.two (.meet ⟨[(2, .l .bool)],[],[],160⟩ .nil .nil) (.o (.two (.meet ⟨[(2, .l .bool)],[],[],192⟩ .nil .nil) (.o (.two (.meet ⟨[(2, .l .bool)],[],[],224⟩ .nil .nil) (.o (.two (.meet ⟨[(2, .l .bool)],[],[],256⟩ .nil .nil) .nil)))))))))))) .nil)) .nil))) Tryz.func38 (by kernel_rfl) fun x=>by kernel_rfl
def M.bl(N:Nat)(a0:List af.den):Option Bool:=
Loop (S:=Int) (X:=Bool) (fun s1=>
(if(decide (s1<(a0.length:Int)))then
(idx a0 s1).bind fun x2=>
(M.bY N x2).bind fun y3=>
(if(!y3)then
some (.inr false)
else
some (.inl (X6.wrap (s1+1))))
else
some (.inr true))) N 0
def T4(N:Nat):bf:=⟨⟨[(0, .l (.slice af))],[],[],0⟩,⟨[(0, .l .bool)],[],[],0⟩,fun(x:List af.den)=>M.bl N x⟩
theorem T5(N:Nat):aC Tryz.prog 35 (T4 N):=fw (en [ck (Lh N)] false false) (N:=N) (.o (.two (.o (.two (.loop ⟨[(7, .l ae)],[],[],64⟩ .nil) .nil)) .nil)) Tryz.func35 (by kernel_rfl) fun x=>by kernel_rfl
def M.gA(N:Nat)(a0:af.den)(a1:aa.den):Option Bool:=
((M.bY N a0).bind fun y2=>
(if y2 then
(if(decide (a0.1=a1.1))then
some (decide (a0.2.1=a1.2))
else
some false)
else
some false):Option Bool).bind fun j1=>
some j1
def T6(N:Nat):bf:=⟨⟨[(0, .g af),(1, .g aa)],[],[],0⟩,⟨[(0, .l .bool)],[],[],0⟩,fun(x:af.den×aa.den)=>M.gA N x.1 x.2⟩
theorem Ro(N:Nat):aC Tryz.prog 46 (T6 N):=fw (en [ck (Lh N)] false false) (N:=N) (.o (.meet ⟨[(4, .l .bool)],[],[],48⟩ .nil .nil)) Tryz.func46 (by kernel_rfl) fun x=>by kernel_rfl
def M.dP(N:Nat)(a0:Int):Option Bool:=
((if(decide (a0=2))then
some true
else
(if(decide (a0=3))then
some true
else
some (decide (a0=4)))):Option Bool).bind fun j1=>
some j1
def T7(N:Nat):bf:=⟨⟨[(0, .l ae)],[],[],0⟩,⟨[(0, .l .bool)],[],[],0⟩,fun(x:Int)=>M.dP N x⟩
theorem OA(N:Nat):aC Tryz.prog 63 (T7 N):=fw (en [] false false) (N:=N) (.o (.meet ⟨[(2, .l .bool)],[],[],16⟩ .nil .nil)) Tryz.func63 (by kernel_rfl) fun x=>by kernel_rfl
def M.dt(N:Nat)(a0:Int)(a1:aa.den):Option Bool:=
(if(!decide (a1.2=0))then
some false
else
(if(decide (a0=36))then
((if(decide (a1.1=2))then
some true
else
some (decide (a1.1=3))):Option Bool).bind fun j1=>
some j1
else
(if(decide (a0=39))then
((M.dP N a1.1).bind fun y3=>
(if y3 then
some true
else
some (decide (a1.1=5))):Option Bool).bind fun j2=>
some j2
else
some (decide (a1.1=1)))))
def T8(N:Nat):bf:=⟨⟨[(0, .l ae),(1, .g aa)],[],[],0⟩,⟨[(0, .l .bool)],[],[],0⟩,fun(x:Int×aa.den)=>M.dt N x.1 x.2⟩
theorem T9(N:Nat):aC Tryz.prog 47 (T8 N):=fw (en [ck (OA N)] false false) (N:=N) (.o (.o (.two (.o (.two (.o (.two (.meet ⟨[(4, .l .bool)],[],[],128⟩ .nil .nil) (.o (.two (.meet ⟨[(4, .l .bool)],[],[],160⟩ .nil .nil) .nil)))) .nil)) .nil))) Tryz.func47 (by kernel_rfl) fun x=>by kernel_rfl
def M.bF(N:Nat)(a0:Int)(a1:Int):Option Bool:=
(if(decide (a0=10))then
(M.dP N a1).bind fun y1=>
some y1
else
(if(decide (a0=25))then
some (decide (a1=1))
else
some (decide (a1=5))))
def Ua(N:Nat):bf:=⟨⟨[(0, .l ae),(1, .l ae)],[],[],0⟩,⟨[(0, .l .bool)],[],[],0⟩,fun(x:Int×Int)=>M.bF N x.1 x.2⟩
theorem Ub(N:Nat):aC Tryz.prog 48 (Ua N):=fw (en [ck (OA N)] false false) (N:=N) .nil Tryz.func48 (by kernel_rfl) fun x=>by kernel_rfl
def M.cg(N:Nat)(a0:af.den)(a1:af.den):Option Bool:=
((if(decide (a0.1=a1.1))then
some (decide (a0.2.1=a1.2.1))
else
some false):Option Bool).bind fun j1=>
some j1
def Uc(N:Nat):bf:=⟨⟨[(0, .g af),(1, .g af)],[],[],0⟩,⟨[(0, .l .bool)],[],[],0⟩,fun(x:af.den×af.den)=>M.cg N x.1 x.2⟩
theorem Rp(N:Nat):aC Tryz.prog 50 (Uc N):=fw (en [] false false) (N:=N) (.o (.meet ⟨[(4, .l .bool)],[],[],48⟩ .nil .nil)) Tryz.func50 (by kernel_rfl) fun x=>by kernel_rfl
def M.av(N:Nat)(a0:Int)(a1:af.den)(a2:af.den):Option Bool:=
((if(decide (a0=11))then
some (decide (a0=11))
else
some (decide (a0=12))):Option Bool).bind fun j1=>
(if j1 then
((M.cg N a1 a2).bind fun y3=>
(if y3 then
(M.dP N a1.1).bind fun y4=>
some y4
else
some false):Option Bool).bind fun j2=>
some j2
else
(if(decide (a0=13))then
((if(decide (a2.1=2))then
(if(decide (a1.1=2))then
some true
else
some (decide (a1.1=3)))
else
some false):Option Bool).bind fun j5=>
some j5
else
(if(decide (a0=14))then
((if(decide (a2.1=4))then
(if(decide (a1.1=3))then
some true
else
some (decide (a1.1=4)))
else
some false):Option Bool).bind fun j6=>
some j6
else
(if(decide (a0=15))then
(if(decide (a2.1=2))then
((if(decide (a1.1=2))then
some true
else
some (decide (a1.1=3))):Option Bool).bind fun j7=>
some j7
else
((if(decide (a1.1=3))then
some (decide (a2.1=3))
else
some false):Option Bool).bind fun j8=>
some j8)
else
(if(decide (a0=16))then
((if(decide (a1.1=3))then
some (decide (a2.1=3))
else
some false):Option Bool).bind fun j9=>
some j9
else
((if(decide (a0=17))then
some (decide (a0=17))
else
(if(decide (a0=18))then
some (decide (a0=18))
else
(if(decide (a0=21))then
some (decide (a0=21))
else
some (decide (a0=22))))):Option Bool).bind fun yJ=>
(if yJ then
((M.cg N a1 a2).bind fun mL=>
(if mL then
(M.dP N a1.1).bind fun pX=>
(if pX then
some true
else
some (decide (a1.1=5)))
else
some false):Option Bool).bind fun uD=>
some uD
else
((if(decide (a0=19))then
some (decide (a0=19))
else
some (decide (a0=20))):Option Bool).bind fun yK=>
(if yK then
(M.cg N a1 a2).bind fun mM=>
some mM
else
((if(decide (a0=23))then
some (decide (a0=23))
else
some (decide (a0=24))):Option Bool).bind fun B9=>
(if B9 then
((if(decide (a1.1=1))then
some (decide (a2.1=1))
else
some false):Option Bool).bind fun Ji=>
some Ji
else
((if(decide (a0=27))then
some (decide (a0=27))
else
some (decide (a0=28))):Option Bool).bind fun Li=>
(if Li then
((if(decide (a1.1=5))then
some (decide (a2.1=2))
else
some false):Option Bool).bind fun Ud=>
some Ud
else
((if(decide (a1.1=5))then
some (decide (a2.1=5))
else
some false):Option Bool).bind fun OB=>
some OB)))))))))
def Ue(N:Nat):bf:=⟨⟨[(0, .l ae),(1, .g af),(2, .g af)],[],[],0⟩,⟨[(0, .l .bool)],[],[],0⟩,fun(x:Int×af.den×af.den)=>M.av N x.1 x.2.1 x.2.2⟩
theorem Uf(N:Nat):aC Tryz.prog 49 (Ue N):=fw (en [ck (Rp N),ck (OA N)] false false) (N:=N) (.o (.two (.o (.two (.meet ⟨[(8, .l .bool)],[],[],64⟩ .nil (.two (.meet ⟨[(6, .l .bool)],[],[],64⟩ .nil .nil) (.o (.two (.meet ⟨[(6, .l .bool)],[],[],96⟩ .nil .nil) (.o (.two (.meet ⟨[(6, .l .bool)],[],[],128⟩ .nil .nil) (.o (.two (.two (.o (.two (.meet ⟨[(6, .l .bool)],[],[],208⟩ .nil .nil) .nil)) (.meet ⟨[(6, .l .bool)],[],[],208⟩ .nil .nil)) (.o (.two (.meet ⟨[(6, .l .bool)],[],[],192⟩ .nil .nil) (.meet ⟨[(80, .l .bool)],[],[],192⟩ .nil (.two (.meet ⟨[(6, .l .bool)],[],[],192⟩ .nil .nil) (.meet ⟨[(98, .l .bool)],[],[],192⟩ .nil (.o (.meet ⟨[(104, .l .bool)],[],[],192⟩ .nil (.two (.meet ⟨[(6, .l .bool)],[],[],192⟩ .nil .nil) (.meet ⟨[(115, .l .bool)],[],[],192⟩ .nil (.two (.meet ⟨[(6, .l .bool)],[],[],192⟩ .nil .nil) .nil)))))))))))))))))) .nil)) (.meet ⟨[(6, .l .bool)],[],[],192⟩ .nil .nil))) Tryz.func49 (by kernel_rfl) fun x=>by kernel_rfl
def M.aI(N:Nat)(a0:aa.den)(a1:List af.den)(a2:aP.den):Option Bool:=
(if(decide (a0.1=7))then
(idx a2.2.1 a0.2).bind fun x1=>
(M.bY N x1).bind fun y2=>
some y2
else
(if(decide (a0.1=8))then
(idx a2.2.2.1 a0.2).bind fun x3=>
(M.bY N x3).bind fun y4=>
some y4
else
(if(decide (a0.1=33))then
(idx a2.2.2.2.2.2 a0.2).bind fun x5=>
((idx a1 0).bind fun x7=>
(M.gA N x7 x5.2.1).bind fun y8=>
(if y8 then
(if(decide (1<=x5.2.2.1.1))then
some (decide (x5.2.2.1.1<=6))
else
some false)
else
some false):Option Bool).bind fun j6=>
some j6
else
(if(decide (a0.1=34))then
(idx a2.2.2.2.2.2 (X6.wrap (Yn a0.2 8))).bind fun x9=>
((idx a1 0).bind fun pi=>
(if(decide (pi.1=3))then
(if(tE aa x9.2.1 (3,0))then
some (tE aa x9.2.2.1 (4,0))
else
some false)
else
some false):Option Bool).bind fun yJ=>
some yJ
else
((if(decide (a0.1=36))then
some (decide (a0.1=36))
else
(if(decide (a0.1=37))then
some (decide (a0.1=37))
else
(if(decide (a0.1=38))then
some (decide (a0.1=38))
else
some (decide (a0.1=39))))):Option Bool).bind fun CU=>
(if CU then
(idx a2.2.2.2.2.1 a0.2).bind fun kY=>
(M.dt N a0.1 kY).bind fun lc=>
some lc
else
(if(decide ((a1.length:Int)=1))then
(idx a1 0).bind fun uW=>
(M.bF N a0.1 uW.1).bind fun wG=>
some wG
else
(if(decide ((a1.length:Int)=2))then
(idx a1 0).bind fun yL=>
(idx a1 1).bind fun yM=>
(M.av N a0.1 yL yM).bind fun MO=>
some MO
else
(if(decide ((a1.length:Int)=3))then
((idx a1 0).bind fun Ug=>
(if(decide (Ug.1=1))then
(idx a1 1).bind fun Lj=>
(idx a1 2).bind fun Lk=>
(M.cg N Lj Lk).bind fun Uh=>
some Uh
else
some false):Option Bool).bind fun OB=>
some OB
else
some true))))))))
def Ui(N:Nat):bf:=⟨⟨[(0, .g aa),(1, .l (.slice af)),(2, .g aP)],[],[],0⟩,⟨[(0, .l .bool)],[],[],0⟩,fun(x:aa.den×(List af.den)×aP.den)=>M.aI N x.1 x.2.1 x.2.2⟩
theorem Uj(N:Nat):aC Tryz.prog 36 (Ui N):=fw (en [ck (Lh N),ck (Ro N),ck (T9 N),ck (Ub N),ck (Uf N),ck (Rp N)] false false) (N:=N) (.o (.two (.o (.two (.o (.o (.o (.o (.o (.two (.o (.meet ⟨[(6, .l .bool)],[],[],304⟩ .nil .nil)) (.o (.two (.o (.meet ⟨[(6, .l .bool)],[],[],352⟩ .nil .nil)) (.meet ⟨[(81, .l .bool)],[],[],208⟩ .nil .nil))))))))) .nil)) (.two (.o (.two (.o (.o (.o (.o (.o (.two (.meet ⟨[(6, .l .bool)],[],[],336⟩ .nil .nil) .nil)))))) .nil)) .nil))) Tryz.func36 (by kernel_rfl) fun x=>by kernel_rfl
def M.dl(N:Nat)(a0:aa.den)(a1:aP.den):Option (af.den×Int):=
(idx a1.2.2.2.2.1 a0.2).bind fun x1=>
((if(decide (a0.1=37))then
some (x1.1,(x1.2,1))
else
some (x1.1,(x1.2,0))):Option (af.den)).bind fun j2=>
((if(decide (a0.1=39))then
some (decide ((a1.2.2.2.1.length:Int)=0))
else
some false):Option Bool).bind fun j3=>
(if j3 then
some ((0,(0,0)),6)
else
da (J:=af.den) (R:=af.den×Int) (Loop (S:=Int×af.den) (X:=(af.den)⊕(af.den×Int)) (fun s5=>
(if(decide (s5.1<(a1.2.2.2.1.length:Int)))then
(idx a1.2.2.2.1 s5.1).bind fun x6=>
((if(decide ((x6.length:Int)<=a0.2))then
some true
else
(idx x6 a0.2).bind fun x8=>
some (decide (x8.1=0))):Option Bool).bind fun j7=>
(if j7 then
some (.inr (.inr ((0,(0,0)),6)))
else
(idx x6 a0.2).bind fun x9=>
(M.gA N x9 x1).bind fun kF=>
(if(!kF)then
some (.inr (.inr ((0,(0,0)),8)))
else
da (J:=af.den) (R:=(Int×af.den)⊕((af.den)⊕(af.den×Int))) ((if(decide (a0.1=36))then
(M.bY N (s5.2.1,(s5.2.2.1,X6.wrap (s5.2.2.2+x9.2.2)))).bind fun mL=>
(if(!mL)then
some (.inr (.inr (.inr ((0,(0,0)),3))))
else
some (.inl (s5.2.1,(s5.2.2.1,X6.wrap (s5.2.2.2+x9.2.2)))))
else
(if(decide (a0.1=37))then
some (.inl (s5.2.1,(s5.2.2.1,if x9.2.2<s5.2.2.2 then x9.2.2 else s5.2.2.2)))
else
(if(decide (a0.1=38))then
some (.inl (s5.2.1,(s5.2.2.1,if s5.2.2.2<x9.2.2 then x9.2.2 else s5.2.2.2)))
else
(if(decide (a0.1=39))then
((if(decide (s5.1=0))then
some true
else
some (decide (s5.2.2.2<x9.2.2))):Option Bool).bind fun Ll=>
(if Ll then
some (.inl x9)
else
some (.inl s5.2))
else
some (.inl s5.2)))))) fun uD=>
some (.inl (X6.wrap (s5.1+1),uD))))
else
some (.inr (.inl s5.2)))) N (0,j2)) fun j4=>
some (j4,0))
def Uk(N:Nat):bf:=⟨⟨[(0, .g aa),(1, .g aP)],[],[],0⟩,⟨[(0, .g af),(1, .l ae)],[],[],0⟩,fun(x:aa.den×aP.den)=>M.dl N x.1 x.2⟩
theorem Ul(N:Nat):aC Tryz.prog 51 (Uk N):=fw (en [ck (Lh N),ck (Ro N)] false false) (N:=N) (.o (.o (.o (.meet ⟨[],[(272, .box 45 (.leaf af))],[],305⟩ .nil (.two (.meet ⟨[(34, .l .bool)],[],[],305⟩ .nil .nil) (.join ⟨[],[(272, .box 45 (.leaf af))],[],306⟩ (.o (.two (.loop ⟨[(39, .l ae)],[(272, .box 45 (.leaf af))],[],370⟩ (.o (.o (.two (.two (.o (.two (.meet ⟨[(57, .l .bool)],[],[],466⟩ .nil .nil) (.o (.o (.o (.join ⟨[],[(272, .box 45 (.leaf af))],[],675⟩ (.o (.o (.o (.o (.o (.o (.o (.two (.meet ⟨[(109, .l .bool)],[],[],802⟩ .nil .nil) .nil)))))))) .nil)))))) .nil) .nil)))) .nil)) .nil)))))) Tryz.func51 (by kernel_rfl) fun x=>by kernel_rfl
def M.fU(N:Nat)(a0:aa.den):Option Bool:=
((if(decide (0<=a0.1))then
(if(decide (a0.1<=a0.2))then
some (decide (a0.2<=109573))
else
some false)
else
some false):Option Bool).bind fun j1=>
some j1
def Um(N:Nat):bf:=⟨⟨[(0, .g aa)],[],[],0⟩,⟨[(0, .l .bool)],[],[],0⟩,fun(x:aa.den)=>M.fU N x⟩
theorem Un(N:Nat):aC Tryz.prog 81 (Um N):=fw (en [] false false) (N:=N) (.o (.meet ⟨[(2, .l .bool)],[],[],32⟩ .nil .nil)) Tryz.func81 (by kernel_rfl) fun x=>by kernel_rfl
def M.cd(N:Nat)(a0:aa.den)(a1:Int):Option Bool:=
((M.fU N a0).bind fun y2=>
(if y2 then
(if(decide (a0.1<=a1))then
some (decide (a1<a0.2))
else
some false)
else
some false):Option Bool).bind fun j1=>
some j1
def Uo(N:Nat):bf:=⟨⟨[(0, .g aa),(1, .l ae)],[],[],0⟩,⟨[(0, .l .bool)],[],[],0⟩,fun(x:aa.den×Int)=>M.cd N x.1 x.2⟩
theorem Rq(N:Nat):aC Tryz.prog 66 (Uo N):=fw (en [ck (Un N)] false false) (N:=N) (.o (.meet ⟨[(4, .l .bool)],[],[],32⟩ .nil .nil)) Tryz.func66 (by kernel_rfl) fun x=>by kernel_rfl
def M.du(N:Nat)(a0:mw.den)(a1:Int)(a2:Int):Option (Bool×Int×Int):=
((M.cd N a0.1 a1).bind fun y2=>
(if y2 then
(if(decide (a0.2.1<=a2))then
some (decide (a2<a0.2.2.1))
else
some false)
else
some false):Option Bool).bind fun j1=>
some (j1,a1,a2)
def Lm(N:Nat):bf:=⟨⟨[(0, .g mw),(1, .ptr 0 [] 0),(2, .ptr 1 [] 0)],[(0, .box 3 (.leaf ae)),(1, .box 3 (.leaf ae))],[],2⟩,⟨[(0, .l .bool)],[(0, .box 3 (.leaf ae)),(1, .box 3 (.leaf ae))],[],4⟩,fun(x:mw.den×Int×Int)=>M.du N x.1 x.2.1 x.2.2⟩
theorem Ln(N:Nat):aC Tryz.prog 65 (Lm N):=fw (en [ck (Rq N)] false false) (N:=N) (.o (.meet ⟨[(4, .l .bool)],[],[],34⟩ .nil .nil)) Tryz.func65 (by kernel_rfl) fun x=>by kernel_rfl
def M.bj(N:Nat)(a0:List mw.den)(a1:Int)(a2:Int):Option (Int×Bool×Int×Int):=
Loop (S:=Int×Int×Int) (X:=Int×Bool×Int×Int) (fun s1=>
(if(decide (s1.1<(a0.length:Int)))then
(idx a0 s1.1).bind fun x2=>
(M.du N x2 s1.2.1 s1.2.2).bind fun y3=>
(if y3.1 then
some (.inr (s1.1,true,y3.2.1,y3.2.2))
else
some (.inl (X6.wrap (s1.1+1),y3.2.1,y3.2.2)))
else
some (.inr (0,false,s1.2.1,s1.2.2)))) N (0,a1,a2)
def Lo(N:Nat):bf:=⟨⟨[(0, .l (.slice mw)),(1, .fn 65 [(0,[],0),(1,[],0)])],[(0, .box 3 (.leaf ae)),(1, .box 3 (.leaf ae))],[],2⟩,⟨[(0, .l ae),(1, .l .bool)],[(0, .box 3 (.leaf ae)),(1, .box 3 (.leaf ae))],[],4⟩,fun(x:(List mw.den)×Int×Int)=>M.bj N x.1 x.2.1 x.2.2⟩
theorem Lp(N:Nat):aC Tryz.prog 64 (Lo N):=fw (en [ck (Ln N)] false false) (N:=N) (.o (.two (.o (.two (.loop ⟨[(10, .l ae)],[(0, .box 3 (.leaf ae)),(1, .box 3 (.leaf ae))],[],84⟩ .nil) .nil)) .nil)) Tryz.func64 (by kernel_rfl) fun x=>by kernel_rfl
def M.fC(N:Nat)(a0:cG.den)(a1:Int)(a2:Int):Option (Int×Bool):=
(M.bj N a0.2.2.2 a1 a2).bind fun y1=>
some (y1.1,y1.2.1)
def Up(N:Nat):bf:=⟨⟨[(0, .g cG),(1, .l ae),(2, .l ae)],[],[],0⟩,⟨[(0, .l ae),(1, .l .bool)],[],[],0⟩,fun(x:cG.den×Int×Int)=>M.fC N x.1 x.2.1 x.2.2⟩
theorem Uq(N:Nat):aC Tryz.prog 52 (Up N):=fw (en [ck (Lp N)] false false) (N:=N) .nil Tryz.func52 (by kernel_rfl) fun x=>by kernel_rfl
def M.b7(N:Nat)(a0:Int)(a1:Int):Option (Int×Int):=
some (Ya.wrap ((Ya.wrap ((Ya.wrap ((ef .u64 a0 32)*(ef .u64 a1 32)))+(ef .u64 (Ya.wrap ((Ya.wrap ((ef .u64 a0 32)*(cZ .and .u64 a1 4294967295)))+(ef .u64 (Ya.wrap ((cZ .and .u64 a0 4294967295)*(cZ .and .u64 a1 4294967295))) 32))) 32)))+(ef .u64 (Ya.wrap ((cZ .and .u64 (Ya.wrap ((Ya.wrap ((ef .u64 a0 32)*(cZ .and .u64 a1 4294967295)))+(ef .u64 (Ya.wrap ((cZ .and .u64 a0 4294967295)*(cZ .and .u64 a1 4294967295))) 32))) 4294967295)+(Ya.wrap ((cZ .and .u64 a0 4294967295)*(ef .u64 a1 32))))) 32)),Ya.wrap (a0*a1))
def Ur(N:Nat):bf:=⟨⟨[(0, .l (.int .u64)),(1, .l (.int .u64))],[],[],0⟩,⟨[(0, .l (.int .u64)),(1, .l (.int .u64))],[],[],0⟩,fun(x:Int×Int)=>M.b7 N x.1 x.2⟩
theorem MP(N:Nat):aC Tryz.prog 82 (Ur N):=fw (en [] false false) (N:=N) .nil Tryz.func82 (by kernel_rfl) fun x=>by kernel_rfl
def M.fV(N:Nat)(a0:Int):Option Int:=
((if(decide (4294967296<=a0))then
some (ef .u64 a0 32,32)
else
some (a0,0)):Option (Int×Int)).bind fun j1=>
((if(decide (65536<=j1.1))then
some (ef .u64 j1.1 16,X6.wrap (j1.2+16))
else
some (j1.1,j1.2)):Option (Int×Int)).bind fun j2=>
((if(decide (256<=j2.1))then
some (ef .u64 j2.1 8,X6.wrap (j2.2+8))
else
some (j2.1,j2.2)):Option (Int×Int)).bind fun j3=>
(sB (⟨#[0,1,2,2,3,3,3,3,4,4,4,4,4,4,4,4,5,5,5,5,5,5,5,5,5,5,5,5,5,5,5,5,6,6,6,6,6,6,6,6,6,6,6,6,6,6,6,6,6,6,6,6,6,6,6,6,6,6,6,6,6,6,6,6,7,7,7,7,7,7,7,7,7,7,7,7,7,7,7,7,7,7,7,7,7,7,7,7,7,7,7,7,7,7,7,7,7,7,7,7,7,7,7,7,7,7,7,7,7,7,7,7,7,7,7,7,7,7,7,7,7,7,7,7,7,7,7,7,8,8,8,8,8,8,8,8,8,8,8,8,8,8,8,8,8,8,8,8,8,8,8,8,8,8,8,8,8,8,8,8,8,8,8,8,8,8,8,8,8,8,8,8,8,8,8,8,8,8,8,8,8,8,8,8,8,8,8,8,8,8,8,8,8,8,8,8,8,8,8,8,8,8,8,8,8,8,8,8,8,8,8,8,8,8,8,8,8,8,8,8,8,8,8,8,8,8,8,8,8,8,8,8,8,8,8,8,8,8,8,8,8,8,8,8,8,8,8,8,8,8,8,8,8,8,8,8]⟩:ByteArray) (IntKind.u8.wrap j3.1)).bind fun x4=>
some (X6.wrap (j3.2+(X6.wrap x4)))
def OC(N:Nat):bf:=⟨⟨[(0, .l (.int .u64))],[],[],0⟩,⟨[(0, .l ae)],[],[],0⟩,fun(x:Int)=>M.fV N x⟩
theorem OD(N:Nat):aC Tryz.prog 138 (OC N):=fw (en [] false false) (N:=N) (.o (.meet ⟨[(0, .l (.int .u64)),(2, .l ae)],[],[],16⟩ .nil (.meet ⟨[(0, .l (.int .u64)),(2, .l ae)],[],[],16⟩ .nil (.meet ⟨[(0, .l (.int .u64)),(2, .l ae)],[],[],16⟩ .nil .nil)))) Tryz.func138 (by kernel_rfl) fun x=>by kernel_rfl
def M.cK(N:Nat)(a0:Int):Option Int:=
(M.fV N a0).bind fun y1=>
some (X6.wrap (64-y1))
def OE(N:Nat):bf:=⟨⟨[(0, .l (.int .u64))],[],[],0⟩,⟨[(0, .l ae)],[],[],0⟩,fun(x:Int)=>M.cK N x⟩
theorem OF(N:Nat):aC Tryz.prog 109 (OE N):=fw (en [ck (OD N)] false false) (N:=N) .nil Tryz.func109 (by kernel_rfl) fun x=>by kernel_rfl
def M.bQ(N:Nat)(a0:Int)(a1:Int)(a2:Int):Option (Int×Int):=
(if(decide (a2=0))then
none
else
(if(decide (a2<=a0))then
none
else
(if(decide (a0=0))then
(gR a1 a2).bind fun x1=>
(li a1 a2).bind fun x2=>
some (Ya.wrap x1,x2)
else
(M.cK N a2).bind fun y3=>
(xJ .u64 a2 (Ya.wrap y3)).bind fun x4=>
(xJ .u64 a0 (Ya.wrap y3)).bind fun x5=>
(vh .u64 a1 (Ya.wrap (64-(Ya.wrap y3)))).bind fun x6=>
(xJ .u64 a1 (Ya.wrap y3)).bind fun x7=>
(gR (cZ .or .u64 x5 x6) (ef .u64 x4 32)).bind fun x8=>
((Loop (S:=Int×Int) (X:=Int) (fun If=>
((if(decide (4294967296<=If.1))then
some true
else
some (decide ((Ya.wrap ((Ya.wrap (4294967296*If.2))+(ef .u64 x7 32)))<(Ya.wrap (If.1*(cZ .and .u64 x4 4294967295)))))):Option Bool).bind fun CU=>
(if CU then
(if(decide (4294967296<=(Ya.wrap (If.2+(ef .u64 x4 32)))))then
some (.inr (Ya.wrap (If.1-1)))
else
some (.inl (Ya.wrap (If.1-1),Ya.wrap (If.2+(ef .u64 x4 32)))))
else
some (.inr If.1))) N (Ya.wrap x8,Ya.wrap ((cZ .or .u64 x5 x6)-(Ya.wrap ((Ya.wrap x8)*(ef .u64 x4 32))))):Option Int).bind fun yJ=>
some yJ:Option Int).bind fun j9=>
(gR (Ya.wrap ((Ya.wrap ((Ya.wrap ((cZ .or .u64 x5 x6)*4294967296))+(ef .u64 x7 32)))-(Ya.wrap (j9*x4)))) (ef .u64 x4 32)).bind fun kY=>
((Loop (S:=Int×Int) (X:=Int) (fun Ig=>
((if(decide (4294967296<=Ig.2))then
some true
else
some (decide ((Ya.wrap ((Ya.wrap (4294967296*Ig.1))+(cZ .and .u64 x7 4294967295)))<(Ya.wrap (Ig.2*(cZ .and .u64 x4 4294967295)))))):Option Bool).bind fun Ji=>
(if Ji then
(if(decide (4294967296<=(Ya.wrap (Ig.1+(ef .u64 x4 32)))))then
some (.inr (Ya.wrap (Ig.2-1)))
else
some (.inl (Ya.wrap (Ig.1+(ef .u64 x4 32)),Ya.wrap (Ig.2-1))))
else
some (.inr Ig.2))) N (Ya.wrap ((Ya.wrap ((Ya.wrap ((Ya.wrap ((cZ .or .u64 x5 x6)*4294967296))+(ef .u64 x7 32)))-(Ya.wrap (j9*x4))))-(Ya.wrap ((Ya.wrap kY)*(ef .u64 x4 32)))),Ya.wrap kY):Option Int).bind fun OG=>
some OG:Option Int).bind fun yK=>
(vh .u64 (Ya.wrap ((Ya.wrap ((Ya.wrap ((Ya.wrap ((Ya.wrap ((Ya.wrap ((cZ .or .u64 x5 x6)*4294967296))+(ef .u64 x7 32)))-(Ya.wrap (j9*x4))))*4294967296))+(cZ .and .u64 x7 4294967295)))-(Ya.wrap (yK*x4)))) (Ya.wrap y3)).bind fun yM=>
some (Ya.wrap ((Ya.wrap (j9*4294967296))+yK),yM))))
def Us(N:Nat):bf:=⟨⟨[(0, .l (.int .u64)),(1, .l (.int .u64)),(2, .l (.int .u64))],[],[],0⟩,⟨[(0, .l (.int .u64)),(1, .l (.int .u64))],[],[],0⟩,fun(x:Int×Int×Int)=>M.bQ N x.1 x.2.1 x.2.2⟩
theorem OH(N:Nat):aC Tryz.prog 83 (Us N):=fw (en [ck (OF N)] false false) (N:=N) (.o (.o (.o (.o (.o (.o (.o (.o (.o (.o (.o (.o (.o (.o (.meet ⟨[(15, .l (.int .u64))],[],[],832⟩ (.meet ⟨[(15, .l (.int .u64))],[],[],832⟩ (.loop ⟨[(15, .l (.int .u64)),(16, .l (.int .u64))],[],[],832⟩ (.two (.meet ⟨[(78, .l .bool)],[],[],832⟩ .nil .nil) .nil)) .nil) (.o (.o (.o (.meet ⟨[(18, .l (.int .u64))],[],[],1136⟩ (.meet ⟨[(18, .l (.int .u64))],[],[],1136⟩ (.loop ⟨[(16, .l (.int .u64)),(18, .l (.int .u64))],[],[],1136⟩ (.two (.meet ⟨[(113, .l .bool)],[],[],1136⟩ .nil .nil) .nil)) .nil) .nil))))))))))))))))))) Tryz.func83 (by kernel_rfl) fun x=>by kernel_rfl
def M.cH(N:Nat)(a0:Int)(a1:Int):Option (Int×Int×Bool):=
((if(decide (a1<0))then
some (Ya.wrap (0-(Ya.wrap a1)))
else
some (Ya.wrap a1)):Option Int).bind fun j1=>
(M.b7 N (Ya.wrap a0) j1).bind fun y2=>
(if(decide (1000000<=y2.1))then
some (0,0,false)
else
(M.bQ N y2.1 y2.2 1000000).bind fun y3=>
(if(decide (1000000000000000<y3.1))then
some (0,0,false)
else
(if(decide (a1<0))then
some (X6.wrap (0-(X6.wrap y3.1)),X6.wrap (0-(X6.wrap y3.2)),true)
else
some (X6.wrap y3.1,X6.wrap y3.2,true))))
def Ut(N:Nat):bf:=⟨⟨[(0, .l ae),(1, .l ae)],[],[],0⟩,⟨[(0, .l ae),(1, .l ae),(2, .l .bool)],[],[],0⟩,fun(x:Int×Int)=>M.cH N x.1 x.2⟩
theorem Uu(N:Nat):aC Tryz.prog 67 (Ut N):=fw (en [ck (MP N),ck (OH N)] false false) (N:=N) (.o (.o (.meet ⟨[(7, .l (.int .u64))],[],[],96⟩ .nil .nil))) Tryz.func67 (by kernel_rfl) fun x=>by kernel_rfl
def M.cY(N:Nat)(a0:Int):Option Bool:=
((if(decide (0<=a0))then
some (decide (a0<=5))
else
some false):Option Bool).bind fun j1=>
some j1
def OI(N:Nat):bf:=⟨⟨[(0, .l ae)],[],[],0⟩,⟨[(0, .l .bool)],[],[],0⟩,fun(x:Int)=>M.cY N x⟩
theorem Jj(N:Nat):aC Tryz.prog 110 (OI N):=fw (en [] false false) (N:=N) (.o (.meet ⟨[(2, .l .bool)],[],[],16⟩ .nil .nil)) Tryz.func110 (by kernel_rfl) fun x=>by kernel_rfl
def M.cl(N:Nat)(a0:Int)(a1:Int):Option Bool:=
((if(decide (a1<a0))then
some true
else
some (decide (a0<(X6.wrap (0-a1))))):Option Bool).bind fun j1=>
some j1
def OJ(N:Nat):bf:=⟨⟨[(0, .l ae),(1, .l ae)],[],[],0⟩,⟨[(0, .l .bool)],[],[],0⟩,fun(x:Int×Int)=>M.cl N x.1 x.2⟩
theorem Jk(N:Nat):aC Tryz.prog 111 (OJ N):=fw (en [] false false) (N:=N) (.o (.meet ⟨[(4, .l .bool)],[],[],16⟩ .nil .nil)) Tryz.func111 (by kernel_rfl) fun x=>by kernel_rfl
def M.b8(N:Nat)(a0:Int):Option Int:=
(if(decide (a0<0))then
some (Ya.wrap (0-(Ya.wrap a0)))
else
some (Ya.wrap a0))
def OK(N:Nat):bf:=⟨⟨[(0, .l ae)],[],[],0⟩,⟨[(0, .l (.int .u64))],[],[],0⟩,fun(x:Int)=>M.b8 N x⟩
theorem Lq(N:Nat):aC Tryz.prog 112 (OK N):=fw (en [] false false) (N:=N) .nil Tryz.func112 (by kernel_rfl) fun x=>by kernel_rfl
def M.bL(N:Nat)(a0:Int)(a1:Int)(a2:Int)(a3:Bool)(a4:Int):Option Int:=
(if(decide (a1=0))then
some a0
else
((if(decide (a4=0))then
some a3
else
(if(decide (a4=1))then
some (!a3)
else
(if(decide (a4=3))then
some true
else
(if(decide (a4=4))then
some (decide ((Ya.wrap (a2-a1))<=a1))
else
(if(decide (a4=5))then
(if(decide ((Ya.wrap (a2-a1))<a1))then
some true
else
(if(decide (a1=(Ya.wrap (a2-a1))))then
some (decide ((Yl a0 2)=1))
else
some false))
else
some false))))):Option Bool).bind fun j1=>
((if j1 then
some (Ya.wrap (a0+1))
else
some a0):Option Int).bind fun j2=>
some j2)
def OL(N:Nat):bf:=⟨⟨[(0, .l (.int .u64)),(1, .l (.int .u64)),(2, .l (.int .u64)),(3, .l .bool),(4, .l ae)],[],[],0⟩,⟨[(0, .l (.int .u64))],[],[],0⟩,fun(x:Int×Int×Int×Bool×Int)=>M.bL N x.1 x.2.1 x.2.2.1 x.2.2.2.1 x.2.2.2.2⟩
theorem Lr(N:Nat):aC Tryz.prog 113 (OL N):=fw (en [] false false) (N:=N) (.o (.o (.o (.two (.o (.meet ⟨[(11, .l .bool)],[],[],80⟩ .nil .nil)) (.meet ⟨[(0, .l (.int .u64))],[],[],80⟩ .nil .nil))))) Tryz.func113 (by kernel_rfl) fun x=>by kernel_rfl
def M.dK(N:Nat)(a0:Int)(a1:Bool):Option Int:=
(if a1 then
some (X6.wrap (0-(X6.wrap a0)))
else
some (X6.wrap a0))
def OM(N:Nat):bf:=⟨⟨[(0, .l (.int .u64)),(1, .l .bool)],[],[],0⟩,⟨[(0, .l ae)],[],[],0⟩,fun(x:Int×Bool)=>M.dK N x.1 x.2⟩
theorem Ls(N:Nat):aC Tryz.prog 114 (OM N):=fw (en [] false false) (N:=N) .nil Tryz.func114 (by kernel_rfl) fun x=>by kernel_rfl
def M.cm(N:Nat)(a0:Int)(a1:Int)(a2:Int):Option (Int×Int):=
(M.cY N a2).bind fun y1=>
(if(!y1)then
some (0,1)
else
(if(decide (a1=0))then
some (0,12)
else
((M.cl N a0 4611686018427387904).bind fun y3=>
(if y3 then
some true
else
(M.cl N a1 4611686018427387904).bind fun y4=>
some y4):Option Bool).bind fun j2=>
(if j2 then
some (0,3)
else
(M.b8 N a0).bind fun y5=>
(M.b8 N a1).bind fun y6=>
(gR y5 y6).bind fun x7=>
(li y5 y6).bind fun x8=>
(M.bL N (Ya.wrap x7) x8 y6 (!decide ((decide (a0<0))=(decide (a1<0)))) a2).bind fun y9=>
(M.dK N y9 (!decide ((decide (a0<0))=(decide (a1<0))))).bind fun kF=>
some (kF,0))))
def Uv(N:Nat):bf:=⟨⟨[(0, .l ae),(1, .l ae),(2, .l ae)],[],[],0⟩,⟨[(0, .l ae),(1, .l ae)],[],[],0⟩,fun(x:Int×Int×Int)=>M.cm N x.1 x.2.1 x.2.2⟩
theorem MQ(N:Nat):aC Tryz.prog 84 (Uv N):=fw (en [ck (Jj N),ck (Jk N),ck (Lq N),ck (Lr N),ck (Ls N)] false false) (N:=N) (.o (.o (.o (.two (.meet ⟨[(22, .l .bool)],[],[],112⟩ .nil .nil) .nil)))) Tryz.func84 (by kernel_rfl) fun x=>by kernel_rfl
def M.dw(N:Nat)(a0:Int)(a1:Int)(a2:Int):Option (Int×Int):=
((if(decide ((X6.wrap (a0+(X6.wrap (Yn a1 1000000))))<(-2000000000000000)))then
some true
else
some (decide (2000000000000000<(X6.wrap (a0+(X6.wrap (Yn a1 1000000))))))):Option Bool).bind fun j1=>
(if j1 then
some (0,3)
else
((if(decide (1<(X6.wrap (a0+(X6.wrap (Yn a1 1000000))))))then
some (X6.wrap ((Yl (X6.wrap (a0+(X6.wrap (Yn a1 1000000)))) 2)+2))
else
(if(decide ((X6.wrap (a0+(X6.wrap (Yn a1 1000000))))<(-1)))then
some (X6.wrap ((Yl (X6.wrap (a0+(X6.wrap (Yn a1 1000000)))) 2)-2))
else
some (Yl (X6.wrap (a0+(X6.wrap (Yn a1 1000000)))) 2))):Option Int).bind fun j2=>
(M.cm N (X6.wrap ((X6.wrap (j2*1000000))+(Yl a1 1000000))) 1000000 a2).bind fun y3=>
(if(!decide (y3.2=0))then
some (0,y3.2)
else
((if(decide ((X6.wrap ((X6.wrap ((X6.wrap (a0+(X6.wrap (Yn a1 1000000))))-j2))+y3.1))<(-1000000000000000)))then
some true
else
some (decide (1000000000000000<(X6.wrap ((X6.wrap ((X6.wrap (a0+(X6.wrap (Yn a1 1000000))))-j2))+y3.1))))):Option Bool).bind fun j4=>
(if j4 then
some (0,3)
else
some (X6.wrap ((X6.wrap ((X6.wrap (a0+(X6.wrap (Yn a1 1000000))))-j2))+y3.1),0))))
def Uw(N:Nat):bf:=⟨⟨[(0, .l ae),(1, .l ae),(2, .l ae)],[],[],0⟩,⟨[(0, .l ae),(1, .l ae)],[],[],0⟩,fun(x:Int×Int×Int)=>M.dw N x.1 x.2.1 x.2.2⟩
theorem Ux(N:Nat):aC Tryz.prog 68 (Uw N):=fw (en [ck (MQ N)] false false) (N:=N) (.o (.o (.o (.two (.meet ⟨[(23, .l .bool)],[],[],160⟩ .nil .nil) (.o (.two (.meet ⟨[(8, .l ae)],[],[],208⟩ .nil .nil) (.o (.o (.o (.two (.meet ⟨[(58, .l .bool)],[],[],512⟩ .nil .nil) .nil)))))))))) Tryz.func68 (by kernel_rfl) fun x=>by kernel_rfl
def M.dx(N:Nat)(a0:cG.den)(a1:Int)(a2:Int)(a3:Int):Option (Int×Int):=
((if(decide (a3<0))then
some true
else
some (decide (5<a3))):Option Bool).bind fun j1=>
(if j1 then
some (0,1)
else
((if(!(tE aa a0.2.1 (3,0)))then
some true
else
some (!(tE aa a0.2.2.1 (4,0)))):Option Bool).bind fun j2=>
(if j2 then
some (0,8)
else
((if(decide (a2<(-1000000000000000)))then
some true
else
some (decide (1000000000000000<a2))):Option Bool).bind fun j3=>
(if j3 then
some (0,3)
else
da (J:=Int×Int) (R:=Int×Int) (Loop (S:=Int×Int×Int) (X:=(Int×Int)⊕(Int×Int)) (fun s5=>
(if(decide (s5.2.2<(a0.2.2.2.length:Int)))then
da (J:=Int×Int) (R:=(Int×Int×Int)⊕((Int×Int)⊕(Int×Int))) ((idx a0.2.2.2 s5.2.2).bind fun x7=>
((M.cd N x7.1 a1).bind fun y9=>
(if(!y9)then
some true
else
some (decide ((if a2<x7.2.2.1 then a2 else x7.2.2.1)<=(if x7.2.1<0 then 0 else x7.2.1)))):Option Bool).bind fun j8=>
(if j8 then
some (.inl (s5.1,s5.2.1))
else
(M.cH N (X6.wrap ((if a2<x7.2.2.1 then a2 else x7.2.2.1)-(if x7.2.1<0 then 0 else x7.2.1))) x7.2.2.2).bind fun kF=>
(if(!kF.2.2)then
some (.inr (.inr (.inr (0,3))))
else
some (.inl (X6.wrap (s5.1+kF.1),X6.wrap (s5.2.1+kF.2.1)))))) fun j6=>
some (.inl (j6.1,j6.2,X6.wrap (s5.2.2+1)))
else
some (.inr (.inl (s5.1,s5.2.1))))) N (0,0,0)) fun j4=>
(M.dw N j4.1 j4.2 a3).bind fun ph=>
some (ph.1,ph.2))))
def Uy(N:Nat):bf:=⟨⟨[(0, .g cG),(1, .l ae),(2, .l ae),(3, .l ae)],[],[],0⟩,⟨[(0, .l ae),(1, .l ae)],[],[],0⟩,fun(x:cG.den×Int×Int×Int)=>M.dx N x.1 x.2.1 x.2.2.1 x.2.2.2⟩
theorem Uz(N:Nat):aC Tryz.prog 53 (Uy N):=fw (en [ck (Rq N),ck (Uu N),ck (Ux N)] false false) (N:=N) (.o (.two (.meet ⟨[(24, .l .bool)],[],[],48⟩ .nil .nil) (.two (.meet ⟨[(34, .l .bool)],[],[],48⟩ .nil .nil) (.two (.meet ⟨[(40, .l .bool)],[],[],48⟩ .nil .nil) (.o (.join ⟨[(10, .l ae),(11, .l ae)],[],[],80⟩ (.o (.two (.loop ⟨[(10, .l ae),(11, .l ae),(44, .l ae)],[],[],144⟩ (.o (.o (.two (.join ⟨[(10, .l ae),(11, .l ae)],[],[],160⟩ (.o (.o (.two (.meet ⟨[(64, .l .bool)],[],[],368⟩ .nil .nil) .nil))) .nil) .nil)))) .nil)) .nil)))))) Tryz.func53 (by kernel_rfl) fun x=>by kernel_rfl
def M.cn(N:Nat)(a0:Bool):Option (af.den):=
(if a0 then
some (1,(0,1))
else
some (1,(0,0)))
def UA(N:Nat):bf:=⟨⟨[(0, .l .bool)],[],[],0⟩,⟨[(0, .g af)],[],[],0⟩,fun(x:Bool)=>M.cn N x⟩
theorem Rr(N:Nat):aC Tryz.prog 69 (UA N):=fw (en [] false false) (N:=N) .nil Tryz.func69 (by kernel_rfl) fun x=>by kernel_rfl
def M.eB(N:Nat)(a0:Int):Option Bool:=
((if(decide (0<=a0))then
some (decide (a0<=109572))
else
some false):Option Bool).bind fun j1=>
some j1
def UB(N:Nat):bf:=⟨⟨[(0, .l ae)],[],[],0⟩,⟨[(0, .l .bool)],[],[],0⟩,fun(x:Int)=>M.eB N x⟩
theorem ON(N:Nat):aC Tryz.prog 85 (UB N):=fw (en [] false false) (N:=N) (.o (.meet ⟨[(2, .l .bool)],[],[],16⟩ .nil .nil)) Tryz.func85 (by kernel_rfl) fun x=>by kernel_rfl
def M.fk(N:Nat)(a0:Int):Option Int:=
some (X6.wrap ((X6.wrap ((X6.wrap (Yn a0 4))-(X6.wrap (Yn a0 100))))+(X6.wrap (Yn a0 400))))
def OO(N:Nat):bf:=⟨⟨[(0, .l ae)],[],[],0⟩,⟨[(0, .l ae)],[],[],0⟩,fun(x:Int)=>M.fk N x⟩
theorem OP(N:Nat):aC Tryz.prog 115 (OO N):=fw (en [] false false) (N:=N) .nil Tryz.func115 (by kernel_rfl) fun x=>by kernel_rfl
def M.cr(N:Nat)(a0:Int):Option Int:=
(M.fk N (X6.wrap (a0-1))).bind fun y1=>
(M.fk N 1899).bind fun y2=>
some (X6.wrap ((X6.wrap ((X6.wrap ((X6.wrap (a0-1900))*365))+y1))-y2))
def UC(N:Nat):bf:=⟨⟨[(0, .l ae)],[],[],0⟩,⟨[(0, .l ae)],[],[],0⟩,fun(x:Int)=>M.cr N x⟩
theorem Rs(N:Nat):aC Tryz.prog 86 (UC N):=fw (en [ck (OP N)] false false) (N:=N) .nil Tryz.func86 (by kernel_rfl) fun x=>by kernel_rfl
def M.iB(N:Nat)(a0:Int):Option Bool:=
((if(decide ((Yl a0 4)=0))then
(if(!decide ((Yl a0 100)=0))then
some true
else
some (decide ((Yl a0 400)=0)))
else
some false):Option Bool).bind fun j1=>
some j1
def OQ(N:Nat):bf:=⟨⟨[(0, .l ae)],[],[],0⟩,⟨[(0, .l .bool)],[],[],0⟩,fun(x:Int)=>M.iB N x⟩
theorem OR(N:Nat):aC Tryz.prog 116 (OQ N):=fw (en [] false false) (N:=N) (.o (.meet ⟨[(2, .l .bool)],[],[],16⟩ .nil .nil)) Tryz.func116 (by kernel_rfl) fun x=>by kernel_rfl
def M.bS(N:Nat)(a0:Int)(a1:Int):Option Int:=
((if(decide (a1<1))then
some true
else
some (decide (12<a1))):Option Bool).bind fun j1=>
(if j1 then
some 0
else
((if(decide (a1=2))then
(M.iB N a0).bind fun y3=>
some y3
else
some false):Option Bool).bind fun j2=>
(if j2 then
some 29
else
(idx ([31,28,31,30,31,30,31,31,30,31,30,31]:List Int) (X6.wrap (a1-1))).bind fun x4=>
some x4))
def UD(N:Nat):bf:=⟨⟨[(0, .l ae),(1, .l ae)],[],[],0⟩,⟨[(0, .l ae)],[],[],0⟩,fun(x:Int×Int)=>M.bS N x.1 x.2⟩
theorem OT(N:Nat):aC Tryz.prog 87 (UD N):=fw (en [ck (OR N)] false false) (N:=N) (.o (.two (.meet ⟨[(10, .l .bool)],[],[],16⟩ .nil .nil) (.two (.meet ⟨[(16, .l .bool)],[],[],16⟩ .nil .nil) .nil))) Tryz.func87 (by kernel_rfl) fun x=>by kernel_rfl
def M.cu(N:Nat)(a0:Int):Option (Int×Int×Int):=
(M.eB N a0).bind fun y1=>
(if(!y1)then
some (0,0,0)
else
(Loop (S:=Int) (X:=Int) (fun s3=>
(M.cr N (X6.wrap (s3+1))).bind fun y4=>
(if(decide (y4<=a0))then
some (.inl (X6.wrap (s3+1)))
else
some (.inr s3))) N (X6.wrap (1900+(X6.wrap (Yn a0 366)))):Option Int).bind fun j2=>
(M.cr N j2).bind fun y5=>
Loop (S:=Int×Int) (X:=Int×Int×Int) (fun s6=>
(if(decide (s6.2<12))then
(M.bS N j2 (X6.wrap (s6.2+1))).bind fun y7=>
(if(decide (s6.1<y7))then
some (.inr (j2,X6.wrap (s6.2+1),X6.wrap (s6.1+1)))
else
some (.inl (X6.wrap (s6.1-y7),X6.wrap (s6.2+1))))
else
some (.inr (0,0,0)))) N (X6.wrap (a0-y5),0))
def UE(N:Nat):bf:=⟨⟨[(0, .l ae)],[],[],0⟩,⟨[(0, .l ae),(1, .l ae),(2, .l ae)],[],[],0⟩,fun(x:Int)=>M.cu N x⟩
theorem OU(N:Nat):aC Tryz.prog 70 (UE N):=fw (en [ck (ON N),ck (Rs N),ck (OT N)] false false) (N:=N) (.o (.o (.o (.meet ⟨[(5, .l ae)],[],[],160⟩ (.two (.loop ⟨[(5, .l ae)],[],[],160⟩ .nil) .nil) (.o (.two (.o (.two (.loop ⟨[(6, .l ae),(26, .l ae)],[],[],256⟩ .nil) .nil)) .nil)))))) Tryz.func70 (by kernel_rfl) fun x=>by kernel_rfl
def M.eC(N:Nat)(a0:Int)(a1:af.den):Option (af.den):=
(if(decide (a0=10))then
some (a1.1,(0,X6.wrap (0-a1.2.2)))
else
(if(decide (a0=25))then
(M.cn N (decide (a1.2.2=0))).bind fun y1=>
some y1
else
(M.cu N a1.2.2).bind fun y2=>
(if(decide (a0=31))then
some (2,(0,y2.1))
else
some (2,(0,y2.2.1)))))
def UF(N:Nat):bf:=⟨⟨[(0, .l ae),(1, .g af)],[],[],0⟩,⟨[(0, .g af)],[],[],0⟩,fun(x:Int×af.den)=>M.eC N x.1 x.2⟩
theorem UG(N:Nat):aC Tryz.prog 54 (UF N):=fw (en [ck (Rr N),ck (OU N)] false false) (N:=N) .nil Tryz.func54 (by kernel_rfl) fun x=>by kernel_rfl
def M.fD(N:Nat)(a0:Int)(a1:Int):Option (Int×Int):=
(M.b7 N (Ya.wrap (if a0<(X6.wrap (0-a0))then(X6.wrap (0-a0))else a0)) (Ya.wrap (if a1<(X6.wrap (0-a1))then(X6.wrap (0-a1))else a1))).bind fun y1=>
((if(!decide (y1.1=0))then
some true
else
some (decide (1000000000000000<y1.2))):Option Bool).bind fun j2=>
(if j2 then
some (0,3)
else
(if(!decide ((decide (a0<0))=(decide (a1<0))))then
some (X6.wrap (0-(X6.wrap y1.2)),0)
else
some (X6.wrap y1.2,0)))
def UH(N:Nat):bf:=⟨⟨[(0, .l ae),(1, .l ae)],[],[],0⟩,⟨[(0, .l ae),(1, .l ae)],[],[],0⟩,fun(x:Int×Int)=>M.fD N x.1 x.2⟩
theorem UI(N:Nat):aC Tryz.prog 88 (UH N):=fw (en [ck (MP N)] false false) (N:=N) (.o (.o (.two (.meet ⟨[(27, .l .bool)],[],[],288⟩ .nil .nil) .nil))) Tryz.func88 (by kernel_rfl) fun x=>by kernel_rfl
def M.gB(N:Nat)(a0:Int)(a1:Int)(a2:Int)(a3:Int):Option (Int×Int):=
(M.cY N a3).bind fun y1=>
(if(!y1)then
some (0,1)
else
(if(decide (a2=0))then
some (0,12)
else
((M.cl N a0 1000000000000000).bind fun y3=>
(if y3 then
some true
else
(M.cl N a1 1000000000).bind fun y4=>
(if y4 then
some true
else
(M.cl N a2 1000000000).bind fun y5=>
some y5)):Option Bool).bind fun j2=>
(if j2 then
some (0,3)
else
(M.b8 N a0).bind fun y6=>
(M.b8 N a1).bind fun y7=>
(M.b7 N y6 y7).bind fun y8=>
(M.b8 N a2).bind fun y9=>
(if(decide (y9<=y8.1))then
some (0,3)
else
(M.bQ N y8.1 y8.2 y9).bind fun kF=>
(if(decide (1000000000000000<kF.1))then
some (0,3)
else
(M.bL N kF.1 kF.2 y9 (!decide ((!decide ((decide (a0<0))=(decide (a1<0))))=(decide (a2<0)))) a3).bind fun ph=>
(if(decide (1000000000000000<ph))then
some (0,3)
else
(M.dK N ph (!decide ((!decide ((decide (a0<0))=(decide (a1<0))))=(decide (a2<0))))).bind fun mL=>
some (mL,0)))))))
def OV(N:Nat):bf:=⟨⟨[(0, .l ae),(1, .l ae),(2, .l ae),(3, .l ae)],[],[],0⟩,⟨[(0, .l ae),(1, .l ae)],[],[],0⟩,fun(x:Int×Int×Int×Int)=>M.gB N x.1 x.2.1 x.2.2.1 x.2.2.2⟩
theorem OW(N:Nat):aC Tryz.prog 117 (OV N):=fw (en [ck (MP N),ck (OH N),ck (Jj N),ck (Jk N),ck (Lq N),ck (Lr N),ck (Ls N)] false false) (N:=N) (.o (.o (.o (.two (.meet ⟨[(30, .l .bool)],[],[],112⟩ .nil .nil) .nil)))) Tryz.func117 (by kernel_rfl) fun x=>by kernel_rfl
def M.g9(N:Nat)(a0:Int)(a1:Int)(a2:Int):Option (Int×Int):=
(M.gB N a0 a1 1000000 a2).bind fun y1=>
some (y1.1,y1.2)
def UJ(N:Nat):bf:=⟨⟨[(0, .l ae),(1, .l ae),(2, .l ae)],[],[],0⟩,⟨[(0, .l ae),(1, .l ae)],[],[],0⟩,fun(x:Int×Int×Int)=>M.g9 N x.1 x.2.1 x.2.2⟩
theorem UK(N:Nat):aC Tryz.prog 89 (UJ N):=fw (en [ck (OW N)] false false) (N:=N) .nil Tryz.func89 (by kernel_rfl) fun x=>by kernel_rfl
def M.fl(N:Nat)(a0:Int):Option Bool:=
((if(decide (0<=a0))then
some (decide (a0<=5))
else
some false):Option Bool).bind fun j1=>
some j1
def OX(N:Nat):bf:=⟨⟨[(0, .l ae)],[],[],0⟩,⟨[(0, .l .bool)],[],[],0⟩,fun(x:Int)=>M.fl N x⟩
theorem Lt(N:Nat):aC Tryz.prog 118 (OX N):=fw (en [] false false) (N:=N) (.o (.meet ⟨[(2, .l .bool)],[],[],16⟩ .nil .nil)) Tryz.func118 (by kernel_rfl) fun x=>by kernel_rfl
def M.ei(N:Nat)(a0:Int)(a1:Int):Option Bool:=
((if(decide (a1<a0))then
some true
else
some (decide (a0<(X6.wrap (0-a1))))):Option Bool).bind fun j1=>
some j1
def OY(N:Nat):bf:=⟨⟨[(0, .l ae),(1, .l ae)],[],[],0⟩,⟨[(0, .l .bool)],[],[],0⟩,fun(x:Int×Int)=>M.ei N x.1 x.2⟩
theorem Lu(N:Nat):aC Tryz.prog 119 (OY N):=fw (en [] false false) (N:=N) (.o (.meet ⟨[(4, .l .bool)],[],[],16⟩ .nil .nil)) Tryz.func119 (by kernel_rfl) fun x=>by kernel_rfl
def M.gC(N:Nat)(a0:Int)(a1:Int)(a2:Int):Option (Int×Int):=
(M.fl N a2).bind fun y1=>
(if(!y1)then
some (0,1)
else
((M.ei N a0 1000000000).bind fun y3=>
(if y3 then
some true
else
(M.ei N a1 1000000000).bind fun y4=>
some y4):Option Bool).bind fun j2=>
(if j2 then
some (0,3)
else
(M.cm N (X6.wrap (a0*a1)) 1000000 a2).bind fun y5=>
(if(!decide (y5.2=0))then
some (0,y5.2)
else
(M.ei N y5.1 1000000000).bind fun y6=>
(if y6 then
some (0,3)
else
some (y5.1,0)))))
def UL(N:Nat):bf:=⟨⟨[(0, .l ae),(1, .l ae),(2, .l ae)],[],[],0⟩,⟨[(0, .l ae),(1, .l ae)],[],[],0⟩,fun(x:Int×Int×Int)=>M.gC N x.1 x.2.1 x.2.2⟩
theorem UM(N:Nat):aC Tryz.prog 90 (UL N):=fw (en [ck (MQ N),ck (Lt N),ck (Lu N)] false false) (N:=N) (.o (.o (.two (.meet ⟨[(18, .l .bool)],[],[],80⟩ .nil .nil) .nil))) Tryz.func90 (by kernel_rfl) fun x=>by kernel_rfl
def M.cL(N:Nat)(a0:Int)(a1:Int)(a2:Int):Option (Int×Int):=
(M.cY N a2).bind fun y1=>
(if(!y1)then
some (0,1)
else
(if(decide (a1<1))then
some (0,12)
else
((M.cl N a0 1000000000000000).bind fun y3=>
(if y3 then
some true
else
some (decide (1000000000000000<a1))):Option Bool).bind fun j2=>
(if j2 then
some (0,3)
else
(M.cm N a0 a1 a2).bind fun y4=>
(if(!decide (y4.2=0))then
some (0,y4.2)
else
(M.cl N (X6.wrap (y4.1*a1)) 1000000000000000).bind fun y5=>
(if y5 then
some (0,3)
else
some (X6.wrap (y4.1*a1),0))))))
def UN(N:Nat):bf:=⟨⟨[(0, .l ae),(1, .l ae),(2, .l ae)],[],[],0⟩,⟨[(0, .l ae),(1, .l ae)],[],[],0⟩,fun(x:Int×Int×Int)=>M.cL N x.1 x.2.1 x.2.2⟩
theorem UO(N:Nat):aC Tryz.prog 91 (UN N):=fw (en [ck (MQ N),ck (Jj N),ck (Jk N)] false false) (N:=N) (.o (.o (.o (.two (.meet ⟨[(20, .l .bool)],[],[],112⟩ .nil .nil) .nil)))) Tryz.func91 (by kernel_rfl) fun x=>by kernel_rfl
def M.eL(N:Nat)(a0:Int)(a1:Int)(a2:Int)(a3:Bool)(a4:Int):Option Bool:=
(if(decide (a1=0))then
some false
else
(if(decide (a4=0))then
some a3
else
(if(decide (a4=1))then
some (!a3)
else
(if(decide (a4=3))then
some true
else
(if(decide (a4=4))then
some (decide ((Ya.wrap (a2-a1))<=a1))
else
(if(decide (a4=5))then
((if(decide ((Ya.wrap (a2-a1))<a1))then
some true
else
(if(decide (a1=(Ya.wrap (a2-a1))))then
some (decide ((Yl a0 2)=1))
else
some false)):Option Bool).bind fun j1=>
some j1
else
some false))))))
def OZ(N:Nat):bf:=⟨⟨[(0, .l (.int .u64)),(1, .l (.int .u64)),(2, .l (.int .u64)),(3, .l .bool),(4, .l ae)],[],[],0⟩,⟨[(0, .l .bool)],[],[],0⟩,fun(x:Int×Int×Int×Bool×Int)=>M.eL N x.1 x.2.1 x.2.2.1 x.2.2.2.1 x.2.2.2.2⟩
theorem O0(N:Nat):aC Tryz.prog 120 (OZ N):=fw (en [] false false) (N:=N) (.o (.o (.two (.o (.two (.o (.o (.o (.o (.o (.o (.o (.o (.o (.two (.meet ⟨[(10, .l .bool)],[],[],224⟩ .nil .nil) .nil)))))))))) .nil)) .nil))) Tryz.func120 (by kernel_rfl) fun x=>by kernel_rfl
def M.dZ(N:Nat)(a0:Int)(a1:Int)(a2:Int):Option (Int×Int):=
(M.fl N a2).bind fun y1=>
(if(!y1)then
some (0,1)
else
(if(decide (a1=0))then
some (0,12)
else
((M.ei N a0 1000000000000000).bind fun y3=>
(if y3 then
some true
else
(M.ei N a1 1000000000000000).bind fun y4=>
some y4):Option Bool).bind fun j2=>
(if j2 then
some (0,3)
else
(M.b7 N (Ya.wrap (if a0<(X6.wrap (0-a0))then(X6.wrap (0-a0))else a0)) 1000000).bind fun y5=>
(if(decide ((Ya.wrap (if a1<(X6.wrap (0-a1))then(X6.wrap (0-a1))else a1))<=y5.1))then
some (0,3)
else
(M.bQ N y5.1 y5.2 (Ya.wrap (if a1<(X6.wrap (0-a1))then(X6.wrap (0-a1))else a1))).bind fun y6=>
(if(decide (1000000000<y6.1))then
some (0,3)
else
((M.eL N y6.1 y6.2 (Ya.wrap (if a1<(X6.wrap (0-a1))then(X6.wrap (0-a1))else a1)) (!decide ((decide (a0<0))=(decide (a1<0)))) a2).bind fun y8=>
(if y8 then
some (X6.wrap ((X6.wrap y6.1)+1))
else
some (X6.wrap y6.1)):Option Int).bind fun j7=>
(if(decide (1000000000<j7))then
some (0,3)
else
((if(!decide ((decide (a0<0))=(decide (a1<0))))then
some (X6.wrap (0-j7))
else
some j7):Option Int).bind fun j9=>
some (j9,0)))))))
def UP(N:Nat):bf:=⟨⟨[(0, .l ae),(1, .l ae),(2, .l ae)],[],[],0⟩,⟨[(0, .l ae),(1, .l ae)],[],[],0⟩,fun(x:Int×Int×Int)=>M.dZ N x.1 x.2.1 x.2.2⟩
theorem UQ(N:Nat):aC Tryz.prog 92 (UP N):=fw (en [ck (MP N),ck (OH N),ck (Lt N),ck (Lu N),ck (O0 N)] false false) (N:=N) (.o (.o (.o (.two (.meet ⟨[(25, .l .bool)],[],[],112⟩ .nil .nil) (.o (.o (.o (.o (.o (.o (.o (.meet ⟨[(14, .l ae)],[],[],752⟩ .nil (.o (.meet ⟨[(14, .l ae)],[],[],784⟩ .nil .nil)))))))))))))) Tryz.func92 (by kernel_rfl) fun x=>by kernel_rfl
def M.ek(N:Nat)(a0:aa.den)(a1:af.den)(a2:af.den):Option (af.den×Int):=
((if(decide (a0.1=13))then
(M.fD N a1.2.2 a2.2.2).bind fun y2=>
some (y2.2,(a1.1,(0,y2.1)))
else
((if(decide (a0.1=14))then
some (decide (a1.1=3))
else
some false):Option Bool).bind fun j3=>
(if j3 then
(M.g9 N a1.2.2 a2.2.2 a0.2).bind fun y4=>
some (y4.2,(a1.1,(0,y4.1)))
else
(if(decide (a0.1=14))then
(M.gC N a1.2.2 a2.2.2 a0.2).bind fun y5=>
some (y5.2,(a1.1,(0,y5.1)))
else
(if(decide (a0.1=16))then
(M.cL N a1.2.2 a2.2.2 a0.2).bind fun y6=>
some (y6.2,(a1.1,(0,y6.1)))
else
(if(decide (a2.1=2))then
(M.cm N a1.2.2 a2.2.2 a0.2).bind fun y7=>
some (y7.2,(a1.1,(0,y7.1)))
else
(M.dZ N a1.2.2 a2.2.2 a0.2).bind fun y8=>
some (y8.2,(4,(0,y8.1)))))))):Option (Int×af.den)).bind fun j1=>
some (j1.2,j1.1)
def UR(N:Nat):bf:=⟨⟨[(0, .g aa),(1, .g af),(2, .g af)],[],[],0⟩,⟨[(0, .g af),(1, .l ae)],[],[],0⟩,fun(x:aa.den×af.den×af.den)=>M.ek N x.1 x.2.1 x.2.2⟩
theorem US(N:Nat):aC Tryz.prog 71 (UR N):=fw (en [ck (MQ N),ck (UI N),ck (UK N),ck (UM N),ck (UO N),ck (UQ N)] false false) (N:=N) (.o (.o (.two (.meet ⟨[(9, .l ae)],[(128, .box 45 (.leaf af))],[],177⟩ (.o (.o (.meet ⟨[(38, .l .bool)],[],[],240⟩ .nil .nil))) .nil) .nil))) Tryz.func71 (by kernel_rfl) fun x=>by kernel_rfl
def M.fE(N:Nat)(a0:Int)(a1:Int)(a2:Int):Option (Int×Int):=
((if(decide (a0<1900))then
some true
else
(if(decide (2199<a0))then
some true
else
(if(decide (a1<1))then
some true
else
(if(decide (12<a1))then
some true
else
(if(decide (a2<1))then
some true
else
(M.bS N a0 a1).bind fun y2=>
some (decide (y2<a2))))))):Option Bool).bind fun j1=>
(if j1 then
some (0,3)
else
(M.cr N a0).bind fun y3=>
(Loop (S:=Int×Int) (X:=Int) (fun s5=>
(if(decide (s5.2<(X6.wrap (a1-1))))then
(M.bS N a0 (X6.wrap (s5.2+1))).bind fun y6=>
some (.inl (X6.wrap (s5.1+y6),X6.wrap (s5.2+1)))
else
some (.inr s5.1))) N (y3,0):Option Int).bind fun j4=>
some (X6.wrap ((X6.wrap (j4+a2))-1),0))
def UT(N:Nat):bf:=⟨⟨[(0, .l ae),(1, .l ae),(2, .l ae)],[],[],0⟩,⟨[(0, .l ae),(1, .l ae)],[],[],0⟩,fun(x:Int×Int×Int)=>M.fE N x.1 x.2.1 x.2.2⟩
theorem UW(N:Nat):aC Tryz.prog 93 (UT N):=fw (en [ck (Rs N),ck (OT N)] false false) (N:=N) (.o (.two (.meet ⟨[(34, .l .bool)],[],[],32⟩ .nil .nil) (.o (.meet ⟨[(8, .l ae)],[],[],80⟩ (.o (.two (.loop ⟨[(8, .l ae),(39, .l ae)],[],[],128⟩ .nil) .nil)) .nil)))) Tryz.func93 (by kernel_rfl) fun x=>by kernel_rfl
def M.bM(N:Nat)(a0:Int)(a1:Int):Option (Int×Int):=
((M.eB N a0).bind fun y2=>
(if(!y2)then
some true
else
(if(decide (a1<(-3600)))then
some true
else
some (decide (3600<a1)))):Option Bool).bind fun j1=>
(if j1 then
some (0,3)
else
(M.cu N a0).bind fun y3=>
((if(decide ((X6.wrap ((X6.wrap ((X6.wrap ((X6.wrap ((X6.wrap (y3.1-1900))*12))+y3.2.1))-1))+a1))<0))then
some true
else
some (decide (3599<(X6.wrap ((X6.wrap ((X6.wrap ((X6.wrap ((X6.wrap (y3.1-1900))*12))+y3.2.1))-1))+a1))))):Option Bool).bind fun j4=>
(if j4 then
some (0,3)
else
(M.bS N (X6.wrap (1900+(X6.wrap (Yn (X6.wrap ((X6.wrap ((X6.wrap ((X6.wrap ((X6.wrap (y3.1-1900))*12))+y3.2.1))-1))+a1)) 12)))) (X6.wrap ((Yl (X6.wrap ((X6.wrap ((X6.wrap ((X6.wrap ((X6.wrap (y3.1-1900))*12))+y3.2.1))-1))+a1)) 12)+1))).bind fun y5=>
(M.fE N (X6.wrap (1900+(X6.wrap (Yn (X6.wrap ((X6.wrap ((X6.wrap ((X6.wrap ((X6.wrap (y3.1-1900))*12))+y3.2.1))-1))+a1)) 12)))) (X6.wrap ((Yl (X6.wrap ((X6.wrap ((X6.wrap ((X6.wrap ((X6.wrap (y3.1-1900))*12))+y3.2.1))-1))+a1)) 12)+1)) (if y5<y3.2.2 then y5 else y3.2.2)).bind fun y6=>
some (y6.1,y6.2)))
def UX(N:Nat):bf:=⟨⟨[(0, .l ae),(1, .l ae)],[],[],0⟩,⟨[(0, .l ae),(1, .l ae)],[],[],0⟩,fun(x:Int×Int)=>M.bM N x.1 x.2⟩
theorem Rt(N:Nat):aC Tryz.prog 72 (UX N):=fw (en [ck (OU N),ck (ON N),ck (OT N),ck (UW N)] false false) (N:=N) (.o (.two (.meet ⟨[(20, .l .bool)],[],[],32⟩ .nil .nil) (.o (.o (.two (.meet ⟨[(40, .l .bool)],[],[],320⟩ .nil .nil) .nil))))) Tryz.func72 (by kernel_rfl) fun x=>by kernel_rfl
def M.cv(N:Nat)(a0:Int)(a1:Int):Option Int:=
((M.eB N a0).bind fun y2=>
(if(!y2)then
some true
else
(M.eB N a1).bind fun y3=>
(if(!y3)then
some true
else
some (decide (a1<a0)))):Option Bool).bind fun j1=>
(if j1 then
some 0
else
(M.cu N a0).bind fun y4=>
(M.cu N a1).bind fun y5=>
((M.bM N a0 (X6.wrap (12*(X6.wrap (y5.1-y4.1))))).bind fun y7=>
((if(!decide (y7.2=0))then
some true
else
some (decide (a1<y7.1))):Option Bool).bind fun j8=>
(if j8 then
some (X6.wrap ((X6.wrap (y5.1-y4.1))-1))
else
some (X6.wrap (y5.1-y4.1))):Option Int).bind fun j6=>
some (if j6<0 then 0 else j6))
def UY(N:Nat):bf:=⟨⟨[(0, .l ae),(1, .l ae)],[],[],0⟩,⟨[(0, .l ae)],[],[],0⟩,fun(x:Int×Int)=>M.cv N x.1 x.2⟩
theorem UZ(N:Nat):aC Tryz.prog 73 (UY N):=fw (en [ck (OU N),ck (Rt N),ck (ON N)] false false) (N:=N) (.o (.two (.meet ⟨[(26, .l .bool)],[],[],16⟩ .nil .nil) (.o (.o (.o (.meet ⟨[(11, .l ae)],[],[],368⟩ (.o (.meet ⟨[(55, .l .bool)],[],[],512⟩ .nil .nil)) .nil)))))) Tryz.func73 (by kernel_rfl) fun x=>by kernel_rfl
def M.aN(N:Nat)(a0:aa.den)(a1:af.den)(a2:af.den):Option (af.den×Int):=
((if(decide (a0.1=11))then
some (decide (a0.1=11))
else
some (decide (a0.1=27))):Option Bool).bind fun j1=>
(if j1 then
some ((a1.1,(0,X6.wrap (a1.2.2+a2.2.2))),0)
else
(if(decide (a0.1=12))then
some ((a1.1,(0,X6.wrap (a1.2.2-a2.2.2))),0)
else
((if(decide (a0.1=13))then
some (decide (a0.1=13))
else
(if(decide (a0.1=14))then
some (decide (a0.1=14))
else
(if(decide (a0.1=15))then
some (decide (a0.1=15))
else
some (decide (a0.1=16))))):Option Bool).bind fun j2=>
(if j2 then
(M.ek N a0 a1 a2).bind fun y3=>
some (y3.1,y3.2)
else
((if(decide (a0.1=17))then
some (decide (a0.1=17))
else
some (decide (a0.1=18))):Option Bool).bind fun j4=>
(if j4 then
(if(decide ((decide (a0.1=17))=(decide (a2.2.2<a1.2.2))))then
some (a2,0)
else
some (a1,0))
else
(if(decide (a0.1=19))then
(M.cn N (decide (a1.2.2=a2.2.2))).bind fun y5=>
some (y5,0)
else
(if(decide (a0.1=20))then
(M.cn N (!decide (a1.2.2=a2.2.2))).bind fun y6=>
some (y6,0)
else
(if(decide (a0.1=21))then
(M.cn N (decide (a1.2.2<a2.2.2))).bind fun y7=>
some (y7,0)
else
(if(decide (a0.1=22))then
(M.cn N (decide (a1.2.2<=a2.2.2))).bind fun y8=>
some (y8,0)
else
(if(decide (a0.1=23))then
((if(decide (a1.2.2=1))then
(M.cn N (decide (a2.2.2=1))).bind fun kF=>
some (0,kF)
else
(M.cn N false).bind fun ph=>
some (0,ph)):Option (Int×af.den)).bind fun j9=>
some (j9.2,j9.1)
else
(if(decide (a0.1=24))then
((if(decide (a1.2.2=1))then
(M.cn N true).bind fun pX=>
some (0,pX)
else
(M.cn N (decide (a2.2.2=1))).bind fun lc=>
some (0,lc)):Option (Int×af.den)).bind fun CU=>
some (CU.2,CU.1)
else
(if(decide (a0.1=28))then
(M.bM N a1.2.2 a2.2.2).bind fun mM=>
some ((5,(0,mM.1)),mM.2)
else
(if(decide (a0.1=29))then
some ((2,(0,X6.wrap (a2.2.2-a1.2.2))),0)
else
(M.cv N a1.2.2 a2.2.2).bind fun wG=>
some ((2,(0,wG)),0)))))))))))))
def U0(N:Nat):bf:=⟨⟨[(0, .g aa),(1, .g af),(2, .g af)],[],[],0⟩,⟨[(0, .g af),(1, .l ae)],[],[],0⟩,fun(x:aa.den×af.den×af.den)=>M.aN N x.1 x.2.1 x.2.2⟩
theorem U1(N:Nat):aC Tryz.prog 55 (U0 N):=fw (en [ck (Rr N),ck (US N),ck (Rt N),ck (UZ N)] false false) (N:=N) (.o (.two (.o (.two (.meet ⟨[(12, .l .bool)],[],[],112⟩ .nil (.o (.o (.o (.meet ⟨[(33, .l .bool)],[],[],144⟩ .nil (.o (.meet ⟨[(44, .l .bool)],[],[],144⟩ .nil (.o (.o (.o (.o (.o (.o (.o (.o (.o (.o (.two (.meet ⟨[(7, .l ae)],[(48, .box 45 (.leaf af))],[],305⟩ .nil .nil) (.o (.two (.meet ⟨[(7, .l ae)],[(48, .box 45 (.leaf af))],[],337⟩ .nil .nil) .nil)))))))))))))))))))) .nil)) .nil)) Tryz.func55 (by kernel_rfl) fun x=>by kernel_rfl
def M.aK(N:Nat)(a0:aa.den)(a1:List af.den)(a2:aP.den):Option (af.den×Int):=
((if(decide (a0.1=1))then
some (decide (a0.1=1))
else
(if(decide (a0.1=2))then
some (decide (a0.1=2))
else
(if(decide (a0.1=3))then
some (decide (a0.1=3))
else
(if(decide (a0.1=4))then
some (decide (a0.1=4))
else
some (decide (a0.1=5)))))):Option Bool).bind fun j1=>
(if j1 then
some ((a0.1,(0,a0.2)),0)
else
(if(decide (a0.1=6))then
some ((6,(X6.wrap (Yn a0.2 16),Yl a0.2 16)),0)
else
(if(decide (a0.1=7))then
(idx a2.2.1 a0.2).bind fun x2=>
some (x2,0)
else
(if(decide (a0.1=8))then
(idx a2.2.2.1 a0.2).bind fun x3=>
some (x3,0)
else
(if(decide (a0.1=9))then
some ((5,(0,a2.1)),0)
else
(if(decide (a0.1=35))then
some ((2,(0,(a2.2.2.2.1.length:Int))),0)
else
((if(decide (a0.1=36))then
some (decide (a0.1=36))
else
(if(decide (a0.1=37))then
some (decide (a0.1=37))
else
(if(decide (a0.1=38))then
some (decide (a0.1=38))
else
some (decide (a0.1=39))))):Option Bool).bind fun j4=>
(if j4 then
(M.dl N a0 a2).bind fun y5=>
some (y5.1,y5.2)
else
(if(decide (a0.1=33))then
(idx a2.2.2.2.2.2 a0.2).bind fun x6=>
(idx a1 0).bind fun x7=>
(M.fC N x6 a2.1 x7.2.2).bind fun y8=>
(if(!y8.2)then
some ((0,(0,0)),6)
else
(idx x6.2.2.2 y8.1).bind fun x9=>
some ((x6.2.2.1.1,(x6.2.2.1.2,x9.2.2.2)),0))
else
(if(decide (a0.1=34))then
(idx a2.2.2.2.2.2 (X6.wrap (Yn a0.2 8))).bind fun rI=>
(idx a1 0).bind fun pi=>
(M.dx N rI a2.1 pi.2.2 (Yl a0.2 8)).bind fun mL=>
some ((3,(0,mL.1)),mL.2)
else
(if(decide ((a1.length:Int)=1))then
(idx a1 0).bind fun kY=>
(M.eC N a0.1 kY).bind fun lc=>
some (lc,0)
else
(if(decide ((a1.length:Int)=2))then
(idx a1 0).bind fun uW=>
(idx a1 1).bind fun Ca=>
(M.aN N a0 uW Ca).bind fun GU=>
some (GU.1,GU.2)
else
(idx a1 0).bind fun yM=>
(if(decide (yM.2.2=1))then
(idx a1 1).bind fun GV=>
some (GV,0)
else
(idx a1 2).bind fun O1=>
some (O1,0)))))))))))))
def U2(N:Nat):bf:=⟨⟨[(0, .g aa),(1, .l (.slice af)),(2, .g aP)],[],[],0⟩,⟨[(0, .g af),(1, .l ae)],[],[],0⟩,fun(x:aa.den×(List af.den)×aP.den)=>M.aK N x.1 x.2.1 x.2.2⟩
theorem U3(N:Nat):aC Tryz.prog 37 (U2 N):=fw (en [ck (Ul N),ck (Uq N),ck (Uz N),ck (UG N),ck (U1 N)] false false) (N:=N) (.o (.two (.o (.two (.meet ⟨[(15, .l .bool)],[],[],96⟩ .nil (.o (.o (.o (.o (.o (.o (.o (.o (.o (.o (.o (.meet ⟨[(62, .l .bool)],[],[],256⟩ .nil .nil))))))))))))) .nil)) .nil)) Tryz.func37 (by kernel_rfl) fun x=>by kernel_rfl
def M.aZ(N:Nat)(a0:aa.den)(a1:List af.den)(a2:aP.den):Option (af.den×Int):=
((M.bP N a0).bind fun y2=>
(if(!y2)then
some true
else
(M.eA N a0.1).bind fun y3=>
some (!decide ((a1.length:Int)=y3))):Option Bool).bind fun j1=>
(if j1 then
some ((0,(0,0)),2)
else
(M.cz N a0 a2).bind fun y4=>
(if(!y4)then
some ((0,(0,0)),6)
else
((M.bl N a1).bind fun y6=>
(if(!y6)then
some true
else
(M.aI N a0 a1 a2).bind fun y7=>
some (!y7)):Option Bool).bind fun j5=>
(if j5 then
some ((0,(0,0)),8)
else
(M.aK N a0 a1 a2).bind fun y8=>
(if(!decide (y8.2=0))then
some ((0,(0,0)),y8.2)
else
(M.bY N y8.1).bind fun y9=>
(if(!y9)then
some ((0,(0,0)),3)
else
some (y8.1,0))))))
def U4(N:Nat):bf:=⟨⟨[(0, .g aa),(1, .l (.slice af)),(2, .g aP)],[],[],0⟩,⟨[(0, .g af),(1, .l ae)],[],[],0⟩,fun(x:aa.den×(List af.den)×aP.den)=>M.aZ N x.1 x.2.1 x.2.2⟩
theorem U5(N:Nat):aC Tryz.prog 26 (U4 N):=fw (en [ck (Lf N),ck (TW N),ck (TY N),ck (T5 N),ck (Uj N),ck (U3 N),ck (Lh N)] false false) (N:=N) (.o (.two (.meet ⟨[(20, .l .bool)],[],[],64⟩ .nil .nil) (.o (.two (.meet ⟨[(36, .l .bool)],[],[],128⟩ .nil .nil) .nil)))) Tryz.func26 (by kernel_rfl) fun x=>by kernel_rfl
def M.bV(N:Nat)(a0:af.den):Option (aa.den):=
(if(decide (a0.1=1))then
some (1,a0.2.2)
else
(if(decide (a0.1=2))then
some (2,a0.2.2)
else
(if(decide (a0.1=3))then
some (3,a0.2.2)
else
(if(decide (a0.1=4))then
some (4,a0.2.2)
else
(if(decide (a0.1=5))then
some (5,a0.2.2)
else
some (6,X6.wrap ((X6.wrap (16*a0.2.1))+a0.2.2)))))))
def U6(N:Nat):bf:=⟨⟨[(0, .g af)],[],[],0⟩,⟨[(0, .g aa)],[],[],0⟩,fun(x:af.den)=>M.bV N x⟩
theorem U7(N:Nat):aC Tryz.prog 27 (U6 N):=fw (en [] false false) (N:=N) .nil Tryz.func27 (by kernel_rfl) fun x=>by kernel_rfl
def M.cM(N:Nat)(a0:List aa.den)(a1:Int):Option (aa.den×Int×Bool):=
(idx a0 a1).bind fun x1=>
(M.bZ N x1.1).bind fun y2=>
(if y2 then
some ((0,0),0,false)
else
(M.eA N x1.1).bind fun y3=>
((if(decide (y3<1))then
some true
else
some (decide (a1<y3))):Option Bool).bind fun j4=>
(if j4 then
some ((0,0),0,false)
else
da (J:=List af.den) (R:=aa.den×Int×Bool) ((fO a0 (X6.wrap (a1-y3)) a1).bind fun l6=>
Loop (S:=Int×List af.den) (X:=(List af.den)⊕(aa.den×Int×Bool)) (fun s7=>
(if(decide (s7.1<(l6.length:Int)))then
(idx l6 s7.1).bind fun x8=>
(M.bB N x8).bind fun y9=>
(if(!y9.2)then
some (.inr (.inr ((0,0),0,false)))
else
(eW s7.2 ([y9.1]:List af.den)).bind fun GW=>
some (.inl (X6.wrap (s7.1+1),GW)))
else
some (.inr (.inl s7.2)))) N (0,([]:List af.den))) fun j5=>
da (J:=Unit) (R:=aa.den×Int×Bool) (Loop (S:=Int) (X:=Unit⊕(aa.den×Int×Bool)) (fun qY=>
(if(decide (qY<(a0.length:Int)))then
(idx a0 qY).bind fun kY=>
((M.bZ N kY.1).bind fun mM=>
(if mM then
(if(decide ((X6.wrap (a1-y3))<kY.2))then
some (decide (kY.2<=a1))
else
some false)
else
some false):Option Bool).bind fun yK=>
(if yK then
some (.inr (.inr ((0,0),0,false)))
else
some (.inl (X6.wrap (qY+1))))
else
some (.inr (.inl ())))) N 0) fun uD=>
(M.aZ N x1 j5 (0,(([]:List af.den),(([]:List af.den),(([]:List (List af.den)),(([]:List aa.den),([]:List cG.den))))))).bind fun wG=>
(if(!decide (wG.2=0))then
some ((0,0),0,false)
else
(M.bV N wG.1).bind fun GU=>
some (GU,y3,true))))
def U8(N:Nat):bf:=⟨⟨[(0, .l (.slice aa)),(1, .l ae)],[],[],0⟩,⟨[(0, .g aa),(1, .l ae),(2, .l .bool)],[],[],0⟩,fun(x:(List aa.den)×Int)=>M.cM N x.1 x.2⟩
theorem U9(N:Nat):aC Tryz.prog 17 (U8 N):=fw (en [ck (Lg N),ck (Lf N),ck (TS N),ck (U5 N),ck (U7 N)] false false) (N:=N) (.o (.o (.o (.o (.two (.meet ⟨[(35, .l .bool)],[],[],256⟩ .nil .nil) (.o (.join ⟨[(9, .val false (.own 272))],[(272, .own 45 af)],[],273⟩ (.o (.two (.loop ⟨[(9, .val false (.own 400)),(44, .l ae)],[(400, .own 45 af)],[],401⟩ .nil) .nil)) (.join ⟨[],[],[],273⟩ (.o (.two (.loop ⟨[(63, .l ae)],[],[],321⟩ (.o (.o (.two (.two (.o (.meet ⟨[(83, .l .bool)],[],[],401⟩ .nil .nil)) .nil) .nil)))) .nil)) .nil)))))))) Tryz.func17 (by kernel_rfl) fun x=>by kernel_rfl
def M.a9(N:Nat)(a0:List aa.den)(a1:Int)(a2:Int)(a3:aa.den):Option (List aa.den):=
(fO a0 0 (X6.wrap (a1-a2))).bind fun l1=>
(eW ([]:List aa.den) l1).bind fun l2=>
(eW l2 ([a3]:List aa.den)).bind fun l3=>
(fO a0 (X6.wrap (a1+1)) (a0.length:Int)).bind fun l4=>
(eW l3 l4).bind fun l5=>
Loop (S:=Int×List aa.den) (X:=List aa.den) (fun s6=>
(if(decide (s6.1<(l5.length:Int)))then
((idx s6.2 s6.1).bind fun x8=>
((M.bZ N x8.1).bind fun kF=>
(if kF then
some (decide (a1<x8.2))
else
some false):Option Bool).bind fun j9=>
(if j9 then
(idx s6.2 s6.1).bind fun pi=>
(idx s6.2 s6.1).bind fun uV=>
some (aQ s6.2 s6.1 (uV.1,X6.wrap (pi.2-a2)))
else
some s6.2):Option (List aa.den)).bind fun j7=>
some (.inl (X6.wrap (s6.1+1),j7))
else
some (.inr s6.2))) N (0,l5)
def Va(N:Nat):bf:=⟨⟨[(0, .l (.slice aa)),(1, .l ae),(2, .l ae),(3, .g aa)],[],[],0⟩,⟨[(0, .val false (.own 0))],[(0, .own 28 aa)],[],1⟩,fun(x:(List aa.den)×Int×Int×aa.den)=>M.a9 N x.1 x.2.1 x.2.2.1 x.2.2.2⟩
theorem Vb(N:Nat):aC Tryz.prog 18 (Va N):=fw (en [ck (Lg N)] false false) (N:=N) (.o (.o (.o (.o (.o (.two (.o (.two (.loop ⟨[(31, .l ae)],[(336, .own 28 aa)],[],417⟩ (.o (.o (.two (.meet ⟨[],[(336, .own 28 aa)],[],434⟩ (.o (.meet ⟨[(44, .l .bool)],[],[],529⟩ .nil .nil)) .nil) .nil)))) .nil)) .nil)))))) Tryz.func18 (by kernel_rfl) fun x=>by kernel_rfl
def M.aL(N:Nat)(a0:List aa.den):Option (List aa.den):=
da (J:=List aa.den) (R:=List aa.den) ((M.aE N a0).bind fun y1=>
(M.bE N a0).bind fun y2=>
(if(!y2)then
some (.inr y1)
else
some (.inl y1)):Option ((List aa.den)⊕(List aa.den))) fun s3=>
Loop (S:=List aa.den) (X:=List aa.den) (fun s4=>
da (J:=List aa.den) (R:=(List aa.den)⊕(List aa.den)) (Loop (S:=Int×List aa.den) (X:=(List aa.den)⊕((List aa.den)⊕(List aa.den))) (fun s6=>
(if(decide (s6.1<(s4.length:Int)))then
(M.cM N s6.2 s6.1).bind fun y7=>
(if y7.2.2 then
(M.a9 N s6.2 s6.1 y7.2.1 y7.1).bind fun y8=>
some (.inr (.inr (.inl y8)))
else
some (.inl (X6.wrap (s6.1+1),s6.2)))
else
some (.inr (.inl s6.2)))) N (0,s4)) fun j5=>
some (.inr j5)) N s3
def S7(N:Nat):bf:=⟨⟨[(0, .l (.slice aa))],[],[],0⟩,⟨[(0, .val false (.own 0))],[(0, .own 28 aa)],[],1⟩,fun(x:List aa.den)=>M.aL N x⟩
theorem W7(N:Nat):aC Tryz.prog 7 (S7 N):=EN (E:=(en [ck (Oy N),ck (Oz N),ck (U9 N),ck (Vb N)] false false)) (N:=N) (l:=0) (L:=⟨[(3, .val false (.own 16))],[(16, .own 28 aa)],[],17⟩) (a0:= .nil) (a1:=(.o (.two .nil .nil))) (a2:=(.join ⟨[(3, .val false (.own 16))],[(16, .own 28 aa)],[],18⟩ (.o (.two (.loop ⟨[(3, .val false (.own 16)),(16, .l ae)],[(16, .own 28 aa)],[],66⟩ .nil) .nil)) .nil)) (sg:=S7 N) (c:=Tryz.f7.body.getD .skip) (rs:=Tryz.f7.results.toList) Tryz.func7 (by kernel_rfl) (by kernel_rfl) rfl rfl rfl rfl (fun x=>by kernel_rfl)
def M.eD(N:Nat)(a0:List aa.den)(a1:List aa.den):Option Bool:=
(if(!decide ((a0.length:Int)=(a1.length:Int)))then
some false
else
Loop (S:=Int) (X:=Bool) (fun s1=>
((if(decide (s1<(a0.length:Int)))then
some (decide (s1<(a1.length:Int)))
else
some false):Option Bool).bind fun j2=>
(if j2 then
(idx a0 s1).bind fun x3=>
(idx a1 s1).bind fun x4=>
(if(!(tE aa x3 x4))then
some (.inr false)
else
some (.inl (X6.wrap (s1+1))))
else
some (.inr true))) N 0)
def S8(N:Nat):bf:=⟨⟨[(0, .l (.slice aa)),(1, .l (.slice aa))],[],[],0⟩,⟨[(0, .l .bool)],[],[],0⟩,fun(x:(List aa.den)×List aa.den)=>M.eD N x.1 x.2⟩
theorem W8(N:Nat):aC Tryz.prog 8 (S8 N):=fw (en [] false false) (N:=N) (.o (.o (.two (.o (.two (.loop ⟨[(5, .l ae)],[],[],112⟩ (.two (.meet ⟨[(20, .l .bool)],[],[],112⟩ .nil .nil) .nil)) .nil)) .nil))) Tryz.func8 (by kernel_rfl) fun x=>by kernel_rfl
def M.bo(N:Nat)(a0:List aa.den):Option (List aa.den):=
(M.aE N a0).bind fun y1=>
(M.bE N a0).bind fun y2=>
(if(!y2)then
some y1
else
Loop (S:=Int×List aa.den) (X:=List aa.den) (fun s3=>
(if(decide (s3.1<(a0.length:Int)))then
(((idx a0 s3.1).bind fun x6=>
(M.bZ N x6.1).bind fun y7=>
(if(!y7)then
some s3.2
else
(Loop (S:=Int) (X:=Int) (fun s9=>
((if(decide (0<=s9))then
(if(decide (s9<(a0.length:Int)))then
(idx a0 s9).bind fun pi=>
(if(decide (pi.1=51))then
(idx a0 s9).bind fun uV=>
some (decide (s9<uV.2))
else
some false)
else
some false)
else
some false):Option Bool).bind fun yJ=>
(if yJ then
(idx a0 s9).bind fun kY=>
some (.inl kY.2)
else
some (.inr s9))) N x6.2:Option Int).bind fun j8=>
(idx s3.2 s3.1).bind fun xB=>
some (aQ s3.2 s3.1 (xB.1,j8))):Option (List aa.den)).bind fun j5=>
some j5:Option (List aa.den)).bind fun j4=>
some (.inl (X6.wrap (s3.1+1),j4))
else
some (.inr s3.2))) N (0,y1))
def S6(N:Nat):bf:=⟨⟨[(0, .l (.slice aa))],[],[],0⟩,⟨[(0, .val false (.own 0))],[(0, .own 28 aa)],[],1⟩,fun(x:List aa.den)=>M.bo N x⟩
theorem W6(N:Nat):aC Tryz.prog 6 (S6 N):=fw (en [ck (Oy N),ck (Oz N),ck (Lg N)] false false) (N:=N) (.o (.o (.o (.two (.o (.two (.loop ⟨[(15, .l ae)],[(32, .own 28 aa)],[],161⟩ (.o (.o (.meet ⟨[],[(32, .own 28 aa)],[],178⟩ (.meet ⟨[],[(32, .own 28 aa)],[],178⟩ (.o (.o (.o (.meet ⟨[(6, .l ae)],[],[],385⟩ (.two (.loop ⟨[(6, .l ae)],[],[],385⟩ (.two (.meet ⟨[(50, .l .bool)],[],[],385⟩ .nil .nil) .nil)) .nil) .nil)))) .nil) .nil)))) .nil)) .nil)))) Tryz.func6 (by kernel_rfl) fun x=>by kernel_rfl
def M.dL(N:Nat)(a0:List aa.den):Option (List aa.den):=
(M.aL N a0).bind fun y1=>
(M.bo N y1).bind fun y2=>
(M.aJ N y2).bind fun y3=>
some y3
def S9(N:Nat):bf:=⟨⟨[(0, .l (.slice aa))],[],[],0⟩,⟨[(0, .val false (.own 0))],[(0, .own 28 aa)],[],1⟩,fun(x:List aa.den)=>M.dL N x⟩
theorem W9(N:Nat):aC Tryz.prog 9 (S9 N):=fw (en [ck (W5 N),ck (W6 N),ck (W7 N)] false false) (N:=N) .nil Tryz.func9 (by kernel_rfl) fun x=>by kernel_rfl
def M.jy(N:Nat):Option Bool:=
((M.aL N ([(2,2),(2,3),(11,0)]:List aa.den)).bind fun y2=>
(M.eD N y2 ([(2,5)]:List aa.den)).bind fun y3=>
(if y3 then
(M.aL N ([(2,1),(2,0),(15,0)]:List aa.den)).bind fun y4=>
(M.eD N y4 ([(2,1),(2,0),(15,0)]:List aa.den)).bind fun y5=>
(if y5 then
(M.aJ N ([(51,2),(11,0),(8,4)]:List aa.den)).bind fun y6=>
(fO ([(51,2),(11,0),(8,4)]:List aa.den) 2 (([(51,2),(11,0),(8,4)]:List aa.den).length:Int)).bind fun l7=>
(M.eD N y6 l7).bind fun y8=>
(if y8 then
(M.dL N ([(51,2),(11,0),(8,4)]:List aa.den)).bind fun y9=>
(fO ([(51,2),(11,0),(8,4)]:List aa.den) 2 (([(51,2),(11,0),(8,4)]:List aa.den).length:Int)).bind fun GW=>
(M.eD N y9 GW).bind fun ph=>
some ph
else
some false)
else
some false)
else
some false):Option Bool).bind fun j1=>
some j1
def S4(N:Nat):bf:=⟨⟨[],[],[],0⟩,⟨[(0, .l .bool)],[],[],0⟩,fun(x:Unit)=>M.jy N⟩
theorem W4(N:Nat):aC Tryz.prog 4 (S4 N):=fw (en [ck (W5 N),ck (W7 N),ck (W8 N),ck (W9 N)] false false) (N:=N) (.o (.o (.o (.o (.meet ⟨[(0, .l .bool)],[],[],256⟩ .nil .nil))))) Tryz.func4 (by kernel_rfl) fun x=>by kernel_rfl
def M.hZ(N:Nat)(a0:Int):Option Bool:=
((if(decide (50<=a0))then
some (decide (a0<=53))
else
some false):Option Bool).bind fun j1=>
some j1
def Vc(N:Nat):bf:=⟨⟨[(0, .l ae)],[],[],0⟩,⟨[(0, .l .bool)],[],[],0⟩,fun(x:Int)=>M.hZ N x⟩
theorem Ru(N:Nat):aC Tryz.prog 57 (Vc N):=fw (en [] false false) (N:=N) (.o (.meet ⟨[(2, .l .bool)],[],[],16⟩ .nil .nil)) Tryz.func57 (by kernel_rfl) fun x=>by kernel_rfl
def M.fm(N:Nat)(a0:Int):Option Int:=
((if(decide (1<=a0))then
(if(decide (a0<=9))then
some true
else
(if(decide (35<=a0))then
some (decide (a0<=39))
else
some false))
else
(if(decide (35<=a0))then
some (decide (a0<=39))
else
some false)):Option Bool).bind fun j1=>
(if j1 then
some 0
else
((if(decide (a0=10))then
some (decide (a0=10))
else
(if(decide (a0=25))then
some (decide (a0=25))
else
(if(decide (a0=31))then
some (decide (a0=31))
else
(if(decide (a0=32))then
some (decide (a0=32))
else
(if(decide (a0=33))then
some (decide (a0=33))
else
some (decide (a0=34))))))):Option Bool).bind fun j2=>
(if j2 then
some 1
else
(if(decide (a0=26))then
some 3
else
((if(decide (11<=a0))then
some (decide (a0<=30))
else
some false):Option Bool).bind fun j3=>
(if j3 then
some 2
else
some (-1)))))
def Vd(N:Nat):bf:=⟨⟨[(0, .l ae)],[],[],0⟩,⟨[(0, .l ae)],[],[],0⟩,fun(x:Int)=>M.fm N x⟩
theorem O2(N:Nat):aC Tryz.prog 59 (Vd N):=fw (en [] false false) (N:=N) (.o (.two (.meet ⟨[(16, .l .bool)],[],[],16⟩ .nil .nil) (.two (.o (.two (.meet ⟨[(18, .l .bool)],[],[],32⟩ .nil .nil) .nil)) (.two (.meet ⟨[(32, .l .bool)],[],[],64⟩ .nil .nil) .nil)))) Tryz.func59 (by kernel_rfl) fun x=>by kernel_rfl
def M.gq(N:Nat)(a0:Int):Option Int:=
(if(decide (a0=51))then
some 0
else
(M.hZ N a0).bind fun y1=>
(if y1 then
some 1
else
((if(decide (a0=23))then
some true
else
(if(decide (a0=24))then
some true
else
some (decide (a0=26)))):Option Bool).bind fun j2=>
(if j2 then
some (-1)
else
(M.fm N a0).bind fun y3=>
some y3)))
def Ve(N:Nat):bf:=⟨⟨[(0, .l ae)],[],[],0⟩,⟨[(0, .l ae)],[],[],0⟩,fun(x:Int)=>M.gq N x⟩
theorem Rv(N:Nat):aC Tryz.prog 56 (Ve N):=fw (en [ck (Ru N),ck (O2 N)] false false) (N:=N) (.o (.o (.o (.two (.meet ⟨[(16, .l .bool)],[],[],80⟩ .nil .nil) .nil)))) Tryz.func56 (by kernel_rfl) fun x=>by kernel_rfl
def M.jh(N:Nat)(a0:aa.den)(a1:Int):Option (Int×Int):=
(if(decide (a0.1=51))then
some ((-1),a1)
else
(if(decide (a0.1=50))then
some (X6.wrap (a1-1),X6.wrap (a1-1))
else
((if(decide (a0.1=52))then
some (decide (a0.1=52))
else
some (decide (a0.1=53))):Option Bool).bind fun j1=>
(if j1 then
some (X6.wrap (a1-1),a1)
else
(M.gq N a0.1).bind fun y2=>
some (X6.wrap ((X6.wrap (a1-y2))+1),(-1)))))
def Vf(N:Nat):bf:=⟨⟨[(0, .g aa),(1, .l ae)],[],[],0⟩,⟨[(0, .l ae),(1, .l ae)],[],[],0⟩,fun(x:aa.den×Int)=>M.jh N x.1 x.2⟩
theorem Vg(N:Nat):aC Tryz.prog 58 (Vf N):=fw (en [ck (Rv N)] false false) (N:=N) (.o (.two (.o (.two (.o (.o (.o (.o (.meet ⟨[(17, .l .bool)],[],[],144⟩ .nil .nil))))) .nil)) .nil)) Tryz.func58 (by kernel_rfl) fun x=>by kernel_rfl
def M.kG(N:Nat)(a0:List aa.den):Option (Int×Int):=
(if(decide (128<(a0.length:Int)))then
some (0,4)
else
(if(decide ((a0.length:Int)=0))then
some (0,5)
else
(rK (X6.wrap ((a0.length:Int)+1)) 0).bind fun l1=>
(Loop (S:=Int×List Int) (X:=List Int) (fun s3=>
(if(decide (s3.1<=(a0.length:Int)))then
(idx s3.2 s3.1).bind fun x4=>
some (.inl (X6.wrap (s3.1+1),aQ s3.2 s3.1 (-1)))
else
some (.inr s3.2))) N (1,l1):Option (List Int)).bind fun j2=>
da (J:=List Int) (R:=Int×Int) (Loop (S:=Int×List Int) (X:=(List Int)⊕(Int×Int)) (fun s6=>
(if(decide (s6.1<(a0.length:Int)))then
da (J:=List Int) (R:=(Int×List Int)⊕((List Int)⊕(Int×Int))) ((idx s6.2 s6.1).bind fun x8=>
(if(decide (x8<0))then
some (.inl s6.2)
else
(idx a0 s6.1).bind fun x9=>
(M.gq N x9.1).bind fun kF=>
((if(decide (kF<0))then
some true
else
(M.hZ N x9.1).bind fun mL=>
(if mL then
(if(decide (x9.2<=s6.1))then
some true
else
some (decide ((a0.length:Int)<x9.2)))
else
some false)):Option Bool).bind fun uD=>
(if uD then
some (.inr (.inr (.inr (0,2))))
else
(idx s6.2 s6.1).bind fun kY=>
(if(decide (kY<kF))then
some (.inr (.inr (.inr (0,5))))
else
(idx s6.2 s6.1).bind fun xB=>
(M.jh N x9 xB).bind fun mM=>
(if(decide (12<mM.1))then
some (.inr (.inr (.inr (0,16))))
else
da (J:=List Int) (R:=(List Int)⊕((Int×List Int)⊕((List Int)⊕(Int×Int)))) ((if(decide (0<=mM.1))then
((idx s6.2 (X6.wrap (s6.1+1))).bind fun yM=>
(if(decide (0<=yM))then
(idx s6.2 (X6.wrap (s6.1+1))).bind fun GV=>
some (!decide (GV=mM.1))
else
some false):Option Bool).bind fun Ji=>
(if Ji then
some (.inr (.inr (.inr (.inr (0,9)))))
else
(idx s6.2 (X6.wrap (s6.1+1))).bind fun O1=>
some (.inl (aQ s6.2 (X6.wrap (s6.1+1)) mM.1)))
else
some (.inl s6.2))) fun B9=>
(if(decide (0<=mM.2))then
((idx B9 x9.2).bind fun Lj=>
(if(decide (0<=Lj))then
(idx B9 x9.2).bind fun Lk=>
some (!decide (Lk=mM.2))
else
some false):Option Bool).bind fun O4=>
(if O4 then
some (.inr (.inr (.inr (0,9))))
else
(idx B9 x9.2).bind fun Vh=>
some (.inl (aQ B9 x9.2 mM.2)))
else
some (.inl B9))))))) fun j7=>
some (.inl (X6.wrap (s6.1+1),j7))
else
some (.inr (.inl s6.2)))) N (0,j2)) fun j5=>
(Loop (S:=Int×Int) (X:=Int) (fun ta=>
(if(decide (ta.2<=(a0.length:Int)))then
(idx j5 ta.2).bind fun Ih=>
some (.inl (if ta.1<Ih then Ih else ta.1,X6.wrap (ta.2+1)))
else
some (.inr ta.1))) N (0,0):Option Int).bind fun Vi=>
(idx j5 (a0.length:Int)).bind fun Vj=>
(if(decide (Vj<1))then
some (0,5)
else
(idx j5 (a0.length:Int)).bind fun Vk=>
(if(decide (1<Vk))then
some (0,4)
else
some (Vi,0)))))
def Vm(N:Nat):bf:=⟨⟨[(0, .l (.slice aa))],[],[],0⟩,⟨[(0, .l ae),(1, .l ae)],[],[],0⟩,fun(x:List aa.den)=>M.kG N x⟩
theorem Vn(N:Nat):aC Tryz.prog 39 (Vm N):=fw (en [ck (Rv N),ck (Ru N),ck (Vg N)] false false) (N:=N) (.o (.o (.o (.o (.meet ⟨[],[(176, .own 3 ae)],[],209⟩ (.o (.two (.loop ⟨[(5, .l ae)],[(176, .own 3 ae)],[],225⟩ .nil) .nil)) (.o (.join ⟨[],[(176, .own 3 ae)],[],226⟩ (.o (.two (.loop ⟨[(7, .l ae)],[(176, .own 3 ae)],[],242⟩ (.o (.two (.join ⟨[],[(176, .own 3 ae)],[],307⟩ (.o (.o (.o (.two (.meet ⟨[(69, .l .bool)],[],[],546⟩ .nil .nil) (.o (.o (.o (.join ⟨[],[(176, .own 3 ae)],[],851⟩ (.o (.two (.two (.meet ⟨[(103, .l .bool)],[],[],882⟩ .nil .nil) .nil) .nil)) (.o (.two (.two (.meet ⟨[(125, .l .bool)],[],[],883⟩ .nil .nil) .nil) .nil)))))))))) .nil) .nil))) .nil)) (.meet ⟨[(6, .l ae)],[],[],226⟩ (.o (.two (.loop ⟨[(6, .l ae),(12, .l ae)],[],[],242⟩ .nil) .nil)) .nil)))))))) Tryz.func39 (by kernel_rfl) fun x=>by kernel_rfl
def M.ed(N:Nat)(a0:List aa.den):Option Bool:=
(M.kG N a0).bind fun y1=>
some (decide (y1.2=0))
def Vo(N:Nat):bf:=⟨⟨[(0, .l (.slice aa))],[],[],0⟩,⟨[(0, .l .bool)],[],[],0⟩,fun(x:List aa.den)=>M.ed N x⟩
theorem O5(N:Nat):aC Tryz.prog 28 (Vo N):=fw (en [ck (Vn N)] false false) (N:=N) .nil Tryz.func28 (by kernel_rfl) fun x=>by kernel_rfl
def M.dQ(N:Nat)(a0:Int):Option Bool:=
((if(decide (a0=50))then
some true
else
(if(decide (a0=51))then
some true
else
(if(decide (a0=52))then
some true
else
some (decide (a0=53))))):Option Bool).bind fun j1=>
some j1
def Vp(N:Nat):bf:=⟨⟨[(0, .l ae)],[],[],0⟩,⟨[(0, .l .bool)],[],[],0⟩,fun(x:Int)=>M.dQ N x⟩
theorem Lv(N:Nat):aC Tryz.prog 30 (Vp N):=fw (en [] false false) (N:=N) (.o (.meet ⟨[(2, .l .bool)],[],[],16⟩ .nil .nil)) Tryz.func30 (by kernel_rfl) fun x=>by kernel_rfl
def M.dF(N:Nat)(a0:List aa.den):Option (List Bool):=
(rK (X6.wrap ((a0.length:Int)+1)) false).bind fun l1=>
(idx l1 0).bind fun x2=>
Loop (S:=Int×List Bool) (X:=List Bool) (fun s3=>
(if(decide (s3.1<(a0.length:Int)))then
((idx s3.2 s3.1).bind fun x5=>
(if(!x5)then
some s3.2
else
((idx a0 s3.1).bind fun x7=>
(M.dQ N x7.1).bind fun y8=>
(if y8 then
(idx a0 s3.1).bind fun x9=>
(idx s3.2 x9.2).bind fun rI=>
some (aQ s3.2 x9.2 true)
else
some s3.2):Option (List Bool)).bind fun j6=>
(idx a0 s3.1).bind fun pi=>
(if(!decide (pi.1=51))then
(idx j6 (X6.wrap (s3.1+1))).bind fun uV=>
some (aQ j6 (X6.wrap (s3.1+1)) true)
else
some j6)):Option (List Bool)).bind fun j4=>
some (.inl (X6.wrap (s3.1+1),j4))
else
some (.inr s3.2))) N (0,aQ l1 0 true)
def Vq(N:Nat):bf:=⟨⟨[(0, .l (.slice aa))],[],[],0⟩,⟨[(0, .val false (.own 0))],[(0, .own 4 .bool)],[],1⟩,fun(x:List aa.den)=>M.dF N x⟩
theorem Vr(N:Nat):aC Tryz.prog 40 (Vq N):=fw (en [ck (Lv N)] false false) (N:=N) (.o (.o (.o (.two (.o (.two (.loop ⟨[(4, .l ae)],[(64, .own 4 .bool)],[],161⟩ (.o (.two (.meet ⟨[],[(64, .own 4 .bool)],[],226⟩ (.o (.meet ⟨[],[(64, .own 4 .bool)],[],306⟩ .nil .nil)) .nil) .nil))) .nil)) .nil)))) Tryz.func40 (by kernel_rfl) fun x=>by kernel_rfl
def M.iR(N:Nat)(a0:List aa.den):Option (List aa.den):=
(M.dF N a0).bind fun y1=>
(Loop (S:=Int×(List Int)×List aa.den) (X:=(List Int)×List aa.den) (fun s3=>
(if(decide (s3.1<(a0.length:Int)))then
((eW s3.2.1 ([(s3.2.2.length:Int)]:List Int)).bind fun l5=>
((idx y1 s3.1).bind fun x7=>
(if x7 then
(idx a0 s3.1).bind fun x8=>
(if(!decide (x8.1=51))then
some true
else
(idx a0 s3.1).bind fun x9=>
some (!decide (x9.2=(X6.wrap (s3.1+1)))))
else
some false):Option Bool).bind fun j6=>
(if j6 then
(idx a0 s3.1).bind fun rI=>
(eW s3.2.2 ([rI]:List aa.den)).bind fun Vs=>
some (l5,Vs)
else
some (l5,s3.2.2)):Option ((List Int)×List aa.den)).bind fun j4=>
some (.inl (X6.wrap (s3.1+1),j4.1,j4.2))
else
some (.inr (s3.2.1,s3.2.2)))) N (0,([]:List Int),([]:List aa.den)):Option ((List Int)×List aa.den)).bind fun j2=>
(eW j2.1 ([(j2.2.length:Int)]:List Int)).bind fun Jh=>
Loop (S:=Int×List aa.den) (X:=List aa.den) (fun Cb=>
(if(decide (Cb.1<(Cb.2.length:Int)))then
((idx Cb.2 Cb.1).bind fun uW=>
(M.dQ N uW.1).bind fun wG=>
(if wG then
(idx Cb.2 Cb.1).bind fun yL=>
(idx Jh yL.2).bind fun yM=>
(idx Cb.2 Cb.1).bind fun GV=>
some (aQ Cb.2 Cb.1 (GV.1,yM))
else
some Cb.2):Option (List aa.den)).bind fun yK=>
some (.inl (X6.wrap (Cb.1+1),yK))
else
some (.inr Cb.2))) N (0,j2.2)
def Vt(N:Nat):bf:=⟨⟨[(0, .l (.slice aa))],[],[],0⟩,⟨[(0, .val false (.own 0))],[(0, .own 28 aa)],[],1⟩,fun(x:List aa.den)=>M.iR N x⟩
theorem Vu(N:Nat):aC Tryz.prog 29 (Vt N):=fw (en [ck (Lv N),ck (Vr N)] false false) (N:=N) (.o (.o (.o (.o (.meet ⟨[(4, .val false (.own 128)),(5, .val false (.own 129))],[(128, .own 3 ae),(129, .own 28 aa)],[64,96],130⟩ (.o (.two (.loop ⟨[(4, .val false (.own 144)),(5, .val false (.own 145)),(6, .l ae)],[(144, .own 3 ae),(145, .own 28 aa)],[64,96],146⟩ (.o (.two (.meet ⟨[(4, .val false (.own 210)),(5, .val false (.own 211))],[(210, .own 3 ae),(211, .own 28 aa)],[144,145],212⟩ (.o (.meet ⟨[(44, .l .bool)],[],[],306⟩ .nil .nil)) .nil) .nil))) .nil)) (.o (.two (.o (.two (.loop ⟨[(7, .l ae)],[(129, .own 28 aa)],[],243⟩ (.o (.two (.meet ⟨[],[(129, .own 28 aa)],[],308⟩ .nil .nil) .nil))) .nil)) .nil))))))) Tryz.func29 (by kernel_rfl) fun x=>by kernel_rfl
def M.cW(N:Nat)(a0:List aa.den):Option (List aa.den):=
(eW ([]:List aa.den) a0).bind fun l1=>
(M.ed N a0).bind fun y2=>
(if(!y2)then
some l1
else
Loop (S:=List aa.den) (X:=List aa.den) (fun s3=>
(M.iR N s3).bind fun y4=>
(if(decide ((y4.length:Int)=(s3.length:Int)))then
some (.inr y4)
else
some (.inl y4))) N l1)
def Vv(N:Nat):bf:=⟨⟨[(0, .l (.slice aa))],[],[],0⟩,⟨[(0, .val false (.own 0))],[(0, .own 28 aa)],[],1⟩,fun(x:List aa.den)=>M.cW N x⟩
theorem Vw(N:Nat):aC Tryz.prog 19 (Vv N):=fw (en [ck (O5 N),ck (Vu N)] false false) (N:=N) (.o (.o (.o (.two (.loop ⟨[(3, .val false (.own 128))],[(128, .own 28 aa)],[48],129⟩ .nil) .nil)))) Tryz.func19 (by kernel_rfl) fun x=>by kernel_rfl
def M.eT(N:Nat)(a0:List aa.den):Option (List aa.den):=
(eW ([]:List aa.den) a0).bind fun l1=>
(M.ed N a0).bind fun y2=>
(if(!y2)then
some l1
else
Loop (S:=Int×List aa.den) (X:=List aa.den) (fun s3=>
(if(decide (s3.1<(s3.2.length:Int)))then
(((idx s3.2 s3.1).bind fun x6=>
(M.dQ N x6.1).bind fun y7=>
(if(!y7)then
some s3.2
else
(idx a0 s3.1).bind fun x8=>
(Loop (S:=Int) (X:=Int) (fun iO=>
((if(decide (0<=iO))then
(if(decide (iO<(a0.length:Int)))then
(idx a0 iO).bind fun uV=>
(if(decide (uV.1=51))then
(idx a0 iO).bind fun kY=>
some (decide (iO<kY.2))
else
some false)
else
some false)
else
some false):Option Bool).bind fun uD=>
(if uD then
(idx a0 iO).bind fun xB=>
some (.inl xB.2)
else
some (.inr iO))) N x8.2:Option Int).bind fun j9=>
(idx s3.2 s3.1).bind fun uW=>
some (aQ s3.2 s3.1 (uW.1,j9))):Option (List aa.den)).bind fun j5=>
some j5:Option (List aa.den)).bind fun j4=>
some (.inl (X6.wrap (s3.1+1),j4))
else
some (.inr s3.2))) N (0,l1))
def Vx(N:Nat):bf:=⟨⟨[(0, .l (.slice aa))],[],[],0⟩,⟨[(0, .val false (.own 0))],[(0, .own 28 aa)],[],1⟩,fun(x:List aa.den)=>M.eT N x⟩
theorem Vy(N:Nat):aC Tryz.prog 20 (Vx N):=fw (en [ck (O5 N),ck (Lv N)] false false) (N:=N) (.o (.o (.o (.two (.o (.two (.loop ⟨[(4, .l ae)],[(48, .own 28 aa)],[],145⟩ (.o (.meet ⟨[],[(48, .own 28 aa)],[],210⟩ (.meet ⟨[],[(48, .own 28 aa)],[],210⟩ (.o (.o (.meet ⟨[(5, .l ae)],[],[],417⟩ (.two (.loop ⟨[(5, .l ae)],[],[],417⟩ (.two (.meet ⟨[(55, .l .bool)],[],[],417⟩ .nil .nil) .nil)) .nil) .nil))) .nil) .nil))) .nil)) .nil)))) Tryz.func20 (by kernel_rfl) fun x=>by kernel_rfl
def M.fR(N:Nat)(a0:aa.den):Option (af.den×Bool):=
da (J:=Unit) (R:=af.den×Bool) ((if(decide (a0.1=1))then
some (.inr ((1,(0,a0.2)),true))
else
(if(decide (a0.1=2))then
some (.inr ((2,(0,a0.2)),true))
else
(if(decide (a0.1=3))then
some (.inr ((3,(0,a0.2)),true))
else
(if(decide (a0.1=4))then
some (.inr ((4,(0,a0.2)),true))
else
(if(decide (a0.1=5))then
some (.inr ((5,(0,a0.2)),true))
else
(if(decide (a0.1=6))then
((if(decide (0<=a0.2))then
some (decide (a0.2<=127))
else
some false):Option Bool).bind fun j2=>
(if j2 then
some (.inr ((6,(X6.wrap (Yn a0.2 16),Yl a0.2 16)),true))
else
some (.inl ()))
else
some (.inl ())))))))) fun j1=>
some ((0,(0,0)),false)
def Vz(N:Nat):bf:=⟨⟨[(0, .g aa)],[],[],0⟩,⟨[(0, .g af),(1, .l .bool)],[],[],0⟩,fun(x:aa.den)=>M.fR N x⟩
theorem VA(N:Nat):aC Tryz.prog 60 (Vz N):=fw (en [] false false) (N:=N) (.o (.two (.o (.join ⟨[],[],[],80⟩ (.o (.o (.o (.o (.o (.o (.o (.o (.o (.o (.o (.two (.meet ⟨[(40, .l .bool)],[],[],272⟩ .nil .nil) .nil)))))))))))) .nil)) .nil)) Tryz.func60 (by kernel_rfl) fun x=>by kernel_rfl
def M.eM(N:Nat)(a0:Int):Option Bool:=
((if(decide (1<=a0))then
(if(decide (a0<=8))then
some true
else
(if(decide (36<=a0))then
some (decide (a0<=39))
else
some false))
else
(if(decide (36<=a0))then
some (decide (a0<=39))
else
some false)):Option Bool).bind fun j1=>
(if j1 then
some true
else
((if(decide (a0=14))then
some true
else
(if(decide (a0=15))then
some true
else
(if(decide (a0=16))then
some true
else
(if(decide (a0=33))then
some true
else
some (decide (a0=34)))))):Option Bool).bind fun j2=>
some j2)
def VB(N:Nat):bf:=⟨⟨[(0, .l ae)],[],[],0⟩,⟨[(0, .l .bool)],[],[],0⟩,fun(x:Int)=>M.eM N x⟩
theorem VC(N:Nat):aC Tryz.prog 94 (VB N):=fw (en [] false false) (N:=N) (.o (.two (.meet ⟨[(16, .l .bool)],[],[],16⟩ .nil .nil) (.meet ⟨[(2, .l .bool)],[],[],16⟩ .nil .nil))) Tryz.func94 (by kernel_rfl) fun x=>by kernel_rfl
def M.fF(N:Nat)(a0:aa.den)(a1:Int):Option Bool:=
((M.fm N a0.1).bind fun y2=>
(if(!decide (y2=a1))then
some true
else
(if(!decide (a0.2=0))then
(M.eM N a0.1).bind fun y3=>
some (!y3)
else
some false)):Option Bool).bind fun j1=>
(if j1 then
some false
else
((if(decide (a0.1=14))then
some (decide (a0.1=14))
else
(if(decide (a0.1=15))then
some (decide (a0.1=15))
else
some (decide (a0.1=16)))):Option Bool).bind fun j4=>
(if j4 then
((if(decide (0<=a0.2))then
some (decide (a0.2<=5))
else
some false):Option Bool).bind fun j5=>
some j5
else
(if(decide (a0.1=34))then
((if(decide (0<=a0.2))then
some (decide ((Yl a0.2 8)<=5))
else
some false):Option Bool).bind fun j6=>
some j6
else
(if(decide (a0.1=6))then
some (decide (0<=a0.2))
else
some true))))
def VD(N:Nat):bf:=⟨⟨[(0, .g aa),(1, .l ae)],[],[],0⟩,⟨[(0, .l .bool)],[],[],0⟩,fun(x:aa.den×Int)=>M.fF N x.1 x.2⟩
theorem VE(N:Nat):aC Tryz.prog 74 (VD N):=fw (en [ck (O2 N),ck (VC N)] false false) (N:=N) (.o (.two (.meet ⟨[(20, .l .bool)],[],[],32⟩ .nil .nil) (.two (.o (.two (.meet ⟨[(23, .l .bool)],[],[],64⟩ .nil (.two (.meet ⟨[(4, .l .bool)],[],[],64⟩ .nil .nil) (.o (.two (.meet ⟨[(4, .l .bool)],[],[],96⟩ .nil .nil) .nil)))) .nil)) .nil))) Tryz.func74 (by kernel_rfl) fun x=>by kernel_rfl
def M.iC(N:Nat)(a0:aa.den)(a1:aP.den):Option Bool:=
(if(decide (a0.1=7))then
((if(decide (0<=a0.2))then
some (decide (a0.2<(a1.2.1.length:Int)))
else
some false):Option Bool).bind fun j1=>
some j1
else
(if(decide (a0.1=8))then
((if(decide (0<=a0.2))then
(if(decide (a0.2<(a1.2.2.1.length:Int)))then
(idx a1.2.2.1 a0.2).bind fun x3=>
some (!decide (x3.1=0))
else
some false)
else
some false):Option Bool).bind fun j2=>
some j2
else
(if(decide (a0.1=33))then
((if(decide (0<=a0.2))then
some (decide (a0.2<(a1.2.2.2.2.2.length:Int)))
else
some false):Option Bool).bind fun j4=>
some j4
else
(if(decide (a0.1=34))then
some (decide ((X6.wrap (Yn a0.2 8))<(a1.2.2.2.2.2.length:Int)))
else
((if(decide (a0.1=36))then
some (decide (a0.1=36))
else
(if(decide (a0.1=37))then
some (decide (a0.1=37))
else
(if(decide (a0.1=38))then
some (decide (a0.1=38))
else
some (decide (a0.1=39))))):Option Bool).bind fun j5=>
(if j5 then
((if(decide (0<=a0.2))then
some (decide (a0.2<(a1.2.2.2.2.1.length:Int)))
else
some false):Option Bool).bind fun j6=>
some j6
else
some true)))))
def VF(N:Nat):bf:=⟨⟨[(0, .g aa),(1, .g aP)],[],[],0⟩,⟨[(0, .l .bool)],[],[],0⟩,fun(x:aa.den×aP.den)=>M.iC N x.1 x.2⟩
theorem VG(N:Nat):aC Tryz.prog 75 (VF N):=fw (en [] false false) (N:=N) (.o (.two (.o (.two (.o (.two (.meet ⟨[(4, .l .bool)],[],[],112⟩ .nil .nil) (.o (.two (.meet ⟨[(4, .l .bool)],[],[],144⟩ .nil .nil) (.o (.two (.meet ⟨[(4, .l .bool)],[],[],176⟩ .nil .nil) (.o (.o (.meet ⟨[(65, .l .bool)],[],[],208⟩ .nil (.two (.meet ⟨[(4, .l .bool)],[],[],208⟩ .nil .nil) .nil)))))))))) .nil)) .nil)) Tryz.func75 (by kernel_rfl) fun x=>by kernel_rfl
def M.fG(N:Nat)(a0:Int):Option (Int×Int):=
(if(decide (a0=1))then
some (0,1)
else
(if(decide (a0=2))then
some ((-1000000000000),1000000000000)
else
(if(decide (a0=3))then
some ((-1000000000000000),1000000000000000)
else
(if(decide (a0=4))then
some ((-1000000000),1000000000)
else
(if(decide (a0=5))then
some (0,109572)
else
(if(decide (a0=6))then
some (0,15)
else
some (0,(-1))))))))
def VH(N:Nat):bf:=⟨⟨[(0, .l ae)],[],[],0⟩,⟨[(0, .l ae),(1, .l ae)],[],[],0⟩,fun(x:Int)=>M.fG N x⟩
theorem Rw(N:Nat):aC Tryz.prog 95 (VH N):=fw (en [] false false) (N:=N) .nil Tryz.func95 (by kernel_rfl) fun x=>by kernel_rfl
def M.bg(N:Nat)(a0:af.den):Option Bool:=
(M.fG N a0.1).bind fun y1=>
((if(decide (a0.2.2<y1.1))then
some true
else
some (decide (y1.2<a0.2.2))):Option Bool).bind fun j2=>
(if j2 then
some false
else
(if(decide (a0.1=6))then
((if(decide (0<=a0.2.1))then
some (decide (a0.2.1<8))
else
some false):Option Bool).bind fun j3=>
some j3
else
some (decide (a0.2.1=0))))
def VI(N:Nat):bf:=⟨⟨[(0, .g af)],[],[],0⟩,⟨[(0, .l .bool)],[],[],0⟩,fun(x:af.den)=>M.bg N x⟩
theorem Lw(N:Nat):aC Tryz.prog 76 (VI N):=fw (en [ck (Rw N)] false false) (N:=N) (.o (.o (.two (.meet ⟨[(20, .l .bool)],[],[],160⟩ .nil .nil) (.two (.o (.two (.meet ⟨[(2, .l .bool)],[],[],208⟩ .nil .nil) .nil)) .nil)))) Tryz.func76 (by kernel_rfl) fun x=>by kernel_rfl
def M.ik(N:Nat)(a0:Int)(a1:aa.den):Option Bool:=
(if(!decide (a1.2=0))then
some false
else
(if(decide (a0=36))then
((if(decide (a1.1=2))then
some true
else
some (decide (a1.1=3))):Option Bool).bind fun j1=>
some j1
else
(if(decide (a0=39))then
((if(decide (2<=a1.1))then
some (decide (a1.1<=5))
else
some false):Option Bool).bind fun j2=>
some j2
else
some (decide (a1.1=1)))))
def VJ(N:Nat):bf:=⟨⟨[(0, .l ae),(1, .g aa)],[],[],0⟩,⟨[(0, .l .bool)],[],[],0⟩,fun(x:Int×aa.den)=>M.ik N x.1 x.2⟩
theorem VK(N:Nat):aC Tryz.prog 96 (VJ N):=fw (en [] false false) (N:=N) (.o (.o (.two (.o (.two (.o (.two (.meet ⟨[(4, .l .bool)],[],[],128⟩ .nil .nil) (.o (.two (.meet ⟨[(4, .l .bool)],[],[],160⟩ .nil .nil) .nil)))) .nil)) .nil))) Tryz.func96 (by kernel_rfl) fun x=>by kernel_rfl
def M.mg(N:Nat)(a0:af.den)(a1:aa.den):Option Bool:=
((M.bg N a0).bind fun y2=>
(if y2 then
(if(decide (a0.1=a1.1))then
some (decide (a0.2.1=a1.2))
else
some false)
else
some false):Option Bool).bind fun j1=>
some j1
def VL(N:Nat):bf:=⟨⟨[(0, .g af),(1, .g aa)],[],[],0⟩,⟨[(0, .l .bool)],[],[],0⟩,fun(x:af.den×aa.den)=>M.mg N x.1 x.2⟩
theorem VM(N:Nat):aC Tryz.prog 97 (VL N):=fw (en [ck (Lw N)] false false) (N:=N) (.o (.meet ⟨[(4, .l .bool)],[],[],48⟩ .nil .nil)) Tryz.func97 (by kernel_rfl) fun x=>by kernel_rfl
def M.kH(N:Nat)(a0:Int)(a1:Int)(a2:Int)(a3:Bool):Option Int:=
(if(decide (a0=36))then
some (X6.wrap (a1+a2))
else
(if(decide (a0=37))then
some (X6.wrap (a1*a2))
else
(if(decide (a0=38))then
(if(decide (a1<a2))then
some a2
else
some a1)
else
((if a3 then
some true
else
some (decide (a1<a2))):Option Bool).bind fun j1=>
(if j1 then
some a2
else
some a1))))
def VN(N:Nat):bf:=⟨⟨[(0, .l ae),(1, .l ae),(2, .l ae),(3, .l .bool)],[],[],0⟩,⟨[(0, .l ae)],[],[],0⟩,fun(x:Int×Int×Int×Bool)=>M.kH N x.1 x.2.1 x.2.2.1 x.2.2.2⟩
theorem VO(N:Nat):aC Tryz.prog 98 (VN N):=fw (en [] false false) (N:=N) (.o (.o (.two (.meet ⟨[(32, .l .bool)],[],[],128⟩ .nil .nil) .nil))) Tryz.func98 (by kernel_rfl) fun x=>by kernel_rfl
def M.bq(N:Nat)(a0:Int)(a1:Int):Option (af.den×Int):=
(M.bg N (a0,(0,a1))).bind fun y1=>
(if(!y1)then
some ((0,(0,0)),3)
else
some ((a0,(0,a1)),0))
def VP(N:Nat):bf:=⟨⟨[(0, .l ae),(1, .l ae)],[],[],0⟩,⟨[(0, .g af),(1, .l ae)],[],[],0⟩,fun(x:Int×Int)=>M.bq N x.1 x.2⟩
theorem Jl(N:Nat):aC Tryz.prog 99 (VP N):=fw (en [ck (Lw N)] false false) (N:=N) .nil Tryz.func99 (by kernel_rfl) fun x=>by kernel_rfl
def M.il(N:Nat)(a0:aa.den)(a1:aP.den):Option (af.den×Int):=
(idx a1.2.2.2.2.1 a0.2).bind fun x1=>
(M.ik N a0.1 x1).bind fun y2=>
(if(!y2)then
some ((0,(0,0)),8)
else
((if(decide (a0.1=37))then
some 1
else
some 0):Option Int).bind fun j3=>
da (J:=Int) (R:=af.den×Int) (Loop (S:=Int×Int) (X:=Int⊕(af.den×Int)) (fun s5=>
(if(decide (s5.2<(a1.2.2.2.1.length:Int)))then
(idx a1.2.2.2.1 s5.2).bind fun x6=>
((if(decide ((x6.length:Int)<=a0.2))then
some true
else
(idx x6 a0.2).bind fun x8=>
some (decide (x8.1=0))):Option Bool).bind fun j7=>
(if j7 then
some (.inr (.inr ((0,(0,0)),6)))
else
(idx x6 a0.2).bind fun x9=>
(M.mg N x9 x1).bind fun kF=>
(if(!kF)then
some (.inr (.inr ((0,(0,0)),8)))
else
(idx x6 a0.2).bind fun pi=>
(M.kH N a0.1 s5.1 pi.2.2 (decide (s5.2=0))).bind fun mL=>
(M.bq N x1.1 mL).bind fun pX=>
(if(!decide (pX.2=0))then
some (.inr (.inr ((0,(0,0)),pX.2)))
else
some (.inl (mL,X6.wrap (s5.2+1))))))
else
some (.inr (.inl s5.1)))) N (j3,0)) fun j4=>
((if(decide (a0.1=39))then
some (decide ((a1.2.2.2.1.length:Int)=0))
else
some false):Option Bool).bind fun yK=>
(if yK then
some ((0,(0,0)),6)
else
(M.bq N x1.1 j4).bind fun mM=>
some (mM.1,mM.2)))
def VQ(N:Nat):bf:=⟨⟨[(0, .g aa),(1, .g aP)],[],[],0⟩,⟨[(0, .g af),(1, .l ae)],[],[],0⟩,fun(x:aa.den×aP.den)=>M.il N x.1 x.2⟩
theorem VR(N:Nat):aC Tryz.prog 77 (VQ N):=fw (en [ck (VK N),ck (VM N),ck (VO N),ck (Jl N)] false false) (N:=N) (.o (.o (.o (.o (.meet ⟨[(7, .l ae)],[],[],288⟩ .nil (.join ⟨[(7, .l ae)],[],[],288⟩ (.o (.two (.loop ⟨[(7, .l ae),(8, .l ae)],[],[],304⟩ (.o (.two (.two (.o (.two (.meet ⟨[(52, .l .bool)],[],[],480⟩ .nil .nil) .nil)) .nil) .nil))) .nil)) (.two (.meet ⟨[(94, .l .bool)],[],[],288⟩ .nil .nil) .nil))))))) Tryz.func77 (by kernel_rfl) fun x=>by kernel_rfl
def M.bm(N:Nat)(a0:aa.den)(a1:aP.den):Option (af.den×Int):=
(if(decide (a0.1=7))then
(idx a1.2.1 a0.2).bind fun x1=>
(M.bg N x1).bind fun y2=>
(if(!y2)then
some ((0,(0,0)),8)
else
(idx a1.2.1 a0.2).bind fun x3=>
some (x3,0))
else
(if(decide (a0.1=8))then
(idx a1.2.2.1 a0.2).bind fun x4=>
(M.bg N x4).bind fun y5=>
(if(!y5)then
some ((0,(0,0)),8)
else
(idx a1.2.2.1 a0.2).bind fun x6=>
some (x6,0))
else
(if(decide (a0.1=9))then
(M.bq N 5 a1.1).bind fun y7=>
some (y7.1,y7.2)
else
(if(decide (a0.1=35))then
(M.bq N 2 (a1.2.2.2.1.length:Int)).bind fun y8=>
some (y8.1,y8.2)
else
(if(decide (a0.1=6))then
(M.bg N (6,(X6.wrap (Yn a0.2 16),Yl a0.2 16))).bind fun y9=>
(if(!y9)then
some ((0,(0,0)),3)
else
some ((6,(X6.wrap (Yn a0.2 16),Yl a0.2 16)),0))
else
(M.bq N a0.1 a0.2).bind fun kF=>
some (kF.1,kF.2))))))
def VS(N:Nat):bf:=⟨⟨[(0, .g aa),(1, .g aP)],[],[],0⟩,⟨[(0, .g af),(1, .l ae)],[],[],0⟩,fun(x:aa.den×aP.den)=>M.bm N x.1 x.2⟩
theorem VT(N:Nat):aC Tryz.prog 78 (VS N):=fw (en [ck (Lw N),ck (Jl N)] false false) (N:=N) .nil Tryz.func78 (by kernel_rfl) fun x=>by kernel_rfl
def M.bG(N:Nat)(a0:Int):Option Bool:=
((if(decide (a0=2))then
some true
else
(if(decide (a0=3))then
some true
else
some (decide (a0=4)))):Option Bool).bind fun j1=>
some j1
def O6(N:Nat):bf:=⟨⟨[(0, .l ae)],[],[],0⟩,⟨[(0, .l .bool)],[],[],0⟩,fun(x:Int)=>M.bG N x⟩
theorem Lx(N:Nat):aC Tryz.prog 100 (O6 N):=fw (en [] false false) (N:=N) (.o (.meet ⟨[(2, .l .bool)],[],[],16⟩ .nil .nil)) Tryz.func100 (by kernel_rfl) fun x=>by kernel_rfl
def M.cR(N:Nat)(a0:Bool):Option (af.den×Int):=
((if a0 then
some 1
else
some 0):Option Int).bind fun j1=>
some ((1,(0,j1)),0)
def O7(N:Nat):bf:=⟨⟨[(0, .l .bool)],[],[],0⟩,⟨[(0, .g af),(1, .l ae)],[],[],0⟩,fun(x:Bool)=>M.cR N x⟩
theorem Ly(N:Nat):aC Tryz.prog 101 (O7 N):=fw (en [] false false) (N:=N) (.o (.o (.meet ⟨[(4, .l ae)],[],[],48⟩ .nil .nil))) Tryz.func101 (by kernel_rfl) fun x=>by kernel_rfl
def M.fo(N:Nat)(a0:Int):Option Bool:=
((if(decide (0<=a0))then
some (decide (a0<=109572))
else
some false):Option Bool).bind fun j1=>
some j1
def O8(N:Nat):bf:=⟨⟨[(0, .l ae)],[],[],0⟩,⟨[(0, .l .bool)],[],[],0⟩,fun(x:Int)=>M.fo N x⟩
theorem Jm(N:Nat):aC Tryz.prog 121 (O8 N):=fw (en [] false false) (N:=N) (.o (.meet ⟨[(2, .l .bool)],[],[],16⟩ .nil .nil)) Tryz.func121 (by kernel_rfl) fun x=>by kernel_rfl
def M.iS(N:Nat)(a0:Int):Option Bool:=
((if(decide ((Yl a0 4)=0))then
(if(!decide ((Yl a0 100)=0))then
some true
else
some (decide ((Yl a0 400)=0)))
else
some false):Option Bool).bind fun j1=>
some j1
def O9(N:Nat):bf:=⟨⟨[(0, .l ae)],[],[],0⟩,⟨[(0, .l .bool)],[],[],0⟩,fun(x:Int)=>M.iS N x⟩
theorem Lz(N:Nat):aC Tryz.prog 139 (O9 N):=fw (en [] false false) (N:=N) (.o (.meet ⟨[(2, .l .bool)],[],[],16⟩ .nil .nil)) Tryz.func139 (by kernel_rfl) fun x=>by kernel_rfl
def M.dm(N:Nat)(a0:Int):Option Int:=
(M.iS N a0).bind fun y1=>
(if y1 then
some 366
else
some 365)
def Pa(N:Nat):bf:=⟨⟨[(0, .l ae)],[],[],0⟩,⟨[(0, .l ae)],[],[],0⟩,fun(x:Int)=>M.dm N x⟩
theorem LA(N:Nat):aC Tryz.prog 122 (Pa N):=fw (en [ck (Lz N)] false false) (N:=N) .nil Tryz.func122 (by kernel_rfl) fun x=>by kernel_rfl
def M.bW(N:Nat)(a0:Int)(a1:Int):Option Int:=
(if(decide (a1=2))then
(M.iS N a0).bind fun y1=>
(if y1 then
some 29
else
some 28)
else
((if(decide (a1=4))then
some (decide (a1=4))
else
(if(decide (a1=6))then
some (decide (a1=6))
else
(if(decide (a1=9))then
some (decide (a1=9))
else
some (decide (a1=11))))):Option Bool).bind fun j2=>
(if j2 then
some 30
else
((if(decide (a1=1))then
some (decide (a1=1))
else
(if(decide (a1=3))then
some (decide (a1=3))
else
(if(decide (a1=5))then
some (decide (a1=5))
else
(if(decide (a1=7))then
some (decide (a1=7))
else
(if(decide (a1=8))then
some (decide (a1=8))
else
(if(decide (a1=10))then
some (decide (a1=10))
else
some (decide (a1=12)))))))):Option Bool).bind fun j3=>
(if j3 then
some 31
else
some 0)))
def Pb(N:Nat):bf:=⟨⟨[(0, .l ae),(1, .l ae)],[],[],0⟩,⟨[(0, .l ae)],[],[],0⟩,fun(x:Int×Int)=>M.bW N x.1 x.2⟩
theorem Jn(N:Nat):aC Tryz.prog 123 (Pb N):=fw (en [ck (Lz N)] false false) (N:=N) (.o (.two (.o (.two (.o (.o (.meet ⟨[(10, .l .bool)],[],[],64⟩ .nil (.o (.meet ⟨[(15, .l .bool)],[],[],64⟩ .nil .nil))))) .nil)) .nil)) Tryz.func123 (by kernel_rfl) fun x=>by kernel_rfl
def M.eo(N:Nat)(a0:Int):Option (Int×Int×Int):=
(M.fo N a0).bind fun y1=>
(if(!y1)then
some (0,0,0)
else
(Loop (S:=Int×Int) (X:=Int×Int) (fun s3=>
(M.dm N s3.2).bind fun y4=>
(if(decide (y4<=s3.1))then
(M.dm N s3.2).bind fun y5=>
some (.inl (X6.wrap (s3.1-y5),X6.wrap (s3.2+1)))
else
some (.inr (s3.1,s3.2)))) N (a0,1900):Option (Int×Int)).bind fun j2=>
(Loop (S:=Int×Int) (X:=Int×Int) (fun s7=>
(M.bW N j2.2 s7.2).bind fun y8=>
(if(decide (y8<=s7.1))then
(M.bW N j2.2 s7.2).bind fun y9=>
some (.inl (X6.wrap (s7.1-y9),X6.wrap (s7.2+1)))
else
some (.inr (s7.1,s7.2)))) N (j2.1,1):Option (Int×Int)).bind fun j6=>
some (j2.2,j6.2,X6.wrap (j6.1+1)))
def Pc(N:Nat):bf:=⟨⟨[(0, .l ae)],[],[],0⟩,⟨[(0, .l ae),(1, .l ae),(2, .l ae)],[],[],0⟩,fun(x:Int)=>M.eo N x⟩
theorem LB(N:Nat):aC Tryz.prog 102 (Pc N):=fw (en [ck (Jm N),ck (LA N),ck (Jn N)] false false) (N:=N) (.o (.o (.o (.meet ⟨[(0, .l ae),(5, .l ae)],[],[],128⟩ (.two (.loop ⟨[(0, .l ae),(5, .l ae)],[],[],128⟩ .nil) .nil) (.meet ⟨[(0, .l ae),(6, .l ae)],[],[],128⟩ (.two (.loop ⟨[(0, .l ae),(6, .l ae)],[],[],128⟩ .nil) .nil) .nil))))) Tryz.func102 (by kernel_rfl) fun x=>by kernel_rfl
def M.pj(N:Nat)(a0:aa.den):Option Bool:=
((if(decide (0<=a0.1))then
(if(decide (a0.1<=a0.2))then
some (decide (a0.2<=109573))
else
some false)
else
some false):Option Bool).bind fun j1=>
some j1
def Pd(N:Nat):bf:=⟨⟨[(0, .g aa)],[],[],0⟩,⟨[(0, .l .bool)],[],[],0⟩,fun(x:aa.den)=>M.pj N x⟩
theorem Pe(N:Nat):aC Tryz.prog 141 (Pd N):=fw (en [] false false) (N:=N) (.o (.meet ⟨[(2, .l .bool)],[],[],32⟩ .nil .nil)) Tryz.func141 (by kernel_rfl) fun x=>by kernel_rfl
def M.gD(N:Nat)(a0:aa.den)(a1:Int):Option Bool:=
((M.pj N a0).bind fun y2=>
(if y2 then
(if(decide (a0.1<=a1))then
some (decide (a1<a0.2))
else
some false)
else
some false):Option Bool).bind fun j1=>
some j1
def Pf(N:Nat):bf:=⟨⟨[(0, .g aa),(1, .l ae)],[],[],0⟩,⟨[(0, .l .bool)],[],[],0⟩,fun(x:aa.den×Int)=>M.gD N x.1 x.2⟩
theorem LC(N:Nat):aC Tryz.prog 127 (Pf N):=fw (en [ck (Pe N)] false false) (N:=N) (.o (.meet ⟨[(4, .l .bool)],[],[],32⟩ .nil .nil)) Tryz.func127 (by kernel_rfl) fun x=>by kernel_rfl
def M.im(N:Nat)(a0:mw.den)(a1:Int)(a2:Int):Option Bool:=
((M.gD N a0.1 a1).bind fun y2=>
(if y2 then
(if(decide (a0.2.1<=a2))then
some (decide (a2<a0.2.2.1))
else
some false)
else
some false):Option Bool).bind fun j1=>
some j1
def Pg(N:Nat):bf:=⟨⟨[(0, .g mw),(1, .l ae),(2, .l ae)],[],[],0⟩,⟨[(0, .l .bool)],[],[],0⟩,fun(x:mw.den×Int×Int)=>M.im N x.1 x.2.1 x.2.2⟩
theorem Ph(N:Nat):aC Tryz.prog 140 (Pg N):=fw (en [ck (LC N)] false false) (N:=N) (.o (.meet ⟨[(6, .l .bool)],[],[],32⟩ .nil .nil)) Tryz.func140 (by kernel_rfl) fun x=>by kernel_rfl
def M.gE(N:Nat)(a0:cG.den)(a1:Int)(a2:Int):Option (Int×Bool):=
Loop (S:=Int) (X:=Int×Bool) (fun s1=>
(if(decide (s1<(a0.2.2.2.length:Int)))then
(idx a0.2.2.2 s1).bind fun x2=>
(M.im N x2 a1 a2).bind fun y3=>
(if y3 then
some (.inr (s1,true))
else
some (.inl (X6.wrap (s1+1))))
else
some (.inr (0,false)))) N 0
def Pj(N:Nat):bf:=⟨⟨[(0, .g cG),(1, .l ae),(2, .l ae)],[],[],0⟩,⟨[(0, .l ae),(1, .l .bool)],[],[],0⟩,fun(x:cG.den×Int×Int)=>M.gE N x.1 x.2.1 x.2.2⟩
theorem Pk(N:Nat):aC Tryz.prog 124 (Pj N):=fw (en [ck (Ph N)] false false) (N:=N) (.o (.two (.o (.two (.loop ⟨[(8, .l ae)],[],[],64⟩ .nil) .nil)) .nil)) Tryz.func124 (by kernel_rfl) fun x=>by kernel_rfl
def M.kI(N:Nat)(a0:cG.den)(a1:Int)(a2:af.den):Option (af.den×Int):=
((if(!decide (a2.1=a0.2.1.1))then
some true
else
(if(!decide (a2.2.1=a0.2.1.2))then
some true
else
(if(decide (a0.2.2.1.1<1))then
some true
else
some (decide (6<a0.2.2.1.1))))):Option Bool).bind fun j1=>
(if j1 then
some ((0,(0,0)),8)
else
(M.gE N a0 a1 a2.2.2).bind fun y2=>
(if(!y2.2)then
some ((0,(0,0)),6)
else
(idx a0.2.2.2 y2.1).bind fun x3=>
(M.bg N (a0.2.2.1.1,(a0.2.2.1.2,x3.2.2.2))).bind fun y4=>
(if(!y4)then
some ((0,(0,0)),3)
else
some ((a0.2.2.1.1,(a0.2.2.1.2,x3.2.2.2)),0))))
def Pm(N:Nat):bf:=⟨⟨[(0, .g cG),(1, .l ae),(2, .g af)],[],[],0⟩,⟨[(0, .g af),(1, .l ae)],[],[],0⟩,fun(x:cG.den×Int×af.den)=>M.kI N x.1 x.2.1 x.2.2⟩
theorem Pn(N:Nat):aC Tryz.prog 103 (Pm N):=fw (en [ck (Lw N),ck (Pk N)] false false) (N:=N) (.o (.two (.meet ⟨[(36, .l .bool)],[],[],64⟩ .nil .nil) .nil)) Tryz.func103 (by kernel_rfl) fun x=>by kernel_rfl
def M.gf(N:Nat)(a0:Int):Option Bool:=
((if(decide (0<=a0))then
some (decide (a0<=5))
else
some false):Option Bool).bind fun j1=>
some j1
def Po(N:Nat):bf:=⟨⟨[(0, .l ae)],[],[],0⟩,⟨[(0, .l .bool)],[],[],0⟩,fun(x:Int)=>M.gf N x⟩
theorem GX(N:Nat):aC Tryz.prog 125 (Po N):=fw (en [] false false) (N:=N) (.o (.meet ⟨[(2, .l .bool)],[],[],16⟩ .nil .nil)) Tryz.func125 (by kernel_rfl) fun x=>by kernel_rfl
def M.bT(N:Nat)(a0:Int)(a1:Int):Option Bool:=
((if(decide (a1<a0))then
some true
else
some (decide (a0<(X6.wrap (0-a1))))):Option Bool).bind fun j1=>
some j1
def Pp(N:Nat):bf:=⟨⟨[(0, .l ae),(1, .l ae)],[],[],0⟩,⟨[(0, .l .bool)],[],[],0⟩,fun(x:Int×Int)=>M.bT N x.1 x.2⟩
theorem GY(N:Nat):aC Tryz.prog 126 (Pp N):=fw (en [] false false) (N:=N) (.o (.meet ⟨[(4, .l .bool)],[],[],16⟩ .nil .nil)) Tryz.func126 (by kernel_rfl) fun x=>by kernel_rfl
def M.eE(N:Nat)(a0:Int)(a1:Int):Option (Int×Int×Bool):=
((if(decide (a1<0))then
some (Ya.wrap ((Ya.wrap (X6.wrap (0-(X6.wrap (a1+1)))))+1))
else
some (Ya.wrap a1)):Option Int).bind fun j1=>
((if(decide (0<(X6.wrap (Ya.wrap (Yn j1 1000000)))))then
(gR 1000000000000000 (X6.wrap (Ya.wrap (Yn j1 1000000)))).bind fun x3=>
some (decide ((X6.wrap x3)<a0))
else
some false):Option Bool).bind fun j2=>
(if j2 then
some (0,0,false)
else
(if(decide (1000000000000000<(X6.wrap ((X6.wrap ((X6.wrap (a0*(X6.wrap (Ya.wrap (Yn j1 1000000)))))+(X6.wrap ((X6.wrap (Yn a0 1000000))*(X6.wrap (Yl j1 1000000))))))+(X6.wrap (Yn (X6.wrap ((Yl a0 1000000)*(X6.wrap (Yl j1 1000000)))) 1000000))))))then
some (0,0,false)
else
(if(decide (a1<0))then
some (X6.wrap (0-(X6.wrap ((X6.wrap ((X6.wrap (a0*(X6.wrap (Ya.wrap (Yn j1 1000000)))))+(X6.wrap ((X6.wrap (Yn a0 1000000))*(X6.wrap (Yl j1 1000000))))))+(X6.wrap (Yn (X6.wrap ((Yl a0 1000000)*(X6.wrap (Yl j1 1000000)))) 1000000))))),X6.wrap (0-(Yl (X6.wrap ((Yl a0 1000000)*(X6.wrap (Yl j1 1000000)))) 1000000)),true)
else
some (X6.wrap ((X6.wrap ((X6.wrap (a0*(X6.wrap (Ya.wrap (Yn j1 1000000)))))+(X6.wrap ((X6.wrap (Yn a0 1000000))*(X6.wrap (Yl j1 1000000))))))+(X6.wrap (Yn (X6.wrap ((Yl a0 1000000)*(X6.wrap (Yl j1 1000000)))) 1000000))),Yl (X6.wrap ((Yl a0 1000000)*(X6.wrap (Yl j1 1000000)))) 1000000,true))))
def Pq(N:Nat):bf:=⟨⟨[(0, .l ae),(1, .l ae)],[],[],0⟩,⟨[(0, .l ae),(1, .l ae),(2, .l .bool)],[],[],0⟩,fun(x:Int×Int)=>M.eE N x.1 x.2⟩
theorem Pr(N:Nat):aC Tryz.prog 128 (Pq N):=fw (en [] false false) (N:=N) (.o (.o (.meet ⟨[(7, .l (.int .u64))],[],[],96⟩ .nil (.o (.two (.meet ⟨[(34, .l .bool)],[],[],224⟩ .nil .nil) .nil))))) Tryz.func128 (by kernel_rfl) fun x=>by kernel_rfl
def M.di(N:Nat)(a0:Int)(a1:Int)(a2:Int)(a3:Bool)(a4:Int):Option Int:=
((if(decide (a4=0))then
(if a3 then
some (decide (0<a1))
else
some false)
else
(if(decide (a4=1))then
(if(!a3)then
some (decide (0<a1))
else
some false)
else
(if(decide (a4=3))then
some (decide (0<a1))
else
(if(decide (a4=4))then
some (decide ((X6.wrap (a2-a1))<=a1))
else
(if(decide (a4=5))then
(if(decide ((X6.wrap (a2-a1))<a1))then
some true
else
(if(decide (a1=(X6.wrap (a2-a1))))then
some (decide ((Yl a0 2)=1))
else
some false))
else
some false))))):Option Bool).bind fun j1=>
((if j1 then
some (X6.wrap (a0+1))
else
some a0):Option Int).bind fun j2=>
(if a3 then
some (X6.wrap (0-j2))
else
some j2)
def Ps(N:Nat):bf:=⟨⟨[(0, .l ae),(1, .l ae),(2, .l ae),(3, .l .bool),(4, .l ae)],[],[],0⟩,⟨[(0, .l ae)],[],[],0⟩,fun(x:Int×Int×Int×Bool×Int)=>M.di N x.1 x.2.1 x.2.2.1 x.2.2.2.1 x.2.2.2.2⟩
theorem GZ(N:Nat):aC Tryz.prog 142 (Ps N):=fw (en [] false false) (N:=N) (.o (.o (.two (.o (.meet ⟨[(11, .l .bool)],[],[],48⟩ .nil .nil)) (.meet ⟨[(0, .l ae)],[],[],48⟩ .nil .nil)))) Tryz.func142 (by kernel_rfl) fun x=>by kernel_rfl
def M.iq(N:Nat)(a0:Int)(a1:Int)(a2:Int):Option Int:=
(Loop (S:=Int×Int) (X:=Int×Int) (fun s2=>
(if(decide (s2.2<0))then
some (.inl (X6.wrap (s2.1-1),X6.wrap (s2.2+1000000)))
else
some (.inr (s2.1,s2.2)))) N (a0,a1):Option (Int×Int)).bind fun j1=>
(Loop (S:=Int×Int) (X:=Int×Int) (fun s4=>
(if(decide (1000000<=s4.2))then
some (.inl (X6.wrap (s4.1+1),X6.wrap (s4.2-1000000)))
else
some (.inr (s4.1,s4.2)))) N (j1.1,j1.2):Option (Int×Int)).bind fun j3=>
(if(decide (0<=j3.1))then
(M.di N j3.1 j3.2 1000000 false a2).bind fun y5=>
some y5
else
(if(decide (j3.2=0))then
some j3.1
else
(M.di N (X6.wrap ((X6.wrap (0-j3.1))-1)) (X6.wrap (1000000-j3.2)) 1000000 true a2).bind fun y6=>
some y6))
def Pt(N:Nat):bf:=⟨⟨[(0, .l ae),(1, .l ae),(2, .l ae)],[],[],0⟩,⟨[(0, .l ae)],[],[],0⟩,fun(x:Int×Int×Int)=>M.iq N x.1 x.2.1 x.2.2⟩
theorem Pu(N:Nat):aC Tryz.prog 129 (Pt N):=fw (en [ck (GZ N)] false false) (N:=N) (.o (.meet ⟨[(0, .l ae),(1, .l ae)],[],[],16⟩ (.two (.loop ⟨[(0, .l ae),(1, .l ae)],[],[],16⟩ .nil) .nil) (.meet ⟨[(0, .l ae),(1, .l ae)],[],[],16⟩ (.two (.loop ⟨[(0, .l ae),(1, .l ae)],[],[],16⟩ .nil) .nil) .nil))) Tryz.func129 (by kernel_rfl) fun x=>by kernel_rfl
def M.gG(N:Nat)(a0:cG.den)(a1:Int)(a2:Int)(a3:Int):Option (Int×Int):=
(M.gf N a3).bind fun y1=>
(if(!y1)then
some (0,1)
else
((if(!(tE aa a0.2.1 (3,0)))then
some true
else
some (!(tE aa a0.2.2.1 (4,0)))):Option Bool).bind fun j2=>
(if j2 then
some (0,8)
else
(M.bT N a2 1000000000000000).bind fun y3=>
(if y3 then
some (0,3)
else
da (J:=Int×Int) (R:=Int×Int) (Loop (S:=Int×Int×Int) (X:=(Int×Int)⊕(Int×Int)) (fun s5=>
(if(decide (s5.2.2<(a0.2.2.2.length:Int)))then
da (J:=Int×Int) (R:=(Int×Int×Int)⊕((Int×Int)⊕(Int×Int))) ((idx a0.2.2.2 s5.2.2).bind fun x7=>
(idx a0.2.2.2 s5.2.2).bind fun x8=>
((if(decide ((if a2<x8.2.2.1 then a2 else x8.2.2.1)<=(if x7.2.1<0 then 0 else x7.2.1)))then
some true
else
(idx a0.2.2.2 s5.2.2).bind fun rI=>
(M.gD N rI.1 a1).bind fun ph=>
some (!ph)):Option Bool).bind fun j9=>
(if j9 then
some (.inl (s5.1,s5.2.1))
else
(idx a0.2.2.2 s5.2.2).bind fun uV=>
(M.eE N (X6.wrap ((if a2<x8.2.2.1 then a2 else x8.2.2.1)-(if x7.2.1<0 then 0 else x7.2.1))) uV.2.2.2).bind fun pX=>
(if(!pX.2.2)then
some (.inr (.inr (.inr (0,3))))
else
some (.inl (X6.wrap (s5.1+pX.1),X6.wrap (s5.2.1+pX.2.1)))))) fun j6=>
some (.inl (j6.1,j6.2,X6.wrap (s5.2.2+1)))
else
some (.inr (.inl (s5.1,s5.2.1))))) N (0,0,0)) fun j4=>
(M.iq N j4.1 j4.2 a3).bind fun lc=>
(M.bT N lc 1000000000000000).bind fun mM=>
(if mM then
some (0,3)
else
some (lc,0)))))
def Pv(N:Nat):bf:=⟨⟨[(0, .g cG),(1, .l ae),(2, .l ae),(3, .l ae)],[],[],0⟩,⟨[(0, .l ae),(1, .l ae)],[],[],0⟩,fun(x:cG.den×Int×Int×Int)=>M.gG N x.1 x.2.1 x.2.2.1 x.2.2.2⟩
theorem Pw(N:Nat):aC Tryz.prog 104 (Pv N):=fw (en [ck (GX N),ck (GY N),ck (LC N),ck (Pr N),ck (Pu N)] false false) (N:=N) (.o (.o (.two (.meet ⟨[(31, .l .bool)],[],[],96⟩ .nil .nil) (.o (.o (.join ⟨[(10, .l ae),(11, .l ae)],[],[],160⟩ (.o (.two (.loop ⟨[(10, .l ae),(11, .l ae),(12, .l ae)],[],[],176⟩ (.o (.two (.join ⟨[(10, .l ae),(11, .l ae)],[],[],256⟩ (.o (.two (.meet ⟨[(69, .l .bool)],[],[],528⟩ .nil .nil) .nil)) .nil) .nil))) .nil)) .nil)))))) Tryz.func104 (by kernel_rfl) fun x=>by kernel_rfl
def M.dR(N:Nat)(a0:Int)(a1:Int)(a2:Int):Option (af.den×Int):=
(if(!decide (a2=0))then
some ((0,(0,0)),a2)
else
(M.bq N a0 a1).bind fun y1=>
some (y1.1,y1.2))
def Px(N:Nat):bf:=⟨⟨[(0, .l ae),(1, .l ae),(2, .l ae)],[],[],0⟩,⟨[(0, .g af),(1, .l ae)],[],[],0⟩,fun(x:Int×Int×Int)=>M.dR N x.1 x.2.1 x.2.2⟩
theorem Jo(N:Nat):aC Tryz.prog 105 (Px N):=fw (en [ck (Jl N)] false false) (N:=N) .nil Tryz.func105 (by kernel_rfl) fun x=>by kernel_rfl
def M.aR(N:Nat)(a0:aa.den)(a1:af.den)(a2:aP.den):Option (af.den×Int):=
(if(decide (a0.1=10))then
(M.bG N a1.1).bind fun y1=>
(if(!y1)then
some ((0,(0,0)),8)
else
(M.bq N a1.1 (X6.wrap (0-a1.2.2))).bind fun y2=>
some (y2.1,y2.2))
else
(if(decide (a0.1=25))then
(if(!decide (a1.1=1))then
some ((0,(0,0)),8)
else
(M.cR N (decide (a1.2.2=0))).bind fun y3=>
some (y3.1,y3.2))
else
((if(decide (a0.1=31))then
some (decide (a0.1=31))
else
some (decide (a0.1=32))):Option Bool).bind fun j4=>
(if j4 then
(if(!decide (a1.1=5))then
some ((0,(0,0)),8)
else
(M.eo N a1.2.2).bind fun y5=>
(if(decide (a0.1=31))then
(M.bq N 2 y5.1).bind fun y6=>
some (y6.1,y6.2)
else
(M.bq N 2 y5.2.1).bind fun y7=>
some (y7.1,y7.2)))
else
(if(decide (a0.1=33))then
(idx a2.2.2.2.2.2 a0.2).bind fun x8=>
(M.kI N x8 a2.1 a1).bind fun y9=>
some (y9.1,y9.2)
else
(idx a2.2.2.2.2.2 (X6.wrap (Yn a0.2 8))).bind fun rI=>
((if(!decide (a1.1=3))then
some true
else
(if(!decide (rI.2.1.1=3))then
some true
else
(if(!decide (rI.2.1.2=0))then
some true
else
(if(!decide (rI.2.2.1.1=4))then
some true
else
some (!decide (rI.2.2.1.2=0)))))):Option Bool).bind fun uD=>
(if uD then
some ((0,(0,0)),8)
else
(M.gG N rI a2.1 a1.2.2 (Yl a0.2 8)).bind fun mL=>
(M.dR N 3 mL.1 mL.2).bind fun pX=>
some (pX.1,pX.2))))))
def VU(N:Nat):bf:=⟨⟨[(0, .g aa),(1, .g af),(2, .g aP)],[],[],0⟩,⟨[(0, .g af),(1, .l ae)],[],[],0⟩,fun(x:aa.den×af.den×aP.den)=>M.aR N x.1 x.2.1 x.2.2⟩
theorem VV(N:Nat):aC Tryz.prog 79 (VU N):=fw (en [ck (Jl N),ck (Lx N),ck (Ly N),ck (LB N),ck (Pn N),ck (Pw N),ck (Jo N)] false false) (N:=N) (.o (.two (.o (.two (.o (.o (.o (.o (.meet ⟨[(43, .l .bool)],[],[],176⟩ .nil .nil))))) .nil)) (.o (.two (.meet ⟨[(115, .l .bool)],[],[],352⟩ .nil .nil) .nil)))) Tryz.func79 (by kernel_rfl) fun x=>by kernel_rfl
def M.ir(N:Nat)(a0:Int)(a1:Int)(a2:Int):Option (af.den×Int):=
(M.fG N a0).bind fun y1=>
((if(decide (a1<0))then
some (X6.wrap (0-a1))
else
some a1):Option Int).bind fun j2=>
((if(decide (a2<0))then
some (X6.wrap (0-a2))
else
some a2):Option Int).bind fun j3=>
((if(!decide (j3=0))then
(gR y1.2 j3).bind fun x5=>
some (decide ((X6.wrap x5)<j2))
else
some false):Option Bool).bind fun j4=>
(if j4 then
some ((0,(0,0)),3)
else
(M.bq N a0 (X6.wrap (a1*a2))).bind fun y6=>
some (y6.1,y6.2))
def Py(N:Nat):bf:=⟨⟨[(0, .l ae),(1, .l ae),(2, .l ae)],[],[],0⟩,⟨[(0, .g af),(1, .l ae)],[],[],0⟩,fun(x:Int×Int×Int)=>M.ir N x.1 x.2.1 x.2.2⟩
theorem Pz(N:Nat):aC Tryz.prog 130 (Py N):=fw (en [ck (Rw N),ck (Jl N)] false false) (N:=N) (.o (.o (.o (.o (.meet ⟨[(10, .l ae)],[],[],208⟩ .nil (.meet ⟨[(11, .l ae)],[],[],208⟩ .nil (.two (.meet ⟨[(35, .l .bool)],[],[],208⟩ .nil .nil) .nil))))))) Tryz.func130 (by kernel_rfl) fun x=>by kernel_rfl
def M.fH(N:Nat)(a0:Int):Option Int:=
(if(decide (a0<0))then
some (X6.wrap (0-a0))
else
some a0)
def PA(N:Nat):bf:=⟨⟨[(0, .l ae)],[],[],0⟩,⟨[(0, .l ae)],[],[],0⟩,fun(x:Int)=>M.fH N x⟩
theorem Jp(N:Nat):aC Tryz.prog 147 (PA N):=fw (en [] false false) (N:=N) .nil Tryz.func147 (by kernel_rfl) fun x=>by kernel_rfl
def M.kJ(N:Nat)(a0:Int)(a1:Int)(a2:Int)(a3:Int):Option (Int×Int):=
(M.gf N a3).bind fun y1=>
(if(!y1)then
some (0,1)
else
(if(decide (a2=0))then
some (0,12)
else
((M.bT N a0 1000000000000000).bind fun y3=>
(if y3 then
some true
else
(M.bT N a1 1000000000).bind fun y4=>
(if y4 then
some true
else
(M.bT N a2 1000000000).bind fun y5=>
some y5)):Option Bool).bind fun j2=>
(if j2 then
some (0,3)
else
(M.fH N a0).bind fun y6=>
(M.fH N a1).bind fun y7=>
(M.fH N a2).bind fun y8=>
((if(decide (0<y7))then
(gR y6 y8).bind fun rI=>
(gR 1000000000000000 y7).bind fun pi=>
some (decide ((X6.wrap pi)<(X6.wrap rI)))
else
some false):Option Bool).bind fun j9=>
(if j9 then
some (0,3)
else
(li y6 y8).bind fun uV=>
(gR y6 y8).bind fun kY=>
(gR (X6.wrap (uV*y7)) y8).bind fun xB=>
(li (X6.wrap (uV*y7)) y8).bind fun uW=>
(M.di N (X6.wrap ((X6.wrap ((X6.wrap kY)*y7))+(X6.wrap xB))) uW y8 (!decide ((!decide ((decide (a0<0))=(decide (a1<0))))=(decide (a2<0)))) a3).bind fun wG=>
(M.bT N wG 1000000000000000).bind fun GU=>
(if GU then
some (0,3)
else
some (wG,0))))))
def PB(N:Nat):bf:=⟨⟨[(0, .l ae),(1, .l ae),(2, .l ae),(3, .l ae)],[],[],0⟩,⟨[(0, .l ae),(1, .l ae)],[],[],0⟩,fun(x:Int×Int×Int×Int)=>M.kJ N x.1 x.2.1 x.2.2.1 x.2.2.2⟩
theorem PC(N:Nat):aC Tryz.prog 143 (PB N):=fw (en [ck (GX N),ck (GY N),ck (GZ N),ck (Jp N)] false false) (N:=N) (.o (.o (.o (.two (.meet ⟨[(30, .l .bool)],[],[],112⟩ .nil .nil) (.o (.two (.meet ⟨[(46, .l .bool)],[],[],256⟩ .nil .nil) .nil)))))) Tryz.func143 (by kernel_rfl) fun x=>by kernel_rfl
def M.jz(N:Nat)(a0:Int)(a1:Int)(a2:Int):Option (Int×Int):=
(M.kJ N a0 a1 1000000 a2).bind fun y1=>
some (y1.1,y1.2)
def PD(N:Nat):bf:=⟨⟨[(0, .l ae),(1, .l ae),(2, .l ae)],[],[],0⟩,⟨[(0, .l ae),(1, .l ae)],[],[],0⟩,fun(x:Int×Int×Int)=>M.jz N x.1 x.2.1 x.2.2⟩
theorem PE(N:Nat):aC Tryz.prog 131 (PD N):=fw (en [ck (PC N)] false false) (N:=N) .nil Tryz.func131 (by kernel_rfl) fun x=>by kernel_rfl
def M.cN(N:Nat)(a0:Int)(a1:Int):Option Bool:=
((if(decide (a1<a0))then
some true
else
some (decide (a0<(X6.wrap (0-a1))))):Option Bool).bind fun j1=>
some j1
def PF(N:Nat):bf:=⟨⟨[(0, .l ae),(1, .l ae)],[],[],0⟩,⟨[(0, .l .bool)],[],[],0⟩,fun(x:Int×Int)=>M.cN N x.1 x.2⟩
theorem LD(N:Nat):aC Tryz.prog 144 (PF N):=fw (en [] false false) (N:=N) (.o (.meet ⟨[(4, .l .bool)],[],[],16⟩ .nil .nil)) Tryz.func144 (by kernel_rfl) fun x=>by kernel_rfl
def M.iD(N:Nat)(a0:Int)(a1:Int):Option (Int×Int):=
(gR a0 a1).bind fun x1=>
(li a0 a1).bind fun x2=>
(if(decide (x2<0))then
some (X6.wrap ((X6.wrap x1)-1),X6.wrap (x2+a1))
else
some (X6.wrap x1,x2))
def PG(N:Nat):bf:=⟨⟨[(0, .l ae),(1, .l ae)],[],[],0⟩,⟨[(0, .l ae),(1, .l ae)],[],[],0⟩,fun(x:Int×Int)=>M.iD N x.1 x.2⟩
theorem LF(N:Nat):aC Tryz.prog 145 (PG N):=fw (en [] false false) (N:=N) .nil Tryz.func145 (by kernel_rfl) fun x=>by kernel_rfl
def M.dS(N:Nat)(a0:Int)(a1:Int)(a2:Int)(a3:Int):Option Int:=
(if(decide (a1=0))then
some a0
else
((if(decide (a3=1))then
some true
else
(if(decide (a3=2))then
(if(decide (a0<0))then
some true
else
(if(decide (a3=3))then
some (decide (0<=a0))
else
some false))
else
(if(decide (a3=3))then
some (decide (0<=a0))
else
some false))):Option Bool).bind fun j1=>
(((if(decide (a3=4))then
some true
else
some (decide (a3=5))):Option Bool).bind fun j3=>
(if j3 then
(if(decide (a1=(X6.wrap (a2-a1))))then
(if(decide (a3=4))then
(if(decide (0<=a0))then
some true
else
(if(decide (a3=5))then
some (!decide ((Yl a0 2)=0))
else
some false))
else
(if(decide (a3=5))then
some (!decide ((Yl a0 2)=0))
else
some false))
else
some (decide ((X6.wrap (a2-a1))<a1)))
else
some j1):Option Bool).bind fun j2=>
(if j2 then
some (X6.wrap (a0+1))
else
some a0))
def PH(N:Nat):bf:=⟨⟨[(0, .l ae),(1, .l ae),(2, .l ae),(3, .l ae)],[],[],0⟩,⟨[(0, .l ae)],[],[],0⟩,fun(x:Int×Int×Int×Int)=>M.dS N x.1 x.2.1 x.2.2.1 x.2.2.2⟩
theorem LG(N:Nat):aC Tryz.prog 146 (PH N):=fw (en [] false false) (N:=N) (.o (.o (.meet ⟨[(9, .l .bool)],[],[],48⟩ .nil (.meet ⟨[(9, .l .bool)],[],[],48⟩ (.meet ⟨[(36, .l .bool)],[],[],48⟩ .nil .nil) .nil)))) Tryz.func146 (by kernel_rfl) fun x=>by kernel_rfl
def M.kf(N:Nat)(a0:Int)(a1:Int)(a2:Int):Option (Int×Int):=
((if(decide (a2<0))then
some true
else
some (decide (5<a2))):Option Bool).bind fun j1=>
(if j1 then
some (0,1)
else
((M.cN N a0 1000000000).bind fun y3=>
(if y3 then
some true
else
(M.cN N a1 1000000000).bind fun y4=>
some y4):Option Bool).bind fun j2=>
(if j2 then
some (0,3)
else
(M.iD N (X6.wrap (a0*a1)) 1000000).bind fun y5=>
(M.dS N y5.1 y5.2 1000000 a2).bind fun y6=>
(M.cN N y6 1000000000).bind fun y7=>
(if y7 then
some (0,3)
else
some (y6,0))))
def PI(N:Nat):bf:=⟨⟨[(0, .l ae),(1, .l ae),(2, .l ae)],[],[],0⟩,⟨[(0, .l ae),(1, .l ae)],[],[],0⟩,fun(x:Int×Int×Int)=>M.kf N x.1 x.2.1 x.2.2⟩
theorem PJ(N:Nat):aC Tryz.prog 132 (PI N):=fw (en [ck (LD N),ck (LF N),ck (LG N)] false false) (N:=N) (.o (.two (.meet ⟨[(16, .l .bool)],[],[],32⟩ .nil .nil) (.two (.meet ⟨[(22, .l .bool)],[],[],32⟩ .nil .nil) .nil))) Tryz.func132 (by kernel_rfl) fun x=>by kernel_rfl
def M.fW(N:Nat)(a0:Int)(a1:Int)(a2:Int):Option (Int×Int):=
((if(decide (a2<0))then
some true
else
some (decide (5<a2))):Option Bool).bind fun j1=>
(if j1 then
some (0,1)
else
(if(decide (a1=0))then
some (0,12)
else
((M.cN N a0 1000000000000000).bind fun y3=>
(if y3 then
some true
else
(M.cN N a1 1000000000000000).bind fun y4=>
some y4):Option Bool).bind fun j2=>
(if j2 then
some (0,3)
else
((if(decide (a1<0))then
some (X6.wrap (0-a0),X6.wrap (0-a1))
else
some (a0,a1)):Option (Int×Int)).bind fun j5=>
(M.iD N j5.1 j5.2).bind fun y6=>
(M.cN N y6.1 1001).bind fun y7=>
(if y7 then
some (0,3)
else
(gR (X6.wrap (y6.2*1000)) j5.2).bind fun x8=>
(li (X6.wrap (y6.2*1000)) j5.2).bind fun x9=>
(gR (X6.wrap (x9*1000)) j5.2).bind fun rI=>
(li (X6.wrap (x9*1000)) j5.2).bind fun pi=>
(M.dS N (X6.wrap ((X6.wrap ((X6.wrap (y6.1*1000000))+(X6.wrap ((X6.wrap x8)*1000))))+(X6.wrap rI))) pi j5.2 a2).bind fun mL=>
(M.cN N mL 1000000000).bind fun pX=>
(if pX then
some (0,3)
else
some (mL,0))))))
def PK(N:Nat):bf:=⟨⟨[(0, .l ae),(1, .l ae),(2, .l ae)],[],[],0⟩,⟨[(0, .l ae),(1, .l ae)],[],[],0⟩,fun(x:Int×Int×Int)=>M.fW N x.1 x.2.1 x.2.2⟩
theorem PL(N:Nat):aC Tryz.prog 133 (PK N):=fw (en [ck (LD N),ck (LF N),ck (LG N)] false false) (N:=N) (.o (.two (.meet ⟨[(18, .l .bool)],[],[],32⟩ .nil .nil) (.o (.two (.meet ⟨[(26, .l .bool)],[],[],64⟩ .nil .nil) (.meet ⟨[(0, .l ae),(1, .l ae)],[],[],64⟩ .nil .nil))))) Tryz.func133 (by kernel_rfl) fun x=>by kernel_rfl
def M.gH(N:Nat)(a0:Int)(a1:Int)(a2:Int):Option (Int×Int):=
(M.gf N a2).bind fun y1=>
(if(!y1)then
some (0,1)
else
(if(decide (a1=0))then
some (0,12)
else
((M.bT N a0 4611686018427387904).bind fun y3=>
(if y3 then
some true
else
(M.bT N a1 4611686018427387904).bind fun y4=>
some y4):Option Bool).bind fun j2=>
(if j2 then
some (0,3)
else
(M.fH N a0).bind fun y5=>
(M.fH N a1).bind fun y6=>
(gR y5 y6).bind fun x7=>
(li y5 y6).bind fun x8=>
(M.di N (X6.wrap x7) x8 y6 (!decide ((decide (a0<0))=(decide (a1<0)))) a2).bind fun y9=>
some (y9,0))))
def PM(N:Nat):bf:=⟨⟨[(0, .l ae),(1, .l ae),(2, .l ae)],[],[],0⟩,⟨[(0, .l ae),(1, .l ae)],[],[],0⟩,fun(x:Int×Int×Int)=>M.gH N x.1 x.2.1 x.2.2⟩
theorem PN(N:Nat):aC Tryz.prog 134 (PM N):=fw (en [ck (GX N),ck (GY N),ck (GZ N),ck (Jp N)] false false) (N:=N) (.o (.o (.o (.two (.meet ⟨[(20, .l .bool)],[],[],112⟩ .nil .nil) .nil)))) Tryz.func134 (by kernel_rfl) fun x=>by kernel_rfl
def M.fS(N:Nat)(a0:Int)(a1:Int)(a2:Int):Option (Int×Int):=
(M.gf N a2).bind fun y1=>
(if(!y1)then
some (0,1)
else
(if(decide (a1<1))then
some (0,12)
else
((M.bT N a0 1000000000000000).bind fun y3=>
(if y3 then
some true
else
some (decide (1000000000000000<a1))):Option Bool).bind fun j2=>
(if j2 then
some (0,3)
else
(M.fH N a0).bind fun y4=>
(gR y4 a1).bind fun x5=>
(li y4 a1).bind fun x6=>
(M.di N (X6.wrap x5) x6 a1 (decide (a0<0)) a2).bind fun y7=>
(M.bT N (X6.wrap (y7*a1)) 1000000000000000).bind fun y8=>
(if y8 then
some (0,3)
else
some (X6.wrap (y7*a1),0)))))
def PO(N:Nat):bf:=⟨⟨[(0, .l ae),(1, .l ae),(2, .l ae)],[],[],0⟩,⟨[(0, .l ae),(1, .l ae)],[],[],0⟩,fun(x:Int×Int×Int)=>M.fS N x.1 x.2.1 x.2.2⟩
theorem PP(N:Nat):aC Tryz.prog 135 (PO N):=fw (en [ck (GX N),ck (GY N),ck (GZ N),ck (Jp N)] false false) (N:=N) (.o (.o (.o (.two (.meet ⟨[(20, .l .bool)],[],[],112⟩ .nil .nil) .nil)))) Tryz.func135 (by kernel_rfl) fun x=>by kernel_rfl
def M.fI(N:Nat)(a0:aa.den)(a1:af.den)(a2:af.den):Option (af.den×Int):=
((if(decide (a0.1=13))then
(if(decide (a2.1=2))then
(if(decide (a1.1=3))then
some true
else
some (decide (a1.1=2)))
else
some false)
else
some false):Option Bool).bind fun j1=>
(if j1 then
(M.ir N a1.1 a1.2.2 a2.2.2).bind fun y2=>
some (y2.1,y2.2)
else
((if(decide (a0.1=14))then
(if(decide (a2.1=4))then
some (decide (a1.1=3))
else
some false)
else
some false):Option Bool).bind fun j3=>
(if j3 then
(M.jz N a1.2.2 a2.2.2 a0.2).bind fun y4=>
(M.dR N a1.1 y4.1 y4.2).bind fun y5=>
some (y5.1,y5.2)
else
((if(decide (a0.1=14))then
(if(decide (a2.1=4))then
some (decide (a1.1=4))
else
some false)
else
some false):Option Bool).bind fun j6=>
(if j6 then
(M.kf N a1.2.2 a2.2.2 a0.2).bind fun y7=>
(M.dR N a1.1 y7.1 y7.2).bind fun y8=>
some (y8.1,y8.2)
else
((if(decide (a0.1=15))then
(if(decide (a1.1=3))then
some (decide (a2.1=3))
else
some false)
else
some false):Option Bool).bind fun j9=>
(if j9 then
(M.fW N a1.2.2 a2.2.2 a0.2).bind fun kF=>
(M.dR N 4 kF.1 kF.2).bind fun ph=>
some (ph.1,ph.2)
else
((if(decide (a0.1=15))then
(if(decide (a2.1=2))then
(if(decide (a1.1=3))then
some true
else
some (decide (a1.1=2)))
else
some false)
else
some false):Option Bool).bind fun CU=>
(if CU then
(M.gH N a1.2.2 a2.2.2 a0.2).bind fun pX=>
(M.dR N a1.1 pX.1 pX.2).bind fun lc=>
some (lc.1,lc.2)
else
((if(decide (a0.1=16))then
(if(decide (a1.1=3))then
some (decide (a2.1=3))
else
some false)
else
some false):Option Bool).bind fun OG=>
(if OG then
(M.fS N a1.2.2 a2.2.2 a0.2).bind fun wG=>
(M.dR N a1.1 wG.1 wG.2).bind fun GU=>
some (GU.1,GU.2)
else
some ((0,(0,0)),8)))))))
def PQ(N:Nat):bf:=⟨⟨[(0, .g aa),(1, .g af),(2, .g af)],[],[],0⟩,⟨[(0, .g af),(1, .l ae)],[],[],0⟩,fun(x:aa.den×af.den×af.den)=>M.fI N x.1 x.2.1 x.2.2⟩
theorem PR(N:Nat):aC Tryz.prog 106 (PQ N):=fw (en [ck (Jo N),ck (Pz N),ck (PE N),ck (PJ N),ck (PL N),ck (PN N),ck (PP N)] false false) (N:=N) (.o (.o (.two (.two (.meet ⟨[(22, .l .bool)],[],[],144⟩ .nil (.o (.meet ⟨[(48, .l .bool)],[],[],144⟩ .nil (.o (.meet ⟨[(77, .l .bool)],[],[],144⟩ .nil (.o (.meet ⟨[(108, .l .bool)],[],[],144⟩ .nil (.o (.meet ⟨[(135, .l .bool)],[],[],144⟩ .nil (.o (.meet ⟨[(169, .l .bool)],[],[],144⟩ .nil .nil))))))))))) .nil) .nil))) Tryz.func106 (by kernel_rfl) fun x=>by kernel_rfl
def M.iu(N:Nat)(a0:Int)(a1:Int)(a2:Int):Option (Int×Int):=
((if(decide (a0<1900))then
some true
else
(if(decide (2199<a0))then
some true
else
(if(decide (a2<1))then
some true
else
(M.bW N a0 a1).bind fun y2=>
some (decide (y2<a2))))):Option Bool).bind fun j1=>
(if j1 then
some (0,3)
else
(Loop (S:=Int×Int) (X:=Int) (fun s4=>
(if(decide (s4.2<a0))then
(M.dm N s4.2).bind fun y5=>
some (.inl (X6.wrap (s4.1+y5),X6.wrap (s4.2+1)))
else
some (.inr s4.1))) N (X6.wrap (a2-1),1900):Option Int).bind fun j3=>
Loop (S:=Int×Int) (X:=Int×Int) (fun s6=>
(if(decide (s6.2<a1))then
(M.bW N a0 s6.2).bind fun y7=>
some (.inl (X6.wrap (s6.1+y7),X6.wrap (s6.2+1)))
else
some (.inr (s6.1,0)))) N (j3,1))
def PS(N:Nat):bf:=⟨⟨[(0, .l ae),(1, .l ae),(2, .l ae)],[],[],0⟩,⟨[(0, .l ae),(1, .l ae)],[],[],0⟩,fun(x:Int×Int×Int)=>M.iu N x.1 x.2.1 x.2.2⟩
theorem PT(N:Nat):aC Tryz.prog 148 (PS N):=fw (en [ck (LA N),ck (Jn N)] false false) (N:=N) (.o (.two (.meet ⟨[(27, .l .bool)],[],[],32⟩ .nil .nil) (.o (.meet ⟨[(8, .l ae)],[],[],80⟩ (.o (.two (.loop ⟨[(8, .l ae),(9, .l ae)],[],[],96⟩ .nil) .nil)) (.two (.o (.two (.loop ⟨[(8, .l ae),(10, .l ae)],[],[],96⟩ .nil) .nil)) .nil))))) Tryz.func148 (by kernel_rfl) fun x=>by kernel_rfl
def M.b9(N:Nat)(a0:Int)(a1:Int):Option (Int×Int):=
((M.fo N a0).bind fun y2=>
(if(!y2)then
some true
else
(if(decide (a1<(-3600)))then
some true
else
some (decide (3600<a1)))):Option Bool).bind fun j1=>
(if j1 then
some (0,3)
else
(M.eo N a0).bind fun y3=>
(M.bW N (X6.wrap (Yn (X6.wrap ((X6.wrap ((X6.wrap ((X6.wrap (12*y3.1))+y3.2.1))-1))+a1)) 12)) (X6.wrap ((Yl (X6.wrap ((X6.wrap ((X6.wrap ((X6.wrap (12*y3.1))+y3.2.1))-1))+a1)) 12)+1))).bind fun y4=>
(M.iu N (X6.wrap (Yn (X6.wrap ((X6.wrap ((X6.wrap ((X6.wrap (12*y3.1))+y3.2.1))-1))+a1)) 12)) (X6.wrap ((Yl (X6.wrap ((X6.wrap ((X6.wrap ((X6.wrap (12*y3.1))+y3.2.1))-1))+a1)) 12)+1)) (if y4<y3.2.2 then y4 else y3.2.2)).bind fun y5=>
some (y5.1,y5.2))
def PU(N:Nat):bf:=⟨⟨[(0, .l ae),(1, .l ae)],[],[],0⟩,⟨[(0, .l ae),(1, .l ae)],[],[],0⟩,fun(x:Int×Int)=>M.b9 N x.1 x.2⟩
theorem LH(N:Nat):aC Tryz.prog 136 (PU N):=fw (en [ck (LB N),ck (Jm N),ck (Jn N),ck (PT N)] false false) (N:=N) (.o (.two (.meet ⟨[(20, .l .bool)],[],[],32⟩ .nil .nil) .nil)) Tryz.func136 (by kernel_rfl) fun x=>by kernel_rfl
def M.dy(N:Nat)(a0:Int)(a1:Int):Option Int:=
((M.fo N a0).bind fun y2=>
(if(!y2)then
some true
else
(M.fo N a1).bind fun y3=>
some (!y3)):Option Bool).bind fun j1=>
(if j1 then
some 0
else
Loop (S:=Int) (X:=Int) (fun s4=>
(M.b9 N a0 (X6.wrap (12*(X6.wrap (s4+1))))).bind fun y5=>
((if(!decide (y5.2=0))then
some true
else
some (decide (a1<y5.1))):Option Bool).bind fun j6=>
(if j6 then
some (.inr s4)
else
some (.inl (X6.wrap (s4+1))))) N 0)
def PV(N:Nat):bf:=⟨⟨[(0, .l ae),(1, .l ae)],[],[],0⟩,⟨[(0, .l ae)],[],[],0⟩,fun(x:Int×Int)=>M.dy N x.1 x.2⟩
theorem PW(N:Nat):aC Tryz.prog 137 (PV N):=fw (en [ck (Jm N),ck (LH N)] false false) (N:=N) (.o (.two (.meet ⟨[(15, .l .bool)],[],[],16⟩ .nil .nil) (.o (.two (.loop ⟨[(5, .l ae)],[],[],32⟩ (.two (.o (.two (.meet ⟨[(30, .l .bool)],[],[],192⟩ .nil .nil) .nil)) .nil)) .nil)))) Tryz.func137 (by kernel_rfl) fun x=>by kernel_rfl
def M.gr(N:Nat)(a0:Int)(a1:af.den)(a2:af.den):Option (af.den×Int):=
(if(!decide (a1.1=5))then
some ((0,(0,0)),8)
else
((if(decide (a0=27))then
some true
else
some (decide (a0=28))):Option Bool).bind fun j1=>
(if j1 then
(if(!decide (a2.1=2))then
some ((0,(0,0)),8)
else
(if(decide (a0=27))then
(M.bq N 5 (X6.wrap (a1.2.2+a2.2.2))).bind fun y2=>
some (y2.1,y2.2)
else
(M.b9 N a1.2.2 a2.2.2).bind fun y3=>
(M.dR N 5 y3.1 y3.2).bind fun y4=>
some (y4.1,y4.2)))
else
(if(!decide (a2.1=5))then
some ((0,(0,0)),8)
else
(if(decide (a0=29))then
(M.bq N 2 (X6.wrap (a2.2.2-a1.2.2))).bind fun y5=>
some (y5.1,y5.2)
else
(M.dy N a1.2.2 a2.2.2).bind fun y6=>
(M.bq N 2 y6).bind fun y7=>
some (y7.1,y7.2)))))
def PX(N:Nat):bf:=⟨⟨[(0, .l ae),(1, .g af),(2, .g af)],[],[],0⟩,⟨[(0, .g af),(1, .l ae)],[],[],0⟩,fun(x:Int×af.den×af.den)=>M.gr N x.1 x.2.1 x.2.2⟩
theorem PY(N:Nat):aC Tryz.prog 107 (PX N):=fw (en [ck (Jl N),ck (Jo N),ck (LH N),ck (PW N)] false false) (N:=N) (.o (.o (.two (.meet ⟨[(19, .l .bool)],[],[],112⟩ .nil .nil) .nil))) Tryz.func107 (by kernel_rfl) fun x=>by kernel_rfl
def M.bz(N:Nat)(a0:Int)(a1:af.den)(a2:af.den):Option (af.den×Int):=
((if(!decide (a1.1=a2.1))then
some true
else
some (!decide (a1.2.1=a2.2.1))):Option Bool).bind fun j1=>
(if j1 then
some ((0,(0,0)),8)
else
(if(decide (a0=19))then
(M.cR N (decide (a1.2.2=a2.2.2))).bind fun y2=>
some (y2.1,y2.2)
else
(if(decide (a0=20))then
(M.cR N (!decide (a1.2.2=a2.2.2))).bind fun y3=>
some (y3.1,y3.2)
else
((if(decide (a0=23))then
some (decide (a0=23))
else
some (decide (a0=24))):Option Bool).bind fun j4=>
(if j4 then
(if(!decide (a1.1=1))then
some ((0,(0,0)),8)
else
((if(decide ((X6.wrap (a1.2.2+a2.2.2))=2))then
(M.cR N true).bind fun y6=>
some (y6.2,y6.1)
else
(if(decide (a0=24))then
(M.cR N (decide ((X6.wrap (a1.2.2+a2.2.2))=1))).bind fun y7=>
some (y7.2,y7.1)
else
(M.cR N false).bind fun y8=>
some (y8.2,y8.1))):Option (Int×af.den)).bind fun j5=>
some (j5.2,j5.1))
else
((if(decide (a0=11))then
some (decide (a0=11))
else
some (decide (a0=12))):Option Bool).bind fun j9=>
(if j9 then
(M.bG N a1.1).bind fun kF=>
(if(!kF)then
some ((0,(0,0)),8)
else
(if(decide (a0=11))then
(M.bq N a1.1 (X6.wrap (a1.2.2+a2.2.2))).bind fun ph=>
some (ph.1,ph.2)
else
(M.bq N a1.1 (X6.wrap (a1.2.2-a2.2.2))).bind fun mL=>
some (mL.1,mL.2)))
else
((M.bG N a1.1).bind fun lc=>
(if(!lc)then
some (!decide (a1.1=5))
else
some false):Option Bool).bind fun Ll=>
(if Ll then
some ((0,(0,0)),8)
else
(if(decide (a0=21))then
(M.cR N (decide (a1.2.2<a2.2.2))).bind fun mM=>
some (mM.1,mM.2)
else
(if(decide (a0=22))then
(M.cR N (decide (a1.2.2<=a2.2.2))).bind fun wG=>
some (wG.1,wG.2)
else
(if(decide ((decide (a0=17))=(decide (a1.2.2<a2.2.2))))then
some (a1,0)
else
some (a2,0))))))))))
def PZ(N:Nat):bf:=⟨⟨[(0, .l ae),(1, .g af),(2, .g af)],[],[],0⟩,⟨[(0, .g af),(1, .l ae)],[],[],0⟩,fun(x:Int×af.den×af.den)=>M.bz N x.1 x.2.1 x.2.2⟩
theorem P0(N:Nat):aC Tryz.prog 108 (PZ N):=fw (en [ck (Jl N),ck (Lx N),ck (Ly N)] false false) (N:=N) (.o (.two (.meet ⟨[(19, .l .bool)],[],[],64⟩ .nil .nil) (.two (.o (.two (.o (.o (.o (.o (.meet ⟨[(42, .l .bool)],[],[],144⟩ .nil (.two (.o (.meet ⟨[(7, .l ae)],[(32, .box 45 (.leaf af))],[],193⟩ .nil .nil)) (.meet ⟨[(70, .l .bool)],[],[],144⟩ .nil .nil))))))) .nil)) (.two (.meet ⟨[(108, .l .bool)],[],[],144⟩ .nil .nil) .nil)))) Tryz.func108 (by kernel_rfl) fun x=>by kernel_rfl
def M.au(N:Nat)(a0:aa.den)(a1:af.den)(a2:af.den):Option (af.den×Int):=
((if(decide (13<=a0.1))then
some (decide (a0.1<=16))
else
some false):Option Bool).bind fun j1=>
(if j1 then
(M.fI N a0 a1 a2).bind fun y2=>
some (y2.1,y2.2)
else
(if(decide (27<=a0.1))then
(M.gr N a0.1 a1 a2).bind fun y3=>
some (y3.1,y3.2)
else
(M.bz N a0.1 a1 a2).bind fun y4=>
some (y4.1,y4.2)))
def VW(N:Nat):bf:=⟨⟨[(0, .g aa),(1, .g af),(2, .g af)],[],[],0⟩,⟨[(0, .g af),(1, .l ae)],[],[],0⟩,fun(x:aa.den×af.den×af.den)=>M.au N x.1 x.2.1 x.2.2⟩
theorem VX(N:Nat):aC Tryz.prog 80 (VW N):=fw (en [ck (PR N),ck (PY N),ck (P0 N)] false false) (N:=N) (.o (.two (.meet ⟨[(15, .l .bool)],[],[],80⟩ .nil .nil) .nil)) Tryz.func80 (by kernel_rfl) fun x=>by kernel_rfl
def M.fq(N:Nat)(a0:aa.den)(a1:List af.den)(a2:aP.den):Option (af.den×Int):=
(M.fF N a0 (a1.length:Int)).bind fun y1=>
(if(!y1)then
some ((0,(0,0)),2)
else
(M.iC N a0 a2).bind fun y2=>
(if(!y2)then
some ((0,(0,0)),6)
else
da (J:=Unit) (R:=af.den×Int) (Loop (S:=Int) (X:=Unit⊕(af.den×Int)) (fun s4=>
(if(decide (s4<(a1.length:Int)))then
(idx a1 s4).bind fun x5=>
(M.bg N x5).bind fun y6=>
(if(!y6)then
some (.inr (.inr ((0,(0,0)),8)))
else
some (.inl (X6.wrap (s4+1))))
else
some (.inr (.inl ())))) N 0) fun j3=>
(if(decide ((a1.length:Int)=0))then
((if(decide (36<=a0.1))then
some (decide (a0.1<=39))
else
some false):Option Bool).bind fun j7=>
(if j7 then
(M.il N a0 a2).bind fun y8=>
some (y8.1,y8.2)
else
(M.bm N a0 a2).bind fun y9=>
some (y9.1,y9.2))
else
(if(decide ((a1.length:Int)=1))then
(idx a1 0).bind fun rI=>
(M.aR N a0 rI a2).bind fun ph=>
some (ph.1,ph.2)
else
(if(decide ((a1.length:Int)=2))then
(idx a1 0).bind fun uV=>
(idx a1 1).bind fun kY=>
(M.au N a0 uV kY).bind fun lc=>
some (lc.1,lc.2)
else
(idx a1 0).bind fun uW=>
(idx a1 1).bind fun Ca=>
(idx a1 2).bind fun yL=>
((if(!decide (uW.1=1))then
some true
else
(if(!decide (Ca.1=yL.1))then
some true
else
some (!decide (Ca.2.1=yL.2.1)))):Option Bool).bind fun Li=>
(if Li then
some ((0,(0,0)),8)
else
(if(decide (uW.2.2=1))then
some (Ca,0)
else
some (yL,0))))))))
def VY(N:Nat):bf:=⟨⟨[(0, .g aa),(1, .l (.slice af)),(2, .g aP)],[],[],0⟩,⟨[(0, .g af),(1, .l ae)],[],[],0⟩,fun(x:aa.den×(List af.den)×aP.den)=>M.fq N x.1 x.2.1 x.2.2⟩
theorem VZ(N:Nat):aC Tryz.prog 61 (VY N):=fw (en [ck (VE N),ck (VG N),ck (Lw N),ck (VR N),ck (VT N),ck (VV N),ck (VX N)] false false) (N:=N) (.o (.o (.o (.join ⟨[],[],[],208⟩ (.o (.two (.loop ⟨[(8, .l ae)],[],[],224⟩ .nil) .nil)) (.two (.o (.two (.o (.two (.two (.meet ⟨[(47, .l .bool)],[],[],272⟩ .nil .nil) .nil) .nil)) .nil)) (.o (.two (.meet ⟨[(105, .l .bool)],[],[],576⟩ .nil .nil) .nil))))))) Tryz.func61 (by kernel_rfl) fun x=>by kernel_rfl
def M.m5(N:Nat)(a0:af.den):Option (aa.den):=
(if(decide (a0.1=1))then
some (1,a0.2.2)
else
(if(decide (a0.1=2))then
some (2,a0.2.2)
else
(if(decide (a0.1=3))then
some (3,a0.2.2)
else
(if(decide (a0.1=4))then
some (4,a0.2.2)
else
(if(decide (a0.1=5))then
some (5,a0.2.2)
else
some (6,X6.wrap ((X6.wrap (16*a0.2.1))+a0.2.2)))))))
def V0(N:Nat):bf:=⟨⟨[(0, .g af)],[],[],0⟩,⟨[(0, .g aa)],[],[],0⟩,fun(x:af.den)=>M.m5 N x⟩
theorem V2(N:Nat):aC Tryz.prog 62 (V0 N):=fw (en [] false false) (N:=N) .nil Tryz.func62 (by kernel_rfl) fun x=>by kernel_rfl
def M.gh(N:Nat)(a0:List aa.den)(a1:Int):Option (aa.den×Int×Bool):=
(idx a0 a1).bind fun x1=>
(M.dQ N x1.1).bind fun y2=>
(if y2 then
some ((0,0),0,false)
else
(idx a0 a1).bind fun x3=>
(M.fm N x3.1).bind fun y4=>
((if(decide (y4<1))then
some true
else
some (decide (a1<y4))):Option Bool).bind fun j5=>
(if j5 then
some ((0,0),0,false)
else
da (J:=List af.den) (R:=aa.den×Int×Bool) (Loop (S:=Int×List af.den) (X:=(List af.den)⊕(aa.den×Int×Bool)) (fun s7=>
(if(decide (s7.1<a1))then
(idx a0 s7.1).bind fun x8=>
(M.fR N x8).bind fun y9=>
(if(!y9.2)then
some (.inr (.inr ((0,0),0,false)))
else
(eW s7.2 ([y9.1]:List af.den)).bind fun GW=>
some (.inl (X6.wrap (s7.1+1),GW)))
else
some (.inr (.inl s7.2)))) N (X6.wrap (a1-y4),([]:List af.den))) fun j6=>
da (J:=Unit) (R:=aa.den×Int×Bool) (Loop (S:=Int) (X:=Unit⊕(aa.den×Int×Bool)) (fun qY=>
(if(decide (qY<(a0.length:Int)))then
((idx a0 qY).bind fun xB=>
(M.dQ N xB.1).bind fun mM=>
(if mM then
(idx a0 qY).bind fun Ca=>
(if(decide ((X6.wrap (a1-y4))<Ca.2))then
(idx a0 qY).bind fun yL=>
some (decide (yL.2<=a1))
else
some false)
else
some false):Option Bool).bind fun Ll=>
(if Ll then
some (.inr (.inr ((0,0),0,false)))
else
some (.inl (X6.wrap (qY+1))))
else
some (.inr (.inl ())))) N 0) fun uD=>
(idx a0 a1).bind fun yM=>
(M.fq N yM j6 (0,(([]:List af.den),(([]:List af.den),(([]:List (List af.den)),(([]:List aa.den),([]:List cG.den))))))).bind fun MO=>
(M.m5 N MO.1).bind fun V3=>
some (V3,y4,decide (MO.2=0))))
def V4(N:Nat):bf:=⟨⟨[(0, .l (.slice aa)),(1, .l ae)],[],[],0⟩,⟨[(0, .g aa),(1, .l ae),(2, .l .bool)],[],[],0⟩,fun(x:(List aa.den)×Int)=>M.gh N x.1 x.2⟩
theorem V5(N:Nat):aC Tryz.prog 41 (V4 N):=fw (en [ck (Lv N),ck (O2 N),ck (VA N),ck (VZ N),ck (V2 N)] false false) (N:=N) (.o (.o (.o (.two (.meet ⟨[(34, .l .bool)],[],[],256⟩ .nil .nil) (.o (.join ⟨[(8, .val false (.own 288))],[(288, .own 45 af)],[256],289⟩ (.o (.two (.loop ⟨[(8, .val false (.own 352)),(9, .l ae)],[(352, .own 45 af)],[256],353⟩ .nil) .nil)) (.join ⟨[],[],[],289⟩ (.o (.two (.loop ⟨[(12, .l ae)],[],[],305⟩ (.o (.two (.two (.meet ⟨[(91, .l .bool)],[],[],369⟩ .nil .nil) .nil) .nil))) .nil)) .nil))))))) Tryz.func41 (by kernel_rfl) fun x=>by kernel_rfl
def M.ic(N:Nat)(a0:List aa.den):Option ((List aa.den)×Bool):=
Loop (S:=Int) (X:=(List aa.den)×Bool) (fun s1=>
(if(decide (s1<(a0.length:Int)))then
da (J:=Unit) (R:=Int⊕((List aa.den)×Bool)) ((M.gh N a0 s1).bind fun y3=>
(if(!y3.2.2)then
some (.inl ())
else
(fO a0 0 (X6.wrap (s1-y3.2.1))).bind fun l4=>
(eW ([]:List aa.den) l4).bind fun l5=>
(eW l5 ([y3.1]:List aa.den)).bind fun l6=>
(fO a0 (X6.wrap (s1+1)) (a0.length:Int)).bind fun l7=>
(eW l6 l7).bind fun l8=>
(Loop (S:=Int×List aa.den) (X:=List aa.den) (fun iO=>
(if(decide (iO.1<(iO.2.length:Int)))then
(((idx iO.2 iO.1).bind fun kY=>
(M.dQ N kY.1).bind fun lc=>
(if lc then
(idx iO.2 iO.1).bind fun uW=>
some (decide (s1<uW.2))
else
some false):Option Bool).bind fun CU=>
(if CU then
(idx iO.2 iO.1).bind fun Ca=>
(idx iO.2 iO.1).bind fun yL=>
some (aQ iO.2 iO.1 (yL.1,X6.wrap (Ca.2-y3.2.1)))
else
some iO.2):Option (List aa.den)).bind fun uD=>
some (.inl (X6.wrap (iO.1+1),uD))
else
some (.inr iO.2))) N (0,l8):Option (List aa.den)).bind fun j9=>
some (.inr (.inr (j9,true))))) fun j2=>
some (.inl (X6.wrap (s1+1)))
else
some (.inr (a0,false)))) N 0
def V6(N:Nat):bf:=⟨⟨[(0, .l (.slice aa))],[],[],0⟩,⟨[(0, .l (.slice aa)),(1, .l .bool)],[],[],0⟩,fun(x:List aa.den)=>M.ic N x⟩
theorem V7(N:Nat):aC Tryz.prog 31 (V6 N):=fw (en [ck (Lv N),ck (V5 N)] false false) (N:=N) (.o (.two (.o (.two (.loop ⟨[(4, .l ae)],[],[],48⟩ (.o (.join ⟨[],[],[],112⟩ (.two (.o (.o (.o (.o (.o (.meet ⟨[],[(608, .own 28 aa)],[],641⟩ (.o (.two (.loop ⟨[(9, .l ae)],[(608, .own 28 aa)],[],657⟩ (.o (.two (.meet ⟨[],[(608, .own 28 aa)],[],722⟩ (.meet ⟨[(62, .l .bool)],[],[],721⟩ .nil .nil) .nil) .nil))) .nil)) .nil)))))) .nil) .nil))) .nil)) .nil)) Tryz.func31 (by kernel_rfl) fun x=>by kernel_rfl
def M.dW(N:Nat)(a0:List aa.den):Option (List aa.den):=
(eW ([]:List aa.den) a0).bind fun l1=>
(M.ed N a0).bind fun y2=>
(if(!y2)then
some l1
else
Loop (S:=(List aa.den)×Bool) (X:=List aa.den) (fun s3=>
(if s3.2 then
(M.ic N s3.1).bind fun y4=>
some (.inl (y4.1,y4.2))
else
some (.inr s3.1))) N (l1,true))
def V8(N:Nat):bf:=⟨⟨[(0, .l (.slice aa))],[],[],0⟩,⟨[(0, .l (.slice aa))],[],[],0⟩,fun(x:List aa.den)=>M.dW N x⟩
theorem V9(N:Nat):aC Tryz.prog 21 (V8 N):=fw (en [ck (O5 N),ck (V7 N)] false false) (N:=N) (.o (.o (.o (.two (.o (.two (.loop ⟨[(3, .l (.slice aa)),(4, .l .bool)],[],[48],144⟩ .nil) .nil)) .nil)))) Tryz.func21 (by kernel_rfl) fun x=>by kernel_rfl
def M.gI(N:Nat)(a0:List aa.den):Option (List aa.den):=
(M.dW N a0).bind fun y1=>
(M.eT N y1).bind fun y2=>
(M.cW N y2).bind fun y3=>
some y3
def Wa(N:Nat):bf:=⟨⟨[(0, .l (.slice aa))],[],[],0⟩,⟨[(0, .val false (.own 0))],[(0, .own 28 aa)],[],1⟩,fun(x:List aa.den)=>M.gI N x⟩
theorem Wb(N:Nat):aC Tryz.prog 10 (Wa N):=fw (en [ck (Vw N),ck (Vy N),ck (V9 N)] false false) (N:=N) .nil Tryz.func10 (by kernel_rfl) fun x=>by kernel_rfl
def M.eF(N:Nat)(a0:List aa.den):Option Bool:=
(if(decide (200<(a0.length:Int)))then
(M.jy N).bind fun y1=>
some y1
else
(M.aL N a0).bind fun y2=>
(M.bo N y2).bind fun y3=>
(M.aJ N y3).bind fun y4=>
((M.dL N a0).bind fun y6=>
(M.eD N y6 y4).bind fun y7=>
(if y7 then
(M.gI N a0).bind fun y8=>
(M.eD N y4 y8).bind fun y9=>
(if y9 then
(M.jy N).bind fun kF=>
some kF
else
some false)
else
some false):Option Bool).bind fun j5=>
some j5)
def S3(N:Nat):bf:=⟨⟨[(0, .l (.slice aa))],[],[],0⟩,⟨[(0, .l .bool)],[],[],0⟩,fun(x:List aa.den)=>M.eF N x⟩
theorem W3(N:Nat):aC Tryz.prog 3 (S3 N):=fw (en [ck (W4 N),ck (W5 N),ck (W6 N),ck (W7 N),ck (W8 N),ck (W9 N),ck (Wb N)] false false) (N:=N) (.o (.o (.o (.meet ⟨[(2, .l .bool)],[],[],144⟩ .nil .nil)))) Tryz.func3 (by kernel_rfl) fun x=>by kernel_rfl
end
end Go.Proofs.YtlfjlhcigpejdaaGreatDoor
end
