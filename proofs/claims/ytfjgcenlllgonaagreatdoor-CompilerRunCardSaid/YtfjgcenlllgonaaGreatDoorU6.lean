/- Joined texts: Model. -/
import Derived.Test.YtfjgcenlllgonaaGreatDoorU4
import Derived.Test.YtfjgcenlllgonaaGreatDoorProg
import Derived.Test.YtfjgcenlllgonaaGreatDoorU5
set_option linter.defProp false
open _root_.Decidable renaming decide->ai
open _root_.Bool renaming false->ah,true->af
open _root_.Option renaming none->ae,some->aa,bind->aqH
open _root_.Int renaming tdiv->aqW,tmod->aqY
open _root_.Go.IntKind renaming i64->aqJ,u64->aqP
open _root_.List renaming forall_mem_cons->asg
open _root_.Nat renaming beq->aqU
namespace Go.Proofs.YtfjgcenlllgonaaGreatDoor
open Go Go.RowKit
set_option maxRecDepth 100000
set_option linter.unusedSimpArgs false
set_option linter.unusedVariables false
set_option linter.defProp false
section
noncomputable section
open Tk
variable (N:Nat)
set_option maxRecDepth 100000
set_option linter.unusedVariables false
@[reducible] def aD:Row:= .pair aC aC
@[reducible] def bG:Row:= .pair .str aD
@[reducible] def cm:Row:= .pair .str (.pair aC (.pair aC (.pair aC (.pair aD (.pair (.slice aD) (.pair (.slice aD) .str))))))
@[reducible] def bg:Row:= .pair .str (.pair aC (.pair (.slice bG) (.pair (.slice bG) (.slice cm))))
@[reducible] def b9:Row:= .pair .str (.slice .str)
@[reducible] def fT:Row:= .pair aD (.pair aC aD)
@[reducible] def aP:Row:= .pair .str (.pair aD (.pair aD (.slice fT)))
@[reducible] def cC:Row:= .pair (.slice b9) (.pair (.slice aP) (.slice bg))
@[reducible] def aE:Row:= .pair aC aD
@[reducible] def gO:Row:= .pair aC (.pair (.slice aE) (.slice (.slice aE)))
@[reducible] def aG:Row:= .pair aC aE
@[reducible] def bE:Row:= .pair (.slice b9) (.pair (.slice aP) (.pair (.slice aD) (.pair (.slice aD) (.pair (.slice aD) .bool))))
@[reducible] def bR:Row:= .pair aC (.pair (.slice aE) (.pair (.slice aE) (.pair (.slice (.slice aE)) (.pair (.slice aD) (.slice aP)))))
@[reducible] def Ad:Row:= .pair (.slice aC) (.pair (.slice cm) (.pair (.slice (.slice aD)) (.slice (.slice aD))))
@[reducible] def cn:Row:= .pair bg (.pair Ad (.slice aC))
@[reducible] def jt:Row:= .pair (.slice aC) (.pair (.slice aC) (.slice aC))
@[reducible] def aM:Row:= .pair (.slice aE) (.slice aC)
@[reducible] def ue:Row:= .pair (.slice aE) (.pair (.slice aC) (.slice aM))
def No:TI Tryz.prog 3 aC:=TI.mk (k:=1) (by kernel_rfl) rfl
def Ti4:TI Tryz.prog 4 .bool:=TI.mk (k:=1) (by kernel_rfl) rfl
def Ti9:TI Tryz.prog 9 .str:=TI.mk (k:=1) (by kernel_rfl) rfl
def aew:TI Tryz.prog 22 (.slice b9):=TI.mk (k:=1) (by kernel_rfl) rfl
def aex:TI Tryz.prog 23 (.slice aP):=TI.mk (k:=1) (by kernel_rfl) rfl
def aey:TI Tryz.prog 24 (.slice bg):=TI.mk (k:=1) (by kernel_rfl) rfl
def aez:TI Tryz.prog 26 cC:=TI.mk (k:=3) (by kernel_rfl) rfl
def aeA:TI Tryz.prog 27 (.slice aE):=TI.mk (k:=1) (by kernel_rfl) rfl
def aeB:TI Tryz.prog 28 (.slice (.slice aE)):=TI.mk (k:=1) (by kernel_rfl) rfl
def aeC:TI Tryz.prog 30 gO:=TI.mk (k:=3) (by kernel_rfl) rfl
def aeD:TI Tryz.prog 34 (.slice aC):=TI.mk (k:=1) (by kernel_rfl) rfl
def aeE:TI Tryz.prog 35 (.slice aM):=TI.mk (k:=1) (by kernel_rfl) rfl
def aeF:TI Tryz.prog 37 ue:=TI.mk (k:=3) (by kernel_rfl) rfl
def aap:TI Tryz.prog 38 aC:=TI.mk (k:=1) (by kernel_rfl) rfl
def aeG:TI Tryz.prog 40 aG:=TI.mk (k:=4) (by kernel_rfl) rfl
def aeH:TI Tryz.prog 45 (.slice cm):=TI.mk (k:=1) (by kernel_rfl) rfl
def aeI:TI Tryz.prog 46 (.slice (.slice aD)):=TI.mk (k:=1) (by kernel_rfl) rfl
def aeJ:TI Tryz.prog 48 Ad:=TI.mk (k:=4) (by kernel_rfl) rfl
def aeK:TI Tryz.prog 53 (.slice .str):=TI.mk (k:=1) (by kernel_rfl) rfl
def aeL:TI Tryz.prog 55 b9:=TI.mk (k:=2) (by kernel_rfl) rfl
def aeM:TI Tryz.prog 57 aD:=TI.mk (k:=2) (by kernel_rfl) rfl
def aeN:TI Tryz.prog 58 (.slice fT):=TI.mk (k:=1) (by kernel_rfl) rfl
def aeO:TI Tryz.prog 60 aP:=TI.mk (k:=6) (by kernel_rfl) rfl
def aeP:TI Tryz.prog 61 (.slice bG):=TI.mk (k:=1) (by kernel_rfl) rfl
def aeQ:TI Tryz.prog 63 bg:=TI.mk (k:=5) (by kernel_rfl) rfl
def aeR:TI Tryz.prog 67 aD:=TI.mk (k:=2) (by kernel_rfl) rfl
def aeS:TI Tryz.prog 68 (.slice aD):=TI.mk (k:=1) (by kernel_rfl) rfl
def aeT:TI Tryz.prog 71 aE:=TI.mk (k:=3) (by kernel_rfl) rfl
def aeU:TI Tryz.prog 73 aG:=TI.mk (k:=4) (by kernel_rfl) rfl
def aeV:TI Tryz.prog 77 (.slice aD):=TI.mk (k:=1) (by kernel_rfl) rfl
def aeW:TI Tryz.prog 79 bR:=TI.mk (k:=6) (by kernel_rfl) rfl
def aeX:TI Tryz.prog 83 cn:=TI.mk (k:=10) (by kernel_rfl) rfl
def aeY:TI Tryz.prog 85 bG:=TI.mk (k:=3) (by kernel_rfl) rfl
def aeZ:TI Tryz.prog 90 aM:=TI.mk (k:=2) (by kernel_rfl) rfl
def aaq:TI Tryz.prog 100 aD:=TI.mk (k:=2) (by kernel_rfl) rfl
def aar:TI Tryz.prog 102 cm:=TI.mk (k:=9) (by kernel_rfl) rfl
def aas:TI Tryz.prog 162 (.slice aC):=TI.mk (k:=1) (by kernel_rfl) rfl
def aat:TI Tryz.prog 171 fT:=TI.mk (k:=5) (by kernel_rfl) rfl
def aau:TI Tryz.prog 191 bE:=TI.mk (k:=6) (by kernel_rfl) rfl
def aav:TI Tryz.prog 210 jt:=TI.mk (k:=3) (by kernel_rfl) rfl
def aaw:TI Tryz.prog 213 (.slice aC):=TI.mk (k:=1) (by kernel_rfl) rfl
def aax:TI Tryz.prog 258 (.int .u64):=TI.mk (k:=1) (by kernel_rfl) rfl
def OC:uV Tryz.prog 3 aC 1:=Ka Tryz.underlying3
def ae0:uV Tryz.prog 57 aD 2:=pO Tryz.underlying57 (by kernel_rfl) (oG rfl rfl Tryz.underlying3 (by simp[mg]) No OC (sF rfl rfl Tryz.underlying3 (by simp[mg]) No OC))
def ae1:uV Tryz.prog 67 aD 2:=pO Tryz.underlying67 (by kernel_rfl) (oG rfl rfl Tryz.underlying3 (by simp[mg]) No OC (sF rfl rfl Tryz.underlying3 (by simp[mg]) No OC))
def ae2:uV Tryz.prog 38 aC 1:=Ka Tryz.underlying38
def ae3:uV Tryz.prog 40 aG 2:=pO Tryz.underlying40 (by kernel_rfl) (oG rfl rfl Tryz.underlying38 (by simp[mg]) aap ae2 (oG rfl rfl Tryz.underlying3 (by simp[mg]) No OC (oG rfl rfl Tryz.underlying3 (by simp[mg]) No OC (sF rfl rfl Tryz.underlying3 (by simp[mg]) No OC))))
def ae4:uV Tryz.prog 71 aE 2:=pO Tryz.underlying71 (by kernel_rfl) (oG rfl rfl Tryz.underlying3 (by simp[mg]) No OC (oG rfl rfl Tryz.underlying3 (by simp[mg]) No OC (sF rfl rfl Tryz.underlying3 (by simp[mg]) No OC)))
def aay:uV Tryz.prog 100 aD 2:=pO Tryz.underlying100 (by kernel_rfl) (oG rfl rfl Tryz.underlying3 (by simp[mg]) No OC (sF rfl rfl Tryz.underlying3 (by simp[mg]) No OC))
def tu:∀p∈([(3, .int .i64),(4, .bool),(5, .int .u8),(9, .str),(20, .other),(22, .slice 55),(23, .slice 60),(24, .slice 63),(26, .struct [(22,0),(23,1),(24,2)]),(27, .slice 71),(28, .slice 27),(30, .struct [(3,0),(27,1),(28,2)]),(34, .slice 3),(35, .slice 90),(37, .struct [(27,0),(34,1),(35,2)]),(38, .int .i64),(40, .struct [(38,0),(3,1),(3,2),(3,3)]),(45, .slice 102),(46, .slice 68),(48, .struct [(34,0),(45,1),(46,2),(46,3)]),(53, .slice 9),(55, .struct [(9,0),(53,1)]),(57, .struct [(3,0),(3,1)]),(58, .slice 171),(60, .struct [(9,0),(57,1),(57,3),(58,5)]),(61, .slice 85),(63, .struct [(9,0),(3,1),(61,2),(61,3),(45,4)]),(64, .other),(67, .struct [(3,0),(3,1)]),(68, .slice 67),(71, .struct [(3,0),(3,1),(3,2)]),(73, .struct [(38,0),(3,1),(3,2),(3,3)]),(77, .slice 57),(79, .struct [(3,0),(27,1),(27,2),(28,3),(77,4),(23,5)]),(80, .ptr 83),(83, .struct [(63,0),(48,5),(34,9)]),(85, .struct [(9,0),(57,1)]),(88, .ptr 79),(90, .struct [(27,0),(34,1)]),(100, .struct [(3,0),(3,1)]),(102, .struct [(9,0),(3,1),(3,2),(3,3),(100,4),(68,6),(68,7),(9,8)]),(116, .slice 34),(119, .slice 4),(145, .other),(148, .int .u64),(161, .ptr 162),(162, .slice 3),(171, .struct [(100,0),(3,2),(3,3),(3,4)]),(181, .other),(185, .other),(187, .other),(191, .struct [(22,0),(23,1),(77,2),(77,3),(77,4),(4,5)]),(203, .int .u32),(205, .int .u64),(210, .struct [(34,0),(34,1),(34,2)]),(211, .ptr 213),(213, .struct [(34,0)]),(227, .other),(252, .other),(258, .int .u64),(262, .ptr 3),(292, .ptr 258),(330, .array 12 3)]:List (Nat×Oy)),BT Tryz.prog p.1 p.2:=by
 simp only[asg];exact⟨Tryz.underlying3,Tryz.underlying4,Tryz.underlying5,Tryz.underlying9,⟨_,Tryz.underlying20,rfl⟩,Tryz.underlying22,Tryz.underlying23,Tryz.underlying24,⟨_,Tryz.underlying26,rfl⟩,Tryz.underlying27,Tryz.underlying28,⟨_,Tryz.underlying30,rfl⟩,Tryz.underlying34,Tryz.underlying35,⟨_,Tryz.underlying37,rfl⟩,Tryz.underlying38,⟨_,Tryz.underlying40,rfl⟩,Tryz.underlying45,Tryz.underlying46,⟨_,Tryz.underlying48,rfl⟩,Tryz.underlying53,⟨_,Tryz.underlying55,rfl⟩,⟨_,Tryz.underlying57,rfl⟩,Tryz.underlying58,⟨_,Tryz.underlying60,rfl⟩,Tryz.underlying61,⟨_,Tryz.underlying63,rfl⟩,⟨_,Tryz.underlying64,rfl⟩,⟨_,Tryz.underlying67,rfl⟩,Tryz.underlying68,⟨_,Tryz.underlying71,rfl⟩,⟨_,Tryz.underlying73,rfl⟩,Tryz.underlying77,⟨_,Tryz.underlying79,rfl⟩,Tryz.underlying80,⟨_,Tryz.underlying83,rfl⟩,⟨_,Tryz.underlying85,rfl⟩,Tryz.underlying88,⟨_,Tryz.underlying90,rfl⟩,⟨_,Tryz.underlying100,rfl⟩,⟨_,Tryz.underlying102,rfl⟩,Tryz.underlying116,Tryz.underlying119,⟨_,Tryz.underlying145,rfl⟩,Tryz.underlying148,Tryz.underlying161,Tryz.underlying162,⟨_,Tryz.underlying171,rfl⟩,⟨_,Tryz.underlying181,rfl⟩,⟨_,Tryz.underlying185,rfl⟩,⟨_,Tryz.underlying187,rfl⟩,⟨_,Tryz.underlying191,rfl⟩,Tryz.underlying203,Tryz.underlying205,⟨_,Tryz.underlying210,rfl⟩,Tryz.underlying211,⟨_,Tryz.underlying213,rfl⟩,⟨_,Tryz.underlying227,rfl⟩,⟨_,Tryz.underlying252,rfl⟩,Tryz.underlying258,Tryz.underlying262,Tryz.underlying292,Tryz.underlying330,λ_ h=>absurd h (by simp)⟩
def tr:∀p∈([(3,aC),(4, .bool),(9, .str),(22,(.slice b9)),(23,(.slice aP)),(24,(.slice bg)),(26,cC),(27,(.slice aE)),(28,(.slice (.slice aE))),(30,gO),(34,(.slice aC)),(35,(.slice aM)),(37,ue),(38,aC),(40,aG),(45,(.slice cm)),(46,(.slice (.slice aD))),(48,Ad),(53,(.slice .str)),(55,b9),(57,aD),(58,(.slice fT)),(60,aP),(61,(.slice bG)),(63,bg),(67,aD),(68,(.slice aD)),(71,aE),(73,aG),(77,(.slice aD)),(79,bR),(83,cn),(85,bG),(90,aM),(100,aD),(102,cm),(162,(.slice aC)),(171,fT),(191,bE),(210,jt),(213,(.slice aC)),(258,(.int .u64))]:List (Nat×Row)),TI Tryz.prog p.1 p.2:=by
 simp only[asg];exact⟨No,Ti4,Ti9,aew,aex,aey,aez,aeA,aeB,aeC,aeD,aeE,aeF,aap,aeG,aeH,aeI,aeJ,aeK,aeL,aeM,aeN,aeO,aeP,aeQ,aeR,aeS,aeT,aeU,aeV,aeW,aeX,aeY,aeZ,aaq,aar,aas,aat,aau,aav,aaw,aax,λ_ h=>absurd h (by simp)⟩
def te:∀p∈([(40,aG),(57,aD),(67,aD),(71,aE),(100,aD)]:List (Nat×Row)),∃K d,uV Tryz.prog p.1 p.2 K/\d+K=10000/\Tryz.prog.eqGuardType Tryz.prog.depth p.1=ah/\(Tryz.prog.underlying p.1).any mg=af:=by
 simp only[asg];exact⟨⟨2,9998,ae3,rfl,by kernel_rfl,by kernel_rfl⟩,⟨2,9998,ae0,rfl,by kernel_rfl,by kernel_rfl⟩,⟨2,9998,ae1,rfl,by kernel_rfl,by kernel_rfl⟩,⟨2,9998,ae4,rfl,by kernel_rfl,by kernel_rfl⟩,⟨2,9998,aay,rfl,by kernel_rfl,by kernel_rfl⟩,λ_ h=>absurd h (by simp)⟩
def tm:∀p∈([(161,("Len",(83,ah))),(161,("Less",(401,ah))),(161,("Pop",(402,af))),(161,("Push",(403,af))),(161,("Swap",(404,ah)))]:List (TypeId×(String×(FuncId×Bool)))),uJ Tryz.prog p.1 p.2.1 p.2.2.1 p.2.2.2:=by
 simp only[asg];exact⟨(by unfold uJ;kernel_rfl),(by unfold uJ;kernel_rfl),(by unfold uJ;kernel_rfl),(by unfold uJ;kernel_rfl),(by unfold uJ;kernel_rfl),λ_ h=>absurd h (by simp)⟩
def ae5:b7 Tryz.prog:=⟨_,_,_,[],sI tu,sI tr,sI te,λ_ _ _ h=>(by cases h),_,tm⟩
def mixed:Tryz.prog.follows .mixedOrders=af:=by kernel_rfl
def en(l:List (CT Tryz.prog))(d p:Bool):Env Tryz.prog:=⟨ae5,CT.tab l,CT.DN,mixed,d,p⟩
abbrev Fo(f:Nat)(a b:JS)(g:dj a.rows->Option (dj b.rows)):Prop:=jF Tryz.prog f ⟨a,b,g⟩
def fz{f:FuncId}{fn:Func}{sg:qc}(N:Nat)(l:List (CT Tryz.prog))(a:List Tk)(hf:Tryz.prog.funcs[f]? =aa fn)(hc:fwB fn sg=af:=by kernel_rfl)(Co:∀x,sg.fn x=Xk (en l ah ah) fn.ntmps N (fn.body.getD .skip) fn.results.toList (ak a) sg.inn sg.out x:=by intro x;kernel_rfl):jF Tryz.prog f sg:=fw (en l ah ah) (N:=N) (ak a) hf hc Co
def M.my(a:bg.den):Option Bool:=
aqH (if(ai (80<(a.1.size:Int)))then
aa af
else(if(ai (14<(a.2.2.1.length:Int)))then
aa af
else(if(ai (14<(a.2.2.2.1.length:Int)))then
aa af
else
aa (ai (60<(a.2.2.2.2.length:Int)))))) λf=>(if f then
aa ah
else
bK (J:=Unit) (R:=Bool) (Loop (S:=Int) (X:=Unit⊕Bool) (λc=>(if(ai (c<(a.2.2.1.length:Int)))then
aqH (idx a.2.2.1 c) λg=>(if(ai (80<(g.1.size:Int)))then
aa (.inr (.inr ah))
else
aa (.inl (aqJ.wrap (c+1))))
else
aa (.inr (.inl ())))) N 0) λj=>bK (J:=Unit) (R:=Bool) (Loop (S:=Int) (X:=Unit⊕Bool) (λd=>(if(ai (d<(a.2.2.2.1.length:Int)))then
aqH (idx a.2.2.2.1 d) λh=>(if(ai (80<(h.1.size:Int)))then
aa (.inr (.inr ah))
else
aa (.inl (aqJ.wrap (d+1))))
else
aa (.inr (.inl ())))) N 0) λk=>Loop (S:=Int) (X:=Bool) (λe=>(if(ai (e<(a.2.2.2.2.length:Int)))then
aqH (idx a.2.2.2.2 e) λb=>aqH (if(ai (80<(b.1.size:Int)))then
aa af
else(if(ai (80<(b.2.2.2.2.2.2.2.size:Int)))then
aa af
else(if(ai (50<(b.2.2.2.2.2.1.length:Int)))then
aa af
else
aa (ai (50<(b.2.2.2.2.2.2.1.length:Int)))))) λi=>(if i then
aa (.inr ah)
else
aa (.inl (aqJ.wrap (e+1))))
else
aa (.inr af))) N 0)
def W14:Fo 14 (.i1 [.g bg]) (.i1 [.l .bool]) (M.my N):=fz N [] [O,T,B 28 32,E 32,O,T,L 3 48,X,X,E 32,O,T,L 4 48,X,X,T,O,T,L 5 48,O,T,T,O,B 92 240] Tryz.func14
def M.oo(a:cC.den):Option Bool:=
aqH (if(ai (9<(a.1.length:Int)))then
aa af
else(if(ai (9<(a.2.1.length:Int)))then
aa af
else
aa (ai (5<(a.2.2.length:Int))))) λh=>(if h then
aa ah
else
bK (J:=Unit) (R:=Bool) (Loop (S:=Int) (X:=Unit⊕Bool) (λb=>(if(ai (b<(a.1.length:Int)))then
bK (J:=Unit) (R:=Int⊕(Unit⊕Bool)) (aqH (aqH (idx a.1 b) λi=>(if(ai (80<(i.1.size:Int)))then
aa af
else
aqH (idx a.1 b) λj=>aa (ai (20<(j.2.length:Int)))):Option Bool) λk=>(if k then
aa (.inr (.inr (.inr ah)))
else
Loop (S:=Int) (X:=Unit⊕(Int⊕(Unit⊕Bool))) (λe=>aqH (idx a.1 b) λl=>(if(ai (e<(l.2.length:Int)))then
aqH (idx a.1 b) λm=>aqH (idx m.2 e) λn=>(if(ai (80<(n.size:Int)))then
aa (.inr (.inr (.inr (.inr ah))))
else
aa (.inl (aqJ.wrap (e+1))))
else
aa (.inr (.inl ())))) N 0)) λt=>aa (.inl (aqJ.wrap (b+1)))
else
aa (.inr (.inl ())))) N 0) λu=>bK (J:=Unit) (R:=Bool) (Loop (S:=Int×Int) (X:=Unit⊕Bool) (λc=>(if(ai (c.2<(a.2.1.length:Int)))then
aqH (idx a.2.1 c.2) λf=>aqH (aqH (idx a.2.1 c.2) λo=>(if(ai (80<(o.1.size:Int)))then
aa af
else
aa (ai (150<(aqJ.wrap (c.1+(f.2.2.2.length:Int)))))):Option Bool) λp=>(if p then
aa (.inr (.inr ah))
else
aa (.inl (aqJ.wrap (c.1+(f.2.2.2.length:Int)),aqJ.wrap (c.2+1))))
else
aa (.inr (.inl ())))) N (0,0)) λv=>Loop (S:=Int×Int) (X:=Bool) (λd=>(if(ai (d.2<(a.2.2.length:Int)))then
aqH (idx a.2.2 d.2) λg=>aqH (if(ai (60<(aqJ.wrap (d.1+(g.2.2.2.2.length:Int)))))then
aa af
else
aqH (idx a.2.2 d.2) λq=>aqH (M.my N q) λr=>aa (!r)) λs=>(if s then
aa (.inr ah)
else
aa (.inl (aqJ.wrap (d.1+(g.2.2.2.2.length:Int)),aqJ.wrap (d.2+1))))
else
aa (.inr af))) N (0,0))
def W5:Fo 5 (.i1 [.g cC]) (.i1 [.l .bool]) (M.oo N):=fz N [W14 N] [O,T,B 24 32,O,O,E 64,O,T,L 5 80,O,E 160,T,T,B 49 160,O,T,L 6 176,X,X,X,X,X,E 64,O,T,P ⟨[(3, .l aC),(7, .l aC)],[],[],80⟩,O,T,T,O,B 99 320,X,X,X,T,O,T,P ⟨[(4, .l aC),(8, .l aC)],[],[],80⟩,O,T,T,O,B 126 320] Tryz.func5
def M.m7(a:gO.den):Option Bool:=
aqH (if(ai (14<(a.2.1.length:Int)))then
aa af
else
aa (ai (10<(a.2.2.length:Int)))) λc=>(if c then
aa ah
else
Loop (S:=Int) (X:=Bool) (λb=>(if(ai (b<(a.2.2.length:Int)))then
aqH (idx a.2.2 b) λd=>(if(ai (14<(d.length:Int)))then
aa (.inr ah)
else
aa (.inl (aqJ.wrap (b+1))))
else
aa (.inr af))) N 0)
def W6:Fo 6 (.i1 [.g gO]) (.i1 [.l .bool]) (M.m7 N):=fz N [] [O,T,B 13 32,T,O,T,L 3 48] Tryz.func6
def M.mj(N:Nat)(a:Int):Option Bool:=
aqH (if(ai (97<=a))then
aa (ai (a<=122))
else
aa ah) λb=>aa b
def aaz:Fo 108 (.i1 [.l (.int .u8)]) (.i1 [.l .bool]) (M.mj N):=fz N [] [O,B 2 16] Tryz.func108
def M.oq(N:Nat)(a:Int):Option Bool:=
aqH (if(ai (48<=a))then
aa (ai (a<=57))
else
aa ah) λb=>aa b
def ae6:Fo 181 (.i1 [.l (.int .u8)]) (.i1 [.l .bool]) (M.oq N):=fz N [] [O,B 2 16] Tryz.func181
def M.ll(b:ByteArray):Option Int:=
Loop (S:=Int) (X:=Int) (λa=>aqH (if(ai (a<(b.size:Int)))then
aqH (lP b a) λc=>aqH (M.mj N c) λd=>(if d then
aa af
else
aqH (lP b a) λe=>aqH (M.oq N e) λf=>(if f then
aa af
else
aqH (lP b a) λg=>aa (ai (g=95))))
else
aa ah) λh=>(if h then
aa (.inl (aqJ.wrap (a+1)))
else
aa (.inr a))) N 0
def ae7:Fo 109 (.i1 [.l .str]) (.i1 [.l aC]) (M.ll N):=fz N [aaz N,ae6 N] [O,O,T,T,L 3 32,T,B 25 32] Tryz.func109
def M.m8(N:Nat)(a:ByteArray):Option Bool:=
aqH (if(ai (a=⟨#[105,102]⟩))then
aa (ai (a=⟨#[105,102]⟩))
else(if(ai (a=⟨#[116,104,101,110]⟩))then
aa (ai (a=⟨#[116,104,101,110]⟩))
else(if(ai (a=⟨#[101,108,115,101]⟩))then
aa (ai (a=⟨#[101,108,115,101]⟩))
else(if(ai (a=⟨#[111,114]⟩))then
aa (ai (a=⟨#[111,114]⟩))
else(if(ai (a=⟨#[97,110,100]⟩))then
aa (ai (a=⟨#[97,110,100]⟩))
else(if(ai (a=⟨#[110,111,116]⟩))then
aa (ai (a=⟨#[110,111,116]⟩))
else(if(ai (a=⟨#[116,114,117,101]⟩))then
aa (ai (a=⟨#[116,114,117,101]⟩))
else(if(ai (a=⟨#[102,97,108,115,101]⟩))then
aa (ai (a=⟨#[102,97,108,115,101]⟩))
else(if(ai (a=⟨#[116,111,100,97,121]⟩))then
aa (ai (a=⟨#[116,111,100,97,121]⟩))
else(if(ai (a=⟨#[115,104,97,114,101]⟩))then
aa (ai (a=⟨#[115,104,97,114,101]⟩))
else(if(ai (a=⟨#[100,105,118]⟩))then
aa (ai (a=⟨#[100,105,118]⟩))
else(if(ai (a=⟨#[114,111,117,110,100]⟩))then
aa (ai (a=⟨#[114,111,117,110,100]⟩))
else(if(ai (a=⟨#[109,105,110]⟩))then
aa (ai (a=⟨#[109,105,110]⟩))
else(if(ai (a=⟨#[109,97,120]⟩))then
aa (ai (a=⟨#[109,97,120]⟩))
else(if(ai (a=⟨#[112,108,117,115]⟩))then
aa (ai (a=⟨#[112,108,117,115]⟩))
else(if(ai (a=⟨#[109,111,110,116,104,115]⟩))then
aa (ai (a=⟨#[109,111,110,116,104,115]⟩))
else(if(ai (a=⟨#[100,97,121,115]⟩))then
aa (ai (a=⟨#[100,97,121,115]⟩))
else(if(ai (a=⟨#[121,101,97,114,115]⟩))then
aa (ai (a=⟨#[121,101,97,114,115]⟩))
else(if(ai (a=⟨#[121,101,97,114]⟩))then
aa (ai (a=⟨#[121,101,97,114]⟩))
else(if(ai (a=⟨#[109,111,110,116,104]⟩))then
aa (ai (a=⟨#[109,111,110,116,104]⟩))
else(if(ai (a=⟨#[116,97,98]⟩))then
aa (ai (a=⟨#[116,97,98]⟩))
else(if(ai (a=⟨#[98,97,110,100]⟩))then
aa (ai (a=⟨#[98,97,110,100]⟩))
else(if(ai (a=⟨#[99,111,117,110,116]⟩))then
aa (ai (a=⟨#[99,111,117,110,116]⟩))
else(if(ai (a=⟨#[115,117,109]⟩))then
aa (ai (a=⟨#[115,117,109]⟩))
else(if(ai (a=⟨#[97,108,108]⟩))then
aa (ai (a=⟨#[97,108,108]⟩))
else(if(ai (a=⟨#[97,110,121]⟩))then
aa (ai (a=⟨#[97,110,121]⟩))
else(if(ai (a=⟨#[109,111,115,116]⟩))then
aa (ai (a=⟨#[109,111,115,116]⟩))
else(if(ai (a=⟨#[101,110,117,109]⟩))then
aa (ai (a=⟨#[101,110,117,109]⟩))
else(if(ai (a=⟨#[116,97,98,108,101]⟩))then
aa (ai (a=⟨#[116,97,98,108,101]⟩))
else(if(ai (a=⟨#[114,111,119]⟩))then
aa (ai (a=⟨#[114,111,119]⟩))
else(if(ai (a=⟨#[115,99,111,112,101]⟩))then
aa (ai (a=⟨#[115,99,111,112,101]⟩))
else(if(ai (a=⟨#[109,101,109,98,101,114,115]⟩))then
aa (ai (a=⟨#[109,101,109,98,101,114,115]⟩))
else(if(ai (a=⟨#[105,110,112,117,116]⟩))then
aa (ai (a=⟨#[105,110,112,117,116]⟩))
else(if(ai (a=⟨#[100,101,102]⟩))then
aa (ai (a=⟨#[100,101,102]⟩))
else(if(ai (a=⟨#[114,117,108,101]⟩))then
aa (ai (a=⟨#[114,117,108,101]⟩))
else(if(ai (a=⟨#[111,102]⟩))then
aa (ai (a=⟨#[111,102]⟩))
else(if(ai (a=⟨#[111,118,101,114]⟩))then
aa (ai (a=⟨#[111,118,101,114]⟩))
else(if(ai (a=⟨#[112,114,105,111]⟩))then
aa (ai (a=⟨#[112,114,105,111]⟩))
else(if(ai (a=⟨#[102,114,111,109]⟩))then
aa (ai (a=⟨#[102,114,111,109]⟩))
else(if(ai (a=⟨#[116,111]⟩))then
aa (ai (a=⟨#[116,111]⟩))
else(if(ai (a=⟨#[101,110,100]⟩))then
aa (ai (a=⟨#[101,110,100]⟩))
else(if(ai (a=⟨#[119,104,101,110]⟩))then
aa (ai (a=⟨#[119,104,101,110]⟩))
else(if(ai (a=⟨#[105,115]⟩))then
aa (ai (a=⟨#[105,115]⟩))
else(if(ai (a=⟨#[115,114,99]⟩))then
aa (ai (a=⟨#[115,114,99]⟩))
else(if(ai (a=⟨#[98,111,111,108]⟩))then
aa (ai (a=⟨#[98,111,111,108]⟩))
else(if(ai (a=⟨#[105,110,116]⟩))then
aa (ai (a=⟨#[105,110,116]⟩))
else(if(ai (a=⟨#[109,111,110,101,121]⟩))then
aa (ai (a=⟨#[109,111,110,101,121]⟩))
else(if(ai (a=⟨#[114,97,116,101]⟩))then
aa (ai (a=⟨#[114,97,116,101]⟩))
else(if(ai (a=⟨#[100,97,116,101]⟩))then
aa (ai (a=⟨#[100,97,116,101]⟩))
else(if(ai (a=⟨#[100,111,119,110]⟩))then
aa (ai (a=⟨#[100,111,119,110]⟩))
else(if(ai (a=⟨#[117,112]⟩))then
aa (ai (a=⟨#[117,112]⟩))
else(if(ai (a=⟨#[122,101,114,111]⟩))then
aa (ai (a=⟨#[122,101,114,111]⟩))
else(if(ai (a=⟨#[97,119,97,121]⟩))then
aa (ai (a=⟨#[97,119,97,121]⟩))
else(if(ai (a=⟨#[104,97,108,102]⟩))then
aa (ai (a=⟨#[104,97,108,102]⟩))
else
aa (ai (a=⟨#[101,118,101,110]⟩)))))))))))))))))))))))))))))))))))))))))))))))))))))))) λb=>(if b then
aa af
else
aa ah)
def ae8:Fo 110 (.i1 [.l .str]) (.i1 [.l .bool]) (M.m8 N):=fz N [] [O,T,O,T,B 4 32] Tryz.func110
def M.cR(a:ByteArray):Option Bool:=
aqH (if(!ai (a=⟨#[]⟩))then
aqH (lP a 0) λb=>aqH (M.mj N b) λc=>(if c then
aqH (M.ll N a) λd=>(if(ai (d=(a.size:Int)))then(if(ai ((a.size:Int)<=16))then
aqH (M.m8 N a) λe=>aa (!e)
else
aa ah)
else
aa ah)
else
aa ah)
else
aa ah) λf=>aa f
def W61:Fo 61 (.i1 [.l .str]) (.i1 [.l .bool]) (M.cR N):=fz N [aaz N,ae7 N,ae8 N] [O,B 2 16] Tryz.func61
def M.m9(N:Nat)(b:b9.den)(a:ByteArray):Option (Bool×ByteArray):=
aa (ai (b.1=a),a)
def Xq:Fo 112 (.j1 [.g b9, .ptr 0 [] 0] [.box 9 (.leaf .str)] 1) (.j1 [.l .bool] [.box 9 (.leaf .str)] 2) (u2 (M.m9 N)):=fz N [] [] Tryz.func112
def M.bU(c:List b9.den)(d:ByteArray):Option (Int×ByteArray):=
Loop (S:=Int×ByteArray) (X:=Int×ByteArray) (λa=>(if(ai (a.1<(c.length:Int)))then
aqH (idx c a.1) λe=>aqH (M.m9 N e a.2) λb=>(if b.1 then
aa (.inr (a.1,b.2))
else
aa (.inl (aqJ.wrap (a.1+1),b.2)))
else
aa (.inr ((-1),a.2)))) N (0,d)
def Xr:Fo 182 (.j1 [.l (.slice b9), .fn 112 [(0,[],0)]] [.box 9 (.leaf .str)] 1) (.j1 [.l aC] [.box 9 (.leaf .str)] 2) (u2 (M.bU N)):=fz N [Xq N] [O,T,O,T,P ⟨[(8, .l aC)],[(0, .box 9 (.leaf .str))],[],66⟩] Tryz.func182
def M.cA(b:List b9.den)(c:ByteArray):Option (Bool×ByteArray):=
aqH (M.bU N b c) λa=>aa (ai (0<=a.1),a.2)
def Xs:Fo 111 (.j1 [.l (.slice b9), .fn 112 [(0,[],0)]] [.box 9 (.leaf .str)] 1) (.j1 [.l .bool] [.box 9 (.leaf .str)] 2) (u2 (M.cA N)):=fz N [Xr N] [] Tryz.func111
def M.kS(a:List b9.den)(b:ByteArray):Option Bool:=
aqH (M.cA N a b) λc=>aa c.1
def W62:Fo 62 (.i1 [.l (.slice b9), .l .str]) (.i1 [.l .bool]) (u2 (M.kS N)):=fz N [Xs N] [] Tryz.func62
def M.fk(b:List ByteArray)(c:ByteArray):Option Int:=
Loop (S:=Int) (X:=Int) (λa=>(if(ai (a<(b.length:Int)))then
aqH (idx b a) λd=>(if(ai (c=d))then
aa (.inr a)
else
aa (.inl (aqJ.wrap (a+1))))
else
aa (.inr (-1)))) N 0
def afa:Fo 179 (.i1 [.l (.slice .str), .l .str]) (.i1 [.l aC]) (u2 (M.fk N)):=fz N [] [O,T,O,T,L 8 64] Tryz.func179
def M.eA(a:List ByteArray)(b:ByteArray):Option Bool:=
aqH (M.fk N a b) λc=>aa (ai (0<=c))
def afb:Fo 102 (.i1 [.l (.slice .str), .l .str]) (.i1 [.l .bool]) (u2 (M.eA N)):=fz N [afa N] [] Tryz.func102
def M.ot(d:cC.den)(e:Int)(a:b9.den):Option (Int×Int):=
aqH (M.cR N a.1) λf=>(if(!f)then
aa (2,0)
else
aqH (gD d.1 0 e) λg=>aqH (M.kS N g a.1) λh=>(if h then
aa (7,0)
else(if(ai ((a.2.length:Int)=0))then
aa (5,0)
else(if(ai (16<(a.2.length:Int)))then
aa (4,116)
else
Loop (S:=Int) (X:=Int×Int) (λb=>(if(ai (b<(a.2.length:Int)))then
aqH (idx a.2 b) λc=>aqH (M.cR N c) λi=>(if(!i)then
aa (.inr (2,aqJ.wrap (100+b)))
else
aqH (gD a.2 0 b) λj=>aqH (M.eA N j c) λk=>(if k then
aa (.inr (7,aqJ.wrap (100+b)))
else
aa (.inl (aqJ.wrap (b+1)))))
else
aa (.inr (0,0)))) N 0))))
def W59:Fo 59 (.i1 [.g cC, .l aC, .g b9]) (.i1 [.l aC, .l aC]) (u3 (M.ot N)):=fz N [W61 N,W62 N,afb N] [O,O,T,O,T,L 36 496] Tryz.func59
def M.nf(b:cC.den):Option (aG.den):=
(if(ai (8<(b.1.length:Int)))then
aa (4,(1,(8,0)))
else
bK (J:=Unit) (R:=aG.den) (Loop (S:=Int) (X:=Unit⊕(aG.den)) (λa=>(if(ai (a<(b.1.length:Int)))then
aqH (idx b.1 a) λd=>aqH (M.ot N b a d) λc=>(if(!ai (c.1=0))then
aa (.inr (.inr (c.1,(1,(a,c.2)))))
else
aa (.inl (aqJ.wrap (a+1))))
else
aa (.inr (.inl ())))) N 0) λe=>aa (0,(0,(0,0))))
def W32:Fo 32 (.i1 [.g cC]) (.i1 [.g aG]) (M.nf N):=fz N [W59 N] [O,O,E 96,O,T,L 15 160] Tryz.func32
def M.cY(N:Nat)(a:aD.den)(b:List b9.den):Option Bool:=
aqH (if(ai (a.1=1))then
aa (ai (a.1=1))
else(if(ai (a.1=2))then
aa (ai (a.1=2))
else(if(ai (a.1=3))then
aa (ai (a.1=3))
else(if(ai (a.1=4))then
aa (ai (a.1=4))
else
aa (ai (a.1=5)))))) λc=>(if c then
aa (ai (a.2=0))
else(if(ai (a.1=6))then
aqH (if(ai (0<=a.2))then
aa (ai (a.2<(b.length:Int)))
else
aa ah) λd=>aa d
else
aa ah))
def Qs:Fo 103 (.i1 [.g aD, .l (.slice b9)]) (.i1 [.l .bool]) (u2 (M.cY N)):=fz N [] [O,T,O,T,R ⟨[(7, .l .bool)],[],[],64⟩,X,O,O,T,B 4 96] Tryz.func103
def M.iN(a:aD.den)(b:List b9.den):Option (Int×Int):=
aqH (M.cY N a b) λc=>(if(!c)then
aa (0,(-1))
else(if(ai (a.1=1))then
aa (0,1)
else(if(ai (a.1=2))then
aa ((-1000000000000),1000000000000)
else(if(ai (a.1=3))then
aa ((-1000000000000000),1000000000000000)
else(if(ai (a.1=4))then
aa ((-1000000000),1000000000)
else(if(ai (a.1=5))then
aa (0,109572)
else
aqH (idx b a.2) λd=>aa (0,aqJ.wrap ((d.2.length:Int)-1))))))))
def W65:Fo 65 (.i1 [.g aD, .l (.slice b9)]) (.i1 [.l aC, .l aC]) (u2 (M.iN N)):=fz N [Qs N] [] Tryz.func65
def M.fE(N:Nat)(a:aD.den):Option Bool:=
aqH (if(ai (0<=a.1))then(if(ai (a.1<=a.2))then
aa (ai (a.2<=109573))
else
aa ah)
else
aa ah) λb=>aa b
def Xt:Fo 104 (.i1 [.g aD]) (.i1 [.l .bool]) (M.fE N):=fz N [] [O,B 2 32] Tryz.func104
def M.kB(a:aD.den):Option Bool:=
aqH (aqH (M.fE N a) λb=>(if b then
aa (ai (a.1<a.2))
else
aa ah):Option Bool) λc=>aa c
def afd:Fo 247 (.i1 [.g aD]) (.i1 [.l .bool]) (M.kB N):=fz N [Xt N] [O,B 2 32] Tryz.func247
def M.lW(a:aD.den)(b:aD.den):Option (aD.den×Bool):=
aqH (aqH (M.kB N a) λc=>(if(!c)then
aa af
else
aqH (M.kB N b) λd=>aa (!d)):Option Bool) λe=>(if e then
aa ((0,0),ah)
else(if(ai ((if b.2<a.2 then b.2 else a.2)<=(if a.1<b.1 then b.1 else a.1)))then
aa ((0,0),ah)
else
aa ((if a.1<b.1 then b.1 else a.1,if b.2<a.2 then b.2 else a.2),af)))
def afe:Fo 180 (.i1 [.g aD, .g aD]) (.i1 [.g aD, .l .bool]) (u2 (M.lW N)):=fz N [afd N] [O,T,B 14 64] Tryz.func180
def M.nh(a:fT.den)(b:fT.den):Option Bool:=
aqH (M.lW N a.1 b.1) λc=>aqH (if c.2 then
aa (ai ((if a.2.1<b.2.1 then b.2.1 else a.2.1)<(if b.2.2.1<a.2.2.1 then b.2.2.1 else a.2.2.1)))
else
aa ah) λd=>aa d
def aff:Fo 107 (.i1 [.g fT, .g fT]) (.i1 [.l .bool]) (u2 (M.nh N)):=fz N [afe N] [O,O,B 4 224] Tryz.func107
def M.kT(b:fT.den)(a:fT.den):Option (Bool×fT.den):=
aqH (M.nh N b a) λc=>aa (c,a)
def Xu:Fo 106 (.j1 [.g fT, .ptr 0 [] 0] [.box 171 (.leaf fT)] 1) (.j1 [.l .bool] [.box 171 (.leaf fT)] 2) (u2 (M.kT N)):=fz N [aff N] [] Tryz.func106
def M.c9(c:List fT.den)(d:fT.den):Option (Int×Bool×fT.den):=
Loop (S:=Int×fT.den) (X:=Int×Bool×fT.den) (λa=>(if(ai (a.1<(c.length:Int)))then
aqH (idx c a.1) λe=>aqH (M.kT N e a.2) λb=>(if b.1 then
aa (.inr (a.1,af,b.2))
else
aa (.inl (aqJ.wrap (a.1+1),b.2)))
else
aa (.inr (0,ah,a.2)))) N (0,d)
def Xv:Fo 105 (.j1 [.l (.slice fT), .fn 106 [(0,[],0)]] [.box 171 (.leaf fT)] 1) (.j1 [.l aC, .l .bool] [.box 171 (.leaf fT)] 2) (u2 (M.c9 N)):=fz N [Xu N] [O,T,O,T,P ⟨[(10, .l aC)],[(0, .box 171 (.leaf fT))],[],82⟩] Tryz.func105
def M.ni(b:aP.den)(d:List b9.den):Option (Int×Int):=
(if(ai (64<(b.2.2.2.length:Int)))then
aa (64,4)
else
aqH (aqH (M.cY N b.2.1 d) λg=>(if(!g)then
aa af
else
aqH (M.cY N b.2.2.1 d) λh=>aa (!h)):Option Bool) λi=>(if i then
aa ((-1),8)
else
aqH (M.iN N b.2.1 d) λe=>aqH (M.iN N b.2.2.1 d) λf=>Loop (S:=Int) (X:=Int×Int) (λc=>(if(ai (c<(b.2.2.2.length:Int)))then
aqH (idx b.2.2.2 c) λa=>aqH (aqH (M.fE N a.1) λj=>(if(!j)then
aa af
else(if(ai (a.1.1=a.1.2))then
aa af
else
aa (ai (a.2.2.1<=a.2.1)))):Option Bool) λk=>(if k then
aa (.inr (c,3))
else
aqH (if(ai (a.2.1<e.1))then
aa af
else(if(ai (e.2<a.2.1))then
aa af
else(if(ai ((aqJ.wrap (a.2.2.1-1))<e.1))then
aa af
else
aa (ai (e.2<(aqJ.wrap (a.2.2.1-1))))))) λl=>(if l then
aa (.inr (c,3))
else
aqH (if(ai (a.2.2.2<f.1))then
aa af
else
aa (ai (f.2<a.2.2.2))) λm=>(if m then
aa (.inr (c,3))
else
aqH (gD b.2.2.2 0 c) λn=>aqH (M.c9 N n a) λo=>(if o.2.1 then
aa (.inr (c,11))
else
aa (.inl (aqJ.wrap (c+1)))))))
else
aa (.inr (0,0)))) N 0))
def W60:Fo 60 (.i1 [.g aP, .l (.slice b9)]) (.i1 [.l aC, .l aC]) (u2 (M.ni N)):=fz N [W65 N,Qs N,Xt N,Xv N] [O,O,T,B 29 112,O,O,T,O,T,L 47 464,O,O,T,T,O,T,B 71 576,T,B 96 576,T,B 107 576] Tryz.func60
def M.mL(N:Nat)(b:aP.den)(a:ByteArray):Option (Bool×ByteArray):=
aa (ai (b.1=a),a)
def Xw:Fo 114 (.j1 [.g aP, .ptr 0 [] 0] [.box 9 (.leaf .str)] 1) (.j1 [.l .bool] [.box 9 (.leaf .str)] 2) (u2 (M.mL N)):=fz N [] [] Tryz.func114
def M.bO(c:List aP.den)(d:ByteArray):Option (Int×ByteArray):=
Loop (S:=Int×ByteArray) (X:=Int×ByteArray) (λa=>(if(ai (a.1<(c.length:Int)))then
aqH (idx c a.1) λe=>aqH (M.mL N e a.2) λb=>(if b.1 then
aa (.inr (a.1,b.2))
else
aa (.inl (aqJ.wrap (a.1+1),b.2)))
else
aa (.inr ((-1),a.2)))) N (0,d)
def Xx:Fo 183 (.j1 [.l (.slice aP), .fn 114 [(0,[],0)]] [.box 9 (.leaf .str)] 1) (.j1 [.l aC] [.box 9 (.leaf .str)] 2) (u2 (M.bO N)):=fz N [Xw N] [O,T,O,T,P ⟨[(8, .l aC)],[(0, .box 9 (.leaf .str))],[],66⟩] Tryz.func183
def M.cu(b:List aP.den)(c:ByteArray):Option (Bool×ByteArray):=
aqH (M.bO N b c) λa=>aa (ai (0<=a.1),a.2)
def Xy:Fo 113 (.j1 [.l (.slice aP), .fn 114 [(0,[],0)]] [.box 9 (.leaf .str)] 1) (.j1 [.l .bool] [.box 9 (.leaf .str)] 2) (u2 (M.cu N)):=fz N [Xx N] [] Tryz.func113
def M.lm(a:List aP.den)(b:ByteArray):Option Bool:=
aqH (M.cu N a b) λc=>aa c.1
def W63:Fo 63 (.i1 [.l (.slice aP), .l .str]) (.i1 [.l .bool]) (u2 (M.lm N)):=fz N [Xy N] [] Tryz.func63
def M.mz(b:cC.den):Option (aG.den):=
(if(ai (8<(b.2.1.length:Int)))then
aa (4,(2,(8,0)))
else
bK (J:=Unit) (R:=aG.den) (Loop (S:=Int) (X:=Unit⊕(aG.den)) (λa=>(if(ai (a<(b.2.1.length:Int)))then
aqH (idx b.2.1 a) λd=>aqH (M.ni N d b.1) λc=>aqH (aqH (M.cR N d.1) λf=>(if(!f)then
aa (2,(2,(a,0)))
else
aqH (aqH (M.kS N b.1 d.1) λg=>(if g then
aa af
else
aqH (gD b.2.1 0 a) λh=>aqH (M.lm N h d.1) λi=>aa i):Option Bool) λj=>(if j then
aa (7,(2,(a,0)))
else(if(!ai (c.2=0))then(if(!ai (c.1=(-1)))then
aa (c.2,(2,(a,aqJ.wrap (100+c.1))))
else
aa (c.2,(2,(a,0))))
else
aa (0,(2,(a,0)))))):Option (aG.den)) λe=>(if(!ai (e.1=0))then
aa (.inr (.inr e))
else
aa (.inl (aqJ.wrap (a+1))))
else
aa (.inr (.inl ())))) N 0) λk=>aa (0,(0,(0,0))))
def W33:Fo 33 (.i1 [.g cC]) (.i1 [.g aG]) (M.mz N):=fz N [W60 N,W61 N,W62 N,W63 N] [O,O,E 96,O,T,L 16 160,O,O,T,T,O,O,O,T,R ⟨[],[(304, .box 73 (.leaf aG))],[],481⟩,O,O,B 36 560] Tryz.func33
def M.kU(N:Nat)(b:bG.den)(a:bG.den):Option (Bool×bG.den):=
aa (ai (b.1=a.1),a)
def Xz:Fo 185 (.j1 [.g bG, .ptr 0 [] 0] [.box 85 (.leaf bG)] 1) (.j1 [.l .bool] [.box 85 (.leaf bG)] 2) (u2 (M.kU N)):=fz N [] [] Tryz.func185
def M.bP(c:List bG.den)(d:bG.den):Option (Int×bG.den):=
Loop (S:=Int×bG.den) (X:=Int×bG.den) (λa=>(if(ai (a.1<(c.length:Int)))then
aqH (idx c a.1) λe=>aqH (M.kU N e a.2) λb=>(if b.1 then
aa (.inr (a.1,b.2))
else
aa (.inl (aqJ.wrap (a.1+1),b.2)))
else
aa (.inr ((-1),a.2)))) N (0,d)
def XA:Fo 248 (.j1 [.l (.slice bG), .fn 185 [(0,[],0)]] [.box 85 (.leaf bG)] 1) (.j1 [.l aC] [.box 85 (.leaf bG)] 2) (u2 (M.bP N)):=fz N [Xz N] [O,T,O,T,P ⟨[(8, .l aC)],[(0, .box 85 (.leaf bG))],[],66⟩] Tryz.func248
def M.bp(b:List bG.den)(c:bG.den):Option (Bool×bG.den):=
aqH (M.bP N b c) λa=>aa (ai (0<=a.1),a.2)
def XB:Fo 186 (.j1 [.l (.slice bG), .fn 185 [(0,[],0)]] [.box 85 (.leaf bG)] 1) (.j1 [.l .bool] [.box 85 (.leaf bG)] 2) (u2 (M.bp N)):=fz N [XA N] [] Tryz.func186
def M.kV(e:cC.den)(b:bG.den)(f:List bG.den)(g:List bG.den):Option Int:=
aqH (M.cR N b.1) λh=>(if(!h)then
aa 2
else
aqH (aqH (M.bp N f b) λa=>(if a.1 then
aa (af,a.2)
else
aqH (M.bp N g a.2) λc=>aa (c.1,c.2)):Option (Bool×bG.den)) λd=>(if d.1 then
aa 7
else
aqH (M.cY N d.2.2 e.1) λi=>(if(!i)then
aa 8
else
aa 0)))
def afg:Fo 117 (.i1 [.g cC, .g bG, .l (.slice bG), .l (.slice bG)]) (.i1 [.l aC]) (u4 (M.kV N)):=fz N [W61 N,Qs N,XB N] [O,O,T,T,O,O,R ⟨[(16, .l .bool)],[(16, .box 85 (.leaf bG))],[],161⟩] Tryz.func117
def M.nk(b:List bG.den):Option (List aD.den):=
Loop (S:=Int×List aD.den) (X:=List aD.den) (λa=>(if(ai (a.1<(b.length:Int)))then
aqH (idx b a.1) λc=>aqH (cf a.2 ([c.2]:List aD.den)) λd=>aa (.inl (aqJ.wrap (a.1+1),d))
else
aa (.inr a.2))) N (0,([]:List aD.den))
def afh:Fo 187 (.i1 [.l (.slice bG)]) (.w1 57 aD) (M.nk N):=fz N [] [O,O,T,O,T,P ⟨[(3, .val ah (.own 80)),(8, .l aC)],[(80, .own 57 aD)],[],81⟩] Tryz.func187
def M.lX(a:cC.den)(f:Int):Option ((List b9.den)×(List aP.den)×Bool×(List aD.den)×(List aD.den)×List aD.den):=
aqH (idx a.2.2 f) λc=>aqH (M.nk N c.2.2.1) λd=>aqH (M.nk N c.2.2.2.1) λe=>aqH (aqH (if(ai (0<=c.2.1))then
aa (ai (c.2.1<(a.2.2.length:Int)))
else
aa ah) λg=>(if g then
aqH (idx a.2.2 c.2.1) λh=>aqH (M.nk N h.2.2.2.1) λi=>aa (d,e,a.1,a.2.1,af,i)
else
aa (d,e,a.1,a.2.1,ah,([]:List aD.den))):Option ((List aD.den)×(List aD.den)×(List b9.den)×(List aP.den)×Bool×List aD.den)) λb=>aa (b.2.2.1,b.2.2.2.1,b.2.2.2.2.1,b.1,b.2.1,b.2.2.2.2.2)
def afi:Fo 118 (.i1 [.g cC, .l aC]) (.j1 [.val af (.pair (.leaf (.slice b9)) (.pair (.leaf (.slice aP)) (.pair (.own 0) (.pair (.own 1) (.pair (.own 2) (.leaf .bool))))))] [.own 57 aD, .own 57 aD, .own 57 aD] 3) (u2 (M.lX N)):=fz N [afh N] [O,O,O,R ⟨[],[(240, .own 57 aD),(288, .own 57 aD),(320, .box 191 (.pair (.leaf (.slice b9)) (.pair (.leaf (.slice aP)) (.pair (.own 240) (.pair (.own 288) (.pair (.own 352) (.leaf .bool))))))),(352, .own 57 aD)],[],356⟩,B 33 352] Tryz.func118
def M.strings_Contains(N:Nat)(a:ByteArray)(b:ByteArray):Option Bool:=ud (a,b)
def afj:qc:=⟨.i1 [.l .str, .l .str], .i1 [.l .bool],u2 (M.strings_Contains N)⟩
def afk(N:Nat):jF Tryz.prog 250 (afj N):=Ge ⟨_,Tryz.func250,by kernel_rfl,by kernel_rfl⟩ Tryz.strings_Contains_one
def M.mA(a:ByteArray):Option Bool:=
aqH (if(ai (64<(a.size:Int)))then
aa af
else
aqH (M.strings_Contains N a (⟨#[34]⟩:ByteArray)) λc=>aa c) λd=>(if d then
aa ah
else
Loop (S:=Int) (X:=Bool) (λb=>(if(ai (b<(a.size:Int)))then
aqH (aqH (lP a b) λe=>(if(ai (e<32))then
aa af
else
aqH (lP a b) λf=>aa (ai (126<f))):Option Bool) λg=>(if g then
aa (.inr ah)
else
aa (.inl (aqJ.wrap (b+1))))
else
aa (.inr af))) N 0)
def afl:Fo 190 (.i1 [.l .str]) (.i1 [.l .bool]) (M.mA N):=fz N [afk N] [O,T,B 10 16,T,O,T,L 13 64,O,O,T,T,O,B 25 112] Tryz.func190
def M.eh(N:Nat)(a:Int):Option Int:=
aqH (if(ai (a=1))then
aa (ai (a=1))
else(if(ai (a=2))then
aa (ai (a=2))
else(if(ai (a=3))then
aa (ai (a=3))
else(if(ai (a=4))then
aa (ai (a=4))
else(if(ai (a=5))then
aa (ai (a=5))
else(if(ai (a=6))then
aa (ai (a=6))
else(if(ai (a=7))then
aa (ai (a=7))
else(if(ai (a=8))then
aa (ai (a=8))
else(if(ai (a=9))then
aa (ai (a=9))
else(if(ai (a=35))then
aa (ai (a=35))
else(if(ai (a=36))then
aa (ai (a=36))
else(if(ai (a=37))then
aa (ai (a=37))
else(if(ai (a=38))then
aa (ai (a=38))
else
aa (ai (a=39))))))))))))))) λb=>(if b then
aa 0
else
aqH (if(ai (a=10))then
aa (ai (a=10))
else(if(ai (a=25))then
aa (ai (a=25))
else(if(ai (a=31))then
aa (ai (a=31))
else(if(ai (a=32))then
aa (ai (a=32))
else(if(ai (a=33))then
aa (ai (a=33))
else
aa (ai (a=34))))))) λc=>(if c then
aa 1
else
aqH (if(ai (a=11))then
aa (ai (a=11))
else(if(ai (a=12))then
aa (ai (a=12))
else(if(ai (a=13))then
aa (ai (a=13))
else(if(ai (a=14))then
aa (ai (a=14))
else(if(ai (a=15))then
aa (ai (a=15))
else(if(ai (a=16))then
aa (ai (a=16))
else(if(ai (a=17))then
aa (ai (a=17))
else(if(ai (a=18))then
aa (ai (a=18))
else(if(ai (a=19))then
aa (ai (a=19))
else(if(ai (a=20))then
aa (ai (a=20))
else(if(ai (a=21))then
aa (ai (a=21))
else(if(ai (a=22))then
aa (ai (a=22))
else(if(ai (a=23))then
aa (ai (a=23))
else(if(ai (a=24))then
aa (ai (a=24))
else(if(ai (a=27))then
aa (ai (a=27))
else(if(ai (a=28))then
aa (ai (a=28))
else(if(ai (a=29))then
aa (ai (a=29))
else
aa (ai (a=30))))))))))))))))))) λd=>(if d then
aa 2
else(if(ai (a=26))then
aa 3
else
aa (-1)))))
def Ul:Fo 76 (.i1 [.l aC]) (.i1 [.l aC]) (M.eh N):=fz N [] [O,T,O,T,R ⟨[(4, .l .bool)],[],[],32⟩,X,O,R ⟨[(19, .l .bool)],[],[],32⟩,X,O,B 26 32] Tryz.func76
def M.fM(N:Nat)(a:Int):Option Bool:=
aqH (if(ai (a=1))then
aa (ai (a=1))
else(if(ai (a=2))then
aa (ai (a=2))
else(if(ai (a=3))then
aa (ai (a=3))
else(if(ai (a=4))then
aa (ai (a=4))
else(if(ai (a=5))then
aa (ai (a=5))
else(if(ai (a=6))then
aa (ai (a=6))
else(if(ai (a=7))then
aa (ai (a=7))
else(if(ai (a=8))then
aa (ai (a=8))
else(if(ai (a=14))then
aa (ai (a=14))
else(if(ai (a=15))then
aa (ai (a=15))
else(if(ai (a=16))then
aa (ai (a=16))
else(if(ai (a=33))then
aa (ai (a=33))
else(if(ai (a=34))then
aa (ai (a=34))
else(if(ai (a=36))then
aa (ai (a=36))
else(if(ai (a=37))then
aa (ai (a=37))
else(if(ai (a=38))then
aa (ai (a=38))
else
aa (ai (a=39)))))))))))))))))) λb=>(if b then
aa af
else
aa ah)
def aaB:Fo 205 (.i1 [.l aC]) (.i1 [.l .bool]) (M.fM N):=fz N [] [O,T,O,T,B 4 32] Tryz.func205
def M.ie(b:List aD.den):Option (Int×Int×List Int):=
(if(ai (48<(b.length:Int)))then
aa (0,4,([]:List Int))
else(if(ai ((b.length:Int)=0))then
aa (0,5,([]:List Int))
else
aqH (ol (b.length:Int) 0) λg=>bK (J:=(List Int)×List Int) (R:=Int×Int×List Int) (Loop (S:=Int×(List Int)×List Int) (X:=((List Int)×List Int)⊕(Int×Int×List Int)) (λa=>(if(ai (a.1<(b.length:Int)))then
aqH (idx b a.1) λh=>aqH (M.eh N h.1) λc=>(if(ai (c<0))then
aa (.inr (.inr (a.1,2,([]:List Int))))
else(if(ai ((a.2.2.length:Int)<c))then
aa (.inr (.inr (a.1,5,([]:List Int))))
else
aqH (idx a.2.1 a.1) λl=>aqH ((if(ai (0<c))then
aqH (idx a.2.2 (aqJ.wrap ((a.2.2.length:Int)-c))) λi=>aqH (idx (bn a.2.1 a.1 a.1) a.1) λm=>aa (bn (bn a.2.1 a.1 a.1) a.1 i)
else
aa (bn a.2.1 a.1 a.1)):Option (List Int)) λd=>aqH (gD a.2.2 0 (aqJ.wrap ((a.2.2.length:Int)-c))) λj=>aqH (idx d a.1) λk=>aqH (cf j ([k]:List Int)) λe=>(if(ai (12<(e.length:Int)))then
aa (.inr (.inr (a.1,16,([]:List Int))))
else
aa (.inl (aqJ.wrap (a.1+1),d,e)))))
else
aa (.inr (.inl (a.2.1,a.2.2))))) N (0,g,([]:List Int))) λf=>(if(ai (1<(f.2.length:Int)))then
aa ((b.length:Int),4,([]:List Int))
else
aa (0,0,f.1))))
def aaC:Fo 223 (.i1 [.l (.slice aD)]) (.j1 [.val ah (.own 0), .l aC, .l aC] [.own 3 aC] 1) (M.ie N):=fz N [Ul N] [O,O,O,O,O,J ⟨[(6, .val ah (.own 224))],[(176, .own 3 aC),(224, .own 3 aC)],[],226⟩,O,T,P ⟨[(6, .val ah (.own 272)),(21, .l aC)],[(176, .own 3 aC),(272, .own 3 aC)],[],274⟩,O,O,T,T,O,O,O,O,O,R ⟨[],[(176, .own 3 aC)],[],627⟩] Tryz.func223
def M.dy(a:Int)(b:Int)(d:bE.den):Option (aD.den×Int):=
aqH (M.iN N (b,0) d.1) λc=>aqH (if(ai (a<c.1))then
aa af
else
aa (ai (c.2<a))) λe=>(if e then
aa ((0,0),3)
else
aa ((b,0),0))
def afm:Fo 307 (.i1 [.l aC, .l aC, .g bE]) (.i1 [.g aD, .l aC]) (u3 (M.dy N)):=fz N [W65 N] [O,O,T,O,B 27 256] Tryz.func307
def M.cD(N:Nat)(a:Int)(b:bE.den):Option (aD.den×Int):=
(if(ai (a<0))then
aa ((0,0),3)
else
aqH (if(ai ((b.1.length:Int)<=(aqJ.wrap (aqW a 16))))then
aa af
else
aqH (idx b.1 (aqJ.wrap (aqW a 16))) λc=>aa (ai ((c.2.length:Int)<=(aqY a 16)))) λd=>(if d then
aa ((0,0),6)
else
aa ((6,aqJ.wrap (aqW a 16)),0)))
def afn:Fo 308 (.i1 [.l aC, .g bE]) (.i1 [.g aD, .l aC]) (u2 (M.cD N)):=fz N [] [O,O,O,T,B 30 176] Tryz.func308
def M.fF(a:Int)(b:List aD.den)(c:bE.den):Option (aD.den×Int):=
aqH (if(ai (a<0))then
aa af
else
aa (ai ((b.length:Int)<=a))) λd=>(if d then
aa ((0,0),6)
else
aqH (idx b a) λe=>aqH (M.cY N e c.1) λf=>(if(!f)then
aa ((0,0),8)
else
aqH (idx b a) λg=>aa (g,0)))
def aaD:Fo 309 (.i1 [.l aC, .l (.slice aD), .g bE]) (.i1 [.g aD, .l aC]) (u3 (M.fF N)):=fz N [Qs N] [O,T,B 15 48] Tryz.func309
def M.ig(N:Nat)(a:Int):Option Bool:=
aqH (if(ai (0<=a))then
aa (ai (a<=5))
else
aa ah) λb=>aa b
def aaE:Fo 312 (.i1 [.l aC]) (.i1 [.l .bool]) (M.ig N):=fz N [] [O,B 2 16] Tryz.func312
def M.ju(a:aD.den)(f:aD.den)(b:bE.den):Option (aD.den×Int):=
bK (J:=Int) (R:=aD.den×Int) ((if(ai (a.1=34))then
aqH (if(ai (a.2<0))then
aa af
else
aqH (M.ig N (aqY a.2 8)) λg=>aa (!g)) λh=>(if h then
aa (.inr ((0,0),3))
else
aa (.inl (aqJ.wrap (aqW a.2 8))))
else
aa (.inl a.2))) λc=>aqH (if(ai (c<0))then
aa af
else
aa (ai ((b.2.1.length:Int)<=c))) λi=>(if i then
aa ((0,0),6)
else
aqH (idx b.2.1 c) λd=>aqH (idx b.2.1 c) λe=>aqH (aqH (M.cY N d.2.1 b.1) λj=>(if(!j)then
aa af
else
aqH (M.cY N e.2.2.1 b.1) λk=>(if(!k)then
aa af
else
aa (!(o6 aD f d.2.1)))):Option Bool) λl=>(if l then
aa ((0,0),8)
else(if(ai (a.1=34))then
aqH (if(!ai (d.2.1.1=3))then
aa af
else
aa (!ai (e.2.2.1.1=4))) λm=>(if m then
aa ((0,0),8)
else
aa (d.2.1,0))
else
aa (e.2.2.1,0))))
def afo:Fo 310 (.i1 [.g aD, .g aD, .g bE]) (.i1 [.g aD, .l aC]) (u3 (M.ju N)):=fz N [Qs N,aaE N] [O,O,J ⟨[(8, .l aC)],[],[],128⟩,O,T,T,B 25 176,X,X,T,B 38 128,O,T,B 68 384,T,O,T,T,B 80 432] Tryz.func310
def M.fi(N:Nat)(a:Int):Option Bool:=
aqH (if(ai (a=2))then
aa af
else(if(ai (a=3))then
aa af
else
aa (ai (a=4)))) λb=>aa b
def aaF:Fo 352 (.i1 [.l aC]) (.i1 [.l .bool]) (M.fi N):=fz N [] [O,B 2 16] Tryz.func352
def M.bY(b:aD.den)(c:bE.den):Option (aD.den×Int):=
(if(!c.2.2.2.2.2)then
aa ((0,0),6)
else(if(ai (b.1=35))then
aa ((2,0),0)
else
aqH (M.fF N b.2 c.2.2.2.2.1 c) λa=>(if(!ai (a.2=0))then
aa ((0,0),a.2)
else
aqH (if(ai (b.1=36))then(if(ai (a.1.1=2))then
aa af
else
aa (ai (a.1.1=3)))
else
aqH (if(ai (b.1=37))then
aa (ai (b.1=37))
else
aa (ai (b.1=38))) λd=>(if d then
aa (ai (a.1.1=1))
else(if(ai (b.1=39))then
aqH (M.fi N a.1.1) λe=>(if e then
aa af
else
aa (ai (a.1.1=5)))
else
aa ah))) λf=>(if(!f)then
aa ((0,0),8)
else
aa (a.1,0)))))
def afp:Fo 311 (.i1 [.g aD, .g bE]) (.i1 [.g aD, .l aC]) (u2 (M.bY N)):=fz N [aaD N,aaF N] [O,O,O,O,O,O,T,O,R ⟨[(8, .l .bool)],[],[],432⟩,O,O,B 42 464] Tryz.func311
def M.jv(N:Nat)(c:Int)(a:Int)(b:Int):Option (aD.den×Bool):=
(if(ai (c=14))then
aqH ((if(ai (b=4))then(if(ai (a=3))then
aa (af,(a,0))
else
aa (ai (a=4),(a,0)))
else
aa (ah,(a,0))):Option (Bool×aD.den)) λd=>aa (d.2,d.1)
else(if(ai (b=2))then
aqH ((if(ai (a=2))then
aa (af,(a,0))
else
aa (ai (a=3),(a,0))):Option (Bool×aD.den)) λe=>aa (e.2,e.1)
else
aqH (if(ai (c=15))then(if(ai (a=3))then
aa (ai (b=3))
else
aa ah)
else
aa ah) λf=>(if f then
aa ((4,0),af)
else
aa ((0,0),ah))))
def afq:Fo 353 (.i1 [.l aC, .l aC, .l aC]) (.i1 [.g aD, .l .bool]) (u3 (M.jv N)):=fz N [] [O,T,T,O,T,R ⟨[(7, .l .bool)],[(0, .box 57 (.leaf aD))],[],81⟩,X,X,O,T,R ⟨[(7, .l .bool)],[(0, .box 57 (.leaf aD))],[],129⟩,X,X,B 34 128] Tryz.func353
def M.dq(b:Int)(a:List aD.den):Option (aD.den×Bool):=
(if(ai (b=10))then
aqH (idx a 0) λq=>aqH (idx a 0) λr=>aqH (M.fi N r.1) λs=>aa (q,s)
else(if(ai (b=25))then
aqH (idx a 0) λt=>aa ((1,0),ai (t.1=1))
else
aqH (if(ai (b=11))then
aa (ai (b=11))
else
aa (ai (b=12))) λu=>(if u then
aqH (aqH (idx a 0) λd=>aqH (idx a 0) λv=>aqH (idx a 1) λw=>(if(o6 aD v w)then
aqH (idx a 0) λx=>aqH (M.fi N x.1) λy=>aa (y,d)
else
aa (ah,d)):Option (Bool×aD.den)) λe=>aa (e.2,e.1)
else
aqH (if(ai (b=13))then
aa (ai (b=13))
else(if(ai (b=14))then
aa (ai (b=14))
else
aa (ai (b=15)))) λz=>(if z then
aqH (idx a 0) λA=>aqH (idx a 1) λC=>aqH (M.jv N b A.1 C.1) λf=>aa (f.1,f.2)
else(if(ai (b=16))then
aqH (aqH (idx a 0) λg=>aqH (idx a 0) λD=>(if(ai (D.1=3))then
aqH (idx a 1) λF=>aa (ai (F.1=3),g)
else
aa (ah,g)):Option (Bool×aD.den)) λh=>aa (h.2,h.1)
else
aqH (if(ai (b=17))then
aa (ai (b=17))
else
aa (ai (b=18))) λG=>(if G then
aqH (aqH (idx a 0) λc=>aqH (idx a 0) λH=>aqH (idx a 1) λI=>(if(o6 aD H I)then
aqH (idx a 0) λQ=>aqH (M.fi N Q.1) λU=>(if U then
aa (af,c)
else
aqH (idx a 0) λV=>aa (ai (V.1=5),c))
else
aa (ah,c)):Option (Bool×aD.den)) λi=>aa (i.2,i.1)
else
aqH (if(ai (b=19))then
aa (ai (b=19))
else
aa (ai (b=20))) λW=>(if W then
aqH (idx a 0) λY=>aqH (idx a 1) λZ=>aa ((1,0),(o6 aD Y Z))
else
aqH (if(ai (b=21))then
aa (ai (b=21))
else
aa (ai (b=22))) λj31=>(if j31 then
aqH (aqH (idx a 0) λWe=>aqH (idx a 1) λx34=>(if(o6 aD We x34)then
aqH (idx a 0) λx35=>aqH (M.fi N x35.1) λy36=>(if y36 then
aa (af,(1,0))
else
aqH (idx a 0) λx37=>aa (ai (x37.1=5),(1,0)))
else
aa (ah,(1,0))):Option (Bool×aD.den)) λj=>aa (j.2,j.1)
else
aqH (if(ai (b=23))then
aa (ai (b=23))
else
aa (ai (b=24))) λj38=>(if j38 then
aqH (aqH (idx a 0) λx40=>(if(ai (x40.1=1))then
aqH (idx a 1) λx41=>aa (ai (x41.1=1),(1,0))
else
aa (ah,(1,0))):Option (Bool×aD.den)) λk=>aa (k.2,k.1)
else(if(ai (b=26))then
aqH (aqH (idx a 1) λl=>aqH (idx a 0) λx44=>(if(ai (x44.1=1))then
aqH (idx a 1) λx45=>aqH (idx a 2) λx46=>aa ((o6 aD x45 x46),l)
else
aa (ah,l)):Option (Bool×aD.den)) λm=>aa (m.2,m.1)
else
aqH (if(ai (b=27))then
aa (ai (b=27))
else
aa (ai (b=28))) λj47=>(if j47 then
aqH (aqH (idx a 0) λn=>aqH (idx a 0) λx50=>(if(ai (x50.1=5))then
aqH (idx a 1) λx51=>aa (ai (x51.1=2),n)
else
aa (ah,n)):Option (Bool×aD.den)) λo=>aa (o.2,o.1)
else
aqH (if(ai (b=29))then
aa (ai (b=29))
else
aa (ai (b=30))) λj52=>(if j52 then
aqH (aqH (idx a 0) λx54=>(if(ai (x54.1=5))then
aqH (idx a 1) λx55=>aa (ai (x55.1=5),(2,0))
else
aa (ah,(2,0))):Option (Bool×aD.den)) λp=>aa (p.2,p.1)
else
aqH (if(ai (b=31))then
aa (ai (b=31))
else
aa (ai (b=32))) λj56=>(if j56 then
aqH (idx a 0) λx57=>aa ((2,0),ai (x57.1=5))
else
aa ((0,0),ah))))))))))))))
def afr:Fo 313 (.i1 [.l aC, .l (.slice aD)]) (.i1 [.g aD, .l .bool]) (u2 (M.dq N)):=fz N [aaF N,afq N] [O,O,T,O,T,O,O,O,O,R ⟨[(27, .l .bool)],[],[],160⟩,X,T,R ⟨[(5, .l .bool)],[(0, .box 57 (.leaf aD))],[],161⟩,X,X,R ⟨[(47, .l .bool)],[],[],160⟩,X,O,O,T,R ⟨[(5, .l .bool)],[(0, .box 57 (.leaf aD))],[],193⟩,X,X,R ⟨[(80, .l .bool)],[],[],192⟩,X,T,R ⟨[(5, .l .bool)],[(0, .box 57 (.leaf aD))],[],193⟩,X,X,R ⟨[(107, .l .bool)],[],[],192⟩,X,O,R ⟨[(118, .l .bool)],[],[],192⟩,X,T,R ⟨[(5, .l .bool)],[(0, .box 57 (.leaf aD))],[],193⟩,X,X,R ⟨[(143, .l .bool)],[],[],192⟩,X,T,R ⟨[(5, .l .bool)],[(0, .box 57 (.leaf aD))],[],193⟩,X,X,O,T,R ⟨[(5, .l .bool)],[(0, .box 57 (.leaf aD))],[],225⟩,X,X,R ⟨[(178, .l .bool)],[],[],224⟩,X,T,R ⟨[(5, .l .bool)],[(0, .box 57 (.leaf aD))],[],225⟩,X,X,R ⟨[(196, .l .bool)],[],[],224⟩,X,T,R ⟨[(5, .l .bool)],[(0, .box 57 (.leaf aD))],[],225⟩,X,X,B 212 224] Tryz.func313
def M.bu(a:aD.den)(c:List aD.den)(b:bE.den):Option (aD.den×Int):=
bK (J:=Unit) (R:=aD.den×Int) ((if(ai (a.1=1))then
aqH (M.dy N a.2 1 b) λd=>aa (.inr (d.1,d.2))
else(if(ai (a.1=2))then
aqH (M.dy N a.2 2 b) λe=>aa (.inr (e.1,e.2))
else(if(ai (a.1=3))then
aqH (M.dy N a.2 3 b) λf=>aa (.inr (f.1,f.2))
else(if(ai (a.1=4))then
aqH (M.dy N a.2 4 b) λg=>aa (.inr (g.1,g.2))
else(if(ai (a.1=5))then
aqH (M.dy N a.2 5 b) λh=>aa (.inr (h.1,h.2))
else(if(ai (a.1=6))then
aqH (M.cD N a.2 b) λi=>aa (.inr (i.1,i.2))
else(if(ai (a.1=7))then
aqH (M.fF N a.2 b.2.2.1 b) λj=>aa (.inr (j.1,j.2))
else(if(ai (a.1=8))then
aqH (M.fF N a.2 b.2.2.2.1 b) λk=>aa (.inr (k.1,k.2))
else(if(ai (a.1=9))then
aa (.inr ((5,0),0))
else
aqH (if(ai (a.1=33))then
aa (ai (a.1=33))
else
aa (ai (a.1=34))) λo=>(if o then
aqH (idx c 0) λp=>aqH (M.ju N a p b) λl=>aa (.inr (l.1,l.2))
else
aqH (if(ai (a.1=35))then
aa (ai (a.1=35))
else(if(ai (a.1=36))then
aa (ai (a.1=36))
else(if(ai (a.1=37))then
aa (ai (a.1=37))
else(if(ai (a.1=38))then
aa (ai (a.1=38))
else
aa (ai (a.1=39)))))) λq=>(if q then
aqH (M.bY N a b) λm=>aa (.inr (m.1,m.2))
else
aqH (if(ai (a.1=14))then
aa (ai (a.1=14))
else(if(ai (a.1=15))then
aa (ai (a.1=15))
else
aa (ai (a.1=16)))) λr=>(if r then
aqH (M.ig N a.2) λs=>(if(!s)then
aa (.inr ((0,0),3))
else
aa (.inl ()))
else
aa (.inl ())))))))))))))) λt=>aqH (M.dq N a.1 c) λn=>(if(!n.2)then
aa ((0,0),8)
else
aa (n.1,0))
def afs:Fo 283 (.i1 [.g aD, .l (.slice aD), .g bE]) (.i1 [.g aD, .l aC]) (u3 (M.bu N)):=fz N [afm N,afn N,aaD N,afo N,afp N,aaE N,afr N] [O,T,O,E 96,O,O,O,O,O,O,O,O,O,O,O,O,O,O,O,O,O,O,R ⟨[(83, .l .bool)],[],[],384⟩,X,O,R ⟨[(94, .l .bool)],[],[],384⟩,X,O,B 105 384] Tryz.func283
def M.iO(c:List aD.den)(g:bE.den):Option (aD.den×Int×Int):=
aqH (M.ie N c) λd=>(if(!ai (d.2.1=0))then
aa ((0,0),d.1,d.2.1)
else
bK (J:=List aD.den) (R:=aD.den×Int×Int) (Loop (S:=Int×List aD.den) (X:=(List aD.den)⊕(aD.den×Int×Int)) (λa=>(if(ai (a.1<(c.length:Int)))then
aqH (idx c a.1) λb=>aqH (if(!ai (b.2=0))then
aqH (M.fM N b.1) λh=>aa (!h)
else
aa ah) λi=>(if i then
aa (.inr (.inr ((0,0),a.1,2)))
else
aqH (M.eh N b.1) λf=>aqH (gD a.2 (aqJ.wrap ((a.2.length:Int)-f)) (a.2.length:Int)) λj=>aqH (M.bu N b j g) λe=>(if(!ai (e.2=0))then
aa (.inr (.inr ((0,0),a.1,e.2)))
else
aqH (gD a.2 0 (aqJ.wrap ((a.2.length:Int)-f))) λk=>aqH (cf k ([e.1]:List aD.den)) λl=>aa (.inl (aqJ.wrap (a.1+1),l))))
else
aa (.inr (.inl a.2)))) N (0,([]:List aD.den))) λm=>aqH (idx m 0) λn=>aa (n,0,0))
def afu:Fo 251 (.i1 [.l (.slice aD), .g bE]) (.i1 [.g aD, .l aC, .l aC]) (u2 (M.iO N)):=fz N [Ul N,aaB N,aaC N,afs N] [O,O,O,O,J ⟨[(10, .val ah (.own 256))],[(256, .own 57 aD)],[],257⟩,O,T,P ⟨[(10, .val ah (.own 304)),(29, .l aC)],[(304, .own 57 aD)],[],305⟩,O,O,T,T,O,T,B 42 417] Tryz.func251
def M.iY(b:List aD.den)(c:bE.den)(d:aD.den):Option Int:=
aqH (M.iO N b c) λa=>(if(!ai (a.2.2=0))then
aa a.2.2
else(if(!(o6 aD a.1 d))then
aa 8
else
aa 0))
def afv:Fo 191 (.i1 [.l (.slice aD), .g bE, .g aD]) (.i1 [.l aC]) (u3 (M.iY N)):=fz N [afu N] [] Tryz.func191
def M.lY(N:Nat)(b:cm.den)(a:cm.den):Option (Bool×cm.den):=
aa (ai (b.1=a.1),a)
def XC:Fo 189 (.j1 [.g cm, .ptr 0 [] 0] [.box 102 (.leaf cm)] 1) (.j1 [.l .bool] [.box 102 (.leaf cm)] 2) (u2 (M.lY N)):=fz N [] [] Tryz.func189
def M.bV(c:List cm.den)(d:cm.den):Option (Int×cm.den):=
Loop (S:=Int×cm.den) (X:=Int×cm.den) (λa=>(if(ai (a.1<(c.length:Int)))then
aqH (idx c a.1) λe=>aqH (M.lY N e a.2) λb=>(if b.1 then
aa (.inr (a.1,b.2))
else
aa (.inl (aqJ.wrap (a.1+1),b.2)))
else
aa (.inr ((-1),a.2)))) N (0,d)
def XD:Fo 249 (.j1 [.l (.slice cm), .fn 189 [(0,[],0)]] [.box 102 (.leaf cm)] 1) (.j1 [.l aC] [.box 102 (.leaf cm)] 2) (u2 (M.bV N)):=fz N [XC N] [O,T,O,T,P ⟨[(8, .l aC)],[(0, .box 102 (.leaf cm))],[],66⟩] Tryz.func249
def M.bM(b:List cm.den)(c:cm.den):Option (Bool×cm.den):=
aqH (M.bV N b c) λa=>aa (ai (0<=a.1),a.2)
def XE:Fo 188 (.j1 [.l (.slice cm), .fn 189 [(0,[],0)]] [.box 102 (.leaf cm)] 1) (.j1 [.l .bool] [.box 102 (.leaf cm)] 2) (u2 (M.bM N)):=fz N [XD N] [] Tryz.func188
def M.mn(b:bg.den)(d:Int)(f:bE.den):Option Int:=
aqH (idx b.2.2.2.2 d) λe=>aqH (aqH (gD b.2.2.2.2 0 d) λg=>Loop (S:=Int×Int) (X:=Int) (λc=>(if(ai (c.2<(g.length:Int)))then
aqH (aqH (idx g c.2) λi=>(if(ai (i.2.1=e.2.1))then
aa (aqJ.wrap (c.1+1))
else
aa c.1):Option Int) λj=>aa (.inl (j,aqJ.wrap (c.2+1)))
else
aa (.inr c.1))) N (0,0):Option Int) λk=>aqH (M.cR N e.1) λl=>(if(!l)then
aa 2
else
aqH (gD b.2.2.2.2 0 d) λm=>aqH (M.bM N m e) λa=>(if a.1 then
aa 7
else
aqH (if(ai (a.2.2.1<0))then
aa af
else
aa (ai ((b.2.2.2.1.length:Int)<=a.2.2.1))) λn=>(if n then
aa 6
else
aqH (if(!ai (a.2.2.2.1=(-1)))then(if(ai (a.2.2.2.1<0))then
aa af
else(if(ai (d<=a.2.2.2.1))then
aa af
else
aqH (idx b.2.2.2.2 a.2.2.2.1) λo=>aa (!ai (o.2.1=a.2.2.1))))
else
aa ah) λp=>(if p then
aa 9
else
aqH (if(ai (a.2.2.2.2.1<0))then
aa af
else
aa (ai (9<a.2.2.2.2.1))) λq=>(if q then
aa 3
else
aqH (if(ai (a.2.2.2.2.2.1.1<0))then
aa af
else(if(ai (a.2.2.2.2.2.1.2<=a.2.2.2.2.2.1.1))then
aa af
else
aa (ai (109573<a.2.2.2.2.2.1.2)))) λr=>(if r then
aa 3
else(if(ai (8<=k))then
aa 4
else
aqH (M.mA N a.2.2.2.2.2.2.2.2) λs=>(if(!s)then
aa 2
else
bK (J:=Unit) (R:=Int) ((if(ai (0<(a.2.2.2.2.2.2.1.length:Int)))then
aqH (M.iY N a.2.2.2.2.2.2.1 f (1,0)) λh=>(if(!ai (h=0))then
aa (.inr h)
else
aa (.inl ()))
else
aa (.inl ()))) λv=>aqH (idx b.2.2.2.1 a.2.2.1) λt=>aqH (M.iY N a.2.2.2.2.2.2.2.1 f t.2) λu=>aa u))))))))
def afw:Fo 119 (.i1 [.g bg, .l aC, .g bE]) (.i1 [.l aC]) (u3 (M.mn N)):=fz N [W61 N,XE N,afl N,afv N] [O,O,O,R ⟨[(8, .l aC)],[],[],176⟩,O,T,P ⟨[(8, .l aC),(22, .l aC)],[],[],272⟩,O,O,T,R ⟨[(8, .l aC)],[],[],288⟩,X,X,X,X,T,T,O,O,O,O,R ⟨[(46, .l .bool)],[],[],368⟩,X,O,R ⟨[(58, .l .bool)],[],[],368⟩,X,O,R ⟨[(85, .l .bool)],[],[],368⟩,X,O,B 94 368,X,E 496] Tryz.func119
def M.iP(b:List Int)(c:Int):Option Int:=
Loop (S:=Int) (X:=Int) (λa=>(if(ai (a<(b.length:Int)))then
aqH (idx b a) λd=>(if(ai (c=d))then
aa (.inr a)
else
aa (.inl (aqJ.wrap (a+1))))
else
aa (.inr (-1)))) N 0
def afx:Fo 192 (.i1 [.l (.slice aC), .l aC]) (.i1 [.l aC]) (u2 (M.iP N)):=fz N [] [O,T,O,T,L 8 64] Tryz.func192
def M.gp(a:List Int)(b:Int):Option Bool:=
aqH (M.iP N a b) λc=>aa (ai (0<=c))
def afy:Fo 120 (.i1 [.l (.slice aC), .l aC]) (.i1 [.l .bool]) (u2 (M.gp N)):=fz N [afx N] [] Tryz.func120
def M.cW(N:Nat)(a:List Int):Option (List Int):=Cw a
def S38:qc:=⟨.w1 3 aC, .j1 [] [.own 3 aC] 2,M.cW N⟩
def W38(N:Nat):jF Tryz.prog 38 (S38 N):=Uj ⟨_,Tryz.func38,by kernel_rfl,by kernel_rfl⟩ Tryz.slices_Sort_int Tryz.slices_Sort_int_none
def M.dS(N:Nat)(a:List Int):Option (List Int):=sW a
def afA:qc:=⟨.w1 3 aC,⟨[(0, .val ah (.own 1))],[(1, .own 3 aC)],[],2⟩,M.dS N⟩
def aaH(N:Nat):jF Tryz.prog 222 (afA N):=Jh ⟨_,Tryz.func222,by kernel_rfl,by kernel_rfl⟩ Tryz.slices_Compact_int Tryz.slices_Compact_int_empty
def M.jw(a:List Int):Option (List Int):=
aqH (M.cW N a) λb=>aqH (M.dS N b) λc=>aa c
def XF:Fo 269 (.w1 3 aC) ⟨[(0, .val ah (.own 1))],[(1, .own 3 aC)],[],2⟩ (M.jw N):=fz N [W38 N,aaH N] [] Tryz.func269
def M.jZ(e:List aD.den):Option ((List Int)×(List Int)×List Int):=
aqH (Loop (S:=Int×(List Int)×(List Int)×List Int) (X:=(List Int)×(List Int)×List Int) (λa=>(if(ai (a.1<(e.length:Int)))then
aqH (idx e a.1) λb=>aqH ((if(ai (b.1=7))then
aqH (cf a.2.1 ([b.2]:List Int)) λf=>aa (f,a.2.2.1,a.2.2.2)
else(if(ai (b.1=8))then
aqH (cf a.2.2.1 ([b.2]:List Int)) λg=>aa (a.2.1,g,a.2.2.2)
else
aqH (if(ai (b.1=36))then
aa (ai (b.1=36))
else(if(ai (b.1=37))then
aa (ai (b.1=37))
else(if(ai (b.1=38))then
aa (ai (b.1=38))
else
aa (ai (b.1=39))))) λh=>(if h then
aqH (cf a.2.2.2 ([b.2]:List Int)) λi=>aa (a.2.1,a.2.2.1,i)
else
aa (a.2.1,a.2.2.1,a.2.2.2)))):Option ((List Int)×(List Int)×List Int)) λc=>aa (.inl (aqJ.wrap (a.1+1),c.1,c.2.1,c.2.2))
else
aa (.inr (a.2.1,a.2.2.1,a.2.2.2)))) N (0,([]:List Int),([]:List Int),([]:List Int)):Option ((List Int)×(List Int)×List Int)) λd=>aqH (M.jw N d.1) λj=>aqH (M.jw N d.2.1) λk=>aqH (M.jw N d.2.2) λl=>aa (j,k,l)
def afB:Fo 221 (.i1 [.l (.slice aD)]) (.j1 [.val ah (.own 0), .val ah (.own 1), .val ah (.own 2)] [.own 3 aC, .own 3 aC, .own 3 aC] 3) (M.jZ N):=fz N [XF N] [O,O,R ⟨[(5, .val ah (.own 96)),(6, .val ah (.own 97)),(7, .val ah (.own 98))],[(96, .own 3 aC),(97, .own 3 aC),(98, .own 3 aC)],[],99⟩,O,T,P ⟨[(5, .val ah (.own 144)),(6, .val ah (.own 145)),(7, .val ah (.own 146)),(12, .l aC)],[(144, .own 3 aC),(145, .own 3 aC),(146, .own 3 aC)],[],147⟩,O,O,T,T,O,O,R ⟨[(5, .val ah (.own 259)),(6, .val ah (.own 260)),(7, .val ah (.own 261))],[(259, .own 3 aC),(260, .own 3 aC),(261, .own 3 aC)],[144,145,146],262⟩,O,O,O,O,B 32 323] Tryz.func221
def M.ij(e:cm.den)(f:Int):Option (List Int):=
aqH (M.jZ N e.2.2.2.2.2.1) λg=>aqH (M.jZ N e.2.2.2.2.2.2.1) λh=>aqH (Loop (S:=Int×List Int) (X:=List Int) (λa=>(if(ai (a.1<(g.2.1.length:Int)))then
aqH (aqH (idx g.2.1 a.1) λc=>aqH (if(ai (0<=c))then
aa (ai (c<f))
else
aa ah) λi=>(if i then
aqH (cf a.2 ([c]:List Int)) λj=>aa j
else
aa a.2):Option (List Int)) λk=>aa (.inl (aqJ.wrap (a.1+1),k))
else
aa (.inr a.2))) N (0,([]:List Int)):Option (List Int)) λl=>Loop (S:=Int×List Int) (X:=List Int) (λb=>(if(ai (b.1<(h.2.1.length:Int)))then
aqH (aqH (idx h.2.1 b.1) λd=>aqH (if(ai (0<=d))then
aa (ai (d<f))
else
aa ah) λm=>(if m then
aqH (cf b.2 ([d]:List Int)) λn=>aa n
else
aa b.2):Option (List Int)) λo=>aa (.inl (aqJ.wrap (b.1+1),o))
else
aa (.inr b.2))) N (0,l)
def aaI:Fo 149 (.i1 [.g cm, .l aC]) (.w1 3 aC) (u2 (M.ij N)):=fz N [afB N] [O,O,O,O,R ⟨[(5, .val ah (.own 368))],[(368, .own 3 aC)],[],369⟩,O,T,P ⟨[(5, .val ah (.own 416)),(32, .l aC)],[(416, .own 3 aC)],[],417⟩,O,O,T,R ⟨[(5, .val ah (.own 433))],[(433, .own 3 aC)],[416],434⟩,O,B 42 481,X,X,X,T,O,T,P ⟨[(5, .val ah (.own 417)),(50, .l aC)],[(417, .own 3 aC)],[368],418⟩,O,O,T,R ⟨[(5, .val ah (.own 434))],[(434, .own 3 aC)],[417],435⟩,O,B 60 482] Tryz.func149
def M.kC(a:List Int):Option (List Int):=
aqH (M.cW N a) λb=>aqH (M.dS N b) λc=>aa c
def Qt:Fo 150 (.w1 3 aC) ⟨[(0, .val ah (.own 1))],[(1, .own 3 aC)],[],2⟩ (M.kC N):=fz N [W38 N,aaH N] [] Tryz.func150
def M.kW(d:bg.den):Option (List (List Int)):=
aqH (ol (d.2.2.2.1.length:Int) ([]:List Int)) λf=>aqH (Loop (S:=Int×List (List Int)) (X:=List (List Int)) (λb=>(if(ai (b.1<(d.2.2.2.2.length:Int)))then
aqH (aqH (idx d.2.2.2.2 b.1) λc=>aqH (if(ai (0<=c.2.1))then
aa (ai (c.2.1<(b.2.length:Int)))
else
aa ah) λg=>(if g then
aqH (idx b.2 c.2.1) λn=>aqH (idx b.2 c.2.1) λh=>aqH (M.ij N c (b.2.length:Int)) λi=>aqH (cf h i) λj=>aqH (idx b.2 c.2.1) λo=>(if ai (c.2.1=c.2.1)then
aqH (idx b.2 c.2.1) λp=>aa (vL b.2 c.2.1 (λq=>j))
else ae)
else
aa b.2):Option (List (List Int))) λk=>aa (.inl (aqJ.wrap (b.1+1),k))
else
aa (.inr b.2))) N (0,f):Option (List (List Int))) λe=>Loop (S:=Int×List (List Int)) (X:=List (List Int)) (λa=>(if(ai (a.1<(e.length:Int)))then
aqH (idx a.2 a.1) λr=>aqH (idx a.2 a.1) λl=>aqH (M.kC N l) λm=>aqH (idx a.2 a.1) λs=>(if ai (a.1=a.1)then
aqH (idx a.2 a.1) λt=>aa (.inl (aqJ.wrap (a.1+1),vL a.2 a.1 (λu=>m)))
else ae)
else
aa (.inr a.2))) N (0,e)
def S81:qc:=⟨.i1 [.g bg], .j1 [.val ah (.own 0)] [.deep 34 (.sl 3 (.leaf aC))] 1,M.kW N⟩
def W81(N:Nat):jF Tryz.prog 81 (S81 N):=fw (en [ck (aaI N),ck (Qt N)] af ah) (N:=N) (.o (.o (.meet ⟨[],[(80, .deep 34 (.sl 3 (.leaf aC)))],[],113⟩ (.o (.two (.loop ⟨[(15, .l aC)],[(80, .deep 34 (.sl 3 (.leaf aC)))],[],177⟩ (.o (.o (.two (.meet ⟨[],[(80, .deep 34 (.sl 3 (.leaf aC)))],[],194⟩ (.o (.meet ⟨[(28, .l .bool)],[],[],257⟩ .nil .nil)) .nil) .nil)))) .nil)) (.two (.o (.two (.loop ⟨[(46, .l aC)],[(80, .deep 34 (.sl 3 (.leaf aC)))],[],162⟩ .nil) .nil)) .nil)))) Tryz.func81 (by kernel_rfl) λx=>by kernel_rfl
def M.pq(e:List (List Int))(i:Int):Option (List Int):=
aqH (ol (e.length:Int) ah) λj=>aqH (Loop (S:=(List Bool)×List Int) (X:=List Bool) (λc=>(if(ai (0<(c.2.length:Int)))then
aqH (idx c.2 0) λk=>aqH (gD c.2 1 (c.2.length:Int)) λl=>aqH (idx e k) λf=>Loop (S:=Int×(List Bool)×List Int) (X:=((List Bool)×List Int)⊕(List Bool)) (λa=>(if(ai (a.1<(f.length:Int)))then
aqH (aqH (idx f a.1) λd=>aqH (idx a.2.1 d) λm=>(if(!m)then
aqH (idx a.2.1 d) λr=>aqH (cf a.2.2 ([d]:List Int)) λn=>aa (bn a.2.1 d af,n)
else
aa (a.2.1,a.2.2)):Option ((List Bool)×List Int)) λg=>aa (.inl (aqJ.wrap (a.1+1),g.1,g.2))
else
aa (.inr (.inl (a.2.1,a.2.2))))) N (0,c.1,l)
else
aa (.inr c.1))) N (j,([i]:List Int)):Option (List Bool)) λh=>Loop (S:=Int×List Int) (X:=List Int) (λb=>(if(ai (b.1<(h.length:Int)))then
aqH (aqH (idx h b.1) λo=>(if o then
aqH (cf b.2 ([b.1]:List Int)) λp=>aa p
else
aa b.2):Option (List Int)) λq=>aa (.inl (aqJ.wrap (b.1+1),q))
else
aa (.inr b.2))) N (0,([]:List Int))
def afC:qc:=⟨.i1 [.l (.slice (.slice aC)), .l aC], .w1 3 aC,u2 (M.pq N)⟩
def afD(N:Nat):jF Tryz.prog 193 (afC N):=fw (en [] ah af) (N:=N) (.o (.o (.o (.meet ⟨[],[(48, .own 4 .bool)],[96],129⟩ (.two (.loop ⟨[(6, .val ah (.own 128))],[(48, .own 4 .bool),(128, .own 3 aC)],[96],130⟩ (.o (.two (.o (.o (.o (.two (.loop ⟨[(6, .val ah (.own 386)),(31, .l aC)],[(48, .own 4 .bool),(386, .own 3 aC)],[258],388⟩ (.o (.o (.two (.meet ⟨[(6, .val ah (.own 404))],[(48, .own 4 .bool),(404, .own 3 aC)],[386],406⟩ .nil .nil) .nil)))) .nil)))) .nil))) .nil) (.o (.two (.o (.two (.loop ⟨[(10, .val ah (.own 193)),(50, .l aC)],[(193, .own 3 aC)],[],194⟩ (.o (.o (.two (.meet ⟨[(10, .val ah (.own 210))],[(210, .own 3 aC)],[193],211⟩ .nil .nil) .nil)))) .nil)) .nil)))))) Tryz.func193 (by kernel_rfl) λx=>by kernel_rfl
def M.ke(b:bg.den)(a:Int):Option (List Int):=
aqH (if(ai (a<0))then
aa af
else
aa (ai ((b.2.2.2.1.length:Int)<=a))) λc=>(if c then
aa ([]:List Int)
else
aqH (M.kW N b) λd=>aqH (M.pq N d a) λe=>aa e)
def afE:Fo 121 (.i1 [.g bg, .l aC]) (.w1 3 aC) (u2 (M.ke N)):=fz N [W81 N,afD N] [O,T,B 13 32] Tryz.func121
def M.kX(N:Nat)(b:bg.den)(a:bg.den):Option (Bool×bg.den):=
aa (ai (b.1=a.1),a)
def XG:Fo 116 (.j1 [.g bg, .ptr 0 [] 0] [.box 63 (.leaf bg)] 1) (.j1 [.l .bool] [.box 63 (.leaf bg)] 2) (u2 (M.kX N)):=fz N [] [] Tryz.func116
def M.bQ(c:List bg.den)(d:bg.den):Option (Int×bg.den):=
Loop (S:=Int×bg.den) (X:=Int×bg.den) (λa=>(if(ai (a.1<(c.length:Int)))then
aqH (idx c a.1) λe=>aqH (M.kX N e a.2) λb=>(if b.1 then
aa (.inr (a.1,b.2))
else
aa (.inl (aqJ.wrap (a.1+1),b.2)))
else
aa (.inr ((-1),a.2)))) N (0,d)
def XH:Fo 184 (.j1 [.l (.slice bg), .fn 116 [(0,[],0)]] [.box 63 (.leaf bg)] 1) (.j1 [.l aC] [.box 63 (.leaf bg)] 2) (u2 (M.bQ N)):=fz N [XG N] [O,T,O,T,P ⟨[(8, .l aC)],[(0, .box 63 (.leaf bg))],[],66⟩] Tryz.func184
def M.bq(b:List bg.den)(c:bg.den):Option (Bool×bg.den):=
aqH (M.bQ N b c) λa=>aa (ai (0<=a.1),a.2)
def XI:Fo 115 (.j1 [.l (.slice bg), .fn 116 [(0,[],0)]] [.box 63 (.leaf bg)] 1) (.j1 [.l .bool] [.box 63 (.leaf bg)] 2) (u2 (M.bq N)):=fz N [XH N] [] Tryz.func115
def M.nl(b:cC.den)(h:Int):Option (Int×Int):=
aqH (idx b.2.2 h) λd=>aqH (gD b.2.2 0 h) λj=>aqH (aqH (M.kS N b.1 d.1) λo=>(if o then
aa (af,d)
else
aqH (M.lm N b.2.1 d.1) λp=>(if p then
aa (af,d)
else
aqH (M.bq N j d) λk=>aa (k.1,k.2))):Option (Bool×bg.den)) λa=>aqH (M.cR N a.2.1) λq=>(if(!q)then
aa (2,0)
else(if a.1 then
aa (7,0)
else
aqH (if(!ai (a.2.2.1=(-1)))then(if(ai (a.2.2.1<0))then
aa af
else(if(ai (h<=a.2.2.1))then
aa af
else
aqH (idx j a.2.2.1) λr=>aa (!ai (r.2.1=(-1)))))
else
aa ah) λs=>(if s then
aa (6,0)
else(if(ai (12<(a.2.2.2.1.length:Int)))then
aa (4,112)
else(if(ai (12<(a.2.2.2.2.1.length:Int)))then
aa (4,212)
else
bK (J:=Unit) (R:=Int×Int) (Loop (S:=Int) (X:=Unit⊕(Int×Int)) (λe=>(if(ai (e<(a.2.2.2.1.length:Int)))then
aqH (idx a.2.2.2.1 e) λt=>aqH (gD a.2.2.2.1 0 e) λu=>aqH (M.kV N b t u ([]:List bG.den)) λl=>(if(!ai (l=0))then
aa (.inr (.inr (l,aqJ.wrap (100+e))))
else
aa (.inl (aqJ.wrap (e+1))))
else
aa (.inr (.inl ())))) N 0) λz=>bK (J:=Unit) (R:=Int×Int) (Loop (S:=Int) (X:=Unit⊕(Int×Int)) (λf=>(if(ai (f<(a.2.2.2.2.1.length:Int)))then
aqH (idx a.2.2.2.2.1 f) λv=>aqH (gD a.2.2.2.2.1 0 f) λw=>aqH (M.kV N b v a.2.2.2.1 w) λm=>(if(!ai (m=0))then
aa (.inr (.inr (m,aqJ.wrap (200+f))))
else
aa (.inl (aqJ.wrap (f+1))))
else
aa (.inr (.inl ())))) N 0) λA=>aqH (M.lX N b h) λc=>bK (J:=Unit) (R:=Int×Int) (Loop (S:=Int) (X:=Unit⊕(Int×Int)) (λi=>(if(ai (i<(a.2.2.2.2.2.length:Int)))then
aqH (M.mn N a.2 i (c.1,(c.2.1,(c.2.2.2.1,(c.2.2.2.2.1,(c.2.2.2.2.2,c.2.2.1)))))) λn=>(if(!ai (n=0))then
aa (.inr (.inr (n,aqJ.wrap (300+i))))
else
aa (.inl (aqJ.wrap (i+1))))
else
aa (.inr (.inl ())))) N 0) λC=>Loop (S:=Int) (X:=Int×Int) (λg=>(if(ai (g<(a.2.2.2.2.1.length:Int)))then
aqH (M.ke N a.2 g) λx=>aqH (M.gp N x g) λy=>(if y then
aa (.inr (9,aqJ.wrap (200+g)))
else
aa (.inl (aqJ.wrap (g+1))))
else
aa (.inr (0,0)))) N 0)))))
def W64:Fo 64 (.i1 [.g cC, .l aC]) (.i1 [.l aC, .l aC]) (u2 (M.nl N)):=fz N [W61 N,W62 N,W63 N,XI N,afg N,afi N,afw N,afy N,afE N] [O,O,O,R ⟨[(8, .l .bool)],[(128, .box 63 (.leaf bg))],[],241⟩,X,T,T,O,O,O,O,B 52 353,X,E 513,O,T,L 89 577,X,X,E 513,O,T,L 110 577,X,X,O,E 593,O,T,L 136 657,X,X,T,O,T,L 152 657] Tryz.func64
def M.mC(b:cC.den):Option (aG.den):=
(if(ai (4<(b.2.2.length:Int)))then
aa (4,(3,(4,0)))
else
bK (J:=Unit) (R:=aG.den) (Loop (S:=Int) (X:=Unit⊕(aG.den)) (λa=>(if(ai (a<(b.2.2.length:Int)))then
aqH (M.nl N b a) λc=>(if(!ai (c.1=0))then
aa (.inr (.inr (c.1,(3,(a,c.2)))))
else
aa (.inl (aqJ.wrap (a+1))))
else
aa (.inr (.inl ())))) N 0) λd=>aa (0,(0,(0,0))))
def W34:Fo 34 (.i1 [.g cC]) (.i1 [.g aG]) (M.mC N):=fz N [W64 N] [O,O,E 96,O,T,L 14 160] Tryz.func34
def M.ln(a:cC.den):Option (aG.den):=
aqH (M.nf N a) λb=>(if(!ai (b.1=0))then
aa b
else
aqH (M.mz N a) λc=>(if(!ai (c.1=0))then
aa c
else
aqH (M.mC N a) λd=>aa d))
def W17:Fo 17 (.i1 [.g cC]) (.i1 [.g aG]) (M.ln N):=fz N [W32 N,W33 N,W34 N] [] Tryz.func17
def M.dK(g:cC.den)(b:List aE.den)(c:List bG.den):Option (Int×Int):=
(if(ai ((b.length:Int)<(c.length:Int)))then
aa ((b.length:Int),5)
else(if(ai ((c.length:Int)<(b.length:Int)))then
aa ((c.length:Int),4)
else
Loop (S:=Int) (X:=Int×Int) (λa=>(if(ai (a<(b.length:Int)))then
aqH (idx b a) λd=>aqH (idx c a) λe=>aqH (if(!ai (d.1=e.2.1))then
aa af
else
aa (!ai (d.2.1=e.2.2))) λh=>(if h then
aa (.inr (a,8))
else
aqH (M.iN N e.2 g.1) λf=>aqH (if(ai (d.2.2<f.1))then
aa af
else
aa (ai (f.2<d.2.2))) λi=>(if i then
aa (.inr (a,3))
else
aa (.inl (aqJ.wrap (a+1)))))
else
aa (.inr (0,0)))) N 0))
def W35:Fo 35 (.i1 [.g cC, .l (.slice aE), .l (.slice bG)]) (.i1 [.l aC, .l aC]) (u3 (M.dK N)):=fz N [W65 N] [O,O,O,T,O,T,L 29 256,O,O,T,T,O,O,T,B 50 480,O,B 68 624] Tryz.func35
def M.fK(N:Nat)(a:cC.den)(c:Int):Option ((List bG.den)×Int):=
aqH (idx a.2.2 c) λb=>aqH (if(ai (b.2.1<0))then
aa af
else
aa (ai ((a.2.2.length:Int)<=b.2.1))) λd=>(if d then
aa (([]:List bG.den),0)
else
aqH (idx a.2.2 b.2.1) λe=>aa (e.2.2.1,8))
def W36:Fo 36 (.i1 [.g cC, .l aC]) (.i1 [.l (.slice bG), .l aC]) (u2 (M.fK N)):=fz N [] [O,O,T,B 21 160] Tryz.func36
def M.gq(b:cC.den)(c:Int)(a:gO.den):Option (Int×Int×Int):=
aqH (if(ai (c<0))then
aa af
else
aa (ai ((b.2.2.length:Int)<=c))) λh=>(if h then
aa ((-1),(-1),6)
else
aqH (if(ai (a.1<0))then
aa af
else
aa (ai (109572<a.1))) λi=>(if i then
aa ((-1),(-1),3)
else
aqH (idx b.2.2 c) λj=>aqH (M.dK N b a.2.1 j.2.2.1) λe=>(if(!ai (e.2=0))then
aa ((-1),e.1,e.2)
else
aqH (M.fK N b c) λf=>(if(ai (f.2<(a.2.2.length:Int)))then
aa (f.2,(-1),4)
else
Loop (S:=Int) (X:=Int×Int×Int) (λd=>(if(ai (d<(a.2.2.length:Int)))then
aqH (idx a.2.2 d) λk=>aqH (M.dK N b k f.1) λg=>(if(!ai (g.2=0))then
aa (.inr (d,g.1,g.2))
else
aa (.inl (aqJ.wrap (d+1))))
else
aa (.inr (0,0,0)))) N 0))))
def W18:Fo 18 (.i1 [.g cC, .l aC, .g gO]) (.i1 [.l aC, .l aC, .l aC]) (u3 (M.gq N)):=fz N [W35 N,W36 N] [O,T,B 25 80,T,B 33 80,O,O,O,T,O,T,L 66 624] Tryz.func18
def M.fN(N:Nat)(a:List Int):Option Int:=
aa (a.length:Int)
def W83:Fo 83 (.i1 [.l (.slice aC)]) (.i1 [.l aC]) (M.fN N):=fz N [] [] Tryz.func83
def M.fl(N:Nat)(a:List Int)(b:Int)(c:Int):Option Bool:=
aqH (idx a b) λd=>aqH (idx a c) λe=>aa (ai (d<e))
def aaJ:Fo 401 (.i1 [.l (.slice aC), .l aC, .l aC]) (.i1 [.l .bool]) (u3 (M.fl N)):=fz N [] [] Tryz.func401
def M.n4(N:Nat)(a:List Int):Option (Int×List Int):=
aqH (idx a (aqJ.wrap ((a.length:Int)-1))) λb=>aqH (gD a 0 (aqJ.wrap ((a.length:Int)-1))) λc=>aa (b,c)
def afG:Fo 402 (.j1 [.ptr 0 [] 0] [.box 162 (.own 1), .own 3 aC] 2) ⟨[(0, .ifc 3 (.l aC))],[(0, .box 162 (.own 2)),(2, .own 3 aC)],[],4⟩ (M.n4 N):=fz N [] [] Tryz.func402
def M.np(d:bg.den):Option (List (List Int)):=
aqH (ol (d.2.2.2.1.length:Int) ([]:List Int)) λf=>aqH (Loop (S:=Int×List (List Int)) (X:=List (List Int)) (λb=>(if(ai (b.1<(d.2.2.2.2.length:Int)))then
aqH (aqH (idx d.2.2.2.2 b.1) λc=>aqH (if(ai (0<=c.2.1))then
aa (ai (c.2.1<(b.2.length:Int)))
else
aa ah) λg=>(if g then
aqH (idx b.2 c.2.1) λn=>aqH (idx b.2 c.2.1) λh=>aqH (M.ij N c (b.2.length:Int)) λi=>aqH (cf h i) λj=>aqH (idx b.2 c.2.1) λo=>(if ai (c.2.1=c.2.1)then
aqH (idx b.2 c.2.1) λp=>aa (vL b.2 c.2.1 (λq=>j))
else ae)
else
aa b.2):Option (List (List Int))) λk=>aa (.inl (aqJ.wrap (b.1+1),k))
else
aa (.inr b.2))) N (0,f):Option (List (List Int))) λe=>Loop (S:=Int×List (List Int)) (X:=List (List Int)) (λa=>(if(ai (a.1<(e.length:Int)))then
aqH (idx a.2 a.1) λr=>aqH (idx a.2 a.1) λl=>aqH (M.kC N l) λm=>aqH (idx a.2 a.1) λs=>(if ai (a.1=a.1)then
aqH (idx a.2 a.1) λt=>aa (.inl (aqJ.wrap (a.1+1),vL a.2 a.1 (λu=>m)))
else ae)
else
aa (.inr a.2))) N (0,e)
def aaK:qc:=⟨.i1 [.g bg], .j1 [.val ah (.own 0)] [.deep 34 (.sl 3 (.leaf aC))] 1,M.np N⟩
def aaL(N:Nat):jF Tryz.prog 81 (aaK N):=fw (en [ck (aaI N),ck (Qt N)] af ah) (N:=N) (.o (.o (.meet ⟨[],[(80, .deep 34 (.sl 3 (.leaf aC)))],[],113⟩ (.o (.two (.loop ⟨[(15, .l aC)],[(80, .deep 34 (.sl 3 (.leaf aC)))],[],177⟩ (.o (.o (.two (.meet ⟨[],[(80, .deep 34 (.sl 3 (.leaf aC)))],[],194⟩ (.o (.meet ⟨[(28, .l .bool)],[],[],257⟩ .nil .nil)) .nil) .nil)))) .nil)) (.two (.o (.two (.loop ⟨[(46, .l aC)],[(80, .deep 34 (.sl 3 (.leaf aC)))],[],162⟩ .nil) .nil)) .nil)))) Tryz.func81 (by kernel_rfl) λx=>by kernel_rfl
def M.kY(N:Nat)(a:Int)(b:List Int):Option (List Int):=
aqH (cf b ([a]:List Int)) λc=>aa c
def XJ:Fo 403 (.j1 [.ptr 0 [] 0, .ifc 3 (.l aC)] [.box 162 (.own 1), .own 3 aC] 2) ⟨[],[(0, .box 162 (.own 2)),(2, .own 3 aC)],[],4⟩ (u2 (M.kY N)):=fz N [] [] Tryz.func403
def M.dL(N:Nat)(b:Int)(c:Int)(a:List Int):Option (List Int):=
aqH (idx a c) λd=>aqH (idx a b) λe=>aqH (idx a b) λf=>aqH (idx (bn a b d) c) λg=>aa (bn (bn a b d) c e)
def Ji:Fo 404 (.j1 [.val ah (.own 0), .l aC, .l aC] [.own 3 aC] 1) (.j1 [] [.own 3 aC] 2) (u3 (M.dL N)):=fz N [] [] Tryz.func404
def M.iQ(b:Int)(c:List Int):Option (List Int):=
Loop (S:=Int×List Int) (X:=List Int) (λa=>aqH (if(ai ((aqJ.wrap (aqW (aqJ.wrap (a.1-1)) 2))=a.1))then
aa af
else
aqH (M.fl N a.2 a.1 (aqJ.wrap (aqW (aqJ.wrap (a.1-1)) 2))) λd=>aa (!d)) λe=>(if e then
aa (.inr a.2)
else
aqH (M.dL N (aqJ.wrap (aqW (aqJ.wrap (a.1-1)) 2)) a.1 a.2) λf=>aa (.inl (aqJ.wrap (aqW (aqJ.wrap (a.1-1)) 2),f)))) N (b,c)
def XK:Fo 151 (.j1 [.ifc 161 (.ptr 0 [] 0), .l aC] [.box 162 (.own 1), .own 3 aC] 2) (.j1 [] [.box 162 (.own 1), .own 3 aC] 4) (u2 (M.iQ N)):=fz N [aaJ N,Ji N] [T,P ⟨[(1, .l aC)],[(1, .own 3 aC)],[],3⟩,T,O,T,B 17 67] Tryz.func151
def M.dT(b:Int)(c:List Int):Option (List Int):=
aqH (M.kY N b c) λa=>aqH (M.fN N a) λd=>aqH (M.iQ N (aqJ.wrap (d-1)) a) λe=>aa e
def aaM:Fo 82 (.j1 [.ifc 161 (.ptr 0 [] 0), .ifc 3 (.l aC)] [.box 162 (.own 1), .own 3 aC] 2) ⟨[],[(0, .box 162 (.own 2)),(2, .own 3 aC)],[],4⟩ (u2 (M.dT N)):=fz N [W83 N,XK N,XJ N] [] Tryz.func82
def M.gJ(c:Int)(d:Int)(f:List Int):Option (Bool×List Int):=
aqH (Loop (S:=Int×List Int) (X:=Int×List Int) (λa=>aqH (if(ai (d<=(aqJ.wrap ((aqJ.wrap (2*a.1))+1))))then
aa af
else
aa (ai ((aqJ.wrap ((aqJ.wrap (2*a.1))+1))<0))) λg=>(if g then
aa (.inr (a.1,a.2))
else
aqH (aqH (if(ai ((aqJ.wrap ((aqJ.wrap ((aqJ.wrap (2*a.1))+1))+1))<d))then
aqH (M.fl N a.2 (aqJ.wrap ((aqJ.wrap ((aqJ.wrap (2*a.1))+1))+1)) (aqJ.wrap ((aqJ.wrap (2*a.1))+1))) λh=>aa h
else
aa ah) λi=>(if i then
aa (aqJ.wrap ((aqJ.wrap ((aqJ.wrap (2*a.1))+1))+1))
else
aa (aqJ.wrap ((aqJ.wrap (2*a.1))+1))):Option Int) λb=>aqH (M.fl N a.2 b a.1) λj=>(if(!j)then
aa (.inr (a.1,a.2))
else
aqH (M.dL N a.1 b a.2) λk=>aa (.inl (b,k))))) N (c,f):Option (Int×List Int)) λe=>aa (ai (c<e.1),e.2)
def XL:Fo 152 (.j1 [.ifc 161 (.ptr 0 [] 0), .l aC, .l aC] [.box 162 (.own 1), .own 3 aC] 2) (.j1 [.l .bool] [.box 162 (.own 1), .own 3 aC] 4) (u3 (M.gJ N)):=fz N [aaJ N,Ji N] [O,O,T,R ⟨[(7, .l aC)],[(1, .own 3 aC)],[],51⟩,P ⟨[(7, .l aC)],[(1, .own 3 aC)],[],51⟩,T,O,T,B 21 115,O,R ⟨[(9, .l aC)],[],[],147⟩,O,B 33 195] Tryz.func152
def M.iC(a:List Int):Option (Int×List Int):=
aqH (M.fN N a) λb=>aqH (M.dL N 0 (aqJ.wrap (b-1)) a) λd=>aqH (M.gJ N 0 (aqJ.wrap (b-1)) d) λe=>aqH (M.n4 N e.2) λc=>aa (c.1,c.2)
def aaN:Fo 84 (.j1 [.ifc 161 (.ptr 0 [] 0)] [.box 162 (.own 1), .own 3 aC] 2) ⟨[(0, .ifc 3 (.l aC))],[(0, .box 162 (.own 2)),(2, .own 3 aC)],[],4⟩ (M.iC N):=fz N [W83 N,XL N,afG N,Ji N] [] Tryz.func84
def M.fe(s:bg.den):Option (Int×List Int):=
aqH (aqH (M.np N s) λt=>aa t:Option (List (List Int))) λg=>aqH (ol (g.length:Int) ([]:List Int)) λu=>aqH (ol (g.length:Int) 0) λv=>aqH (aqH (Loop (S:=Int×(List (List Int))×(List Int)×List Int) (X:=(List (List Int))×(List Int)×List Int) (λa=>(if(ai (a.1<(g.length:Int)))then
aqH (aqH (aqH (idx g a.1) λh=>aqH (idx a.2.2.1 a.1) λF=>aqH (Loop (S:=Int×List (List Int)) (X:=List (List Int)) (λc=>(if(ai (c.1<(h.length:Int)))then
aqH (idx h c.1) λd=>aqH (idx c.2 d) λG=>aqH (idx c.2 d) λw=>aqH (cf w ([a.1]:List Int)) λx=>aqH (idx c.2 d) λH=>(if ai (d=d)then
aqH (idx c.2 d) λI=>aa (.inl (aqJ.wrap (c.1+1),vL c.2 d (λQ=>x)))
else ae)
else
aa (.inr c.2))) N (0,a.2.1):Option (List (List Int))) λo=>(if(ai ((h.length:Int)=0))then
aqH (M.dT N a.1 a.2.2.2) λy=>aa (o,bn a.2.2.1 a.1 (h.length:Int),y)
else
aa (o,bn a.2.2.1 a.1 (h.length:Int),a.2.2.2)):Option ((List (List Int))×(List Int)×List Int)) λi=>aa (i.1,i.2.1,i.2.2):Option ((List (List Int))×(List Int)×List Int)) λj=>aa (.inl (aqJ.wrap (a.1+1),j.1,j.2.1,j.2.2))
else
aa (.inr (a.2.1,a.2.2.1,a.2.2.2)))) N (0,u,v,([]:List Int)):Option ((List (List Int))×(List Int)×List Int)) λk=>aa (k.1,k.2.1,k.2.2):Option ((List (List Int))×(List Int)×List Int)) λl=>aqH (Loop (S:=(List Int)×(List Int)×List Int) (X:=(List Int)×List Int) (λf=>aqH (M.fN N f.2.2) λz=>(if(ai (0<z))then
aqH (M.iC N f.2.2) λm=>aqH (cf f.2.1 ([m.1]:List Int)) λA=>aqH (idx l.1 m.1) λp=>Loop (S:=Int×(List Int)×List Int) (X:=((List Int)×(List Int)×List Int)⊕((List Int)×List Int)) (λb=>(if(ai (b.1<(p.length:Int)))then
aqH (aqH (idx p b.1) λe=>aqH (idx b.2.1 e) λn=>aqH (idx b.2.1 e) λU=>aqH (idx (bn b.2.1 e (aqJ.wrap (n-1))) e) λC=>(if(ai (C=0))then
aqH (M.dT N e b.2.2) λD=>aa (bn b.2.1 e (aqJ.wrap (n-1)),D)
else
aa (bn b.2.1 e (aqJ.wrap (n-1)),b.2.2)):Option ((List Int)×List Int)) λq=>aa (.inl (aqJ.wrap (b.1+1),q.1,q.2))
else
aa (.inr (.inl (b.2.1,A,b.2.2))))) N (0,f.1,m.2)
else
aa (.inr (f.2.1,f.2.2)))) N (l.2.1,([]:List Int),l.2.2):Option ((List Int)×List Int)) λr=>(if(ai ((r.1.length:Int)<(g.length:Int)))then
aa (9,([]:List Int))
else
aa (0,r.1))
def S48:qc:=⟨.i1 [.g bg], .j1 [.val ah (.own 0), .l aC] [.own 3 aC] 1,M.fe N⟩
def W48(N:Nat):jF Tryz.prog 48 (S48 N):=fw (en [ck (aaL N),ck (aaM N),ck (W83 N),ck (aaN N)] af ah) (N:=N) (.o (.meet ⟨[(4, .l (.slice (.slice aC)))],[],[],48⟩ .nil (.o (.o (.o (.meet ⟨[(5, .l (.slice (.slice aC)))],[(144, .own 3 aC),(192, .box 162 (.own 224)),(224, .own 3 aC)],[80,176],227⟩ (.o (.meet ⟨[(5, .l (.slice (.slice aC)))],[(144, .own 3 aC),(192, .box 162 (.own 272)),(272, .own 3 aC)],[80,176],275⟩ (.loop ⟨[(29, .l aC)],[(80, .deep 34 (.sl 3 (.leaf aC))),(144, .own 3 aC),(192, .box 162 (.own 272)),(272, .own 3 aC)],[176],276⟩ (.o (.o (.meet ⟨[],[(80, .deep 34 (.sl 3 (.leaf aC))),(144, .own 3 aC),(192, .box 162 (.own 292)),(292, .own 3 aC)],[272],296⟩ (.meet ⟨[],[(80, .deep 34 (.sl 3 (.leaf aC))),(144, .own 3 aC),(192, .box 162 (.own 292)),(292, .own 3 aC)],[272],296⟩ (.o (.o (.meet ⟨[],[(80, .deep 34 (.sl 3 (.leaf aC)))],[],469⟩ (.o (.two (.loop ⟨[(41, .l aC)],[(80, .deep 34 (.sl 3 (.leaf aC)))],[],517⟩ .nil) .nil)) .nil))) .nil) .nil)))) .nil)) (.o (.meet ⟨[(12, .val ah (.own 243))],[(192, .box 162 (.own 244)),(243, .own 3 aC),(244, .own 3 aC)],[144,224],246⟩ (.two (.loop ⟨[(12, .val ah (.own 243))],[(144, .own 3 aC),(192, .box 162 (.own 244)),(243, .own 3 aC),(244, .own 3 aC)],[224],247⟩ (.o (.two (.o (.o (.o (.two (.loop ⟨[(86, .l aC)],[(144, .own 3 aC),(192, .box 162 (.own 647)),(647, .own 3 aC)],[361],650⟩ (.o (.o (.two (.meet ⟨[],[(144, .own 3 aC),(192, .box 162 (.own 666)),(666, .own 3 aC)],[647],669⟩ .nil .nil) .nil)))) .nil)))) .nil))) .nil) .nil)))))))) Tryz.func48 (by kernel_rfl) λx=>by kernel_rfl
def M.da(N:Nat)(a:List ByteArray):Option (List ByteArray):=
(if aqU (a).length 0 then
zU (aa ([]:List ByteArray))
(aqH (cf ([]:List ByteArray) a) λb=>aa b)
else
aqH (cf ([]:List ByteArray) a) λc=>aa c)
def W85:Fo 85 (.i1 [.l (.slice .str)]) (.w1 9 .str) (M.da N):=fz N [] [] Tryz.func85
def M.bL(a:aD.den)(b:Int):Option Bool:=
aqH (aqH (M.fE N a) λc=>(if c then(if(ai (a.1<=b))then
aa (ai (b<a.2))
else
aa ah)
else
aa ah):Option Bool) λd=>aa d
def Ze:Fo 68 (.i1 [.g aD, .l aC]) (.i1 [.l .bool]) (u2 (M.bL N)):=fz N [Xt N] [O,B 4 32] Tryz.func68
def M.eW(N:Nat):Option (aD.den):=
aa (0,109573)
def aaO:Fo 153 (.i1 []) (.i1 [.g aD]) (λ(x:Unit)=>M.eW N):=fz N [] [] Tryz.func153
def M.iR(b:aP.den)(d:Int):Option (ByteArray×aD.den×aD.den×List fT.den):=
aqH (Loop (S:=Int×List fT.den) (X:=List fT.den) (λa=>(if(ai (a.1<(b.2.2.2.length:Int)))then
aqH (aqH (idx b.2.2.2 a.1) λc=>aqH (M.bL N c.1 d) λe=>(if e then
aqH (M.eW N) λf=>aqH (cf a.2 ([(f,c.2)]:List fT.den)) λg=>aa g
else
aa a.2):Option (List fT.den)) λh=>aa (.inl (aqJ.wrap (a.1+1),h))
else
aa (.inr a.2))) N (0,([]:List fT.den)):Option (List fT.den)) λi=>aa (b.1,b.2.1,b.2.2.1,i)
def W86:Fo 86 (.i1 [.g aP, .l aC]) (.j1 [.val af (.pair (.leaf .str) (.pair (.leaf aD) (.pair (.leaf aD) (.own 0))))] [.own 171 fT] 1) (u2 (M.iR N)):=fz N [Ze N,aaO N] [O,O,R ⟨[(5, .val ah (.own 48))],[(48, .own 171 fT)],[],49⟩,O,T,P ⟨[(5, .val ah (.own 112)),(11, .l aC)],[(112, .own 171 fT)],[],113⟩,O,O,T,R ⟨[(5, .val ah (.own 129))],[(129, .own 171 fT)],[112],130⟩] Tryz.func86
def M.aL(N:Nat)(a:List aD.den):Option (List aD.den):=
(if aqU (a).length 0 then
zU (aa ([]:List aD.den))
(aqH (cf ([]:List aD.den) a) λb=>aa b)
else
aqH (cf ([]:List aD.den) a) λc=>aa c)
def Um:Fo 155 (.i1 [.l (.slice aD)]) (.w1 67 aD) (M.aL N):=fz N [] [] Tryz.func155
def M.bJ(N:Nat)(a:List bG.den):Option (List bG.den):=
(if aqU (a).length 0 then
zU (aa ([]:List bG.den))
(aqH (cf ([]:List bG.den) a) λb=>aa b)
else
aqH (cf ([]:List bG.den) a) λc=>aa c)
def afH:Fo 156 (.i1 [.l (.slice bG)]) (.w1 85 bG) (M.bJ N):=fz N [] [] Tryz.func156
def M.ff(b:cm.den)(a:Int):Option (Bool×Int):=
aqH (M.bL N b.2.2.2.2.1 a) λc=>aa (c,a)
def XM:Fo 154 (.j1 [.g cm, .ptr 0 [] 0] [.box 3 (.leaf aC)] 1) (.j1 [.l .bool] [.box 3 (.leaf aC)] 2) (u2 (M.ff N)):=fz N [Ze N] [] Tryz.func154
def M.gK(e:List cm.den)(g:Int):Option (Int×(List Int)×List Int):=
aqH (ol (e.length:Int) 0) λh=>Loop (S:=Int×Int×(List Int)×(List Int)×List Int) (X:=Int×(List Int)×List Int) (λa=>(if(ai (a.1<(e.length:Int)))then
aqH (aqH (idx e a.1) λb=>aqH (aqH (if(ai (0<=b.2.2.1))then
aa (ai (b.2.2.1<a.1))
else
aa ah) λi=>(if i then
aqH (idx a.2.2.1 b.2.2.1) λj=>aa j
else
aa (-1)):Option Int) λc=>aqH (idx a.2.2.1 a.1) λm=>aqH (M.ff N b a.2.1) λf=>(if f.1 then
aqH (idx (bn a.2.2.1 a.1 c) a.1) λn=>aqH (cf a.2.2.2.1 ([a.1]:List Int)) λk=>aqH (cf a.2.2.2.2 ([c]:List Int)) λl=>aa (f.2,bn (bn a.2.2.1 a.1 c) a.1 (a.2.2.2.1.length:Int),k,l)
else
aa (f.2,bn a.2.2.1 a.1 c,a.2.2.2.1,a.2.2.2.2)):Option (Int×(List Int)×(List Int)×List Int)) λd=>aa (.inl (aqJ.wrap (a.1+1),d.1,d.2.1,d.2.2.1,d.2.2.2))
else
aa (.inr (a.2.1,a.2.2.2.1,a.2.2.2.2)))) N (0,g,h,([]:List Int),([]:List Int))
def aaP:Fo 66 (.j1 [.l (.slice cm), .fn 154 [(0,[],0)]] [.box 3 (.leaf aC)] 1) (.j1 [.val ah (.own 1), .val ah (.own 2)] [.box 3 (.leaf aC), .own 3 aC, .own 3 aC] 4) (u2 (M.gK N)):=fz N [XM N] [O,O,O,T,O,T,P ⟨[(6, .val ah (.own 177)),(7, .val ah (.own 178)),(17, .l aC)],[(0, .box 3 (.leaf aC)),(97, .own 3 aC),(177, .own 3 aC),(178, .own 3 aC)],[],181⟩,O,O,T,R ⟨[(6, .val ah (.own 197)),(7, .val ah (.own 198))],[(0, .box 3 (.leaf aC)),(97, .own 3 aC),(197, .own 3 aC),(198, .own 3 aC)],[177,178],201⟩,O,O,R ⟨[(11, .l aC)],[],[],309⟩,B 30 309] Tryz.func66
def M.iS(a:bg.den)(e:Int):Option (ByteArray×Int×(List bG.den)×(List bG.den)×List cm.den):=
aqH (M.gK N a.2.2.2.2 e) λd=>aqH (Loop (S:=Int×List cm.den) (X:=List cm.den) (λb=>(if(ai (b.1<(d.2.1.length:Int)))then
aqH (idx d.2.1 b.1) λf=>aqH (idx a.2.2.2.2 f) λc=>aqH (idx d.2.2 b.1) λg=>aqH (M.eW N) λh=>aqH (M.aL N c.2.2.2.2.2.1) λi=>aqH (M.aL N c.2.2.2.2.2.2.1) λj=>aqH (cf b.2 ([(c.1,(c.2.1,(g,(c.2.2.2.1,(h,(i,(j,c.2.2.2.2.2.2.2)))))))]:List cm.den)) λk=>aa (.inl (aqJ.wrap (b.1+1),k))
else
aa (.inr b.2))) N (0,([]:List cm.den)):Option (List cm.den)) λl=>aqH (M.bJ N a.2.2.1) λm=>aqH (M.bJ N a.2.2.2.1) λn=>aa (a.1,a.2.1,m,n,l)
def W87:Fo 87 (.i1 [.g bg, .l aC]) (.j1 [.val af (.pair (.leaf .str) (.pair (.leaf aC) (.pair (.own 0) (.pair (.own 1) (.own 2)))))] [.own 85 bG, .own 85 bG, .own 102 cm] 3) (u2 (M.iS N)):=fz N [aaP N,aaO N,Um N,afH N] [O,O,O,R ⟨[(7, .val ah (.own 208))],[(208, .own 102 cm)],[],209⟩,O,T,P ⟨[(7, .val ah (.own 256)),(20, .l aC)],[(256, .own 102 cm)],[],257⟩] Tryz.func87
def M.kf(c:cC.den)(h:Int):Option ((List b9.den)×(List aP.den)×List bg.den):=
aqH (Loop (S:=Int×List b9.den) (X:=List b9.den) (λd=>(if(ai (d.1<(c.1.length:Int)))then
aqH (idx c.1 d.1) λi=>aqH (M.da N i.2) λk=>aqH (cf d.2 ([(i.1,k)]:List b9.den)) λl=>aa (.inl (aqJ.wrap (d.1+1),l))
else
aa (.inr d.2))) N (0,([]:List b9.den)):Option (List b9.den)) λm=>aqH (Loop (S:=Int×(List b9.den)×List aP.den) (X:=(List b9.den)×List aP.den) (λb=>(if(ai (b.1<(c.2.1.length:Int)))then
aqH (idx c.2.1 b.1) λn=>aqH (M.iR N n h) λf=>aqH (cf b.2.2 ([(f.1,(f.2.1,(f.2.2.1,f.2.2.2)))]:List aP.den)) λo=>aa (.inl (aqJ.wrap (b.1+1),b.2.1,o))
else
aa (.inr (b.2.1,b.2.2)))) N (0,m,([]:List aP.den)):Option ((List b9.den)×List aP.den)) λj=>aqH (Loop (S:=Int×(List b9.den)×(List aP.den)×List bg.den) (X:=(List b9.den)×(List aP.den)×List bg.den) (λa=>(if(ai (a.1<(c.2.2.length:Int)))then
aqH (idx c.2.2 a.1) λp=>aqH (M.iS N p h) λe=>aqH (cf a.2.2.2 ([(e.1,(e.2.1,(e.2.2.1,(e.2.2.2.1,e.2.2.2.2))))]:List bg.den)) λq=>aa (.inl (aqJ.wrap (a.1+1),a.2.1,a.2.2.1,q))
else
aa (.inr (a.2.1,a.2.2.1,a.2.2.2)))) N (0,j.1,j.2,([]:List bg.den)):Option ((List b9.den)×(List aP.den)×List bg.den)) λg=>aa (g.1,g.2.1,g.2.2)
def W49:Fo 49 (.i1 [.g cC, .l aC]) (.j1 [.val af (.pair (.own 0) (.pair (.own 1) (.own 2)))] [.own 55 b9, .own 60 aP, .own 63 bg] 3) (u2 (M.kf N)):=fz N [W85 N,W86 N,W87 N] [O,O,R ⟨[],[(32, .box 26 (.pair (.own 48) (.pair .nil .nil))),(48, .own 55 b9)],[],50⟩,O,T,P ⟨[(15, .l aC)],[(32, .box 26 (.pair (.own 112) (.pair .nil .nil))),(112, .own 55 b9)],[],114⟩,X,X,R ⟨[],[(32, .box 26 (.pair (.own 48) (.pair (.own 50) .nil))),(48, .own 55 b9),(50, .own 60 aP)],[],53⟩,O,T,P ⟨[(33, .l aC)],[(32, .box 26 (.pair (.own 48) (.pair (.own 114) .nil))),(48, .own 55 b9),(114, .own 60 aP)],[],117⟩,X,X,R ⟨[],[(32, .box 26 (.pair (.own 48) (.pair (.own 50) (.own 53)))),(48, .own 55 b9),(50, .own 60 aP),(53, .own 63 bg)],[],57⟩,O,T,P ⟨[(49, .l aC)],[(32, .box 26 (.pair (.own 48) (.pair (.own 50) (.own 117)))),(48, .own 55 b9),(50, .own 60 aP),(117, .own 63 bg)],[],121⟩] Tryz.func49
def M.kZ(b:List aD.den):Option (Int×List Int):=
aqH (M.ie N b) λa=>aa (a.2.1,a.2.2)
def aaQ:Fo 157 (.i1 [.l (.slice aD)]) (.j1 [.val ah (.own 0), .l aC] [.own 3 aC] 1) (M.kZ N):=fz N [aaC N] [] Tryz.func157
def M.mo(c:List aD.den)(b:Int):Option (List Int):=
aqH (M.kZ N c) λd=>aqH (if(!ai (d.1=0))then
aa af
else(if(ai (b<0))then
aa af
else
aa (ai ((c.length:Int)<=b)))) λf=>(if f then
aa ([]:List Int)
else
aqH (idx c b) λg=>aqH (M.eh N g.1) λh=>aqH (ol h 0) λe=>Loop (S:=Int×Int×List Int) (X:=List Int) (λa=>(if(ai (0<=a.2.1))then
aqH (idx a.2.2 a.2.1) λj=>aqH (idx d.2 a.1) λi=>aa (.inl (aqJ.wrap (i-1),aqJ.wrap (a.2.1-1),bn a.2.2 a.2.1 a.1))
else
aa (.inr a.2.2))) N (aqJ.wrap (b-1),aqJ.wrap ((e.length:Int)-1),e))
def afI:Fo 224 (.i1 [.l (.slice aD), .l aC]) (.w1 3 aC) (u2 (M.mo N)):=fz N [Ul N,aaQ N] [O,O,T,B 26 128,O,O,T,O,T,P ⟨[(8, .l aC),(9, .l aC)],[(224, .own 3 aC)],[],369⟩] Tryz.func224
def M.b8(B:Nat):Nat->(List aD.den)->Int->(List aD.den)->Option (List aD.den)
 |0,_,_,_=>ae
 |N+1,a,d,f=>
  aqH (M.mo B a d) λb=>
  aqH (idx a d) λe=>
  aqH (if(ai (e.1=23))then
  aa (ai (e.1=23))
  else
  aa (ai (e.1=24))) λm=>
  (if m then
  aqH (aqH (idx a d) λn=>
  (if(ai (n.1=24))then
  aa 53
  else
  aa 52):Option Int) λo=>
  aqH (idx b 0) λp=>
  aqH (M.b8 B N a p f) λg=>
  aqH (cf g ([(o,0)]:List aD.den)) λq=>
  aqH (idx b 1) λr=>
  aqH (M.b8 B N a r q) λh=>
  aqH (idx h (g.length:Int)) λs=>
  aa (bn h (g.length:Int) (s.1,(h.length:Int)))
  else
  (if(ai (e.1=26))then
  aqH (idx b 0) λt=>
  aqH (M.b8 B N a t f) λi=>
  aqH (cf i ([(50,0)]:List aD.den)) λu=>
  aqH (idx b 1) λv=>
  aqH (M.b8 B N a v u) λj=>
  aqH (cf j ([(51,0)]:List aD.den)) λk=>
  aqH (idx k (i.length:Int)) λw=>
  aqH (idx b 2) λx=>
  aqH (M.b8 B N a x (bn k (i.length:Int) (w.1,(k.length:Int)))) λl=>
  aqH (idx l (j.length:Int)) λy=>
  aa (bn l (j.length:Int) (y.1,(l.length:Int)))
  else
  aqH (Loop (S:=Int×List aD.den) (X:=List aD.den) (λc=>
  (if(ai (c.1<(b.length:Int)))then
  aqH (idx b c.1) λz=>
  aqH (M.b8 B N a z c.2) λA=>
  aa (.inl (aqJ.wrap (c.1+1),A))
  else
  aa (.inr c.2))) B (0,f):Option (List aD.den)) λC=>
  aqH (idx a d) λD=>
  aqH (cf C ([D]:List aD.den)) λF=>
  aa F))
def M.k6(a:List aD.den)(b:Int)(c:List aD.den):Option (List aD.den):=M.b8 N N a b c
def afJ:qc:=⟨.j1 [.val ah (.own 0), .l (.slice aD), .l aC] [.own 67 aD] 1,⟨[(0, .val ah (.own 1))],[(1, .own 67 aD)],[],2⟩,u3 (M.k6 N)⟩
def afK(B N:Nat):qc:={inn:=⟨[(0, .val ah (.own 0)),(1, .l (.slice aD)),(2, .l aC)],[(0, .own 67 aD)],[],1⟩,out:=⟨[(0, .val ah (.own 1))],[(1, .own 67 aD)],[],2⟩,fn:=λ(x:(List aD.den)×Int×List aD.den)=>M.b8 B N x.1 x.2.1 x.2.2}
def Wf(B:Nat):∀N,jF Tryz.prog 158 (afK B N)
 |0=>uc Tryz.func158 (by kernel_rfl) (by kernel_rfl) λ_=>rfl
 |N+1=>fw (en [ck (Wf B N),ck (afI B)] ah ah) (N:=B) (.o (.o (.two (.o (.two (.meet ⟨[(22, .l .bool)],[],[],161⟩ .nil (.two (.o (.meet ⟨[(8, .l aC)],[],[],177⟩ .nil .nil)) .nil)) .nil)) (.meet ⟨[(0, .val ah (.own 193))],[(193, .own 67 aD)],[0],194⟩ (.o (.two (.loop ⟨[(0, .val ah (.own 241)),(104, .l aC)],[(241, .own 67 aD)],[0],242⟩ .nil) .nil)) .nil)))) Tryz.func158 (by kernel_rfl) λx=>by kernel_rfl
def afL(N:Nat):jF Tryz.prog 158 (afJ N):=Wf N N
def M.lq(a:List aD.den):Option (Int×List aD.den):=
aqH (M.kZ N a) λb=>(if(!ai (b.1=0))then
aa (b.1,([]:List aD.den))
else
aqH (M.k6 N a (aqJ.wrap ((a.length:Int)-1)) ([]:List aD.den)) λc=>aa (0,c))
def W88:Fo 88 (.i1 [.l (.slice aD)]) (.j1 [.val ah (.own 0), .l aC] [.own 67 aD] 1) (M.lq N):=fz N [aaQ N,afL N] [] Tryz.func88
def M.gA(N:Nat)(a:Int):Option Bool:=
aqH (if(ai (50<=a))then
aa (ai (a<=53))
else
aa ah) λb=>aa b
def aaR:Fo 203 (.i1 [.l aC]) (.i1 [.l .bool]) (M.gA N):=fz N [] [O,B 2 16] Tryz.func203
def M.dU(a:Int):Option Bool:=
aqH (if(ai (a=23))then
aa (ai (a=23))
else(if(ai (a=24))then
aa (ai (a=24))
else
aa (ai (a=26)))) λb=>(if b then
aa ah
else
aqH (aqH (M.gA N a) λc=>(if c then
aa af
else
aqH (M.eh N a) λd=>aa (ai (0<=d))):Option Bool) λe=>aa e)
def afM:Fo 202 (.i1 [.l aC]) (.i1 [.l .bool]) (M.dU N):=fz N [Ul N,aaR N] [O,T,O,T,B 4 32,X,B 2 32] Tryz.func202
def M.bW(N:Nat)(b:Int)(c:Int)(a:List Int):Option (Int×List Int):=
aqH (aqH (idx a b) λd=>(if(ai (0<=d))then
aqH (idx a b) λe=>aa (!ai (e=c))
else
aa ah):Option Bool) λf=>(if f then
aa (9,a)
else
aqH (idx a b) λg=>aa (0,bn a b c))
def afN:Fo 204 (.j1 [.ptr 0 [] 0, .l aC, .l aC] [.box 213 (.own 1), .own 3 aC] 2) (.j1 [.l aC] [.box 213 (.own 1), .own 3 aC] 4) (u3 (M.bW N)):=fz N [] [O,T,B 25 18] Tryz.func204
def M.cQ(j:List aD.den)(d:Int)(a:aD.den)(b:List Int):Option (Int×List Int):=
aqH (aqH (M.dU N a.1) λk=>(if(!k)then
aa af
else
aqH (M.gA N a.1) λl=>(if l then(if(ai (a.2<=d))then
aa af
else
aa (ai ((j.length:Int)<a.2)))
else
aa ah)):Option Bool) λm=>(if m then
aa (2,b)
else
aqH (idx b d) λc=>(if(ai (a.1=51))then
aqH (M.bW N a.2 c b) λg=>aa (g.1,g.2)
else
aqH (if(ai (a.1=50))then
aa (ai (a.1=50))
else(if(ai (a.1=52))then
aa (ai (a.1=52))
else
aa (ai (a.1=53)))) λn=>(if n then(if(ai (c<1))then
aa (5,b)
else
aqH (M.bW N (aqJ.wrap (d+1)) (aqJ.wrap (c-1)) b) λe=>(if(!ai (e.1=0))then
aa (e.1,e.2)
else
aqH ((if(ai (a.1=50))then
aa (aqJ.wrap (c-1))
else
aa c):Option Int) λo=>aqH (M.bW N a.2 o e.2) λh=>aa (h.1,h.2)))
else
aqH (M.eh N a.1) λf=>(if(ai (c<f))then
aa (5,b)
else(if(ai (12<(aqJ.wrap ((aqJ.wrap (c-f))+1))))then
aa (16,b)
else
aqH (M.bW N (aqJ.wrap (d+1)) (aqJ.wrap ((aqJ.wrap (c-f))+1)) b) λi=>aa (i.1,i.2))))))
def afO:Fo 138 (.j1 [.ptr 0 [] 0, .l (.slice aD), .l aC, .g aD] [.box 213 (.own 1), .own 3 aC] 2) (.j1 [.l aC] [.box 213 (.own 1), .own 3 aC] 4) (u4 (M.cQ N)):=fz N [Ul N,afM N,aaR N,afN N] [O,T,B 33 34,O,T,O,T,O,O,R ⟨[(50, .l .bool)],[],[],226⟩,X,T,O,O,R ⟨[(9, .l aC)],[],[],402⟩] Tryz.func138
def M.dt(b:List aD.den):Option (Int×Int):=
(if(ai (128<(b.length:Int)))then
aa (0,4)
else(if(ai ((b.length:Int)=0))then
aa (0,5)
else
aqH (ol (aqJ.wrap ((b.length:Int)+1)) 0) λg=>aqH (Loop (S:=Int×List Int) (X:=List Int) (λc=>(if(ai (c.1<(g.length:Int)))then
aqH (idx c.2 c.1) λm=>aa (.inl (aqJ.wrap (c.1+1),bn c.2 c.1 (-1)))
else
aa (.inr c.2))) N (0,g):Option (List Int)) λh=>aqH (idx h 0) λn=>bK (J:=Int×List Int) (R:=Int×Int) (Loop (S:=Int×Int×List Int) (X:=(Int×List Int)⊕(Int×Int)) (λa=>(if(ai (a.2.1<(b.length:Int)))then
bK (J:=Int×List Int) (R:=(Int×Int×List Int)⊕((Int×List Int)⊕(Int×Int))) (aqH (idx b a.2.1) λk=>aqH (idx a.2.2 a.2.1) λl=>(if(ai (l<0))then
aa (.inl (a.1,a.2.2))
else
aqH (idx a.2.2 a.2.1) λi=>aqH (M.cQ N b a.2.1 k a.2.2) λe=>(if(!ai (e.1=0))then
aa (.inr (.inr (.inr (0,e.1))))
else
aa (.inl (if a.1<i then i else a.1,e.2))))) λj=>aa (.inl (j.1,aqJ.wrap (a.2.1+1),j.2))
else
aa (.inr (.inl (a.1,a.2.2))))) N (0,0,bn h 0 0)) λf=>aqH (idx f.2 (b.length:Int)) λd=>(if(ai (d<=0))then
aa (0,5)
else(if(ai (1<d))then
aa (0,4)
else
aa (if f.1<d then d else f.1,0)))))
def W74:Fo 74 (.i1 [.l (.slice aD)]) (.i1 [.l aC, .l aC]) (M.dt N):=fz N [afO N] [O,O,O,O,R ⟨[],[(176, .own 3 aC)],[],241⟩,O,T,P ⟨[(28, .l aC)],[(176, .own 3 aC)],[],337⟩,X,X,O,O,J ⟨[(6, .l aC)],[(176, .own 3 aC),(208, .box 213 (.own 176))],[],355⟩,O,T,P ⟨[(6, .l aC),(45, .l aC)],[(176, .own 3 aC),(208, .box 213 (.own 176))],[],403⟩,O,O,T,J ⟨[(6, .l aC)],[(176, .own 3 aC),(208, .box 213 (.own 176))],[],421⟩] Tryz.func74
def M.gr(a:List aD.den):Option Bool:=
aqH (M.dt N a) λb=>aa (ai (b.2=0))
def XN:Fo 225 (.i1 [.l (.slice aD)]) (.i1 [.l .bool]) (M.gr N):=fz N [W74 N] [] Tryz.func225
def M.eL(N:Nat)(a:Int):Option Bool:=
aqH (if(ai (50<=a))then
aa (ai (a<=53))
else
aa ah) λb=>aa b
def Qu:Fo 229 (.i1 [.l aC]) (.i1 [.l .bool]) (M.eL N):=fz N [] [O,B 2 16] Tryz.func229
def M.ik(b:List aD.den):Option (List Bool):=
aqH (ol (aqJ.wrap ((b.length:Int)+1)) ah) λe=>aqH (idx e 0) λk=>aqH (Loop (S:=Int×List Bool) (X:=List Bool) (λa=>(if(ai (a.1<(b.length:Int)))then
aqH (aqH (idx b a.1) λc=>aqH (idx a.2 a.1) λf=>(if(!f)then
aa a.2
else
aqH ((if(!ai (c.1=51))then
aqH (idx a.2 (aqJ.wrap (a.1+1))) λl=>aa (bn a.2 (aqJ.wrap (a.1+1)) af)
else
aa a.2):Option (List Bool)) λd=>aqH (M.eL N c.1) λg=>(if g then
aqH (idx d c.2) λm=>aa (bn d c.2 af)
else
aa d)):Option (List Bool)) λh=>aa (.inl (aqJ.wrap (a.1+1),h))
else
aa (.inr a.2))) N (0,bn e 0 af):Option (List Bool)) λi=>aqH (gD i 0 (b.length:Int)) λj=>aa j
def afP:Fo 226 (.i1 [.l (.slice aD)]) (.w1 4 .bool) (M.ik N):=fz N [Qu N] [O,O,O,R ⟨[],[(64, .own 4 .bool)],[],145⟩,O,T,P ⟨[(14, .l aC)],[(64, .own 4 .bool)],[],193⟩,O,O,T,R ⟨[],[(64, .own 4 .bool)],[],210⟩,O,O,R ⟨[],[(64, .own 4 .bool)],[],386⟩] Tryz.func226
def M.jM(b:List Bool)(c:Bool):Option Int:=
Loop (S:=Int) (X:=Int) (λa=>(if(ai (a<(b.length:Int)))then
aqH (idx b a) λd=>(if(ai (c=d))then
aa (.inr a)
else
aa (.inl (aqJ.wrap (a+1))))
else
aa (.inr (-1)))) N 0
def afQ:Fo 270 (.i1 [.l (.slice .bool), .l .bool]) (.i1 [.l aC]) (u2 (M.jM N)):=fz N [] [O,T,O,T,L 8 64] Tryz.func270
def M.ed(a:List Bool)(b:Bool):Option Bool:=
aqH (M.jM N a b) λc=>aa (ai (0<=c))
def afR:Fo 227 (.i1 [.l (.slice .bool), .l .bool]) (.i1 [.l .bool]) (u2 (M.ed N)):=fz N [afQ N] [] Tryz.func227
def M.fL(c:List aD.den)(g:List Bool):Option (List aD.den):=
aqH (ol (aqJ.wrap ((c.length:Int)+1)) 0) λh=>aqH (Loop (S:=Int×(List Int)×List aD.den) (X:=(List Int)×List aD.den) (λa=>(if(ai (a.1<(c.length:Int)))then
aqH (aqH (idx c a.1) λi=>aqH (idx a.2.1 a.1) λp=>aqH (idx g a.1) λj=>(if j then
aqH (cf a.2.2 ([i]:List aD.den)) λk=>aa (bn a.2.1 a.1 (a.2.2.length:Int),k)
else
aa (bn a.2.1 a.1 (a.2.2.length:Int),a.2.2)):Option ((List Int)×List aD.den)) λe=>aa (.inl (aqJ.wrap (a.1+1),e.1,e.2))
else
aa (.inr (a.2.1,a.2.2)))) N (0,h,([]:List aD.den)):Option ((List Int)×List aD.den)) λd=>aqH (idx d.1 (c.length:Int)) λq=>Loop (S:=Int×List aD.den) (X:=List aD.den) (λb=>(if(ai (b.1<(d.2.length:Int)))then
aqH (aqH (idx b.2 b.1) λf=>aqH (M.eL N f.1) λl=>(if l then
aqH (idx (bn d.1 (c.length:Int) (d.2.length:Int)) f.2) λm=>aqH (idx b.2 b.1) λn=>aa (bn b.2 b.1 (n.1,m))
else
aa b.2):Option (List aD.den)) λo=>aa (.inl (aqJ.wrap (b.1+1),o))
else
aa (.inr b.2))) N (0,d.2)
def afS:Fo 228 (.i1 [.l (.slice aD), .l (.slice .bool)]) (.w1 67 aD) (u2 (M.fL N)):=fz N [Qu N] [O,O,O,R ⟨[(6, .val ah (.own 112))],[(64, .own 3 aC),(112, .own 67 aD)],[],114⟩,O,T,P ⟨[(6, .val ah (.own 160)),(17, .l aC)],[(64, .own 3 aC),(160, .own 67 aD)],[],162⟩,O,O,T,R ⟨[(6, .val ah (.own 178))],[(64, .own 3 aC),(178, .own 67 aD)],[160],180⟩,X,X,X,X,O,T,O,T,P ⟨[(44, .l aC)],[(112, .own 67 aD)],[],275⟩,O,O,T,R ⟨[],[(112, .own 67 aD)],[],292⟩] Tryz.func228
def M.dM(c:List aD.den):Option (List aD.den):=
bK (J:=List aD.den) (R:=List aD.den) (aqH (M.aL N c) λd=>aqH (M.gr N c) λg=>(if(!g)then
aa (.inr d)
else
aa (.inl d)):Option ((List aD.den)⊕(List aD.den))) λh=>Loop (S:=List aD.den) (X:=List aD.den) (λb=>aqH (M.ik N b) λi=>aqH (Loop (S:=Int×List Bool) (X:=List Bool) (λa=>(if(ai (a.1<(b.length:Int)))then
aqH (aqH (idx b a.1) λe=>aqH (if(ai (e.1=51))then
aa (ai (e.2=(aqJ.wrap (a.1+1))))
else
aa ah) λj=>(if j then
aqH (idx a.2 a.1) λn=>aa (bn a.2 a.1 ah)
else
aa a.2):Option (List Bool)) λk=>aa (.inl (aqJ.wrap (a.1+1),k))
else
aa (.inr a.2))) N (0,i):Option (List Bool)) λf=>aqH (M.ed N f ah) λl=>(if l then
aqH (M.fL N b f) λm=>aa (.inl m)
else
aa (.inr b))) N h
def aaS:qc:=⟨.i1 [.l (.slice aD)], .w1 67 aD,M.dM N⟩
def afT(N:Nat):jF Tryz.prog 159 (aaS N):=Qp (E:=(en [ck (Um N),ck (XN N),ck (afP N),ck (afR N),ck (afS N)] ah ah)) (N:=N) (l:=0) (L:=⟨[(3, .val ah (.own 16))],[(16, .own 67 aD)],[],17⟩) (a0:= .nil) (a1:=(.o (.o (.two .nil .nil)))) (a2:=(.o (.meet ⟨[],[(33, .own 4 .bool)],[],66⟩ (.o (.two (.loop ⟨[(17, .l aC)],[(33, .own 4 .bool)],[],114⟩ (.o (.o (.two (.meet ⟨[],[(33, .own 4 .bool)],[],131⟩ (.o (.meet ⟨[(31, .l .bool)],[],[],226⟩ .nil .nil)) .nil) .nil)))) .nil)) .nil))) (sg:=aaS N) (c:=Tryz.f159.body.getD .skip) (rs:=Tryz.f159.results.toList) Tryz.func159 (by kernel_rfl) (by kernel_rfl) rfl rfl rfl rfl (λx=>by kernel_rfl)
def M.gh(b:List aD.den):Option (List aD.den):=
aqH (M.aL N b) λd=>aqH (M.gr N b) λf=>(if(!f)then
aa d
else
Loop (S:=Int×List aD.den) (X:=List aD.den) (λa=>(if(ai (a.1<(b.length:Int)))then
aqH (aqH (aqH (idx b a.1) λe=>aqH (M.eL N e.1) λg=>(if(!g)then
aa a.2
else
aqH (Loop (S:=Int) (X:=Int) (λc=>aqH (if(ai (0<=c))then(if(ai (c<(b.length:Int)))then
aqH (idx b c) λh=>(if(ai (h.1=51))then
aqH (idx b c) λi=>aa (ai (c<i.2))
else
aa ah)
else
aa ah)
else
aa ah) λj=>(if j then
aqH (idx b c) λk=>aa (.inl k.2)
else
aa (.inr c))) N e.2:Option Int) λl=>aqH (idx a.2 a.1) λm=>aa (bn a.2 a.1 (m.1,l))):Option (List aD.den)) λn=>aa n:Option (List aD.den)) λo=>aa (.inl (aqJ.wrap (a.1+1),o))
else
aa (.inr a.2))) N (0,d))
def afU:Fo 160 (.i1 [.l (.slice aD)]) (.w1 67 aD) (M.gh N):=fz N [Um N,XN N,Qu N] [O,O,O,T,O,T,P ⟨[(15, .l aC)],[(32, .own 67 aD)],[],161⟩,O,O,R ⟨[],[(32, .own 67 aD)],[],178⟩,R ⟨[],[(32, .own 67 aD)],[],178⟩,O,O,O,R ⟨[(6, .l aC)],[],[],385⟩,T,L 6 385,T,B 50 385] Tryz.func160
def M.cK(a:aD.den):Option Bool:=
aqH (aqH (M.eh N a.1) λb=>(if(ai (b<0))then
aa af
else(if(!ai (a.2=0))then
aqH (M.fM N a.1) λc=>aa (!c)
else
aa ah)):Option Bool) λd=>(if d then
aa ah
else
aqH (if(ai (a.1=14))then
aa (ai (a.1=14))
else(if(ai (a.1=15))then
aa (ai (a.1=15))
else
aa (ai (a.1=16)))) λe=>(if e then
aqH (if(ai (0<=a.2))then
aa (ai (a.2<=5))
else
aa ah) λf=>aa f
else(if(ai (a.1=34))then
aqH (if(ai (0<=a.2))then
aa (ai ((aqY a.2 8)<=5))
else
aa ah) λg=>aa g
else(if(ai (a.1=6))then
aa (ai (0<=a.2))
else
aa af))))
def afV:Fo 139 (.i1 [.g aD]) (.i1 [.l .bool]) (M.cK N):=fz N [Ul N,aaB N] [O,T,B 17 32,T,O,T,R ⟨[(20, .l .bool)],[],[],64⟩,X,T,B 2 64,O,T,B 2 96] Tryz.func139
def M.dN(N:Nat)(a:aD.den)(b:bR.den):Option Bool:=
(if(ai (a.1=7))then
aqH (if(ai (0<=a.2))then
aa (ai (a.2<(b.2.1.length:Int)))
else
aa ah) λc=>aa c
else(if(ai (a.1=8))then
aqH (if(ai (0<=a.2))then(if(ai (a.2<(b.2.2.1.length:Int)))then
aqH (idx b.2.2.1 a.2) λd=>aa (!ai (d.1=0))
else
aa ah)
else
aa ah) λe=>aa e
else(if(ai (a.1=33))then
aqH (if(ai (0<=a.2))then
aa (ai (a.2<(b.2.2.2.2.2.length:Int)))
else
aa ah) λf=>aa f
else(if(ai (a.1=34))then
aa (ai ((aqJ.wrap (aqW a.2 8))<(b.2.2.2.2.2.length:Int)))
else
aqH (if(ai (a.1=36))then
aa (ai (a.1=36))
else(if(ai (a.1=37))then
aa (ai (a.1=37))
else(if(ai (a.1=38))then
aa (ai (a.1=38))
else
aa (ai (a.1=39))))) λg=>(if g then
aqH (if(ai (0<=a.2))then
aa (ai (a.2<(b.2.2.2.2.1.length:Int)))
else
aa ah) λh=>aa h
else
aa af)))))
def afW:Fo 140 (.i1 [.g aD, .g bR]) (.i1 [.l .bool]) (u2 (M.dN N)):=fz N [] [O,T,O,T,O,T,B 4 112,O,T,B 4 144,O,T,B 4 176,O,O,R ⟨[(65, .l .bool)],[],[],208⟩,X,T,B 4 208] Tryz.func140
def M.du(N:Nat)(a:aE.den):Option Bool:=
aqH (if(!ai (a.1=6))then
aa (!ai (a.2.1=0))
else
aa ah) λb=>(if b then
aa ah
else(if(ai (a.1=1))then
aqH (if(ai (a.2.2=0))then
aa af
else
aa (ai (a.2.2=1))) λc=>aa c
else(if(ai (a.1=2))then
aqH (if(ai ((-1000000000000)<=a.2.2))then
aa (ai (a.2.2<=1000000000000))
else
aa ah) λd=>aa d
else(if(ai (a.1=3))then
aqH (if(ai ((-1000000000000000)<=a.2.2))then
aa (ai (a.2.2<=1000000000000000))
else
aa ah) λe=>aa e
else(if(ai (a.1=4))then
aqH (if(ai ((-1000000000)<=a.2.2))then
aa (ai (a.2.2<=1000000000))
else
aa ah) λf=>aa f
else(if(ai (a.1=5))then
aqH (if(ai (0<=a.2.2))then
aa (ai (a.2.2<=109572))
else
aa ah) λg=>aa g
else(if(ai (a.1=6))then
aqH (if(ai (0<=a.2.1))then(if(ai (a.2.1<8))then(if(ai (0<=a.2.2))then
aa (ai (a.2.2<16))
else
aa ah)
else
aa ah)
else
aa ah) λh=>aa h
else
aa ah)))))))
def Qv:Fo 144 (.i1 [.g aE]) (.i1 [.l .bool]) (M.du N):=fz N [] [O,T,B 10 32,T,O,T,O,T,B 2 96,O,T,B 2 128,O,T,B 2 160,O,T,B 2 192,O,T,B 2 224,O,T,B 2 256] Tryz.func144
def M.cL(b:List aE.den):Option Bool:=
Loop (S:=Int) (X:=Bool) (λa=>(if(ai (a<(b.length:Int)))then
aqH (idx b a) λc=>aqH (M.du N c) λd=>(if(!d)then
aa (.inr ah)
else
aa (.inl (aqJ.wrap (a+1))))
else
aa (.inr af))) N 0
def afX:Fo 141 (.i1 [.l (.slice aE)]) (.i1 [.l .bool]) (M.cL N):=fz N [Qv N] [O,T,O,T,L 7 64] Tryz.func141
def M.nq(a:aE.den)(b:aD.den):Option Bool:=
aqH (aqH (M.du N a) λc=>(if c then(if(ai (a.1=b.1))then
aa (ai (a.2.1=b.2))
else
aa ah)
else
aa ah):Option Bool) λd=>aa d
def aaT:Fo 206 (.i1 [.g aE, .g aD]) (.i1 [.l .bool]) (u2 (M.nq N)):=fz N [Qv N] [O,B 4 48] Tryz.func206
def M.iZ(N:Nat)(a:Int):Option Bool:=
aqH (if(ai (a=2))then
aa af
else(if(ai (a=3))then
aa af
else
aa (ai (a=4)))) λb=>aa b
def XO:Fo 254 (.i1 [.l aC]) (.i1 [.l .bool]) (M.iZ N):=fz N [] [O,B 2 16] Tryz.func254
def M.il(b:Int)(a:aD.den):Option Bool:=
(if(!ai (a.2=0))then
aa ah
else(if(ai (b=36))then
aqH (if(ai (a.1=2))then
aa af
else
aa (ai (a.1=3))) λc=>aa c
else(if(ai (b=39))then
aqH (aqH (M.iZ N a.1) λd=>(if d then
aa af
else
aa (ai (a.1=5))):Option Bool) λe=>aa e
else
aa (ai (a.1=1)))))
def afY:Fo 207 (.i1 [.l aC, .g aD]) (.i1 [.l .bool]) (u2 (M.il N)):=fz N [XO N] [O,O,T,O,T,O,T,B 4 128,O,T,B 4 160] Tryz.func207
def M.cr(b:Int)(a:Int):Option Bool:=
(if(ai (b=10))then
aqH (M.iZ N a) λc=>aa c
else(if(ai (b=25))then
aa (ai (a=1))
else
aa (ai (a=5))))
def afZ:Fo 208 (.i1 [.l aC, .l aC]) (.i1 [.l .bool]) (u2 (M.cr N)):=fz N [XO N] [] Tryz.func208
def M.dz(N:Nat)(a:aE.den)(b:aE.den):Option Bool:=
aqH (if(ai (a.1=b.1))then
aa (ai (a.2.1=b.2.1))
else
aa ah) λc=>aa c
def aaU:Fo 210 (.i1 [.g aE, .g aE]) (.i1 [.l .bool]) (u2 (M.dz N)):=fz N [] [O,B 4 48] Tryz.func210
def M.aT(a:Int)(b:aE.den)(c:aE.den):Option Bool:=
aqH (if(ai (a=11))then
aa (ai (a=11))
else
aa (ai (a=12))) λd=>(if d then
aqH (aqH (M.dz N b c) λe=>(if e then
aqH (M.iZ N b.1) λf=>aa f
else
aa ah):Option Bool) λg=>aa g
else(if(ai (a=13))then
aqH (if(ai (c.1=2))then(if(ai (b.1=2))then
aa af
else
aa (ai (b.1=3)))
else
aa ah) λh=>aa h
else(if(ai (a=14))then
aqH (if(ai (c.1=4))then(if(ai (b.1=3))then
aa af
else
aa (ai (b.1=4)))
else
aa ah) λi=>aa i
else(if(ai (a=15))then(if(ai (c.1=2))then
aqH (if(ai (b.1=2))then
aa af
else
aa (ai (b.1=3))) λj=>aa j
else
aqH (if(ai (b.1=3))then
aa (ai (c.1=3))
else
aa ah) λk=>aa k)
else(if(ai (a=16))then
aqH (if(ai (b.1=3))then
aa (ai (c.1=3))
else
aa ah) λl=>aa l
else
aqH (if(ai (a=17))then
aa (ai (a=17))
else(if(ai (a=18))then
aa (ai (a=18))
else(if(ai (a=21))then
aa (ai (a=21))
else
aa (ai (a=22))))) λm=>(if m then
aqH (aqH (M.dz N b c) λn=>(if n then
aqH (M.iZ N b.1) λo=>(if o then
aa af
else
aa (ai (b.1=5)))
else
aa ah):Option Bool) λp=>aa p
else
aqH (if(ai (a=19))then
aa (ai (a=19))
else
aa (ai (a=20))) λq=>(if q then
aqH (M.dz N b c) λr=>aa r
else
aqH (if(ai (a=23))then
aa (ai (a=23))
else
aa (ai (a=24))) λs=>(if s then
aqH (if(ai (b.1=1))then
aa (ai (c.1=1))
else
aa ah) λt=>aa t
else
aqH (if(ai (a=27))then
aa (ai (a=27))
else
aa (ai (a=28))) λu=>(if u then
aqH (if(ai (b.1=5))then
aa (ai (c.1=2))
else
aa ah) λv=>aa v
else
aqH (if(ai (b.1=5))then
aa (ai (c.1=5))
else
aa ah) λw=>aa w)))))))))
def af0:Fo 209 (.i1 [.l aC, .g aE, .g aE]) (.i1 [.l .bool]) (u3 (M.aT N)):=fz N [aaU N,XO N] [O,T,O,T,R ⟨[(8, .l .bool)],[],[],64⟩,X,T,B 6 64,O,T,B 6 96,O,T,B 6 128,O,T,T,O,T,B 6 208,X,B 6 208,O,T,B 6 192,R ⟨[(80, .l .bool)],[],[],192⟩,X,T,B 6 192,R ⟨[(98, .l .bool)],[],[],192⟩,X,O,R ⟨[(104, .l .bool)],[],[],192⟩,X,T,B 6 192,R ⟨[(115, .l .bool)],[],[],192⟩,X,T,B 6 192,X,X,B 6 192] Tryz.func209
def M.bi(a:aD.den)(b:List aE.den)(c:bR.den):Option Bool:=
(if(ai (a.1=7))then
aqH (idx c.2.1 a.2) λf=>aqH (M.du N f) λg=>aa g
else(if(ai (a.1=8))then
aqH (idx c.2.2.1 a.2) λh=>aqH (M.du N h) λi=>aa i
else(if(ai (a.1=33))then
aqH (idx c.2.2.2.2.2 a.2) λd=>aqH (aqH (idx b 0) λj=>aqH (M.nq N j d.2.1) λk=>(if k then(if(ai (1<=d.2.2.1.1))then
aa (ai (d.2.2.1.1<=6))
else
aa ah)
else
aa ah):Option Bool) λl=>aa l
else(if(ai (a.1=34))then
aqH (idx c.2.2.2.2.2 (aqJ.wrap (aqW a.2 8))) λe=>aqH (aqH (idx b 0) λm=>(if(ai (m.1=3))then(if(o6 aD e.2.1 (3,0))then
aa (o6 aD e.2.2.1 (4,0))
else
aa ah)
else
aa ah):Option Bool) λn=>aa n
else
aqH (if(ai (a.1=36))then
aa (ai (a.1=36))
else(if(ai (a.1=37))then
aa (ai (a.1=37))
else(if(ai (a.1=38))then
aa (ai (a.1=38))
else
aa (ai (a.1=39))))) λo=>(if o then
aqH (idx c.2.2.2.2.1 a.2) λp=>aqH (M.il N a.1 p) λq=>aa q
else(if(ai ((b.length:Int)=1))then
aqH (idx b 0) λr=>aqH (M.cr N a.1 r.1) λs=>aa s
else(if(ai ((b.length:Int)=2))then
aqH (idx b 0) λt=>aqH (idx b 1) λu=>aqH (M.aT N a.1 t u) λv=>aa v
else(if(ai ((b.length:Int)=3))then
aqH (aqH (idx b 0) λw=>(if(ai (w.1=1))then
aqH (idx b 1) λx=>aqH (idx b 2) λy=>aqH (M.dz N x y) λz=>aa z
else
aa ah):Option Bool) λA=>aa A
else
aa af))))))))
def af1:Fo 142 (.i1 [.g aD, .l (.slice aE), .g bR]) (.i1 [.l .bool]) (u3 (M.bi N)):=fz N [Qv N,aaT N,afY N,afZ N,af0 N,aaU N] [O,T,O,T,O,O,O,O,O,T,O,B 6 304,O,T,O,B 6 352,B 81 208,X,T,O,T,O,O,O,O,O,T,B 6 336] Tryz.func142
def M.gU(b:aD.den)(e:bR.den):Option (aE.den×Int):=
aqH (idx e.2.2.2.2.1 b.2) λd=>aqH ((if(ai (b.1=37))then
aa (d.1,(d.2,1))
else
aa (d.1,(d.2,0))):Option (aE.den)) λg=>aqH (if(ai (b.1=39))then
aa (ai ((e.2.2.2.1.length:Int)=0))
else
aa ah) λh=>(if h then
aa ((0,(0,0)),6)
else
bK (J:=aE.den) (R:=aE.den×Int) (Loop (S:=Int×aE.den) (X:=(aE.den)⊕(aE.den×Int)) (λa=>(if(ai (a.1<(e.2.2.2.1.length:Int)))then
aqH (idx e.2.2.2.1 a.1) λf=>aqH (if(ai ((f.length:Int)<=b.2))then
aa af
else
aqH (idx f b.2) λi=>aa (ai (i.1=0))) λj=>(if j then
aa (.inr (.inr ((0,(0,0)),6)))
else
aqH (idx f b.2) λc=>aqH (M.nq N c d) λk=>(if(!k)then
aa (.inr (.inr ((0,(0,0)),8)))
else
bK (J:=aE.den) (R:=(Int×aE.den)⊕((aE.den)⊕(aE.den×Int))) ((if(ai (b.1=36))then
aqH (M.du N (a.2.1,(a.2.2.1,aqJ.wrap (a.2.2.2+c.2.2)))) λl=>(if(!l)then
aa (.inr (.inr (.inr ((0,(0,0)),3))))
else
aa (.inl (a.2.1,(a.2.2.1,aqJ.wrap (a.2.2.2+c.2.2)))))
else(if(ai (b.1=37))then
aa (.inl (a.2.1,(a.2.2.1,if c.2.2<a.2.2.2 then c.2.2 else a.2.2.2)))
else(if(ai (b.1=38))then
aa (.inl (a.2.1,(a.2.2.1,if a.2.2.2<c.2.2 then c.2.2 else a.2.2.2)))
else(if(ai (b.1=39))then
aqH (if(ai (a.1=0))then
aa af
else
aa (ai (a.2.2.2<c.2.2))) λm=>(if m then
aa (.inl c)
else
aa (.inl a.2))
else
aa (.inl a.2)))))) λn=>aa (.inl (aqJ.wrap (a.1+1),n))))
else
aa (.inr (.inl a.2)))) N (0,g)) λo=>aa (o,0))
def af2:Fo 211 (.i1 [.g aD, .g bR]) (.i1 [.g aE, .l aC]) (u2 (M.gU N)):=fz N [Qv N,aaT N] [O,O,O,R ⟨[],[(272, .box 71 (.leaf aE))],[],305⟩,X,T,B 34 305,J ⟨[],[(272, .box 71 (.leaf aE))],[],306⟩,O,T,P ⟨[(39, .l aC)],[(272, .box 71 (.leaf aE))],[],370⟩,O,O,T,T,O,T,B 57 466,O,O,O,J ⟨[],[(272, .box 71 (.leaf aE))],[],675⟩,O,O,O,O,O,O,O,T,B 109 802] Tryz.func211
def M.im(a:fT.den)(c:Int)(b:Int):Option (Bool×Int×Int):=
aqH (aqH (M.bL N a.1 c) λd=>(if d then(if(ai (a.2.1<=b))then
aa (ai (b<a.2.2.1))
else
aa ah)
else
aa ah):Option Bool) λe=>aa (e,c,b)
def XP:Fo 255 (.j1 [.g fT, .ptr 0 [] 0, .ptr 1 [] 0] [.box 3 (.leaf aC), .box 3 (.leaf aC)] 2) (.j1 [.l .bool] [.box 3 (.leaf aC), .box 3 (.leaf aC)] 4) (u3 (M.im N)):=fz N [Ze N] [O,B 4 34] Tryz.func255
def M.db(c:List fT.den)(d:Int)(e:Int):Option (Int×Bool×Int×Int):=
Loop (S:=Int×Int×Int) (X:=Int×Bool×Int×Int) (λa=>(if(ai (a.1<(c.length:Int)))then
aqH (idx c a.1) λf=>aqH (M.im N f a.2.1 a.2.2) λb=>(if b.1 then
aa (.inr (a.1,af,b.2.1,b.2.2))
else
aa (.inl (aqJ.wrap (a.1+1),b.2.1,b.2.2)))
else
aa (.inr (0,ah,a.2.1,a.2.2)))) N (0,d,e)
def XQ:Fo 105 (.j1 [.l (.slice fT), .fn 255 [(0,[],0),(1,[],0)]] [.box 3 (.leaf aC), .box 3 (.leaf aC)] 2) (.j1 [.l aC, .l .bool] [.box 3 (.leaf aC), .box 3 (.leaf aC)] 4) (u3 (M.db N)):=fz N [XP N] [O,T,O,T,P ⟨[(10, .l aC)],[(0, .box 3 (.leaf aC)),(1, .box 3 (.leaf aC))],[],84⟩] Tryz.func105
def M.jN(b:aP.den)(c:Int)(d:Int):Option (Int×Bool):=
aqH (M.db N b.2.2.2 c d) λa=>aa (a.1,a.2.1)
def af3:Fo 212 (.i1 [.g aP, .l aC, .l aC]) (.i1 [.l aC, .l .bool]) (u3 (M.jN N)):=fz N [XQ N] [] Tryz.func212
def M.eM(N:Nat)(a:Int)(b:Int):Option (Int×Int):=
aa (aqP.wrap ((aqP.wrap ((aqP.wrap ((iF .u64 a 32)*(iF .u64 b 32)))+(iF .u64 (aqP.wrap ((aqP.wrap ((iF .u64 a 32)*(gE .and .u64 b 4294967295)))+(iF .u64 (aqP.wrap ((gE .and .u64 a 4294967295)*(gE .and .u64 b 4294967295))) 32))) 32)))+(iF .u64 (aqP.wrap ((gE .and .u64 (aqP.wrap ((aqP.wrap ((iF .u64 a 32)*(gE .and .u64 b 4294967295)))+(iF .u64 (aqP.wrap ((gE .and .u64 a 4294967295)*(gE .and .u64 b 4294967295))) 32))) 4294967295)+(aqP.wrap ((gE .and .u64 a 4294967295)*(iF .u64 b 32))))) 32)),aqP.wrap (a*b))
def Un:Fo 284 (.i1 [.l (.int .u64), .l (.int .u64)]) (.i1 [.l (.int .u64), .l (.int .u64)]) (u2 (M.eM N)):=fz N [] [] Tryz.func284
def M.mD(N:Nat)(c:Int):Option Int:=
aqH ((if(ai (4294967296<=c))then
aa (iF .u64 c 32,32)
else
aa (c,0)):Option (Int×Int)) λa=>aqH ((if(ai (65536<=a.1))then
aa (iF .u64 a.1 16,aqJ.wrap (a.2+16))
else
aa (a.1,a.2)):Option (Int×Int)) λb=>aqH ((if(ai (256<=b.1))then
aa (iF .u64 b.1 8,aqJ.wrap (b.2+8))
else
aa (b.1,b.2)):Option (Int×Int)) λd=>aqH (lP (⟨#[0,1,2,2,3,3,3,3,4,4,4,4,4,4,4,4,5,5,5,5,5,5,5,5,5,5,5,5,5,5,5,5,6,6,6,6,6,6,6,6,6,6,6,6,6,6,6,6,6,6,6,6,6,6,6,6,6,6,6,6,6,6,6,6,7,7,7,7,7,7,7,7,7,7,7,7,7,7,7,7,7,7,7,7,7,7,7,7,7,7,7,7,7,7,7,7,7,7,7,7,7,7,7,7,7,7,7,7,7,7,7,7,7,7,7,7,7,7,7,7,7,7,7,7,7,7,7,7,8,8,8,8,8,8,8,8,8,8,8,8,8,8,8,8,8,8,8,8,8,8,8,8,8,8,8,8,8,8,8,8,8,8,8,8,8,8,8,8,8,8,8,8,8,8,8,8,8,8,8,8,8,8,8,8,8,8,8,8,8,8,8,8,8,8,8,8,8,8,8,8,8,8,8,8,8,8,8,8,8,8,8,8,8,8,8,8,8,8,8,8,8,8,8,8,8,8,8,8,8,8,8,8,8,8,8,8,8,8,8,8,8,8,8,8,8,8,8,8,8,8,8,8,8,8,8,8]⟩:ByteArray) (IntKind.u8.wrap d.1)) λe=>aa (aqJ.wrap (d.2+(aqJ.wrap e)))
def af4:Fo 132 (.i1 [.l (.int .u64)]) (.i1 [.l aC]) (M.mD N):=fz N [] [O,R ⟨[(0, .l (.int .u64)),(2, .l aC)],[],[],16⟩,X,R ⟨[(0, .l (.int .u64)),(2, .l aC)],[],[],16⟩,X,R ⟨[(0, .l (.int .u64)),(2, .l aC)],[],[],16⟩] Tryz.func132
def M.fU(a:Int):Option Int:=
aqH (M.mD N a) λb=>aa (aqJ.wrap (64-b))
def af5:Fo 314 (.i1 [.l (.int .u64)]) (.i1 [.l aC]) (M.fU N):=fz N [af4 N] [] Tryz.func314
def M.dQ(k:Int)(i:Int)(d:Int):Option (Int×Int):=
(if(ai (d=0))then
ae
else(if(ai (d<=k))then
ae
else(if(ai (k=0))then
aqH (nU i d) λo=>aqH (sJ i d) λp=>aa (aqP.wrap o,p)
else
aqH (M.fU N d) λf=>aqH (Iq .u64 d (aqP.wrap f)) λa=>aqH (Iq .u64 k (aqP.wrap f)) λg=>aqH (EX .u64 i (aqP.wrap (64-(aqP.wrap f)))) λh=>aqH (Iq .u64 i (aqP.wrap f)) λe=>aqH (nU (gE .or .u64 g h) (iF .u64 a 32)) λl=>aqH (aqH (Loop (S:=Int×Int) (X:=Int) (λb=>aqH (if(ai (4294967296<=b.1))then
aa af
else
aa (ai ((aqP.wrap ((aqP.wrap (4294967296*b.2))+(iF .u64 e 32)))<(aqP.wrap (b.1*(gE .and .u64 a 4294967295)))))) λq=>(if q then(if(ai (4294967296<=(aqP.wrap (b.2+(iF .u64 a 32)))))then
aa (.inr (aqP.wrap (b.1-1)))
else
aa (.inl (aqP.wrap (b.1-1),aqP.wrap (b.2+(iF .u64 a 32)))))
else
aa (.inr b.1))) N (aqP.wrap l,aqP.wrap ((gE .or .u64 g h)-(aqP.wrap ((aqP.wrap l)*(iF .u64 a 32))))):Option Int) λr=>aa r:Option Int) λj=>aqH (nU (aqP.wrap ((aqP.wrap ((aqP.wrap ((gE .or .u64 g h)*4294967296))+(iF .u64 e 32)))-(aqP.wrap (j*a)))) (iF .u64 a 32)) λm=>aqH (aqH (Loop (S:=Int×Int) (X:=Int) (λc=>aqH (if(ai (4294967296<=c.2))then
aa af
else
aa (ai ((aqP.wrap ((aqP.wrap (4294967296*c.1))+(gE .and .u64 e 4294967295)))<(aqP.wrap (c.2*(gE .and .u64 a 4294967295)))))) λs=>(if s then(if(ai (4294967296<=(aqP.wrap (c.1+(iF .u64 a 32)))))then
aa (.inr (aqP.wrap (c.2-1)))
else
aa (.inl (aqP.wrap (c.1+(iF .u64 a 32)),aqP.wrap (c.2-1))))
else
aa (.inr c.2))) N (aqP.wrap ((aqP.wrap ((aqP.wrap ((aqP.wrap ((gE .or .u64 g h)*4294967296))+(iF .u64 e 32)))-(aqP.wrap (j*a))))-(aqP.wrap ((aqP.wrap m)*(iF .u64 a 32)))),aqP.wrap m):Option Int) λt=>aa t:Option Int) λn=>aqH (EX .u64 (aqP.wrap ((aqP.wrap ((aqP.wrap ((aqP.wrap ((aqP.wrap ((aqP.wrap ((gE .or .u64 g h)*4294967296))+(iF .u64 e 32)))-(aqP.wrap (j*a))))*4294967296))+(gE .and .u64 e 4294967295)))-(aqP.wrap (n*a)))) (aqP.wrap f)) λu=>aa (aqP.wrap ((aqP.wrap (j*4294967296))+n),u))))
def XR:Fo 285 (.i1 [.l (.int .u64), .l (.int .u64), .l (.int .u64)]) (.i1 [.l (.int .u64), .l (.int .u64)]) (u3 (M.dQ N)):=fz N [af5 N] [O,O,O,O,O,O,O,O,O,O,O,O,O,O,R ⟨[(15, .l (.int .u64))],[],[],832⟩,R ⟨[(15, .l (.int .u64))],[],[],832⟩,P ⟨[(15, .l (.int .u64)),(16, .l (.int .u64))],[],[],832⟩,T,B 78 832,X,X,O,O,O,R ⟨[(18, .l (.int .u64))],[],[],1136⟩,R ⟨[(18, .l (.int .u64))],[],[],1136⟩,P ⟨[(16, .l (.int .u64)),(18, .l (.int .u64))],[],[],1136⟩,T,B 113 1136] Tryz.func285
def M.fO(d:Int)(b:Int):Option (Int×Int×Bool):=
aqH ((if(ai (b<0))then
aa (aqP.wrap (0-(aqP.wrap b)))
else
aa (aqP.wrap b)):Option Int) λe=>aqH (M.eM N (aqP.wrap d) e) λc=>(if(ai (1000000<=c.1))then
aa (0,0,ah)
else
aqH (M.dQ N c.1 c.2 1000000) λa=>(if(ai (1000000000000000<a.1))then
aa (0,0,ah)
else(if(ai (b<0))then
aa (aqJ.wrap (0-(aqJ.wrap a.1)),aqJ.wrap (0-(aqJ.wrap a.2)),af)
else
aa (aqJ.wrap a.1,aqJ.wrap a.2,af))))
def af6:Fo 256 (.i1 [.l aC, .l aC]) (.i1 [.l aC, .l aC, .l .bool]) (u2 (M.fO N)):=fz N [Un N,XR N] [O,O,R ⟨[(7, .l (.int .u64))],[],[],96⟩] Tryz.func256
def M.gB(N:Nat)(a:Int):Option Bool:=
aqH (if(ai (0<=a))then
aa (ai (a<=5))
else
aa ah) λb=>aa b
def XS:Fo 315 (.i1 [.l aC]) (.i1 [.l .bool]) (M.gB N):=fz N [] [O,B 2 16] Tryz.func315
def M.fm(N:Nat)(a:Int)(b:Int):Option Bool:=
aqH (if(ai (b<a))then
aa af
else
aa (ai (a<(aqJ.wrap (0-b))))) λc=>aa c
def XT:Fo 316 (.i1 [.l aC, .l aC]) (.i1 [.l .bool]) (u2 (M.fm N)):=fz N [] [O,B 4 16] Tryz.func316
def M.eN(N:Nat)(a:Int):Option Int:=
(if(ai (a<0))then
aa (aqP.wrap (0-(aqP.wrap a)))
else
aa (aqP.wrap a))
def aaV:Fo 317 (.i1 [.l aC]) (.i1 [.l (.int .u64)]) (M.eN N):=fz N [] [] Tryz.func317
def M.dO(N:Nat)(c:Int)(a:Int)(d:Int)(e:Bool)(b:Int):Option Int:=
(if(ai (a=0))then
aa c
else
aqH (if(ai (b=0))then
aa e
else(if(ai (b=1))then
aa (!e)
else(if(ai (b=3))then
aa af
else(if(ai (b=4))then
aa (ai ((aqP.wrap (d-a))<=a))
else(if(ai (b=5))then(if(ai ((aqP.wrap (d-a))<a))then
aa af
else(if(ai (a=(aqP.wrap (d-a))))then
aa (ai ((aqY c 2)=1))
else
aa ah))
else
aa ah))))) λf=>aqH ((if f then
aa (aqP.wrap (c+1))
else
aa c):Option Int) λg=>aa g)
def aaW:Fo 318 (.i1 [.l (.int .u64), .l (.int .u64), .l (.int .u64), .l .bool, .l aC]) (.i1 [.l (.int .u64)]) (u5 (M.dO N)):=fz N [] [O,O,O,T,O,B 11 80,R ⟨[(0, .l (.int .u64))],[],[],80⟩] Tryz.func318
def M.jO(N:Nat)(a:Int)(b:Bool):Option Int:=
(if b then
aa (aqJ.wrap (0-(aqJ.wrap a)))
else
aa (aqJ.wrap a))
def aaX:Fo 319 (.i1 [.l (.int .u64), .l .bool]) (.i1 [.l aC]) (u2 (M.jO N)):=fz N [] [] Tryz.func319
def M.fo(b:Int)(a:Int)(d:Int):Option (Int×Int):=
aqH (M.gB N d) λf=>(if(!f)then
aa (0,1)
else(if(ai (a=0))then
aa (0,12)
else
aqH (aqH (M.fm N b 4611686018427387904) λg=>(if g then
aa af
else
aqH (M.fm N a 4611686018427387904) λh=>aa h):Option Bool) λi=>(if i then
aa (0,3)
else
aqH (M.eN N b) λe=>aqH (M.eN N a) λc=>aqH (nU e c) λj=>aqH (sJ e c) λk=>aqH (M.dO N (aqP.wrap j) k c (!ai ((ai (b<0))=(ai (a<0)))) d) λl=>aqH (M.jO N l (!ai ((ai (b<0))=(ai (a<0))))) λm=>aa (m,0))))
def Uo:Fo 286 (.i1 [.l aC, .l aC, .l aC]) (.i1 [.l aC, .l aC]) (u3 (M.fo N)):=fz N [XS N,XT N,aaV N,aaW N,aaX N] [O,O,O,T,B 22 112] Tryz.func286
def M.iq(b:Int)(a:Int)(e:Int):Option (Int×Int):=
aqH (if(ai ((aqJ.wrap (b+(aqJ.wrap (aqW a 1000000))))<(-2000000000000000)))then
aa af
else
aa (ai (2000000000000000<(aqJ.wrap (b+(aqJ.wrap (aqW a 1000000))))))) λf=>(if f then
aa (0,3)
else
aqH ((if(ai (1<(aqJ.wrap (b+(aqJ.wrap (aqW a 1000000))))))then
aa (aqJ.wrap ((aqY (aqJ.wrap (b+(aqJ.wrap (aqW a 1000000)))) 2)+2))
else(if(ai ((aqJ.wrap (b+(aqJ.wrap (aqW a 1000000))))<(-1)))then
aa (aqJ.wrap ((aqY (aqJ.wrap (b+(aqJ.wrap (aqW a 1000000)))) 2)-2))
else
aa (aqY (aqJ.wrap (b+(aqJ.wrap (aqW a 1000000)))) 2))):Option Int) λd=>aqH (M.fo N (aqJ.wrap ((aqJ.wrap (d*1000000))+(aqY a 1000000))) 1000000 e) λc=>(if(!ai (c.2=0))then
aa (0,c.2)
else
aqH (if(ai ((aqJ.wrap ((aqJ.wrap ((aqJ.wrap (b+(aqJ.wrap (aqW a 1000000))))-d))+c.1))<(-1000000000000000)))then
aa af
else
aa (ai (1000000000000000<(aqJ.wrap ((aqJ.wrap ((aqJ.wrap (b+(aqJ.wrap (aqW a 1000000))))-d))+c.1))))) λg=>(if g then
aa (0,3)
else
aa (aqJ.wrap ((aqJ.wrap ((aqJ.wrap (b+(aqJ.wrap (aqW a 1000000))))-d))+c.1),0))))
def af7:Fo 257 (.i1 [.l aC, .l aC, .l aC]) (.i1 [.l aC, .l aC]) (u3 (M.iq N)):=fz N [Uo N] [O,O,O,T,B 23 160,O,T,R ⟨[(8, .l aC)],[],[],208⟩,X,X,O,O,O,T,B 58 512] Tryz.func257
def M.gi(d:aP.den)(j:Int)(c:Int)(e:Int):Option (Int×Int):=
aqH (if(ai (e<0))then
aa af
else
aa (ai (5<e))) λk=>(if k then
aa (0,1)
else
aqH (if(!(o6 aD d.2.1 (3,0)))then
aa af
else
aa (!(o6 aD d.2.2.1 (4,0)))) λl=>(if l then
aa (0,8)
else
aqH (if(ai (c<(-1000000000000000)))then
aa af
else
aa (ai (1000000000000000<c))) λm=>(if m then
aa (0,3)
else
bK (J:=Int×Int) (R:=Int×Int) (Loop (S:=Int×Int×Int) (X:=(Int×Int)⊕(Int×Int)) (λb=>(if(ai (b.2.2<(d.2.2.2.length:Int)))then
bK (J:=Int×Int) (R:=(Int×Int×Int)⊕((Int×Int)⊕(Int×Int))) (aqH (idx d.2.2.2 b.2.2) λa=>aqH (aqH (M.bL N a.1 j) λn=>(if(!n)then
aa af
else
aa (ai ((if c<a.2.2.1 then c else a.2.2.1)<=(if a.2.1<0 then 0 else a.2.1)))):Option Bool) λo=>(if o then
aa (.inl (b.1,b.2.1))
else
aqH (M.fO N (aqJ.wrap ((if c<a.2.2.1 then c else a.2.2.1)-(if a.2.1<0 then 0 else a.2.1))) a.2.2.2) λf=>(if(!f.2.2)then
aa (.inr (.inr (.inr (0,3))))
else
aa (.inl (aqJ.wrap (b.1+f.1),aqJ.wrap (b.2.1+f.2.1)))))) λg=>aa (.inl (g.1,g.2,aqJ.wrap (b.2.2+1)))
else
aa (.inr (.inl (b.1,b.2.1))))) N (0,0,0)) λh=>aqH (M.iq N h.1 h.2 e) λi=>aa (i.1,i.2))))
def af8:Fo 213 (.i1 [.g aP, .l aC, .l aC, .l aC]) (.i1 [.l aC, .l aC]) (u4 (M.gi N)):=fz N [Ze N,af6 N,af7 N] [O,T,B 24 48,T,B 34 48,T,B 40 48,O,J ⟨[(10, .l aC),(11, .l aC)],[],[],80⟩,O,T,P ⟨[(10, .l aC),(11, .l aC),(44, .l aC)],[],[],144⟩,O,O,T,J ⟨[(10, .l aC),(11, .l aC)],[],[],160⟩,O,O,T,B 64 368] Tryz.func213
def M.eo(N:Nat)(a:Bool):Option (aE.den):=
(if a then
aa (1,(0,1))
else
aa (1,(0,0)))
def aaY:Fo 258 (.i1 [.l .bool]) (.i1 [.g aE]) (M.eo N):=fz N [] [] Tryz.func258
def M.jP(N:Nat)(a:Int):Option Bool:=
aqH (if(ai (0<=a))then
aa (ai (a<=109572))
else
aa ah) λb=>aa b
def XU:Fo 287 (.i1 [.l aC]) (.i1 [.l .bool]) (M.jP N):=fz N [] [O,B 2 16] Tryz.func287
def M.k7(N:Nat)(a:Int):Option Int:=
aa (aqJ.wrap ((aqJ.wrap ((aqJ.wrap (aqW a 4))-(aqJ.wrap (aqW a 100))))+(aqJ.wrap (aqW a 400))))
def af9:Fo 320 (.i1 [.l aC]) (.i1 [.l aC]) (M.k7 N):=fz N [] [] Tryz.func320
def M.fq(a:Int):Option Int:=
aqH (M.k7 N (aqJ.wrap (a-1))) λb=>aqH (M.k7 N 1899) λc=>aa (aqJ.wrap ((aqJ.wrap ((aqJ.wrap ((aqJ.wrap (a-1900))*365))+b))-c))
def aaZ:Fo 288 (.i1 [.l aC]) (.i1 [.l aC]) (M.fq N):=fz N [af9 N] [] Tryz.func288
def M.oL(N:Nat)(a:Int):Option Bool:=
aqH (if(ai ((aqY a 4)=0))then(if(!ai ((aqY a 100)=0))then
aa af
else
aa (ai ((aqY a 400)=0)))
else
aa ah) λb=>aa b
def aga:Fo 321 (.i1 [.l aC]) (.i1 [.l .bool]) (M.oL N):=fz N [] [O,B 2 16] Tryz.func321
def M.dV(b:Int)(a:Int):Option Int:=
aqH (if(ai (a<1))then
aa af
else
aa (ai (12<a))) λc=>(if c then
aa 0
else
aqH (if(ai (a=2))then
aqH (M.oL N b) λd=>aa d
else
aa ah) λe=>(if e then
aa 29
else
aqH (idx ([31,28,31,30,31,30,31,31,30,31,30,31]:List Int) (aqJ.wrap (a-1))) λf=>aa f))
def XV:Fo 289 (.i1 [.l aC, .l aC]) (.i1 [.l aC]) (u2 (M.dV N)):=fz N [aga N] [O,T,B 10 16,T,B 16 16] Tryz.func289
def M.fu(b:Int):Option (Int×Int×Int):=
aqH (M.jP N b) λf=>(if(!f)then
aa (0,0,0)
else
aqH (Loop (S:=Int) (X:=Int) (λc=>aqH (M.fq N (aqJ.wrap (c+1))) λg=>(if(ai (g<=b))then
aa (.inl (aqJ.wrap (c+1)))
else
aa (.inr c))) N (aqJ.wrap (1900+(aqJ.wrap (aqW b 366)))):Option Int) λd=>aqH (M.fq N d) λh=>Loop (S:=Int×Int) (X:=Int×Int×Int) (λa=>(if(ai (a.2<12))then
aqH (M.dV N d (aqJ.wrap (a.2+1))) λe=>(if(ai (a.1<e))then
aa (.inr (d,aqJ.wrap (a.2+1),aqJ.wrap (a.1+1)))
else
aa (.inl (aqJ.wrap (a.1-e),aqJ.wrap (a.2+1))))
else
aa (.inr (0,0,0)))) N (aqJ.wrap (b-h),0))
def XW:Fo 259 (.i1 [.l aC]) (.i1 [.l aC, .l aC, .l aC]) (M.fu N):=fz N [XU N,aaZ N,XV N] [O,O,O,R ⟨[(5, .l aC)],[],[],160⟩,T,L 5 160,X,X,O,T,O,T,P ⟨[(6, .l aC),(26, .l aC)],[],[],256⟩] Tryz.func259
def M.gC(b:Int)(a:aE.den):Option (aE.den):=
(if(ai (b=10))then
aa (a.1,(0,aqJ.wrap (0-a.2.2)))
else(if(ai (b=25))then
aqH (M.eo N (ai (a.2.2=0))) λd=>aa d
else
aqH (M.fu N a.2.2) λc=>(if(ai (b=31))then
aa (2,(0,c.1))
else
aa (2,(0,c.2.1)))))
def agb:Fo 214 (.i1 [.l aC, .g aE]) (.i1 [.g aE]) (u2 (M.gC N)):=fz N [aaY N,XW N] [] Tryz.func214
def M.lr(a:Int)(b:Int):Option (Int×Int):=
aqH (M.eM N (aqP.wrap (if a<(aqJ.wrap (0-a))then(aqJ.wrap (0-a))else a)) (aqP.wrap (if b<(aqJ.wrap (0-b))then(aqJ.wrap (0-b))else b))) λc=>aqH (if(!ai (c.1=0))then
aa af
else
aa (ai (1000000000000000<c.2))) λd=>(if d then
aa (0,3)
else(if(!ai ((ai (a<0))=(ai (b<0))))then
aa (aqJ.wrap (0-(aqJ.wrap c.2)),0)
else
aa (aqJ.wrap c.2,0)))
def agc:Fo 290 (.i1 [.l aC, .l aC]) (.i1 [.l aC, .l aC]) (u2 (M.lr N)):=fz N [Un N] [O,O,T,B 27 288] Tryz.func290
def M.nu(b:Int)(c:Int)(a:Int)(g:Int):Option (Int×Int):=
aqH (M.gB N g) λi=>(if(!i)then
aa (0,1)
else(if(ai (a=0))then
aa (0,12)
else
aqH (aqH (M.fm N b 1000000000000000) λj=>(if j then
aa af
else
aqH (M.fm N c 1000000000) λk=>(if k then
aa af
else
aqH (M.fm N a 1000000000) λl=>aa l)):Option Bool) λm=>(if m then
aa (0,3)
else
aqH (M.eN N b) λn=>aqH (M.eN N c) λo=>aqH (M.eM N n o) λd=>aqH (M.eN N a) λe=>(if(ai (e<=d.1))then
aa (0,3)
else
aqH (M.dQ N d.1 d.2 e) λf=>(if(ai (1000000000000000<f.1))then
aa (0,3)
else
aqH (M.dO N f.1 f.2 e (!ai ((!ai ((ai (b<0))=(ai (c<0))))=(ai (a<0)))) g) λh=>(if(ai (1000000000000000<h))then
aa (0,3)
else
aqH (M.jO N h (!ai ((!ai ((ai (b<0))=(ai (c<0))))=(ai (a<0))))) λp=>aa (p,0)))))))
def agd:Fo 322 (.i1 [.l aC, .l aC, .l aC, .l aC]) (.i1 [.l aC, .l aC]) (u4 (M.nu N)):=fz N [Un N,XR N,XS N,XT N,aaV N,aaW N,aaX N] [O,O,O,T,B 30 112] Tryz.func322
def M.n5(b:Int)(c:Int)(d:Int):Option (Int×Int):=
aqH (M.nu N b c 1000000 d) λa=>aa (a.1,a.2)
def age:Fo 291 (.i1 [.l aC, .l aC, .l aC]) (.i1 [.l aC, .l aC]) (u3 (M.n5 N)):=fz N [agd N] [] Tryz.func291
def M.k8(N:Nat)(a:Int):Option Bool:=
aqH (if(ai (0<=a))then
aa (ai (a<=5))
else
aa ah) λb=>aa b
def aa0:Fo 323 (.i1 [.l aC]) (.i1 [.l .bool]) (M.k8 N):=fz N [] [O,B 2 16] Tryz.func323
def M.jH(N:Nat)(a:Int)(b:Int):Option Bool:=
aqH (if(ai (b<a))then
aa af
else
aa (ai (a<(aqJ.wrap (0-b))))) λc=>aa c
def aa1:Fo 324 (.i1 [.l aC, .l aC]) (.i1 [.l .bool]) (u2 (M.jH N)):=fz N [] [O,B 4 16] Tryz.func324
def M.nv(b:Int)(c:Int)(d:Int):Option (Int×Int):=
aqH (M.k8 N d) λe=>(if(!e)then
aa (0,1)
else
aqH (aqH (M.jH N b 1000000000) λf=>(if f then
aa af
else
aqH (M.jH N c 1000000000) λg=>aa g):Option Bool) λh=>(if h then
aa (0,3)
else
aqH (M.fo N (aqJ.wrap (b*c)) 1000000 d) λa=>(if(!ai (a.2=0))then
aa (0,a.2)
else
aqH (M.jH N a.1 1000000000) λi=>(if i then
aa (0,3)
else
aa (a.1,0)))))
def agf:Fo 292 (.i1 [.l aC, .l aC, .l aC]) (.i1 [.l aC, .l aC]) (u3 (M.nv N)):=fz N [Uo N,aa0 N,aa1 N] [O,O,T,B 18 80] Tryz.func292
def M.fV(c:Int)(a:Int)(d:Int):Option (Int×Int):=
aqH (M.gB N d) λe=>(if(!e)then
aa (0,1)
else(if(ai (a<1))then
aa (0,12)
else
aqH (aqH (M.fm N c 1000000000000000) λf=>(if f then
aa af
else
aa (ai (1000000000000000<a))):Option Bool) λg=>(if g then
aa (0,3)
else
aqH (M.fo N c a d) λb=>(if(!ai (b.2=0))then
aa (0,b.2)
else
aqH (M.fm N (aqJ.wrap (b.1*a)) 1000000000000000) λh=>(if h then
aa (0,3)
else
aa (aqJ.wrap (b.1*a),0))))))
def agh:Fo 293 (.i1 [.l aC, .l aC, .l aC]) (.i1 [.l aC, .l aC]) (u3 (M.fV N)):=fz N [Uo N,XS N,XT N] [O,O,O,T,B 20 112] Tryz.func293
def M.kq(N:Nat)(e:Int)(a:Int)(c:Int)(d:Bool)(b:Int):Option Bool:=
(if(ai (a=0))then
aa ah
else(if(ai (b=0))then
aa d
else(if(ai (b=1))then
aa (!d)
else(if(ai (b=3))then
aa af
else(if(ai (b=4))then
aa (ai ((aqP.wrap (c-a))<=a))
else(if(ai (b=5))then
aqH (if(ai ((aqP.wrap (c-a))<a))then
aa af
else(if(ai (a=(aqP.wrap (c-a))))then
aa (ai ((aqY e 2)=1))
else
aa ah)) λf=>aa f
else
aa ah))))))
def agi:Fo 325 (.i1 [.l (.int .u64), .l (.int .u64), .l (.int .u64), .l .bool, .l aC]) (.i1 [.l .bool]) (u5 (M.kq N)):=fz N [] [O,O,T,O,T,O,O,O,O,O,O,O,O,O,T,B 10 224] Tryz.func325
def M.jx(b:Int)(a:Int)(f:Int):Option (Int×Int):=
aqH (M.k8 N f) λg=>(if(!g)then
aa (0,1)
else(if(ai (a=0))then
aa (0,12)
else
aqH (aqH (M.jH N b 1000000000000000) λh=>(if h then
aa af
else
aqH (M.jH N a 1000000000000000) λi=>aa i):Option Bool) λj=>(if j then
aa (0,3)
else
aqH (M.eM N (aqP.wrap (if b<(aqJ.wrap (0-b))then(aqJ.wrap (0-b))else b)) 1000000) λd=>(if(ai ((aqP.wrap (if a<(aqJ.wrap (0-a))then(aqJ.wrap (0-a))else a))<=d.1))then
aa (0,3)
else
aqH (M.dQ N d.1 d.2 (aqP.wrap (if a<(aqJ.wrap (0-a))then(aqJ.wrap (0-a))else a))) λc=>(if(ai (1000000000<c.1))then
aa (0,3)
else
aqH (aqH (M.kq N c.1 c.2 (aqP.wrap (if a<(aqJ.wrap (0-a))then(aqJ.wrap (0-a))else a)) (!ai ((ai (b<0))=(ai (a<0)))) f) λk=>(if k then
aa (aqJ.wrap ((aqJ.wrap c.1)+1))
else
aa (aqJ.wrap c.1)):Option Int) λe=>(if(ai (1000000000<e))then
aa (0,3)
else
aqH ((if(!ai ((ai (b<0))=(ai (a<0))))then
aa (aqJ.wrap (0-e))
else
aa e):Option Int) λl=>aa (l,0)))))))
def agj:Fo 294 (.i1 [.l aC, .l aC, .l aC]) (.i1 [.l aC, .l aC]) (u3 (M.jx N)):=fz N [Un N,XR N,aa0 N,aa1 N,agi N] [O,O,O,T,B 25 112,O,O,O,O,O,O,O,R ⟨[(14, .l aC)],[],[],752⟩,X,O,R ⟨[(14, .l aC)],[],[],784⟩] Tryz.func294
def M.gP(b:aD.den)(a:aE.den)(c:aE.den):Option (aE.den×Int):=
aqH ((if(ai (b.1=13))then
aqH (M.lr N a.2.2 c.2.2) λd=>aa (d.2,(a.1,(0,d.1)))
else
aqH (if(ai (b.1=14))then
aa (ai (a.1=3))
else
aa ah) λk=>(if k then
aqH (M.n5 N a.2.2 c.2.2 b.2) λe=>aa (e.2,(a.1,(0,e.1)))
else(if(ai (b.1=14))then
aqH (M.nv N a.2.2 c.2.2 b.2) λf=>aa (f.2,(a.1,(0,f.1)))
else(if(ai (b.1=16))then
aqH (M.fV N a.2.2 c.2.2 b.2) λg=>aa (g.2,(a.1,(0,g.1)))
else(if(ai (c.1=2))then
aqH (M.fo N a.2.2 c.2.2 b.2) λh=>aa (h.2,(a.1,(0,h.1)))
else
aqH (M.jx N a.2.2 c.2.2 b.2) λi=>aa (i.2,(4,(0,i.1)))))))):Option (Int×aE.den)) λj=>aa (j.2,j.1)
def agk:Fo 260 (.i1 [.g aD, .g aE, .g aE]) (.i1 [.g aE, .l aC]) (u3 (M.gP N)):=fz N [Uo N,agc N,age N,agf N,agh N,agj N] [O,O,T,R ⟨[(9, .l aC)],[(128, .box 71 (.leaf aE))],[],177⟩,O,O,B 38 240] Tryz.func260
def M.lu(a:Int)(c:Int)(d:Int):Option (Int×Int):=
aqH (if(ai (a<1900))then
aa af
else(if(ai (2199<a))then
aa af
else(if(ai (c<1))then
aa af
else(if(ai (12<c))then
aa af
else(if(ai (d<1))then
aa af
else
aqH (M.dV N a c) λe=>aa (ai (e<d))))))) λf=>(if f then
aa (0,3)
else
aqH (M.fq N a) λg=>aqH (Loop (S:=Int×Int) (X:=Int) (λb=>(if(ai (b.2<(aqJ.wrap (c-1))))then
aqH (M.dV N a (aqJ.wrap (b.2+1))) λh=>aa (.inl (aqJ.wrap (b.1+h),aqJ.wrap (b.2+1)))
else
aa (.inr b.1))) N (g,0):Option Int) λi=>aa (aqJ.wrap ((aqJ.wrap (i+d))-1),0))
def agl:Fo 295 (.i1 [.l aC, .l aC, .l aC]) (.i1 [.l aC, .l aC]) (u3 (M.lu N)):=fz N [aaZ N,XV N] [O,T,B 34 32,O,R ⟨[(8, .l aC)],[],[],80⟩,O,T,P ⟨[(8, .l aC),(39, .l aC)],[],[],128⟩] Tryz.func295
def M.dP(c:Int)(b:Int):Option (Int×Int):=
aqH (aqH (M.jP N c) λf=>(if(!f)then
aa af
else(if(ai (b<(-3600)))then
aa af
else
aa (ai (3600<b)))):Option Bool) λg=>(if g then
aa (0,3)
else
aqH (M.fu N c) λa=>aqH (if(ai ((aqJ.wrap ((aqJ.wrap ((aqJ.wrap ((aqJ.wrap ((aqJ.wrap (a.1-1900))*12))+a.2.1))-1))+b))<0))then
aa af
else
aa (ai (3599<(aqJ.wrap ((aqJ.wrap ((aqJ.wrap ((aqJ.wrap ((aqJ.wrap (a.1-1900))*12))+a.2.1))-1))+b))))) λh=>(if h then
aa (0,3)
else
aqH (M.dV N (aqJ.wrap (1900+(aqJ.wrap (aqW (aqJ.wrap ((aqJ.wrap ((aqJ.wrap ((aqJ.wrap ((aqJ.wrap (a.1-1900))*12))+a.2.1))-1))+b)) 12)))) (aqJ.wrap ((aqY (aqJ.wrap ((aqJ.wrap ((aqJ.wrap ((aqJ.wrap ((aqJ.wrap (a.1-1900))*12))+a.2.1))-1))+b)) 12)+1))) λd=>aqH (M.lu N (aqJ.wrap (1900+(aqJ.wrap (aqW (aqJ.wrap ((aqJ.wrap ((aqJ.wrap ((aqJ.wrap ((aqJ.wrap (a.1-1900))*12))+a.2.1))-1))+b)) 12)))) (aqJ.wrap ((aqY (aqJ.wrap ((aqJ.wrap ((aqJ.wrap ((aqJ.wrap ((aqJ.wrap (a.1-1900))*12))+a.2.1))-1))+b)) 12)+1)) (if d<a.2.2 then d else a.2.2)) λe=>aa (e.1,e.2)))
def aa2:Fo 261 (.i1 [.l aC, .l aC]) (.i1 [.l aC, .l aC]) (u2 (M.dP N)):=fz N [XW N,XU N,XV N,agl N] [O,T,B 20 32,O,O,T,B 40 320] Tryz.func261
def M.fx(a:Int)(b:Int):Option Int:=
aqH (aqH (M.jP N a) λg=>(if(!g)then
aa af
else
aqH (M.jP N b) λh=>(if(!h)then
aa af
else
aa (ai (b<a)))):Option Bool) λi=>(if i then
aa 0
else
aqH (M.fu N a) λc=>aqH (M.fu N b) λd=>aqH (aqH (M.dP N a (aqJ.wrap (12*(aqJ.wrap (d.1-c.1))))) λe=>aqH (if(!ai (e.2=0))then
aa af
else
aa (ai (b<e.1))) λj=>(if j then
aa (aqJ.wrap ((aqJ.wrap (d.1-c.1))-1))
else
aa (aqJ.wrap (d.1-c.1))):Option Int) λf=>aa (if f<0 then 0 else f))
def agm:Fo 262 (.i1 [.l aC, .l aC]) (.i1 [.l aC]) (u2 (M.fx N)):=fz N [XW N,aa2 N,XU N] [O,T,B 26 16,O,O,O,R ⟨[(11, .l aC)],[],[],368⟩,O,B 55 512] Tryz.func262
end
end
end Go.Proofs.YtfjgcenlllgonaaGreatDoor
