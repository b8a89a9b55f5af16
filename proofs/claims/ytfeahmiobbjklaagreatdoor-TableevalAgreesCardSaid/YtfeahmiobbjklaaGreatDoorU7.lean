/- Joined texts: SL Model. -/
import Derived.Test.YtfeahmiobbjklaaGreatDoorU6
import Derived.Test.YtfeahmiobbjklaaGreatDoorProg
import Derived.Test.YtfeahmiobbjklaaGreatDoorU4
import Derived.Test.YtfeahmiobbjklaaGreatDoorU5
set_option linter.defProp false
open _root_.Bool renaming false->ah,true->af
open _root_.Option renaming none->ae,some->aa,bind->aiz
open _root_.Decidable renaming decide->ai
open _root_.Int renaming tdiv->aiR,tmod->ai3
open _root_.Go.IntKind renaming i64->aiB,u64->aiD
open _root_.List renaming forall_mem_cons->ajI
open _root_.Nat renaming beq->aiJ
namespace Go.Proofs.YtfeahmiobbjklaaGreatDoor
open Go Go.RowKit
set_option maxRecDepth 100000
set_option linter.unusedSimpArgs false
set_option linter.unusedVariables false
set_option linter.defProp false
section
open Go Go.RowKit Go.Shelf Go.Lib Go.Sort
def FG{g:Int->Int->Int->Int->Option Int}(Zm:gZ Tryz.prog 188 ⟨⟨[(0, .val af (.leaf nq)),(1, .val af (.leaf nq))],[],[],0⟩,⟨[(0, .val ah (.leaf aA))],[],[],0⟩,λ(x:nq.den×nq.den)=>g x.1.1 x.1.2 x.2.1 x.2.2⟩):
 gZ Tryz.prog 187 ⟨⟨[(0, .val ah (.own 0)),(1, .fn 188 [])],[(0, .own 119 nq)],[],1⟩,⟨[],[(0, .own 119 nq)],[],2⟩,λx=>zh g x⟩:=by
 have eg:∀args w,(callFunc 188 args).run Tryz.prog w= .ok (.enter 188 args) w:=enters_of Tryz.func188 (by kernel_rfl) rfl;refine Mk ⟨_,Tryz.func187,by kernel_rfl,by kernel_rfl⟩ Zm (λcf hO n5 off cap d w hC hH hb hs hT=>?_) (λw=>?_)
 .exact AnyQ.slices_SortFunc_total Tryz.Hh 2 Tryz.isAgg119 Tryz.sizeOf119 lZ Mi (λx v hv=>by simp[lZ]at hv;rcases hv with rfl|rfl<;>rfl) cf hO 188 #[] n5 off cap d w eg hC hH hb hs hT
 .exact AnyF.slices_SortFunc_none Tryz.Hh ae 0 _ w
end
section
noncomputable section
open Tk
variable (N:Nat)
set_option maxRecDepth 100000
set_option linter.unusedVariables false
@[reducible] def az:Row:= .pair aA aA
@[reducible] def aB:Row:= .pair aA az
@[reducible] def jJ:Row:= .pair az aB
@[reducible] def aT:Row:= .pair .str (.pair az (.pair az (.slice jJ)))
@[reducible] def eN:Row:= .pair aA (.pair (.slice aB) (.pair (.slice aB) (.pair (.slice (.slice aB)) (.pair (.slice az) (.slice aT)))))
@[reducible] def bK:Row:= .pair (.slice az) (.pair (.slice aA) eN)
@[reducible] def aM:Row:= .pair az aA
@[reducible] def bE:Row:= .pair aA (.pair (.slice (.slice az)) (.pair (.slice aA) (.slice aM)))
@[reducible] def dL:Row:= .pair .str (.slice .str)
@[reducible] def bF:Row:= .pair .str az
@[reducible] def da:Row:= .pair .str (.pair aA (.pair aA (.pair aA (.pair az (.pair (.slice az) (.pair (.slice az) .str))))))
@[reducible] def aP:Row:= .pair .str (.pair aA (.pair (.slice bF) (.pair (.slice bF) (.slice da))))
@[reducible] def cT:Row:= .pair (.slice dL) (.pair (.slice aT) (.slice aP))
@[reducible] def aI:Row:= .pair aA aB
@[reducible] def bI:Row:= .pair (.slice dL) (.pair (.slice aT) (.pair (.slice az) (.pair (.slice az) (.pair (.slice az) .bool))))
@[reducible] def dT:Row:= .pair aA (.pair (.slice aB) (.slice (.slice aB)))
@[reducible] def gy:Row:= .pair (.slice aA) (.pair (.slice aA) (.slice aA))
@[reducible] def dM:Row:= .pair aP (.pair (.slice aA) (.pair (.slice bE) (.slice aA)))
@[reducible] def aD:Row:= .pair (.slice aB) (.slice aA)
@[reducible] def qQ:Row:= .pair (.slice aB) (.pair (.slice aA) (.slice aD))
@[reducible] def rn:Row:= .pair aP (.pair aP (.pair (.slice .bool) (.slice .bool)))
def Ek:TI Tryz.prog 3 aA:=TI.mk (k:=1) (by kernel_rfl) rfl
def Ti4:TI Tryz.prog 4 .bool:=TI.mk (k:=1) (by kernel_rfl) rfl
def Ti9:TI Tryz.prog 9 .str:=TI.mk (k:=1) (by kernel_rfl) rfl
def Zn:TI Tryz.prog 22 (.slice (.slice az)):=TI.mk (k:=1) (by kernel_rfl) rfl
def Zo:TI Tryz.prog 23 (.slice aA):=TI.mk (k:=1) (by kernel_rfl) rfl
def Zp:TI Tryz.prog 24 (.slice aM):=TI.mk (k:=1) (by kernel_rfl) rfl
def Zq:TI Tryz.prog 26 bE:=TI.mk (k:=4) (by kernel_rfl) rfl
def Zr:TI Tryz.prog 27 (.slice aB):=TI.mk (k:=1) (by kernel_rfl) rfl
def Zs:TI Tryz.prog 28 (.slice (.slice aB)):=TI.mk (k:=1) (by kernel_rfl) rfl
def Zt:TI Tryz.prog 29 (.slice az):=TI.mk (k:=1) (by kernel_rfl) rfl
def Zu:TI Tryz.prog 30 (.slice aT):=TI.mk (k:=1) (by kernel_rfl) rfl
def Zv:TI Tryz.prog 32 eN:=TI.mk (k:=6) (by kernel_rfl) rfl
def Sr:TI Tryz.prog 36 aA:=TI.mk (k:=1) (by kernel_rfl) rfl
def Zw:TI Tryz.prog 40 aB:=TI.mk (k:=3) (by kernel_rfl) rfl
def Zx:TI Tryz.prog 43 (.slice az):=TI.mk (k:=1) (by kernel_rfl) rfl
def Zy:TI Tryz.prog 45 (.slice dL):=TI.mk (k:=1) (by kernel_rfl) rfl
def Zz:TI Tryz.prog 46 (.slice aP):=TI.mk (k:=1) (by kernel_rfl) rfl
def ZA:TI Tryz.prog 48 cT:=TI.mk (k:=3) (by kernel_rfl) rfl
def ZB:TI Tryz.prog 50 dT:=TI.mk (k:=3) (by kernel_rfl) rfl
def ZC:TI Tryz.prog 53 (.slice aD):=TI.mk (k:=1) (by kernel_rfl) rfl
def ZD:TI Tryz.prog 55 qQ:=TI.mk (k:=3) (by kernel_rfl) rfl
def ZE:TI Tryz.prog 57 aI:=TI.mk (k:=4) (by kernel_rfl) rfl
def ZF:TI Tryz.prog 63 aD:=TI.mk (k:=2) (by kernel_rfl) rfl
def ZG:TI Tryz.prog 65 (.slice bF):=TI.mk (k:=1) (by kernel_rfl) rfl
def ZH:TI Tryz.prog 66 (.slice da):=TI.mk (k:=1) (by kernel_rfl) rfl
def ZI:TI Tryz.prog 68 aP:=TI.mk (k:=5) (by kernel_rfl) rfl
def ZJ:TI Tryz.prog 74 az:=TI.mk (k:=2) (by kernel_rfl) rfl
def ZK:TI Tryz.prog 75 (.slice jJ):=TI.mk (k:=1) (by kernel_rfl) rfl
def ZL:TI Tryz.prog 77 aT:=TI.mk (k:=6) (by kernel_rfl) rfl
def ZM:TI Tryz.prog 79 az:=TI.mk (k:=2) (by kernel_rfl) rfl
def ZN:TI Tryz.prog 85 (.slice .str):=TI.mk (k:=1) (by kernel_rfl) rfl
def ZO:TI Tryz.prog 87 dL:=TI.mk (k:=2) (by kernel_rfl) rfl
def ZP:TI Tryz.prog 90 aI:=TI.mk (k:=4) (by kernel_rfl) rfl
def ZQ:TI Tryz.prog 94 bF:=TI.mk (k:=3) (by kernel_rfl) rfl
def ZR:TI Tryz.prog 95 (.slice bE):=TI.mk (k:=1) (by kernel_rfl) rfl
def ZS:TI Tryz.prog 96 (.slice aA):=TI.mk (k:=1) (by kernel_rfl) rfl
def ZT:TI Tryz.prog 98 dM:=TI.mk (k:=8) (by kernel_rfl) rfl
def Vz:TI Tryz.prog 111 az:=TI.mk (k:=2) (by kernel_rfl) rfl
def VA:TI Tryz.prog 113 da:=TI.mk (k:=9) (by kernel_rfl) rfl
def VB:TI Tryz.prog 119 az:=TI.mk (k:=2) (by kernel_rfl) rfl
def VC:TI Tryz.prog 121 aM:=TI.mk (k:=3) (by kernel_rfl) rfl
def VD:TI Tryz.prog 126 (.slice .bool):=TI.mk (k:=1) (by kernel_rfl) rfl
def VE:TI Tryz.prog 128 rn:=TI.mk (k:=12) (by kernel_rfl) rfl
def VF:TI Tryz.prog 132 bK:=TI.mk (k:=8) (by kernel_rfl) rfl
def VG:TI Tryz.prog 184 (.slice aA):=TI.mk (k:=1) (by kernel_rfl) rfl
def VH:TI Tryz.prog 198 gy:=TI.mk (k:=3) (by kernel_rfl) rfl
def VI:TI Tryz.prog 224 jJ:=TI.mk (k:=5) (by kernel_rfl) rfl
def VJ:TI Tryz.prog 237 bI:=TI.mk (k:=6) (by kernel_rfl) rfl
def VK:TI Tryz.prog 333 (.int .u64):=TI.mk (k:=1) (by kernel_rfl) rfl
def FH:qZ Tryz.prog 3 aA 1:=Gw Tryz.underlying3
def ZU:qZ Tryz.prog 74 az 2:=lB Tryz.underlying74 (by kernel_rfl) (iN rfl rfl Tryz.underlying3 (by simp[il]) Ek FH (oa rfl rfl Tryz.underlying3 (by simp[il]) Ek FH))
def ZV:qZ Tryz.prog 79 az 2:=lB Tryz.underlying79 (by kernel_rfl) (iN rfl rfl Tryz.underlying3 (by simp[il]) Ek FH (oa rfl rfl Tryz.underlying3 (by simp[il]) Ek FH))
def VL:qZ Tryz.prog 119 az 2:=lB Tryz.underlying119 (by kernel_rfl) (iN rfl rfl Tryz.underlying3 (by simp[il]) Ek FH (oa rfl rfl Tryz.underlying3 (by simp[il]) Ek FH))
def VM:qZ Tryz.prog 36 aA 1:=Gw Tryz.underlying36
def ZW:qZ Tryz.prog 90 aI 2:=lB Tryz.underlying90 (by kernel_rfl) (iN rfl rfl Tryz.underlying36 (by simp[il]) Sr VM (iN rfl rfl Tryz.underlying3 (by simp[il]) Ek FH (iN rfl rfl Tryz.underlying3 (by simp[il]) Ek FH (oa rfl rfl Tryz.underlying3 (by simp[il]) Ek FH))))
def ZX:qZ Tryz.prog 57 aI 2:=lB Tryz.underlying57 (by kernel_rfl) (iN rfl rfl Tryz.underlying36 (by simp[il]) Sr VM (iN rfl rfl Tryz.underlying3 (by simp[il]) Ek FH (iN rfl rfl Tryz.underlying3 (by simp[il]) Ek FH (oa rfl rfl Tryz.underlying3 (by simp[il]) Ek FH))))
def ZY:qZ Tryz.prog 40 aB 2:=lB Tryz.underlying40 (by kernel_rfl) (iN rfl rfl Tryz.underlying3 (by simp[il]) Ek FH (iN rfl rfl Tryz.underlying3 (by simp[il]) Ek FH (oa rfl rfl Tryz.underlying3 (by simp[il]) Ek FH)))
def tu:∀p∈([(3, .int .i64),(4, .bool),(5, .int .u8),(9, .str),(20, .other),(22, .slice 43),(23, .slice 3),(24, .slice 121),(26, .struct [(3,0),(22,1),(23,2),(24,3)]),(27, .slice 40),(28, .slice 27),(29, .slice 74),(30, .slice 77),(32, .struct [(3,0),(27,1),(27,2),(28,3),(29,4),(30,5)]),(36, .int .i64),(40, .struct [(3,0),(3,1),(3,2)]),(43, .slice 79),(45, .slice 87),(46, .slice 68),(48, .struct [(45,0),(30,1),(46,2)]),(50, .struct [(3,0),(27,1),(28,2)]),(53, .slice 63),(55, .struct [(27,0),(23,1),(53,2)]),(57, .struct [(36,0),(3,1),(3,2),(3,3)]),(63, .struct [(27,0),(23,1)]),(65, .slice 94),(66, .slice 113),(68, .struct [(9,0),(3,1),(65,2),(65,3),(66,4)]),(74, .struct [(3,0),(3,1)]),(75, .slice 224),(77, .struct [(9,0),(74,1),(74,3),(75,5)]),(79, .struct [(3,0),(3,1)]),(85, .slice 9),(87, .struct [(9,0),(85,1)]),(88, .other),(90, .struct [(36,0),(3,1),(3,2),(3,3)]),(94, .struct [(9,0),(74,1)]),(95, .slice 26),(96, .slice 36),(98, .struct [(68,0),(23,5),(95,6),(96,7)]),(111, .struct [(3,0),(3,1)]),(113, .struct [(9,0),(3,1),(3,2),(3,3),(111,4),(43,6),(43,7),(9,8)]),(119, .struct [(3,0),(3,1)]),(121, .struct [(119,0),(3,2)]),(124, .ptr 128),(126, .slice 4),(128, .struct [(68,0),(68,5),(126,10),(126,11)]),(132, .struct [(43,0),(23,1),(32,2)]),(156, .other),(159, .slice 119),(163, .ptr 32),(181, .slice 23),(183, .ptr 184),(184, .slice 3),(198, .struct [(23,0),(23,1),(23,2)]),(199, .map 3 4),(200, .map 119 4),(224, .struct [(111,0),(3,2),(3,3),(3,4)]),(227, .other),(231, .other),(233, .other),(237, .struct [(45,0),(30,1),(29,2),(29,3),(29,4),(4,5)]),(244, .other),(264, .int .u64),(265, .other),(283, .other),(300, .int .u32),(302, .int .u64),(333, .int .u64),(337, .ptr 3),(344, .array 12 3),(359, .ptr 333)]:List (Nat×Kt)),yv Tryz.prog p.1 p.2:=by
 simp only[ajI];exact⟨Tryz.underlying3,Tryz.underlying4,Tryz.underlying5,Tryz.underlying9,⟨_,Tryz.underlying20,rfl⟩,Tryz.underlying22,Tryz.underlying23,Tryz.underlying24,⟨_,Tryz.underlying26,rfl⟩,Tryz.underlying27,Tryz.underlying28,Tryz.underlying29,Tryz.underlying30,⟨_,Tryz.underlying32,rfl⟩,Tryz.underlying36,⟨_,Tryz.underlying40,rfl⟩,Tryz.underlying43,Tryz.underlying45,Tryz.underlying46,⟨_,Tryz.underlying48,rfl⟩,⟨_,Tryz.underlying50,rfl⟩,Tryz.underlying53,⟨_,Tryz.underlying55,rfl⟩,⟨_,Tryz.underlying57,rfl⟩,⟨_,Tryz.underlying63,rfl⟩,Tryz.underlying65,Tryz.underlying66,⟨_,Tryz.underlying68,rfl⟩,⟨_,Tryz.underlying74,rfl⟩,Tryz.underlying75,⟨_,Tryz.underlying77,rfl⟩,⟨_,Tryz.underlying79,rfl⟩,Tryz.underlying85,⟨_,Tryz.underlying87,rfl⟩,⟨_,Tryz.underlying88,rfl⟩,⟨_,Tryz.underlying90,rfl⟩,⟨_,Tryz.underlying94,rfl⟩,Tryz.underlying95,Tryz.underlying96,⟨_,Tryz.underlying98,rfl⟩,⟨_,Tryz.underlying111,rfl⟩,⟨_,Tryz.underlying113,rfl⟩,⟨_,Tryz.underlying119,rfl⟩,⟨_,Tryz.underlying121,rfl⟩,Tryz.underlying124,Tryz.underlying126,⟨_,Tryz.underlying128,rfl⟩,⟨_,Tryz.underlying132,rfl⟩,⟨_,Tryz.underlying156,rfl⟩,Tryz.underlying159,Tryz.underlying163,Tryz.underlying181,Tryz.underlying183,Tryz.underlying184,⟨_,Tryz.underlying198,rfl⟩,Tryz.underlying199,Tryz.underlying200,⟨_,Tryz.underlying224,rfl⟩,⟨_,Tryz.underlying227,rfl⟩,⟨_,Tryz.underlying231,rfl⟩,⟨_,Tryz.underlying233,rfl⟩,⟨_,Tryz.underlying237,rfl⟩,⟨_,Tryz.underlying244,rfl⟩,Tryz.underlying264,⟨_,Tryz.underlying265,rfl⟩,⟨_,Tryz.underlying283,rfl⟩,Tryz.underlying300,Tryz.underlying302,Tryz.underlying333,Tryz.underlying337,Tryz.underlying344,Tryz.underlying359,λ_ h=>absurd h (by simp)⟩
def tr:∀p∈([(3,aA),(4, .bool),(9, .str),(22,(.slice (.slice az))),(23,(.slice aA)),(24,(.slice aM)),(26,bE),(27,(.slice aB)),(28,(.slice (.slice aB))),(29,(.slice az)),(30,(.slice aT)),(32,eN),(36,aA),(40,aB),(43,(.slice az)),(45,(.slice dL)),(46,(.slice aP)),(48,cT),(50,dT),(53,(.slice aD)),(55,qQ),(57,aI),(63,aD),(65,(.slice bF)),(66,(.slice da)),(68,aP),(74,az),(75,(.slice jJ)),(77,aT),(79,az),(85,(.slice .str)),(87,dL),(90,aI),(94,bF),(95,(.slice bE)),(96,(.slice aA)),(98,dM),(111,az),(113,da),(119,az),(121,aM),(126,(.slice .bool)),(128,rn),(132,bK),(184,(.slice aA)),(198,gy),(224,jJ),(237,bI),(333,(.int .u64))]:List (Nat×Row)),TI Tryz.prog p.1 p.2:=by
 simp only[ajI];exact⟨Ek,Ti4,Ti9,Zn,Zo,Zp,Zq,Zr,Zs,Zt,Zu,Zv,Sr,Zw,Zx,Zy,Zz,ZA,ZB,ZC,ZD,ZE,ZF,ZG,ZH,ZI,ZJ,ZK,ZL,ZM,ZN,ZO,ZP,ZQ,ZR,ZS,ZT,Vz,VA,VB,VC,VD,VE,VF,VG,VH,VI,VJ,VK,λ_ h=>absurd h (by simp)⟩
def te:∀p∈([(40,aB),(57,aI),(74,az),(79,az),(90,aI),(119,az)]:List (Nat×Row)),∃K d,qZ Tryz.prog p.1 p.2 K/\d+K=10000/\Tryz.prog.eqGuardType Tryz.prog.depth p.1=ah/\(Tryz.prog.underlying p.1).any il=af:=by
 simp only[ajI];exact⟨⟨2,9998,ZY,rfl,by kernel_rfl,by kernel_rfl⟩,⟨2,9998,ZX,rfl,by kernel_rfl,by kernel_rfl⟩,⟨2,9998,ZU,rfl,by kernel_rfl,by kernel_rfl⟩,⟨2,9998,ZV,rfl,by kernel_rfl,by kernel_rfl⟩,⟨2,9998,ZW,rfl,by kernel_rfl,by kernel_rfl⟩,⟨2,9998,VL,rfl,by kernel_rfl,by kernel_rfl⟩,λ_ h=>absurd h (by simp)⟩
def tz:∀p∈([(4,(ah, .bool))]:List (Nat×(Bool×Row))),z6 Tryz.prog p.1 p.2.1 p.2.2:=by
 simp only[ajI];exact⟨⟨_,by kernel_rfl,rfl⟩,λ_ h=>absurd h (by simp)⟩
def tm:∀p∈([(183,("Len",(97,ah))),(183,("Less",(393,ah))),(183,("Pop",(394,af))),(183,("Push",(395,af))),(183,("Swap",(396,ah)))]:List (TypeId×(String×(FuncId×Bool)))),ri Tryz.prog p.1 p.2.1 p.2.2.1 p.2.2.2:=by
 simp only[ajI];exact⟨(by unfold ri;kernel_rfl),(by unfold ri;kernel_rfl),(by unfold ri;kernel_rfl),(by unfold ri;kernel_rfl),(by unfold ri;kernel_rfl),λ_ h=>absurd h (by simp)⟩
def tk:∀t∈([119]:List TypeId),∀(em:Bool)(a b:Value)(w:World),(Instr.checkKey em 10000 t (.agg #[a,b])).run Tryz.prog w= .ok () w:=by
 simp only[ajI];exact⟨λem a b w=>by kernel_rfl,λ_ h=>absurd h (by simp)⟩
def VN:bj Tryz.prog:=⟨_,_,_,_,nw tu,nw tr,nw te,λt a r h=>nw (Q:=λt p=>z6 Tryz.prog t p.1 p.2) tz t (a,r) h,_,tk,_,tm⟩
def mixed:Tryz.prog.follows .mixedOrders=af:=by kernel_rfl
def en(l:List (CT Tryz.prog))(d p:Bool):Env Tryz.prog:=⟨VN,CT.tab l,CT.AO,mixed,d,p⟩
abbrev Fo(f:Nat)(a b:JS)(g:dj a.rows->Option (dj b.rows)):Prop:=gZ Tryz.prog f ⟨a,b,g⟩
def fz{f:FuncId}{fn:Func}{sg:pj}(N:Nat)(l:List (CT Tryz.prog))(a:List Tk)(hf:Tryz.prog.funcs[f]? =aa fn)(hc:Zk fn sg=af:=by kernel_rfl)(By:∀x,sg.fn x=Sl (en l ah ah) fn.ntmps N (fn.body.getD .skip) fn.results.toList (ak a) sg.inn sg.out x:=by intro x;kernel_rfl):gZ Tryz.prog f sg:=fw (en l ah ah) (N:=N) (ak a) hf hc By
def M.gj(N:Nat)(a:Int):Option Int:=
aiz (if(ai (a=1))then
aa (ai (a=1))
else(if(ai (a=2))then
aa (ai (a=2))
else(if(ai (a=3))then
aa (ai (a=3))
else(if(ai (a=4))then
aa (ai (a=4))
else(if(ai (a=5))then
aa (ai (a=5))
else(if(ai (a=6))then
aa (ai (a=6))
else(if(ai (a=7))then
aa (ai (a=7))
else(if(ai (a=8))then
aa (ai (a=8))
else(if(ai (a=9))then
aa (ai (a=9))
else(if(ai (a=35))then
aa (ai (a=35))
else(if(ai (a=36))then
aa (ai (a=36))
else(if(ai (a=37))then
aa (ai (a=37))
else(if(ai (a=38))then
aa (ai (a=38))
else
aa (ai (a=39))))))))))))))) λb=>(if b then
aa 0
else
aiz (if(ai (a=10))then
aa (ai (a=10))
else(if(ai (a=25))then
aa (ai (a=25))
else(if(ai (a=31))then
aa (ai (a=31))
else(if(ai (a=32))then
aa (ai (a=32))
else(if(ai (a=33))then
aa (ai (a=33))
else
aa (ai (a=34))))))) λc=>(if c then
aa 1
else
aiz (if(ai (a=11))then
aa (ai (a=11))
else(if(ai (a=12))then
aa (ai (a=12))
else(if(ai (a=13))then
aa (ai (a=13))
else(if(ai (a=14))then
aa (ai (a=14))
else(if(ai (a=15))then
aa (ai (a=15))
else(if(ai (a=16))then
aa (ai (a=16))
else(if(ai (a=17))then
aa (ai (a=17))
else(if(ai (a=18))then
aa (ai (a=18))
else(if(ai (a=19))then
aa (ai (a=19))
else(if(ai (a=20))then
aa (ai (a=20))
else(if(ai (a=21))then
aa (ai (a=21))
else(if(ai (a=22))then
aa (ai (a=22))
else(if(ai (a=23))then
aa (ai (a=23))
else(if(ai (a=24))then
aa (ai (a=24))
else(if(ai (a=27))then
aa (ai (a=27))
else(if(ai (a=28))then
aa (ai (a=28))
else(if(ai (a=29))then
aa (ai (a=29))
else
aa (ai (a=30))))))))))))))))))) λd=>(if d then
aa 2
else(if(ai (a=26))then
aa 3
else
aa (-1)))))
def Ml:Fo 120 (.i1 [.l aA]) (.i1 [.l aA]) (M.gj N):=fz N [] [O,T,O,T,R ⟨[(4, .l .bool)],[],[],32⟩,X,O,R ⟨[(19, .l .bool)],[],[],32⟩,X,O,B 26 32] Tryz.func120
def M.fm(b:List az.den):Option (Int×Int×List Int):=
(if(ai (48<(b.length:Int)))then
aa (0,4,([]:List Int))
else(if(ai ((b.length:Int)=0))then
aa (0,5,([]:List Int))
else
aiz (nu (b.length:Int) 0) λg=>b9 (J:=(List Int)×List Int) (R:=Int×Int×List Int) (Loop (S:=Int×(List Int)×List Int) (X:=((List Int)×List Int)⊕(Int×Int×List Int)) (λa=>(if(ai (a.1<(b.length:Int)))then
aiz (idx b a.1) λh=>aiz (M.gj N h.1) λc=>(if(ai (c<0))then
aa (.inr (.inr (a.1,2,([]:List Int))))
else(if(ai ((a.2.2.length:Int)<c))then
aa (.inr (.inr (a.1,5,([]:List Int))))
else
aiz (idx a.2.1 a.1) λl=>aiz ((if(ai (0<c))then
aiz (idx a.2.2 (aiB.wrap ((a.2.2.length:Int)-c))) λi=>aiz (idx (bg a.2.1 a.1 a.1) a.1) λm=>aa (bg (bg a.2.1 a.1 a.1) a.1 i)
else
aa (bg a.2.1 a.1 a.1)):Option (List Int)) λd=>aiz (gI a.2.2 0 (aiB.wrap ((a.2.2.length:Int)-c))) λj=>aiz (idx d a.1) λk=>aiz (cz j ([k]:List Int)) λe=>(if(ai (12<(e.length:Int)))then
aa (.inr (.inr (a.1,16,([]:List Int))))
else
aa (.inl (aiB.wrap (a.1+1),d,e)))))
else
aa (.inr (.inl (a.2.1,a.2.2))))) N (0,g,([]:List Int))) λf=>(if(ai (1<(f.2.length:Int)))then
aa ((b.length:Int),4,([]:List Int))
else
aa (0,0,f.1))))
def W76:Fo 76 (.i1 [.l (.slice az)]) (.j1 [.val ah (.own 0), .l aA, .l aA] [.own 3 aA] 1) (M.fm N):=fz N [Ml N] [O,O,O,O,O,J ⟨[(6, .val ah (.own 224))],[(176, .own 3 aA),(224, .own 3 aA)],[],226⟩,O,T,P ⟨[(6, .val ah (.own 272)),(21, .l aA)],[(176, .own 3 aA),(272, .own 3 aA)],[],274⟩,O,O,T,T,O,O,O,O,O,R ⟨[],[(176, .own 3 aA)],[],627⟩] Tryz.func76
def M.nF(b:List az.den):Option (Int×List Int):=
aiz (M.fm N b) λa=>aa (a.2.1,a.2.2)
def W49:Fo 49 (.i1 [.l (.slice az)]) (.j1 [.val ah (.own 0), .l aA] [.own 3 aA] 1) (M.nF N):=fz N [W76 N] [] Tryz.func49
def M.eC(b:bK.den)(c:Int):Option (List Int):=
aiz (idx b.1 c) λe=>aiz (M.gj N e.1) λf=>aiz (nu f 0) λd=>Loop (S:=Int×Int×List Int) (X:=List Int) (λa=>(if(ai (0<=a.2.1))then
aiz (idx a.2.2 a.2.1) λh=>aiz (idx b.2.1 a.1) λg=>aa (.inl (aiB.wrap (g-1),aiB.wrap (a.2.1-1),bg a.2.2 a.2.1 a.1))
else
aa (.inr a.2.2))) N (aiB.wrap (c-1),aiB.wrap ((d.length:Int)-1),d)
def W77:Fo 77 (.i1 [.g bK, .l aA]) (.w1 3 aA) (u2 (M.eC N)):=fz N [Ml N] [O,O,O,T,O,T,P ⟨[(6, .l aA),(7, .l aA)],[(144, .own 3 aA)],[],289⟩] Tryz.func77
def M.gP(N:Nat)(a:Int):Option Bool:=
aiz (if(ai (a=1))then
aa (ai (a=1))
else(if(ai (a=2))then
aa (ai (a=2))
else(if(ai (a=3))then
aa (ai (a=3))
else(if(ai (a=4))then
aa (ai (a=4))
else(if(ai (a=5))then
aa (ai (a=5))
else(if(ai (a=6))then
aa (ai (a=6))
else(if(ai (a=7))then
aa (ai (a=7))
else(if(ai (a=8))then
aa (ai (a=8))
else(if(ai (a=14))then
aa (ai (a=14))
else(if(ai (a=15))then
aa (ai (a=15))
else(if(ai (a=16))then
aa (ai (a=16))
else(if(ai (a=33))then
aa (ai (a=33))
else(if(ai (a=34))then
aa (ai (a=34))
else(if(ai (a=36))then
aa (ai (a=36))
else(if(ai (a=37))then
aa (ai (a=37))
else(if(ai (a=38))then
aa (ai (a=38))
else
aa (ai (a=39)))))))))))))))))) λb=>(if b then
aa af
else
aa ah)
def VO:Fo 192 (.i1 [.l aA]) (.i1 [.l .bool]) (M.gP N):=fz N [] [O,T,O,T,B 4 32] Tryz.func192
def M.dN(a:az.den):Option Bool:=
aiz (aiz (M.gj N a.1) λb=>(if(ai (b<0))then
aa af
else(if(!ai (a.2=0))then
aiz (M.gP N a.1) λc=>aa (!c)
else
aa ah)):Option Bool) λd=>(if d then
aa ah
else
aiz (if(ai (a.1=14))then
aa (ai (a.1=14))
else(if(ai (a.1=15))then
aa (ai (a.1=15))
else
aa (ai (a.1=16)))) λe=>(if e then
aiz (if(ai (0<=a.2))then
aa (ai (a.2<=5))
else
aa ah) λf=>aa f
else(if(ai (a.1=34))then
aiz (if(ai (0<=a.2))then
aa (ai ((ai3 a.2 8)<=5))
else
aa ah) λg=>aa g
else(if(ai (a.1=6))then
aa (ai (0<=a.2))
else
aa af))))
def ZZ:Fo 122 (.i1 [.g az]) (.i1 [.l .bool]) (M.dN N):=fz N [Ml N,VO N] [O,T,B 17 32,T,O,T,R ⟨[(20, .l .bool)],[],[],64⟩,X,T,B 2 64,O,T,B 2 96] Tryz.func122
def M.iW(N:Nat)(a:az.den)(b:eN.den):Option Bool:=
(if(ai (a.1=7))then
aiz (if(ai (0<=a.2))then
aa (ai (a.2<(b.2.1.length:Int)))
else
aa ah) λc=>aa c
else(if(ai (a.1=8))then
aiz (if(ai (0<=a.2))then(if(ai (a.2<(b.2.2.1.length:Int)))then
aiz (idx b.2.2.1 a.2) λd=>aa (!ai (d.1=0))
else
aa ah)
else
aa ah) λe=>aa e
else(if(ai (a.1=33))then
aiz (if(ai (0<=a.2))then
aa (ai (a.2<(b.2.2.2.2.2.length:Int)))
else
aa ah) λf=>aa f
else(if(ai (a.1=34))then
aa (ai ((aiB.wrap (aiR a.2 8))<(b.2.2.2.2.2.length:Int)))
else
aiz (if(ai (a.1=36))then
aa (ai (a.1=36))
else(if(ai (a.1=37))then
aa (ai (a.1=37))
else(if(ai (a.1=38))then
aa (ai (a.1=38))
else
aa (ai (a.1=39))))) λg=>(if g then
aiz (if(ai (0<=a.2))then
aa (ai (a.2<(b.2.2.2.2.1.length:Int)))
else
aa ah) λh=>aa h
else
aa af)))))
def Z0:Fo 123 (.i1 [.g az, .g eN]) (.i1 [.l .bool]) (u2 (M.iW N)):=fz N [] [O,T,O,T,O,T,B 4 112,O,T,B 4 144,O,T,B 4 176,O,O,R ⟨[(65, .l .bool)],[],[],208⟩,X,T,B 4 208] Tryz.func123
def M.cA(N:Nat)(a:aB.den):Option Bool:=
aiz (if(!ai (a.1=6))then
aa (!ai (a.2.1=0))
else
aa ah) λb=>(if b then
aa ah
else(if(ai (a.1=1))then
aiz (if(ai (a.2.2=0))then
aa af
else
aa (ai (a.2.2=1))) λc=>aa c
else(if(ai (a.1=2))then
aiz (if(ai ((-1000000000000)<=a.2.2))then
aa (ai (a.2.2<=1000000000000))
else
aa ah) λd=>aa d
else(if(ai (a.1=3))then
aiz (if(ai ((-1000000000000000)<=a.2.2))then
aa (ai (a.2.2<=1000000000000000))
else
aa ah) λe=>aa e
else(if(ai (a.1=4))then
aiz (if(ai ((-1000000000)<=a.2.2))then
aa (ai (a.2.2<=1000000000))
else
aa ah) λf=>aa f
else(if(ai (a.1=5))then
aiz (if(ai (0<=a.2.2))then
aa (ai (a.2.2<=109572))
else
aa ah) λg=>aa g
else(if(ai (a.1=6))then
aiz (if(ai (0<=a.2.1))then(if(ai (a.2.1<8))then(if(ai (0<=a.2.2))then
aa (ai (a.2.2<16))
else
aa ah)
else
aa ah)
else
aa ah) λh=>aa h
else
aa ah)))))))
def Jx:Fo 127 (.i1 [.g aB]) (.i1 [.l .bool]) (M.cA N):=fz N [] [O,T,B 10 32,T,O,T,O,T,B 2 96,O,T,B 2 128,O,T,B 2 160,O,T,B 2 192,O,T,B 2 224,O,T,B 2 256] Tryz.func127
def M.eD(b:List aB.den):Option Bool:=
Loop (S:=Int) (X:=Bool) (λa=>(if(ai (a<(b.length:Int)))then
aiz (idx b a) λc=>aiz (M.cA N c) λd=>(if(!d)then
aa (.inr ah)
else
aa (.inl (aiB.wrap (a+1))))
else
aa (.inr af))) N 0
def Z1:Fo 124 (.i1 [.l (.slice aB)]) (.i1 [.l .bool]) (M.eD N):=fz N [Jx N] [O,T,O,T,L 7 64] Tryz.func124
def M.kN(a:aB.den)(b:az.den):Option Bool:=
aiz (aiz (M.cA N a) λc=>(if c then(if(ai (a.1=b.1))then
aa (ai (a.2.1=b.2))
else
aa ah)
else
aa ah):Option Bool) λd=>aa d
def VP:Fo 193 (.i1 [.g aB, .g az]) (.i1 [.l .bool]) (u2 (M.kN N)):=fz N [Jx N] [O,B 4 48] Tryz.func193
def M.gk(N:Nat)(a:Int):Option Bool:=
aiz (if(ai (a=2))then
aa af
else(if(ai (a=3))then
aa af
else
aa (ai (a=4)))) λb=>aa b
def St:Fo 263 (.i1 [.l aA]) (.i1 [.l .bool]) (M.gk N):=fz N [] [O,B 2 16] Tryz.func263
def M.gQ(b:Int)(a:az.den):Option Bool:=
(if(!ai (a.2=0))then
aa ah
else(if(ai (b=36))then
aiz (if(ai (a.1=2))then
aa af
else
aa (ai (a.1=3))) λc=>aa c
else(if(ai (b=39))then
aiz (aiz (M.gk N a.1) λd=>(if d then
aa af
else
aa (ai (a.1=5))):Option Bool) λe=>aa e
else
aa (ai (a.1=1)))))
def Z2:Fo 194 (.i1 [.l aA, .g az]) (.i1 [.l .bool]) (u2 (M.gQ N)):=fz N [St N] [O,O,T,O,T,O,T,B 4 128,O,T,B 4 160] Tryz.func194
def M.cJ(b:Int)(a:Int):Option Bool:=
(if(ai (b=10))then
aiz (M.gk N a) λc=>aa c
else(if(ai (b=25))then
aa (ai (a=1))
else
aa (ai (a=5))))
def Z3:Fo 195 (.i1 [.l aA, .l aA]) (.i1 [.l .bool]) (u2 (M.cJ N)):=fz N [St N] [] Tryz.func195
def M.dl(N:Nat)(a:aB.den)(b:aB.den):Option Bool:=
aiz (if(ai (a.1=b.1))then
aa (ai (a.2.1=b.2.1))
else
aa ah) λc=>aa c
def VQ:Fo 197 (.i1 [.g aB, .g aB]) (.i1 [.l .bool]) (u2 (M.dl N)):=fz N [] [O,B 4 48] Tryz.func197
def M.cO(a:Int)(b:aB.den)(c:aB.den):Option Bool:=
aiz (if(ai (a=11))then
aa (ai (a=11))
else
aa (ai (a=12))) λd=>(if d then
aiz (aiz (M.dl N b c) λe=>(if e then
aiz (M.gk N b.1) λf=>aa f
else
aa ah):Option Bool) λg=>aa g
else(if(ai (a=13))then
aiz (if(ai (c.1=2))then(if(ai (b.1=2))then
aa af
else
aa (ai (b.1=3)))
else
aa ah) λh=>aa h
else(if(ai (a=14))then
aiz (if(ai (c.1=4))then(if(ai (b.1=3))then
aa af
else
aa (ai (b.1=4)))
else
aa ah) λi=>aa i
else(if(ai (a=15))then(if(ai (c.1=2))then
aiz (if(ai (b.1=2))then
aa af
else
aa (ai (b.1=3))) λj=>aa j
else
aiz (if(ai (b.1=3))then
aa (ai (c.1=3))
else
aa ah) λk=>aa k)
else(if(ai (a=16))then
aiz (if(ai (b.1=3))then
aa (ai (c.1=3))
else
aa ah) λl=>aa l
else
aiz (if(ai (a=17))then
aa (ai (a=17))
else(if(ai (a=18))then
aa (ai (a=18))
else(if(ai (a=21))then
aa (ai (a=21))
else
aa (ai (a=22))))) λm=>(if m then
aiz (aiz (M.dl N b c) λn=>(if n then
aiz (M.gk N b.1) λo=>(if o then
aa af
else
aa (ai (b.1=5)))
else
aa ah):Option Bool) λp=>aa p
else
aiz (if(ai (a=19))then
aa (ai (a=19))
else
aa (ai (a=20))) λq=>(if q then
aiz (M.dl N b c) λr=>aa r
else
aiz (if(ai (a=23))then
aa (ai (a=23))
else
aa (ai (a=24))) λs=>(if s then
aiz (if(ai (b.1=1))then
aa (ai (c.1=1))
else
aa ah) λt=>aa t
else
aiz (if(ai (a=27))then
aa (ai (a=27))
else
aa (ai (a=28))) λu=>(if u then
aiz (if(ai (b.1=5))then
aa (ai (c.1=2))
else
aa ah) λv=>aa v
else
aiz (if(ai (b.1=5))then
aa (ai (c.1=5))
else
aa ah) λw=>aa w)))))))))
def Z4:Fo 196 (.i1 [.l aA, .g aB, .g aB]) (.i1 [.l .bool]) (u3 (M.cO N)):=fz N [VQ N,St N] [O,T,O,T,R ⟨[(8, .l .bool)],[],[],64⟩,X,T,B 6 64,O,T,B 6 96,O,T,B 6 128,O,T,T,O,T,B 6 208,X,B 6 208,O,T,B 6 192,R ⟨[(80, .l .bool)],[],[],192⟩,X,T,B 6 192,R ⟨[(98, .l .bool)],[],[],192⟩,X,O,R ⟨[(104, .l .bool)],[],[],192⟩,X,T,B 6 192,R ⟨[(115, .l .bool)],[],[],192⟩,X,T,B 6 192,X,X,B 6 192] Tryz.func196
def M.bW(a:az.den)(b:List aB.den)(c:eN.den):Option Bool:=
(if(ai (a.1=7))then
aiz (idx c.2.1 a.2) λf=>aiz (M.cA N f) λg=>aa g
else(if(ai (a.1=8))then
aiz (idx c.2.2.1 a.2) λh=>aiz (M.cA N h) λi=>aa i
else(if(ai (a.1=33))then
aiz (idx c.2.2.2.2.2 a.2) λd=>aiz (aiz (idx b 0) λj=>aiz (M.kN N j d.2.1) λk=>(if k then(if(ai (1<=d.2.2.1.1))then
aa (ai (d.2.2.1.1<=6))
else
aa ah)
else
aa ah):Option Bool) λl=>aa l
else(if(ai (a.1=34))then
aiz (idx c.2.2.2.2.2 (aiB.wrap (aiR a.2 8))) λe=>aiz (aiz (idx b 0) λm=>(if(ai (m.1=3))then(if(lA az e.2.1 (3,0))then
aa (lA az e.2.2.1 (4,0))
else
aa ah)
else
aa ah):Option Bool) λn=>aa n
else
aiz (if(ai (a.1=36))then
aa (ai (a.1=36))
else(if(ai (a.1=37))then
aa (ai (a.1=37))
else(if(ai (a.1=38))then
aa (ai (a.1=38))
else
aa (ai (a.1=39))))) λo=>(if o then
aiz (idx c.2.2.2.2.1 a.2) λp=>aiz (M.gQ N a.1 p) λq=>aa q
else(if(ai ((b.length:Int)=1))then
aiz (idx b 0) λr=>aiz (M.cJ N a.1 r.1) λs=>aa s
else(if(ai ((b.length:Int)=2))then
aiz (idx b 0) λt=>aiz (idx b 1) λu=>aiz (M.cO N a.1 t u) λv=>aa v
else(if(ai ((b.length:Int)=3))then
aiz (aiz (idx b 0) λw=>(if(ai (w.1=1))then
aiz (idx b 1) λx=>aiz (idx b 2) λy=>aiz (M.dl N x y) λz=>aa z
else
aa ah):Option Bool) λA=>aa A
else
aa af))))))))
def Z5:Fo 125 (.i1 [.g az, .l (.slice aB), .g eN]) (.i1 [.l .bool]) (u3 (M.bW N)):=fz N [Jx N,VP N,Z2 N,Z3 N,Z4 N,VQ N] [O,T,O,T,O,O,O,O,O,T,O,B 6 304,O,T,O,B 6 352,B 81 208,X,T,O,T,O,O,O,O,O,T,B 6 336] Tryz.func125
def M.jv(b:az.den)(e:eN.den):Option (aB.den×Int):=
aiz (idx e.2.2.2.2.1 b.2) λd=>aiz ((if(ai (b.1=37))then
aa (d.1,(d.2,1))
else
aa (d.1,(d.2,0))):Option (aB.den)) λg=>aiz (if(ai (b.1=39))then
aa (ai ((e.2.2.2.1.length:Int)=0))
else
aa ah) λh=>(if h then
aa ((0,(0,0)),6)
else
b9 (J:=aB.den) (R:=aB.den×Int) (Loop (S:=Int×aB.den) (X:=(aB.den)⊕(aB.den×Int)) (λa=>(if(ai (a.1<(e.2.2.2.1.length:Int)))then
aiz (idx e.2.2.2.1 a.1) λf=>aiz (if(ai ((f.length:Int)<=b.2))then
aa af
else
aiz (idx f b.2) λi=>aa (ai (i.1=0))) λj=>(if j then
aa (.inr (.inr ((0,(0,0)),6)))
else
aiz (idx f b.2) λc=>aiz (M.kN N c d) λk=>(if(!k)then
aa (.inr (.inr ((0,(0,0)),8)))
else
b9 (J:=aB.den) (R:=(Int×aB.den)⊕((aB.den)⊕(aB.den×Int))) ((if(ai (b.1=36))then
aiz (M.cA N (a.2.1,(a.2.2.1,aiB.wrap (a.2.2.2+c.2.2)))) λl=>(if(!l)then
aa (.inr (.inr (.inr ((0,(0,0)),3))))
else
aa (.inl (a.2.1,(a.2.2.1,aiB.wrap (a.2.2.2+c.2.2)))))
else(if(ai (b.1=37))then
aa (.inl (a.2.1,(a.2.2.1,if c.2.2<a.2.2.2 then c.2.2 else a.2.2.2)))
else(if(ai (b.1=38))then
aa (.inl (a.2.1,(a.2.2.1,if a.2.2.2<c.2.2 then c.2.2 else a.2.2.2)))
else(if(ai (b.1=39))then
aiz (if(ai (a.1=0))then
aa af
else
aa (ai (a.2.2.2<c.2.2))) λm=>(if m then
aa (.inl c)
else
aa (.inl a.2))
else
aa (.inl a.2)))))) λn=>aa (.inl (aiB.wrap (a.1+1),n))))
else
aa (.inr (.inl a.2)))) N (0,g)) λo=>aa (o,0))
def Z6:Fo 198 (.i1 [.g az, .g eN]) (.i1 [.g aB, .l aA]) (u2 (M.jv N)):=fz N [Jx N,VP N] [O,O,O,R ⟨[],[(272, .box 40 (.leaf aB))],[],305⟩,X,T,B 34 305,J ⟨[],[(272, .box 40 (.leaf aB))],[],306⟩,O,T,P ⟨[(39, .l aA)],[(272, .box 40 (.leaf aB))],[],370⟩,O,O,T,T,O,T,B 57 466,O,O,O,J ⟨[],[(272, .box 40 (.leaf aB))],[],675⟩,O,O,O,O,O,O,O,T,B 109 802] Tryz.func198
def M.eP(N:Nat)(a:az.den):Option Bool:=
aiz (if(ai (0<=a.1))then(if(ai (a.1<=a.2))then
aa (ai (a.2<=109573))
else
aa ah)
else
aa ah) λb=>aa b
def Su:Fo 112 (.i1 [.g az]) (.i1 [.l .bool]) (M.eP N):=fz N [] [O,B 2 32] Tryz.func112
def M.cP(a:az.den)(b:Int):Option Bool:=
aiz (aiz (M.eP N a) λc=>(if c then(if(ai (a.1<=b))then
aa (ai (b<a.2))
else
aa ah)
else
aa ah):Option Bool) λd=>aa d
def Z7:Fo 71 (.i1 [.g az, .l aA]) (.i1 [.l .bool]) (u2 (M.cP N)):=fz N [Su N] [O,B 4 32] Tryz.func71
def M.kg(a:jJ.den)(c:Int)(b:Int):Option (Bool×Int×Int):=
aiz (aiz (M.cP N a.1 c) λd=>(if d then(if(ai (a.2.1<=b))then
aa (ai (b<a.2.2.1))
else
aa ah)
else
aa ah):Option Bool) λe=>aa (e,c,b)
def Sv:Fo 264 (.j1 [.g jJ, .ptr 0 [] 0, .ptr 1 [] 0] [.box 3 (.leaf aA), .box 3 (.leaf aA)] 2) (.j1 [.l .bool] [.box 3 (.leaf aA), .box 3 (.leaf aA)] 4) (u3 (M.kg N)):=fz N [Z7 N] [O,B 4 34] Tryz.func264
def M.cV(c:List jJ.den)(d:Int)(e:Int):Option (Int×Bool×Int×Int):=
Loop (S:=Int×Int×Int) (X:=Int×Bool×Int×Int) (λa=>(if(ai (a.1<(c.length:Int)))then
aiz (idx c a.1) λf=>aiz (M.kg N f a.2.1 a.2.2) λb=>(if b.1 then
aa (.inr (a.1,af,b.2.1,b.2.2))
else
aa (.inl (aiB.wrap (a.1+1),b.2.1,b.2.2)))
else
aa (.inr (0,ah,a.2.1,a.2.2)))) N (0,d,e)
def Sw:Fo 145 (.j1 [.l (.slice jJ), .fn 264 [(0,[],0),(1,[],0)]] [.box 3 (.leaf aA), .box 3 (.leaf aA)] 2) (.j1 [.l aA, .l .bool] [.box 3 (.leaf aA), .box 3 (.leaf aA)] 4) (u3 (M.cV N)):=fz N [Sv N] [O,T,O,T,P ⟨[(10, .l aA)],[(0, .box 3 (.leaf aA)),(1, .box 3 (.leaf aA))],[],84⟩] Tryz.func145
def M.kO(b:aT.den)(c:Int)(d:Int):Option (Int×Bool):=
aiz (M.cV N b.2.2.2 c d) λa=>aa (a.1,a.2.1)
def Z8:Fo 199 (.i1 [.g aT, .l aA, .l aA]) (.i1 [.l aA, .l .bool]) (u3 (M.kO N)):=fz N [Sw N] [] Tryz.func199
def M.eQ(N:Nat)(a:Int)(b:Int):Option (Int×Int):=
aa (aiD.wrap ((aiD.wrap ((aiD.wrap ((bT .u64 a 32)*(bT .u64 b 32)))+(bT .u64 (aiD.wrap ((aiD.wrap ((bT .u64 a 32)*(aJ .and .u64 b 4294967295)))+(bT .u64 (aiD.wrap ((aJ .and .u64 a 4294967295)*(aJ .and .u64 b 4294967295))) 32))) 32)))+(bT .u64 (aiD.wrap ((aJ .and .u64 (aiD.wrap ((aiD.wrap ((bT .u64 a 32)*(aJ .and .u64 b 4294967295)))+(bT .u64 (aiD.wrap ((aJ .and .u64 a 4294967295)*(aJ .and .u64 b 4294967295))) 32))) 4294967295)+(aiD.wrap ((aJ .and .u64 a 4294967295)*(bT .u64 b 32))))) 32)),aiD.wrap (a*b))
def Pz:Fo 304 (.i1 [.l (.int .u64), .l (.int .u64)]) (.i1 [.l (.int .u64), .l (.int .u64)]) (u2 (M.eQ N)):=fz N [] [] Tryz.func304
def M.jS(N:Nat)(c:Int):Option Int:=
aiz ((if(ai (4294967296<=c))then
aa (bT .u64 c 32,32)
else
aa (c,0)):Option (Int×Int)) λa=>aiz ((if(ai (65536<=a.1))then
aa (bT .u64 a.1 16,aiB.wrap (a.2+16))
else
aa (a.1,a.2)):Option (Int×Int)) λb=>aiz ((if(ai (256<=b.1))then
aa (bT .u64 b.1 8,aiB.wrap (b.2+8))
else
aa (b.1,b.2)):Option (Int×Int)) λd=>aiz (lr (⟨#[0,1,2,2,3,3,3,3,4,4,4,4,4,4,4,4,5,5,5,5,5,5,5,5,5,5,5,5,5,5,5,5,6,6,6,6,6,6,6,6,6,6,6,6,6,6,6,6,6,6,6,6,6,6,6,6,6,6,6,6,6,6,6,6,7,7,7,7,7,7,7,7,7,7,7,7,7,7,7,7,7,7,7,7,7,7,7,7,7,7,7,7,7,7,7,7,7,7,7,7,7,7,7,7,7,7,7,7,7,7,7,7,7,7,7,7,7,7,7,7,7,7,7,7,7,7,7,7,8,8,8,8,8,8,8,8,8,8,8,8,8,8,8,8,8,8,8,8,8,8,8,8,8,8,8,8,8,8,8,8,8,8,8,8,8,8,8,8,8,8,8,8,8,8,8,8,8,8,8,8,8,8,8,8,8,8,8,8,8,8,8,8,8,8,8,8,8,8,8,8,8,8,8,8,8,8,8,8,8,8,8,8,8,8,8,8,8,8,8,8,8,8,8,8,8,8,8,8,8,8,8,8,8,8,8,8,8,8,8,8,8,8,8,8,8,8,8,8,8,8,8,8,8,8,8,8]⟩:ByteArray) (IntKind.u8.wrap d.1)) λe=>aa (aiB.wrap (d.2+(aiB.wrap e)))
def Z9:Fo 303 (.i1 [.l (.int .u64)]) (.i1 [.l aA]) (M.jS N):=fz N [] [O,R ⟨[(0, .l (.int .u64)),(2, .l aA)],[],[],16⟩,X,R ⟨[(0, .l (.int .u64)),(2, .l aA)],[],[],16⟩,X,R ⟨[(0, .l (.int .u64)),(2, .l aA)],[],[],16⟩] Tryz.func303
def M.gm(a:Int):Option Int:=
aiz (M.jS N a) λb=>aa (aiB.wrap (64-b))
def aaa:Fo 333 (.i1 [.l (.int .u64)]) (.i1 [.l aA]) (M.gm N):=fz N [Z9 N] [] Tryz.func333
def M.dO(k:Int)(i:Int)(d:Int):Option (Int×Int):=
(if(ai (d=0))then
ae
else(if(ai (d<=k))then
ae
else(if(ai (k=0))then
aiz (z7 i d) λo=>aiz (Ir i d) λp=>aa (aiD.wrap o,p)
else
aiz (M.gm N d) λf=>aiz (rA .u64 d (aiD.wrap f)) λa=>aiz (rA .u64 k (aiD.wrap f)) λg=>aiz (xS .u64 i (aiD.wrap (64-(aiD.wrap f)))) λh=>aiz (rA .u64 i (aiD.wrap f)) λe=>aiz (z7 (aJ .or .u64 g h) (bT .u64 a 32)) λl=>aiz (aiz (Loop (S:=Int×Int) (X:=Int) (λb=>aiz (if(ai (4294967296<=b.1))then
aa af
else
aa (ai ((aiD.wrap ((aiD.wrap (4294967296*b.2))+(bT .u64 e 32)))<(aiD.wrap (b.1*(aJ .and .u64 a 4294967295)))))) λq=>(if q then(if(ai (4294967296<=(aiD.wrap (b.2+(bT .u64 a 32)))))then
aa (.inr (aiD.wrap (b.1-1)))
else
aa (.inl (aiD.wrap (b.1-1),aiD.wrap (b.2+(bT .u64 a 32)))))
else
aa (.inr b.1))) N (aiD.wrap l,aiD.wrap ((aJ .or .u64 g h)-(aiD.wrap ((aiD.wrap l)*(bT .u64 a 32))))):Option Int) λr=>aa r:Option Int) λj=>aiz (z7 (aiD.wrap ((aiD.wrap ((aiD.wrap ((aJ .or .u64 g h)*4294967296))+(bT .u64 e 32)))-(aiD.wrap (j*a)))) (bT .u64 a 32)) λm=>aiz (aiz (Loop (S:=Int×Int) (X:=Int) (λc=>aiz (if(ai (4294967296<=c.2))then
aa af
else
aa (ai ((aiD.wrap ((aiD.wrap (4294967296*c.1))+(aJ .and .u64 e 4294967295)))<(aiD.wrap (c.2*(aJ .and .u64 a 4294967295)))))) λs=>(if s then(if(ai (4294967296<=(aiD.wrap (c.1+(bT .u64 a 32)))))then
aa (.inr (aiD.wrap (c.2-1)))
else
aa (.inl (aiD.wrap (c.1+(bT .u64 a 32)),aiD.wrap (c.2-1))))
else
aa (.inr c.2))) N (aiD.wrap ((aiD.wrap ((aiD.wrap ((aiD.wrap ((aJ .or .u64 g h)*4294967296))+(bT .u64 e 32)))-(aiD.wrap (j*a))))-(aiD.wrap ((aiD.wrap m)*(bT .u64 a 32)))),aiD.wrap m):Option Int) λt=>aa t:Option Int) λn=>aiz (xS .u64 (aiD.wrap ((aiD.wrap ((aiD.wrap ((aiD.wrap ((aiD.wrap ((aiD.wrap ((aJ .or .u64 g h)*4294967296))+(bT .u64 e 32)))-(aiD.wrap (j*a))))*4294967296))+(aJ .and .u64 e 4294967295)))-(aiD.wrap (n*a)))) (aiD.wrap f)) λu=>aa (aiD.wrap ((aiD.wrap (j*4294967296))+n),u))))
def Sz:Fo 305 (.i1 [.l (.int .u64), .l (.int .u64), .l (.int .u64)]) (.i1 [.l (.int .u64), .l (.int .u64)]) (u3 (M.dO N)):=fz N [aaa N] [O,O,O,O,O,O,O,O,O,O,O,O,O,O,R ⟨[(15, .l (.int .u64))],[],[],832⟩,R ⟨[(15, .l (.int .u64))],[],[],832⟩,P ⟨[(15, .l (.int .u64)),(16, .l (.int .u64))],[],[],832⟩,T,B 78 832,X,X,O,O,O,R ⟨[(18, .l (.int .u64))],[],[],1136⟩,R ⟨[(18, .l (.int .u64))],[],[],1136⟩,P ⟨[(16, .l (.int .u64)),(18, .l (.int .u64))],[],[],1136⟩,T,B 113 1136] Tryz.func305
def M.gR(d:Int)(b:Int):Option (Int×Int×Bool):=
aiz ((if(ai (b<0))then
aa (aiD.wrap (0-(aiD.wrap b)))
else
aa (aiD.wrap b)):Option Int) λe=>aiz (M.eQ N (aiD.wrap d) e) λc=>(if(ai (1000000<=c.1))then
aa (0,0,ah)
else
aiz (M.dO N c.1 c.2 1000000) λa=>(if(ai (1000000000000000<a.1))then
aa (0,0,ah)
else(if(ai (b<0))then
aa (aiB.wrap (0-(aiB.wrap a.1)),aiB.wrap (0-(aiB.wrap a.2)),af)
else
aa (aiB.wrap a.1,aiB.wrap a.2,af))))
def aab:Fo 265 (.i1 [.l aA, .l aA]) (.i1 [.l aA, .l aA, .l .bool]) (u2 (M.gR N)):=fz N [Pz N,Sz N] [O,O,R ⟨[(7, .l (.int .u64))],[],[],96⟩] Tryz.func265
def M.fK(N:Nat)(a:Int):Option Bool:=
aiz (if(ai (0<=a))then
aa (ai (a<=5))
else
aa ah) λb=>aa b
def SA:Fo 334 (.i1 [.l aA]) (.i1 [.l .bool]) (M.fK N):=fz N [] [O,B 2 16] Tryz.func334
def M.ee(N:Nat)(a:Int)(b:Int):Option Bool:=
aiz (if(ai (b<a))then
aa af
else
aa (ai (a<(aiB.wrap (0-b))))) λc=>aa c
def SB:Fo 335 (.i1 [.l aA, .l aA]) (.i1 [.l .bool]) (u2 (M.ee N)):=fz N [] [O,B 4 16] Tryz.func335
def M.dP(N:Nat)(a:Int):Option Int:=
(if(ai (a<0))then
aa (aiD.wrap (0-(aiD.wrap a)))
else
aa (aiD.wrap a))
def VS:Fo 336 (.i1 [.l aA]) (.i1 [.l (.int .u64)]) (M.dP N):=fz N [] [] Tryz.func336
def M.eh(N:Nat)(c:Int)(a:Int)(d:Int)(e:Bool)(b:Int):Option Int:=
(if(ai (a=0))then
aa c
else
aiz (if(ai (b=0))then
aa e
else(if(ai (b=1))then
aa (!e)
else(if(ai (b=3))then
aa af
else(if(ai (b=4))then
aa (ai ((aiD.wrap (d-a))<=a))
else(if(ai (b=5))then(if(ai ((aiD.wrap (d-a))<a))then
aa af
else(if(ai (a=(aiD.wrap (d-a))))then
aa (ai ((ai3 c 2)=1))
else
aa ah))
else
aa ah))))) λf=>aiz ((if f then
aa (aiD.wrap (c+1))
else
aa c):Option Int) λg=>aa g)
def VT:Fo 337 (.i1 [.l (.int .u64), .l (.int .u64), .l (.int .u64), .l .bool, .l aA]) (.i1 [.l (.int .u64)]) (u5 (M.eh N)):=fz N [] [O,O,O,T,O,B 11 80,R ⟨[(0, .l (.int .u64))],[],[],80⟩] Tryz.func337
def M.kP(N:Nat)(a:Int)(b:Bool):Option Int:=
(if b then
aa (aiB.wrap (0-(aiB.wrap a)))
else
aa (aiB.wrap a))
def VU:Fo 338 (.i1 [.l (.int .u64), .l .bool]) (.i1 [.l aA]) (u2 (M.kP N)):=fz N [] [] Tryz.func338
def M.fo(b:Int)(a:Int)(d:Int):Option (Int×Int):=
aiz (M.fK N d) λf=>(if(!f)then
aa (0,1)
else(if(ai (a=0))then
aa (0,12)
else
aiz (aiz (M.ee N b 4611686018427387904) λg=>(if g then
aa af
else
aiz (M.ee N a 4611686018427387904) λh=>aa h):Option Bool) λi=>(if i then
aa (0,3)
else
aiz (M.dP N b) λe=>aiz (M.dP N a) λc=>aiz (z7 e c) λj=>aiz (Ir e c) λk=>aiz (M.eh N (aiD.wrap j) k c (!ai ((ai (b<0))=(ai (a<0)))) d) λl=>aiz (M.kP N l (!ai ((ai (b<0))=(ai (a<0))))) λm=>aa (m,0))))
def PA:Fo 306 (.i1 [.l aA, .l aA, .l aA]) (.i1 [.l aA, .l aA]) (u3 (M.fo N)):=fz N [SA N,SB N,VS N,VT N,VU N] [O,O,O,T,B 22 112] Tryz.func306
def M.iX(b:Int)(a:Int)(e:Int):Option (Int×Int):=
aiz (if(ai ((aiB.wrap (b+(aiB.wrap (aiR a 1000000))))<(-2000000000000000)))then
aa af
else
aa (ai (2000000000000000<(aiB.wrap (b+(aiB.wrap (aiR a 1000000))))))) λf=>(if f then
aa (0,3)
else
aiz ((if(ai (1<(aiB.wrap (b+(aiB.wrap (aiR a 1000000))))))then
aa (aiB.wrap ((ai3 (aiB.wrap (b+(aiB.wrap (aiR a 1000000)))) 2)+2))
else(if(ai ((aiB.wrap (b+(aiB.wrap (aiR a 1000000))))<(-1)))then
aa (aiB.wrap ((ai3 (aiB.wrap (b+(aiB.wrap (aiR a 1000000)))) 2)-2))
else
aa (ai3 (aiB.wrap (b+(aiB.wrap (aiR a 1000000)))) 2))):Option Int) λd=>aiz (M.fo N (aiB.wrap ((aiB.wrap (d*1000000))+(ai3 a 1000000))) 1000000 e) λc=>(if(!ai (c.2=0))then
aa (0,c.2)
else
aiz (if(ai ((aiB.wrap ((aiB.wrap ((aiB.wrap (b+(aiB.wrap (aiR a 1000000))))-d))+c.1))<(-1000000000000000)))then
aa af
else
aa (ai (1000000000000000<(aiB.wrap ((aiB.wrap ((aiB.wrap (b+(aiB.wrap (aiR a 1000000))))-d))+c.1))))) λg=>(if g then
aa (0,3)
else
aa (aiB.wrap ((aiB.wrap ((aiB.wrap (b+(aiB.wrap (aiR a 1000000))))-d))+c.1),0))))
def aac:Fo 266 (.i1 [.l aA, .l aA, .l aA]) (.i1 [.l aA, .l aA]) (u3 (M.iX N)):=fz N [PA N] [O,O,O,T,B 23 160,O,T,R ⟨[(8, .l aA)],[],[],208⟩,X,X,O,O,O,T,B 58 512] Tryz.func266
def M.iY(d:aT.den)(j:Int)(c:Int)(e:Int):Option (Int×Int):=
aiz (if(ai (e<0))then
aa af
else
aa (ai (5<e))) λk=>(if k then
aa (0,1)
else
aiz (if(!(lA az d.2.1 (3,0)))then
aa af
else
aa (!(lA az d.2.2.1 (4,0)))) λl=>(if l then
aa (0,8)
else
aiz (if(ai (c<(-1000000000000000)))then
aa af
else
aa (ai (1000000000000000<c))) λm=>(if m then
aa (0,3)
else
b9 (J:=Int×Int) (R:=Int×Int) (Loop (S:=Int×Int×Int) (X:=(Int×Int)⊕(Int×Int)) (λb=>(if(ai (b.2.2<(d.2.2.2.length:Int)))then
b9 (J:=Int×Int) (R:=(Int×Int×Int)⊕((Int×Int)⊕(Int×Int))) (aiz (idx d.2.2.2 b.2.2) λa=>aiz (aiz (M.cP N a.1 j) λn=>(if(!n)then
aa af
else
aa (ai ((if c<a.2.2.1 then c else a.2.2.1)<=(if a.2.1<0 then 0 else a.2.1)))):Option Bool) λo=>(if o then
aa (.inl (b.1,b.2.1))
else
aiz (M.gR N (aiB.wrap ((if c<a.2.2.1 then c else a.2.2.1)-(if a.2.1<0 then 0 else a.2.1))) a.2.2.2) λf=>(if(!f.2.2)then
aa (.inr (.inr (.inr (0,3))))
else
aa (.inl (aiB.wrap (b.1+f.1),aiB.wrap (b.2.1+f.2.1)))))) λg=>aa (.inl (g.1,g.2,aiB.wrap (b.2.2+1)))
else
aa (.inr (.inl (b.1,b.2.1))))) N (0,0,0)) λh=>aiz (M.iX N h.1 h.2 e) λi=>aa (i.1,i.2))))
def aad:Fo 200 (.i1 [.g aT, .l aA, .l aA, .l aA]) (.i1 [.l aA, .l aA]) (u4 (M.iY N)):=fz N [Z7 N,aab N,aac N] [O,T,B 24 48,T,B 34 48,T,B 40 48,O,J ⟨[(10, .l aA),(11, .l aA)],[],[],80⟩,O,T,P ⟨[(10, .l aA),(11, .l aA),(44, .l aA)],[],[],144⟩,O,O,T,J ⟨[(10, .l aA),(11, .l aA)],[],[],160⟩,O,O,T,B 64 368] Tryz.func200
def M.dD(N:Nat)(a:Bool):Option (aB.den):=
(if a then
aa (1,(0,1))
else
aa (1,(0,0)))
def VV:Fo 267 (.i1 [.l .bool]) (.i1 [.g aB]) (M.dD N):=fz N [] [] Tryz.func267
def M.kh(N:Nat)(a:Int):Option Bool:=
aiz (if(ai (0<=a))then
aa (ai (a<=109572))
else
aa ah) λb=>aa b
def SC:Fo 307 (.i1 [.l aA]) (.i1 [.l .bool]) (M.kh N):=fz N [] [O,B 2 16] Tryz.func307
def M.kQ(N:Nat)(a:Int):Option Int:=
aa (aiB.wrap ((aiB.wrap ((aiB.wrap (aiR a 4))-(aiB.wrap (aiR a 100))))+(aiB.wrap (aiR a 400))))
def aae:Fo 339 (.i1 [.l aA]) (.i1 [.l aA]) (M.kQ N):=fz N [] [] Tryz.func339
def M.fq(a:Int):Option Int:=
aiz (M.kQ N (aiB.wrap (a-1))) λb=>aiz (M.kQ N 1899) λc=>aa (aiB.wrap ((aiB.wrap ((aiB.wrap ((aiB.wrap (a-1900))*365))+b))-c))
def VW:Fo 308 (.i1 [.l aA]) (.i1 [.l aA]) (M.fq N):=fz N [aae N] [] Tryz.func308
def M.pW(N:Nat)(a:Int):Option Bool:=
aiz (if(ai ((ai3 a 4)=0))then(if(!ai ((ai3 a 100)=0))then
aa af
else
aa (ai ((ai3 a 400)=0)))
else
aa ah) λb=>aa b
def aaf:Fo 340 (.i1 [.l aA]) (.i1 [.l .bool]) (M.pW N):=fz N [] [O,B 2 16] Tryz.func340
def M.dV(b:Int)(a:Int):Option Int:=
aiz (if(ai (a<1))then
aa af
else
aa (ai (12<a))) λc=>(if c then
aa 0
else
aiz (if(ai (a=2))then
aiz (M.pW N b) λd=>aa d
else
aa ah) λe=>(if e then
aa 29
else
aiz (idx ([31,28,31,30,31,30,31,31,30,31,30,31]:List Int) (aiB.wrap (a-1))) λf=>aa f))
def SD:Fo 309 (.i1 [.l aA, .l aA]) (.i1 [.l aA]) (u2 (M.dV N)):=fz N [aaf N] [O,T,B 10 16,T,B 16 16] Tryz.func309
def M.ki(b:Int):Option (Int×Int×Int):=
aiz (M.kh N b) λf=>(if(!f)then
aa (0,0,0)
else
aiz (Loop (S:=Int) (X:=Int) (λc=>aiz (M.fq N (aiB.wrap (c+1))) λg=>(if(ai (g<=b))then
aa (.inl (aiB.wrap (c+1)))
else
aa (.inr c))) N (aiB.wrap (1900+(aiB.wrap (aiR b 366)))):Option Int) λd=>aiz (M.fq N d) λh=>Loop (S:=Int×Int) (X:=Int×Int×Int) (λa=>(if(ai (a.2<12))then
aiz (M.dV N d (aiB.wrap (a.2+1))) λe=>(if(ai (a.1<e))then
aa (.inr (d,aiB.wrap (a.2+1),aiB.wrap (a.1+1)))
else
aa (.inl (aiB.wrap (a.1-e),aiB.wrap (a.2+1))))
else
aa (.inr (0,0,0)))) N (aiB.wrap (b-h),0))
def SE:Fo 268 (.i1 [.l aA]) (.i1 [.l aA, .l aA, .l aA]) (M.ki N):=fz N [SC N,VW N,SD N] [O,O,O,R ⟨[(5, .l aA)],[],[],160⟩,T,L 5 160,X,X,O,T,O,T,P ⟨[(6, .l aA),(26, .l aA)],[],[],256⟩] Tryz.func268
def M.kj(b:Int)(a:aB.den):Option (aB.den):=
(if(ai (b=10))then
aa (a.1,(0,aiB.wrap (0-a.2.2)))
else(if(ai (b=25))then
aiz (M.dD N (ai (a.2.2=0))) λd=>aa d
else
aiz (M.ki N a.2.2) λc=>(if(ai (b=31))then
aa (2,(0,c.1))
else
aa (2,(0,c.2.1)))))
def aag:Fo 201 (.i1 [.l aA, .g aB]) (.i1 [.g aB]) (u2 (M.kj N)):=fz N [VV N,SE N] [] Tryz.func201
def M.mD(a:Int)(b:Int):Option (Int×Int):=
aiz (M.eQ N (aiD.wrap (if a<(aiB.wrap (0-a))then(aiB.wrap (0-a))else a)) (aiD.wrap (if b<(aiB.wrap (0-b))then(aiB.wrap (0-b))else b))) λc=>aiz (if(!ai (c.1=0))then
aa af
else
aa (ai (1000000000000000<c.2))) λd=>(if d then
aa (0,3)
else(if(!ai ((ai (a<0))=(ai (b<0))))then
aa (aiB.wrap (0-(aiB.wrap c.2)),0)
else
aa (aiB.wrap c.2,0)))
def aah:Fo 310 (.i1 [.l aA, .l aA]) (.i1 [.l aA, .l aA]) (u2 (M.mD N)):=fz N [Pz N] [O,O,T,B 27 288] Tryz.func310
def M.mE(b:Int)(c:Int)(a:Int)(g:Int):Option (Int×Int):=
aiz (M.fK N g) λi=>(if(!i)then
aa (0,1)
else(if(ai (a=0))then
aa (0,12)
else
aiz (aiz (M.ee N b 1000000000000000) λj=>(if j then
aa af
else
aiz (M.ee N c 1000000000) λk=>(if k then
aa af
else
aiz (M.ee N a 1000000000) λl=>aa l)):Option Bool) λm=>(if m then
aa (0,3)
else
aiz (M.dP N b) λn=>aiz (M.dP N c) λo=>aiz (M.eQ N n o) λd=>aiz (M.dP N a) λe=>(if(ai (e<=d.1))then
aa (0,3)
else
aiz (M.dO N d.1 d.2 e) λf=>(if(ai (1000000000000000<f.1))then
aa (0,3)
else
aiz (M.eh N f.1 f.2 e (!ai ((!ai ((ai (b<0))=(ai (c<0))))=(ai (a<0)))) g) λh=>(if(ai (1000000000000000<h))then
aa (0,3)
else
aiz (M.kP N h (!ai ((!ai ((ai (b<0))=(ai (c<0))))=(ai (a<0))))) λp=>aa (p,0)))))))
def aai:Fo 341 (.i1 [.l aA, .l aA, .l aA, .l aA]) (.i1 [.l aA, .l aA]) (u4 (M.mE N)):=fz N [Pz N,Sz N,SA N,SB N,VS N,VT N,VU N] [O,O,O,T,B 30 112] Tryz.func341
def M.oU(b:Int)(c:Int)(d:Int):Option (Int×Int):=
aiz (M.mE N b c 1000000 d) λa=>aa (a.1,a.2)
def aaj:Fo 311 (.i1 [.l aA, .l aA, .l aA]) (.i1 [.l aA, .l aA]) (u3 (M.oU N)):=fz N [aai N] [] Tryz.func311
def M.kR(N:Nat)(a:Int):Option Bool:=
aiz (if(ai (0<=a))then
aa (ai (a<=5))
else
aa ah) λb=>aa b
def VX:Fo 342 (.i1 [.l aA]) (.i1 [.l .bool]) (M.kR N):=fz N [] [O,B 2 16] Tryz.func342
def M.iZ(N:Nat)(a:Int)(b:Int):Option Bool:=
aiz (if(ai (b<a))then
aa af
else
aa (ai (a<(aiB.wrap (0-b))))) λc=>aa c
def VY:Fo 343 (.i1 [.l aA, .l aA]) (.i1 [.l .bool]) (u2 (M.iZ N)):=fz N [] [O,B 4 16] Tryz.func343
def M.sJ(b:Int)(c:Int)(d:Int):Option (Int×Int):=
aiz (M.kR N d) λe=>(if(!e)then
aa (0,1)
else
aiz (aiz (M.iZ N b 1000000000) λf=>(if f then
aa af
else
aiz (M.iZ N c 1000000000) λg=>aa g):Option Bool) λh=>(if h then
aa (0,3)
else
aiz (M.fo N (aiB.wrap (b*c)) 1000000 d) λa=>(if(!ai (a.2=0))then
aa (0,a.2)
else
aiz (M.iZ N a.1 1000000000) λi=>(if i then
aa (0,3)
else
aa (a.1,0)))))
def aak:Fo 312 (.i1 [.l aA, .l aA, .l aA]) (.i1 [.l aA, .l aA]) (u3 (M.sJ N)):=fz N [PA N,VX N,VY N] [O,O,T,B 18 80] Tryz.func312
def M.lO(c:Int)(a:Int)(d:Int):Option (Int×Int):=
aiz (M.fK N d) λe=>(if(!e)then
aa (0,1)
else(if(ai (a<1))then
aa (0,12)
else
aiz (aiz (M.ee N c 1000000000000000) λf=>(if f then
aa af
else
aa (ai (1000000000000000<a))):Option Bool) λg=>(if g then
aa (0,3)
else
aiz (M.fo N c a d) λb=>(if(!ai (b.2=0))then
aa (0,b.2)
else
aiz (M.ee N (aiB.wrap (b.1*a)) 1000000000000000) λh=>(if h then
aa (0,3)
else
aa (aiB.wrap (b.1*a),0))))))
def aal:Fo 313 (.i1 [.l aA, .l aA, .l aA]) (.i1 [.l aA, .l aA]) (u3 (M.lO N)):=fz N [PA N,SA N,SB N] [O,O,O,T,B 20 112] Tryz.func313
def M.lP(N:Nat)(e:Int)(a:Int)(c:Int)(d:Bool)(b:Int):Option Bool:=
(if(ai (a=0))then
aa ah
else(if(ai (b=0))then
aa d
else(if(ai (b=1))then
aa (!d)
else(if(ai (b=3))then
aa af
else(if(ai (b=4))then
aa (ai ((aiD.wrap (c-a))<=a))
else(if(ai (b=5))then
aiz (if(ai ((aiD.wrap (c-a))<a))then
aa af
else(if(ai (a=(aiD.wrap (c-a))))then
aa (ai ((ai3 e 2)=1))
else
aa ah)) λf=>aa f
else
aa ah))))))
def aam:Fo 344 (.i1 [.l (.int .u64), .l (.int .u64), .l (.int .u64), .l .bool, .l aA]) (.i1 [.l .bool]) (u5 (M.lP N)):=fz N [] [O,O,T,O,T,O,O,O,O,O,O,O,O,O,T,B 10 224] Tryz.func344
def M.kS(b:Int)(a:Int)(f:Int):Option (Int×Int):=
aiz (M.kR N f) λg=>(if(!g)then
aa (0,1)
else(if(ai (a=0))then
aa (0,12)
else
aiz (aiz (M.iZ N b 1000000000000000) λh=>(if h then
aa af
else
aiz (M.iZ N a 1000000000000000) λi=>aa i):Option Bool) λj=>(if j then
aa (0,3)
else
aiz (M.eQ N (aiD.wrap (if b<(aiB.wrap (0-b))then(aiB.wrap (0-b))else b)) 1000000) λd=>(if(ai ((aiD.wrap (if a<(aiB.wrap (0-a))then(aiB.wrap (0-a))else a))<=d.1))then
aa (0,3)
else
aiz (M.dO N d.1 d.2 (aiD.wrap (if a<(aiB.wrap (0-a))then(aiB.wrap (0-a))else a))) λc=>(if(ai (1000000000<c.1))then
aa (0,3)
else
aiz (aiz (M.lP N c.1 c.2 (aiD.wrap (if a<(aiB.wrap (0-a))then(aiB.wrap (0-a))else a)) (!ai ((ai (b<0))=(ai (a<0)))) f) λk=>(if k then
aa (aiB.wrap ((aiB.wrap c.1)+1))
else
aa (aiB.wrap c.1)):Option Int) λe=>(if(ai (1000000000<e))then
aa (0,3)
else
aiz ((if(!ai ((ai (b<0))=(ai (a<0))))then
aa (aiB.wrap (0-e))
else
aa e):Option Int) λl=>aa (l,0)))))))
def aan:Fo 314 (.i1 [.l aA, .l aA, .l aA]) (.i1 [.l aA, .l aA]) (u3 (M.kS N)):=fz N [Pz N,Sz N,VX N,VY N,aam N] [O,O,O,T,B 25 112,O,O,O,O,O,O,O,R ⟨[(14, .l aA)],[],[],752⟩,X,O,R ⟨[(14, .l aA)],[],[],784⟩] Tryz.func314
def M.kD(b:az.den)(a:aB.den)(c:aB.den):Option (aB.den×Int):=
aiz ((if(ai (b.1=13))then
aiz (M.mD N a.2.2 c.2.2) λd=>aa (d.2,(a.1,(0,d.1)))
else
aiz (if(ai (b.1=14))then
aa (ai (a.1=3))
else
aa ah) λk=>(if k then
aiz (M.oU N a.2.2 c.2.2 b.2) λe=>aa (e.2,(a.1,(0,e.1)))
else(if(ai (b.1=14))then
aiz (M.sJ N a.2.2 c.2.2 b.2) λf=>aa (f.2,(a.1,(0,f.1)))
else(if(ai (b.1=16))then
aiz (M.lO N a.2.2 c.2.2 b.2) λg=>aa (g.2,(a.1,(0,g.1)))
else(if(ai (c.1=2))then
aiz (M.fo N a.2.2 c.2.2 b.2) λh=>aa (h.2,(a.1,(0,h.1)))
else
aiz (M.kS N a.2.2 c.2.2 b.2) λi=>aa (i.2,(4,(0,i.1)))))))):Option (Int×aB.den)) λj=>aa (j.2,j.1)
def aao:Fo 269 (.i1 [.g az, .g aB, .g aB]) (.i1 [.g aB, .l aA]) (u3 (M.kD N)):=fz N [PA N,aah N,aaj N,aak N,aal N,aan N] [O,O,T,R ⟨[(9, .l aA)],[(128, .box 40 (.leaf aB))],[],177⟩,O,O,B 38 240] Tryz.func269
def M.mF(a:Int)(c:Int)(d:Int):Option (Int×Int):=
aiz (if(ai (a<1900))then
aa af
else(if(ai (2199<a))then
aa af
else(if(ai (c<1))then
aa af
else(if(ai (12<c))then
aa af
else(if(ai (d<1))then
aa af
else
aiz (M.dV N a c) λe=>aa (ai (e<d))))))) λf=>(if f then
aa (0,3)
else
aiz (M.fq N a) λg=>aiz (Loop (S:=Int×Int) (X:=Int) (λb=>(if(ai (b.2<(aiB.wrap (c-1))))then
aiz (M.dV N a (aiB.wrap (b.2+1))) λh=>aa (.inl (aiB.wrap (b.1+h),aiB.wrap (b.2+1)))
else
aa (.inr b.1))) N (g,0):Option Int) λi=>aa (aiB.wrap ((aiB.wrap (i+d))-1),0))
def aap:Fo 315 (.i1 [.l aA, .l aA, .l aA]) (.i1 [.l aA, .l aA]) (u3 (M.mF N)):=fz N [VW N,SD N] [O,T,B 34 32,O,R ⟨[(8, .l aA)],[],[],80⟩,O,T,P ⟨[(8, .l aA),(39, .l aA)],[],[],128⟩] Tryz.func315
def M.ja(c:Int)(b:Int):Option (Int×Int):=
aiz (aiz (M.kh N c) λf=>(if(!f)then
aa af
else(if(ai (b<(-3600)))then
aa af
else
aa (ai (3600<b)))):Option Bool) λg=>(if g then
aa (0,3)
else
aiz (M.ki N c) λa=>aiz (if(ai ((aiB.wrap ((aiB.wrap ((aiB.wrap ((aiB.wrap ((aiB.wrap (a.1-1900))*12))+a.2.1))-1))+b))<0))then
aa af
else
aa (ai (3599<(aiB.wrap ((aiB.wrap ((aiB.wrap ((aiB.wrap ((aiB.wrap (a.1-1900))*12))+a.2.1))-1))+b))))) λh=>(if h then
aa (0,3)
else
aiz (M.dV N (aiB.wrap (1900+(aiB.wrap (aiR (aiB.wrap ((aiB.wrap ((aiB.wrap ((aiB.wrap ((aiB.wrap (a.1-1900))*12))+a.2.1))-1))+b)) 12)))) (aiB.wrap ((ai3 (aiB.wrap ((aiB.wrap ((aiB.wrap ((aiB.wrap ((aiB.wrap (a.1-1900))*12))+a.2.1))-1))+b)) 12)+1))) λd=>aiz (M.mF N (aiB.wrap (1900+(aiB.wrap (aiR (aiB.wrap ((aiB.wrap ((aiB.wrap ((aiB.wrap ((aiB.wrap (a.1-1900))*12))+a.2.1))-1))+b)) 12)))) (aiB.wrap ((ai3 (aiB.wrap ((aiB.wrap ((aiB.wrap ((aiB.wrap ((aiB.wrap (a.1-1900))*12))+a.2.1))-1))+b)) 12)+1)) (if d<a.2.2 then d else a.2.2)) λe=>aa (e.1,e.2)))
def VZ:Fo 270 (.i1 [.l aA, .l aA]) (.i1 [.l aA, .l aA]) (u2 (M.ja N)):=fz N [SE N,SC N,SD N,aap N] [O,T,B 20 32,O,O,T,B 40 320] Tryz.func270
def M.iC(a:Int)(b:Int):Option Int:=
aiz (aiz (M.kh N a) λg=>(if(!g)then
aa af
else
aiz (M.kh N b) λh=>(if(!h)then
aa af
else
aa (ai (b<a)))):Option Bool) λi=>(if i then
aa 0
else
aiz (M.ki N a) λc=>aiz (M.ki N b) λd=>aiz (aiz (M.ja N a (aiB.wrap (12*(aiB.wrap (d.1-c.1))))) λe=>aiz (if(!ai (e.2=0))then
aa af
else
aa (ai (b<e.1))) λj=>(if j then
aa (aiB.wrap ((aiB.wrap (d.1-c.1))-1))
else
aa (aiB.wrap (d.1-c.1))):Option Int) λf=>aa (if f<0 then 0 else f))
def aaq:Fo 271 (.i1 [.l aA, .l aA]) (.i1 [.l aA]) (u2 (M.iC N)):=fz N [SE N,VZ N,SC N] [O,T,B 26 16,O,O,O,R ⟨[(11, .l aA)],[],[],368⟩,O,B 55 512] Tryz.func271
def M.fR(a:az.den)(b:aB.den)(c:aB.den):Option (aB.den×Int):=
aiz (if(ai (a.1=11))then
aa (ai (a.1=11))
else
aa (ai (a.1=27))) λh=>(if h then
aa ((b.1,(0,aiB.wrap (b.2.2+c.2.2))),0)
else(if(ai (a.1=12))then
aa ((b.1,(0,aiB.wrap (b.2.2-c.2.2))),0)
else
aiz (if(ai (a.1=13))then
aa (ai (a.1=13))
else(if(ai (a.1=14))then
aa (ai (a.1=14))
else(if(ai (a.1=15))then
aa (ai (a.1=15))
else
aa (ai (a.1=16))))) λi=>(if i then
aiz (M.kD N a b c) λd=>aa (d.1,d.2)
else
aiz (if(ai (a.1=17))then
aa (ai (a.1=17))
else
aa (ai (a.1=18))) λj=>(if j then(if(ai ((ai (a.1=17))=(ai (c.2.2<b.2.2))))then
aa (c,0)
else
aa (b,0))
else(if(ai (a.1=19))then
aiz (M.dD N (ai (b.2.2=c.2.2))) λk=>aa (k,0)
else(if(ai (a.1=20))then
aiz (M.dD N (!ai (b.2.2=c.2.2))) λl=>aa (l,0)
else(if(ai (a.1=21))then
aiz (M.dD N (ai (b.2.2<c.2.2))) λm=>aa (m,0)
else(if(ai (a.1=22))then
aiz (M.dD N (ai (b.2.2<=c.2.2))) λn=>aa (n,0)
else(if(ai (a.1=23))then
aiz ((if(ai (b.2.2=1))then
aiz (M.dD N (ai (c.2.2=1))) λo=>aa (0,o)
else
aiz (M.dD N ah) λp=>aa (0,p)):Option (Int×aB.den)) λe=>aa (e.2,e.1)
else(if(ai (a.1=24))then
aiz ((if(ai (b.2.2=1))then
aiz (M.dD N af) λq=>aa (0,q)
else
aiz (M.dD N (ai (c.2.2=1))) λr=>aa (0,r)):Option (Int×aB.den)) λf=>aa (f.2,f.1)
else(if(ai (a.1=28))then
aiz (M.ja N b.2.2 c.2.2) λg=>aa ((5,(0,g.1)),g.2)
else(if(ai (a.1=29))then
aa ((2,(0,aiB.wrap (c.2.2-b.2.2))),0)
else
aiz (M.iC N b.2.2 c.2.2) λs=>aa ((2,(0,s)),0)))))))))))))
def aar:Fo 202 (.i1 [.g az, .g aB, .g aB]) (.i1 [.g aB, .l aA]) (u3 (M.fR N)):=fz N [VV N,aao N,VZ N,aaq N] [O,T,O,T,R ⟨[(12, .l .bool)],[],[],112⟩,X,O,O,O,R ⟨[(33, .l .bool)],[],[],144⟩,X,O,R ⟨[(44, .l .bool)],[],[],144⟩,X,O,O,O,O,O,O,O,O,O,O,T,R ⟨[(7, .l aA)],[(48, .box 40 (.leaf aB))],[],305⟩,X,X,O,T,R ⟨[(7, .l aA)],[(48, .box 40 (.leaf aB))],[],337⟩] Tryz.func202
def M.bY(a:az.den)(b:List aB.den)(c:eN.den):Option (aB.den×Int):=
aiz (if(ai (a.1=1))then
aa (ai (a.1=1))
else(if(ai (a.1=2))then
aa (ai (a.1=2))
else(if(ai (a.1=3))then
aa (ai (a.1=3))
else(if(ai (a.1=4))then
aa (ai (a.1=4))
else
aa (ai (a.1=5)))))) λi=>(if i then
aa ((a.1,(0,a.2)),0)
else(if(ai (a.1=6))then
aa ((6,(aiB.wrap (aiR a.2 16),ai3 a.2 16)),0)
else(if(ai (a.1=7))then
aiz (idx c.2.1 a.2) λj=>aa (j,0)
else(if(ai (a.1=8))then
aiz (idx c.2.2.1 a.2) λk=>aa (k,0)
else(if(ai (a.1=9))then
aa ((5,(0,c.1)),0)
else(if(ai (a.1=35))then
aa ((2,(0,(c.2.2.2.1.length:Int))),0)
else
aiz (if(ai (a.1=36))then
aa (ai (a.1=36))
else(if(ai (a.1=37))then
aa (ai (a.1=37))
else(if(ai (a.1=38))then
aa (ai (a.1=38))
else
aa (ai (a.1=39))))) λl=>(if l then
aiz (M.jv N a c) λe=>aa (e.1,e.2)
else(if(ai (a.1=33))then
aiz (idx c.2.2.2.2.2 a.2) λd=>aiz (idx b 0) λm=>aiz (M.kO N d c.1 m.2.2) λf=>(if(!f.2)then
aa ((0,(0,0)),6)
else
aiz (idx d.2.2.2 f.1) λn=>aa ((d.2.2.1.1,(d.2.2.1.2,n.2.2.2)),0))
else(if(ai (a.1=34))then
aiz (idx c.2.2.2.2.2 (aiB.wrap (aiR a.2 8))) λo=>aiz (idx b 0) λp=>aiz (M.iY N o c.1 p.2.2 (ai3 a.2 8)) λg=>aa ((3,(0,g.1)),g.2)
else(if(ai ((b.length:Int)=1))then
aiz (idx b 0) λq=>aiz (M.kj N a.1 q) λr=>aa (r,0)
else(if(ai ((b.length:Int)=2))then
aiz (idx b 0) λs=>aiz (idx b 1) λt=>aiz (M.fR N a s t) λh=>aa (h.1,h.2)
else
aiz (idx b 0) λu=>(if(ai (u.2.2=1))then
aiz (idx b 1) λv=>aa (v,0)
else
aiz (idx b 2) λw=>aa (w,0)))))))))))))
def aas:Fo 126 (.i1 [.g az, .l (.slice aB), .g eN]) (.i1 [.g aB, .l aA]) (u3 (M.bY N)):=fz N [Z6 N,Z8 N,aad N,aag N,aar N] [O,T,O,T,R ⟨[(15, .l .bool)],[],[],96⟩,X,O,O,O,O,O,O,O,O,O,O,O,B 62 256] Tryz.func126
def M.fu(a:az.den)(b:List aB.den)(d:eN.den):Option (aB.den×Int):=
aiz (aiz (M.dN N a) λe=>(if(!e)then
aa af
else
aiz (M.gj N a.1) λf=>aa (!ai ((b.length:Int)=f))):Option Bool) λg=>(if g then
aa ((0,(0,0)),2)
else
aiz (M.iW N a d) λh=>(if(!h)then
aa ((0,(0,0)),6)
else
aiz (aiz (M.eD N b) λi=>(if(!i)then
aa af
else
aiz (M.bW N a b d) λj=>aa (!j)):Option Bool) λk=>(if k then
aa ((0,(0,0)),8)
else
aiz (M.bY N a b d) λc=>(if(!ai (c.2=0))then
aa ((0,(0,0)),c.2)
else
aiz (M.cA N c.1) λl=>(if(!l)then
aa ((0,(0,0)),3)
else
aa (c.1,0))))))
def W79:Fo 79 (.i1 [.g az, .l (.slice aB), .g eN]) (.i1 [.g aB, .l aA]) (u3 (M.fu N)):=fz N [Ml N,ZZ N,Z0 N,Z1 N,Z5 N,aas N,Jx N] [O,T,B 20 64,O,T,B 36 128] Tryz.func79
mutual
def M.bQ(B:Nat):Nat->bK.den->Int->Option (aB.den×Int)
 |0,_,_=>ae
 |N+1,c,f=>
  aiz (idx c.1 f) λb=>
  aiz (M.eC B c f) λd=>
  aiz (if(ai (b.1=23))then
  aa (ai (b.1=23))
  else
  (if(ai (b.1=24))then
  aa (ai (b.1=24))
  else
  aa (ai (b.1=26)))) λi=>
  (if i then
  aiz (M.iz B N c b d) λg=>
  aa (g.1,g.2)
  else
  aiz (nu (d.length:Int) (0,(0,0))) λj=>
  b9 (J:=List aB.den) (R:=aB.den×Int) (Loop (S:=Int×List aB.den) (X:=(List aB.den)⊕(aB.den×Int)) (λa=>
  (if(ai (a.1<(d.length:Int)))then
  aiz (idx d a.1) λk=>
  aiz (M.bQ B N c k) λe=>
  (if(!ai (e.2=0))then
  aa (.inr (.inr ((0,(0,0)),e.2)))
  else
  aiz (idx a.2 a.1) λm=>
  aa (.inl (aiB.wrap (a.1+1),bg a.2 a.1 e.1)))
  else
  aa (.inr (.inl a.2)))) B (0,j)) λl=>
  aiz (M.fu B b l c.2.2) λh=>
  aa (h.1,h.2))
def M.iz(B:Nat):Nat->bK.den->az.den->(List Int)->Option (aB.den×Int)
 |0,_,_,_=>ae
 |N+1,b,c,d=>
  (if(!ai (c.2=0))then
  aa ((0,(0,0)),2)
  else
  aiz (idx d 0) λh=>
  aiz (M.dm B N b h) λa=>
  (if(!ai (a.2=0))then
  aa ((0,(0,0)),a.2)
  else
  aiz (if(ai (c.1=26))then
  aa (ai (a.1.2.2=1))
  else
  aa ah) λi=>
  (if i then
  aiz (idx d 1) λj=>
  aiz (M.bQ B N b j) λe=>
  aa (e.1,e.2)
  else
  (if(ai (c.1=26))then
  aiz (idx d 2) λk=>
  aiz (M.bQ B N b k) λf=>
  aa (f.1,f.2)
  else
  (if(ai ((ai (c.1=23))=(ai (a.1.2.2=0))))then
  aa (a.1,0)
  else
  aiz (idx d 1) λl=>
  aiz (M.dm B N b l) λg=>
  aa (g.1,g.2))))))
def M.dm(B:Nat):Nat->bK.den->Int->Option (aB.den×Int)
 |0,_,_=>ae
 |N+1,b,c=>
  aiz (M.bQ B N b c) λa=>
  (if(!ai (a.2=0))then
  aa ((0,(0,0)),a.2)
  else
  aiz (if(!ai (a.1.1=1))then
  aa af
  else
  aiz (M.cA B a.1) λd=>
  aa (!d)) λe=>
  (if e then
  aa ((0,(0,0)),8)
  else
  aa (a.1,0)))
end
def M.jD(a:bK.den)(b:Int):Option (aB.den×Int):=M.bQ N N a b
def S50:pj:=⟨.i1 [.g bK, .l aA], .i1 [.g aB, .l aA],u2 (M.jD N)⟩
def R50(B N:Nat):pj:={inn:=⟨[(0, .g bK),(1, .l aA)],[],[],0⟩,out:=⟨[(0, .g aB),(1, .l aA)],[],[],0⟩,fn:=λ(x:bK.den×Int)=>M.bQ B N x.1 x.2}
def R78(B N:Nat):pj:={inn:=⟨[(0, .g bK),(1, .g az),(2, .l (.slice aA))],[],[],0⟩,out:=⟨[(0, .g aB),(1, .l aA)],[],[],0⟩,fn:=λ(x:bK.den×az.den×List Int)=>M.iz B N x.1 x.2.1 x.2.2}
def aat(B N:Nat):pj:={inn:=⟨[(0, .g bK),(1, .l aA)],[],[],0⟩,out:=⟨[(0, .g aB),(1, .l aA)],[],[],0⟩,fn:=λ(x:bK.den×Int)=>M.dm B N x.1 x.2}
def Jy(B:Nat):∀N,gZ Tryz.prog 50 (R50 B N)/\gZ Tryz.prog 78 (R78 B N)/\gZ Tryz.prog 121 (aat B N)
 |0=>⟨AP Tryz.func50 (by kernel_rfl) (by kernel_rfl) λ_=>rfl,AP Tryz.func78 (by kernel_rfl) (by kernel_rfl) λ_=>rfl,AP Tryz.func121 (by kernel_rfl) (by kernel_rfl) λ_=>rfl⟩
 |N+1=>⟨fw (en [ck ((Jy B N).1),ck (W77 B),ck ((Jy B N).2.1),ck (W79 B)] ah ah) (N:=B) (.o (.o (.o (.two (.o (.two (.meet ⟨[(23, .l .bool)],[],[],256⟩ .nil .nil) .nil)) (.o (.join ⟨[],[(288, .own 40 aB)],[],321⟩ (.o (.two (.loop ⟨[(38, .l aA)],[(288, .own 40 aB)],[],369⟩ .nil) .nil)) .nil)))))) Tryz.func50 (by kernel_rfl) λx=>by kernel_rfl,
  fw (en [ck ((Jy B N).1),ck ((Jy B N).2.2)] ah ah) (N:=B) (.o (.o (.o (.o (.two (.two (.meet ⟨[(26, .l .bool)],[],[],320⟩ .nil .nil) .nil) .nil))))) Tryz.func78 (by kernel_rfl) λx=>by kernel_rfl,
  fw (en [ck ((Jy B N).1),ck (Jx B)] ah ah) (N:=B) (.o (.o (.o (.two (.meet ⟨[(25, .l .bool)],[],[],224⟩ .nil .nil) .nil)))) Tryz.func121 (by kernel_rfl) λx=>by kernel_rfl⟩
def W50(N:Nat):gZ Tryz.prog 50 (S50 N):=(Jy N N).1
def M.dW(a:List az.den)(d:eN.den):Option (aB.den×Int):=
aiz (M.nF N a) λb=>(if(!ai (b.1=0))then
aa ((0,(0,0)),b.1)
else
aiz (M.jD N (a,(b.2,d)) (aiB.wrap ((a.length:Int)-1))) λc=>aa (c.1,c.2))
def V0:Fo 24 (.i1 [.l (.slice az), .g eN]) (.i1 [.g aB, .l aA]) (u2 (M.dW N)):=fz N [W49 N,W50 N] [] Tryz.func24
def M.cQ(c:bE.den)(d:eN.den):Option (Int×Int×Int):=
(if(ai (8<(c.2.1.length:Int)))then
aa (0,8,4)
else
Loop (S:=Int×Int) (X:=Int×Int×Int) (λa=>(if(ai (a.2<(c.2.1.length:Int)))then
b9 (J:=Int) (R:=(Int×Int)⊕(Int×Int×Int)) (aiz (idx c.2.1 a.2) λe=>aiz (M.dW N e d) λb=>(if(!ai (b.2=0))then
aa (.inr (.inr (0,a.2,b.2)))
else(if(!ai (b.1.1=1))then
aa (.inr (.inr (0,a.2,8)))
else(if(ai (b.1.2.2=1))then
aiz (rA .i64 1 a.2) λf=>aa (.inl (aJ .or .i64 a.1 f))
else
aa (.inl a.1))))) λg=>aa (.inl (g,aiB.wrap (a.2+1)))
else
aa (.inr (a.1,(-1),0)))) N (0,0))
def W10:Fo 10 (.i1 [.g bE, .g eN]) (.i1 [.l aA, .l aA, .l aA]) (u2 (M.cQ N)):=fz N [V0 N] [O,O,O,T,O,T,P ⟨[(7, .l aA),(19, .l aA)],[],[],224⟩,O,O,T,J ⟨[(7, .l aA)],[],[],240⟩] Tryz.func10
def M.jK(N:Nat)(a:Int):Option Bool:=
aiz (if(ai (97<=a))then
aa (ai (a<=122))
else
aa ah) λb=>aa b
def V2:Fo 148 (.i1 [.l (.int .u8)]) (.i1 [.l .bool]) (M.jK N):=fz N [] [O,B 2 16] Tryz.func148
def M.lQ(N:Nat)(a:Int):Option Bool:=
aiz (if(ai (48<=a))then
aa (ai (a<=57))
else
aa ah) λb=>aa b
def aau:Fo 222 (.i1 [.l (.int .u8)]) (.i1 [.l .bool]) (M.lQ N):=fz N [] [O,B 2 16] Tryz.func222
def M.jw(b:ByteArray):Option Int:=
Loop (S:=Int) (X:=Int) (λa=>aiz (if(ai (a<(b.size:Int)))then
aiz (lr b a) λc=>aiz (M.jK N c) λd=>(if d then
aa af
else
aiz (lr b a) λe=>aiz (M.lQ N e) λf=>(if f then
aa af
else
aiz (lr b a) λg=>aa (ai (g=95))))
else
aa ah) λh=>(if h then
aa (.inl (aiB.wrap (a+1)))
else
aa (.inr a))) N 0
def aav:Fo 149 (.i1 [.l .str]) (.i1 [.l aA]) (M.jw N):=fz N [V2 N,aau N] [O,O,T,T,L 3 32,T,B 25 32] Tryz.func149
def M.kT(N:Nat)(a:ByteArray):Option Bool:=
aiz (if(ai (a=⟨#[105,102]⟩))then
aa (ai (a=⟨#[105,102]⟩))
else(if(ai (a=⟨#[116,104,101,110]⟩))then
aa (ai (a=⟨#[116,104,101,110]⟩))
else(if(ai (a=⟨#[101,108,115,101]⟩))then
aa (ai (a=⟨#[101,108,115,101]⟩))
else(if(ai (a=⟨#[111,114]⟩))then
aa (ai (a=⟨#[111,114]⟩))
else(if(ai (a=⟨#[97,110,100]⟩))then
aa (ai (a=⟨#[97,110,100]⟩))
else(if(ai (a=⟨#[110,111,116]⟩))then
aa (ai (a=⟨#[110,111,116]⟩))
else(if(ai (a=⟨#[116,114,117,101]⟩))then
aa (ai (a=⟨#[116,114,117,101]⟩))
else(if(ai (a=⟨#[102,97,108,115,101]⟩))then
aa (ai (a=⟨#[102,97,108,115,101]⟩))
else(if(ai (a=⟨#[116,111,100,97,121]⟩))then
aa (ai (a=⟨#[116,111,100,97,121]⟩))
else(if(ai (a=⟨#[115,104,97,114,101]⟩))then
aa (ai (a=⟨#[115,104,97,114,101]⟩))
else(if(ai (a=⟨#[100,105,118]⟩))then
aa (ai (a=⟨#[100,105,118]⟩))
else(if(ai (a=⟨#[114,111,117,110,100]⟩))then
aa (ai (a=⟨#[114,111,117,110,100]⟩))
else(if(ai (a=⟨#[109,105,110]⟩))then
aa (ai (a=⟨#[109,105,110]⟩))
else(if(ai (a=⟨#[109,97,120]⟩))then
aa (ai (a=⟨#[109,97,120]⟩))
else(if(ai (a=⟨#[112,108,117,115]⟩))then
aa (ai (a=⟨#[112,108,117,115]⟩))
else(if(ai (a=⟨#[109,111,110,116,104,115]⟩))then
aa (ai (a=⟨#[109,111,110,116,104,115]⟩))
else(if(ai (a=⟨#[100,97,121,115]⟩))then
aa (ai (a=⟨#[100,97,121,115]⟩))
else(if(ai (a=⟨#[121,101,97,114,115]⟩))then
aa (ai (a=⟨#[121,101,97,114,115]⟩))
else(if(ai (a=⟨#[121,101,97,114]⟩))then
aa (ai (a=⟨#[121,101,97,114]⟩))
else(if(ai (a=⟨#[109,111,110,116,104]⟩))then
aa (ai (a=⟨#[109,111,110,116,104]⟩))
else(if(ai (a=⟨#[116,97,98]⟩))then
aa (ai (a=⟨#[116,97,98]⟩))
else(if(ai (a=⟨#[98,97,110,100]⟩))then
aa (ai (a=⟨#[98,97,110,100]⟩))
else(if(ai (a=⟨#[99,111,117,110,116]⟩))then
aa (ai (a=⟨#[99,111,117,110,116]⟩))
else(if(ai (a=⟨#[115,117,109]⟩))then
aa (ai (a=⟨#[115,117,109]⟩))
else(if(ai (a=⟨#[97,108,108]⟩))then
aa (ai (a=⟨#[97,108,108]⟩))
else(if(ai (a=⟨#[97,110,121]⟩))then
aa (ai (a=⟨#[97,110,121]⟩))
else(if(ai (a=⟨#[109,111,115,116]⟩))then
aa (ai (a=⟨#[109,111,115,116]⟩))
else(if(ai (a=⟨#[101,110,117,109]⟩))then
aa (ai (a=⟨#[101,110,117,109]⟩))
else(if(ai (a=⟨#[116,97,98,108,101]⟩))then
aa (ai (a=⟨#[116,97,98,108,101]⟩))
else(if(ai (a=⟨#[114,111,119]⟩))then
aa (ai (a=⟨#[114,111,119]⟩))
else(if(ai (a=⟨#[115,99,111,112,101]⟩))then
aa (ai (a=⟨#[115,99,111,112,101]⟩))
else(if(ai (a=⟨#[109,101,109,98,101,114,115]⟩))then
aa (ai (a=⟨#[109,101,109,98,101,114,115]⟩))
else(if(ai (a=⟨#[105,110,112,117,116]⟩))then
aa (ai (a=⟨#[105,110,112,117,116]⟩))
else(if(ai (a=⟨#[100,101,102]⟩))then
aa (ai (a=⟨#[100,101,102]⟩))
else(if(ai (a=⟨#[114,117,108,101]⟩))then
aa (ai (a=⟨#[114,117,108,101]⟩))
else(if(ai (a=⟨#[111,102]⟩))then
aa (ai (a=⟨#[111,102]⟩))
else(if(ai (a=⟨#[111,118,101,114]⟩))then
aa (ai (a=⟨#[111,118,101,114]⟩))
else(if(ai (a=⟨#[112,114,105,111]⟩))then
aa (ai (a=⟨#[112,114,105,111]⟩))
else(if(ai (a=⟨#[102,114,111,109]⟩))then
aa (ai (a=⟨#[102,114,111,109]⟩))
else(if(ai (a=⟨#[116,111]⟩))then
aa (ai (a=⟨#[116,111]⟩))
else(if(ai (a=⟨#[101,110,100]⟩))then
aa (ai (a=⟨#[101,110,100]⟩))
else(if(ai (a=⟨#[119,104,101,110]⟩))then
aa (ai (a=⟨#[119,104,101,110]⟩))
else(if(ai (a=⟨#[105,115]⟩))then
aa (ai (a=⟨#[105,115]⟩))
else(if(ai (a=⟨#[115,114,99]⟩))then
aa (ai (a=⟨#[115,114,99]⟩))
else(if(ai (a=⟨#[98,111,111,108]⟩))then
aa (ai (a=⟨#[98,111,111,108]⟩))
else(if(ai (a=⟨#[105,110,116]⟩))then
aa (ai (a=⟨#[105,110,116]⟩))
else(if(ai (a=⟨#[109,111,110,101,121]⟩))then
aa (ai (a=⟨#[109,111,110,101,121]⟩))
else(if(ai (a=⟨#[114,97,116,101]⟩))then
aa (ai (a=⟨#[114,97,116,101]⟩))
else(if(ai (a=⟨#[100,97,116,101]⟩))then
aa (ai (a=⟨#[100,97,116,101]⟩))
else(if(ai (a=⟨#[100,111,119,110]⟩))then
aa (ai (a=⟨#[100,111,119,110]⟩))
else(if(ai (a=⟨#[117,112]⟩))then
aa (ai (a=⟨#[117,112]⟩))
else(if(ai (a=⟨#[122,101,114,111]⟩))then
aa (ai (a=⟨#[122,101,114,111]⟩))
else(if(ai (a=⟨#[97,119,97,121]⟩))then
aa (ai (a=⟨#[97,119,97,121]⟩))
else(if(ai (a=⟨#[104,97,108,102]⟩))then
aa (ai (a=⟨#[104,97,108,102]⟩))
else
aa (ai (a=⟨#[101,118,101,110]⟩)))))))))))))))))))))))))))))))))))))))))))))))))))))))) λb=>(if b then
aa af
else
aa ah)
def aaw:Fo 150 (.i1 [.l .str]) (.i1 [.l .bool]) (M.kT N):=fz N [] [O,T,O,T,B 4 32] Tryz.func150
def M.cd(a:ByteArray):Option Bool:=
aiz (if(!ai (a=⟨#[]⟩))then
aiz (lr a 0) λb=>aiz (M.jK N b) λc=>(if c then
aiz (M.jw N a) λd=>(if(ai (d=(a.size:Int)))then(if(ai ((a.size:Int)<=16))then
aiz (M.kT N a) λe=>aa (!e)
else
aa ah)
else
aa ah)
else
aa ah)
else
aa ah) λf=>aa f
def V3:Fo 90 (.i1 [.l .str]) (.i1 [.l .bool]) (M.cd N):=fz N [V2 N,aav N,aaw N] [O,B 2 16] Tryz.func90
def M.kU(N:Nat)(b:dL.den)(a:ByteArray):Option (Bool×ByteArray):=
aa (ai (b.1=a),a)
def SF:Fo 152 (.j1 [.g dL, .ptr 0 [] 0] [.box 9 (.leaf .str)] 1) (.j1 [.l .bool] [.box 9 (.leaf .str)] 2) (u2 (M.kU N)):=fz N [] [] Tryz.func152
def M.bz(c:List dL.den)(d:ByteArray):Option (Int×ByteArray):=
Loop (S:=Int×ByteArray) (X:=Int×ByteArray) (λa=>(if(ai (a.1<(c.length:Int)))then
aiz (idx c a.1) λe=>aiz (M.kU N e a.2) λb=>(if b.1 then
aa (.inr (a.1,b.2))
else
aa (.inl (aiB.wrap (a.1+1),b.2)))
else
aa (.inr ((-1),a.2)))) N (0,d)
def SG:Fo 223 (.j1 [.l (.slice dL), .fn 152 [(0,[],0)]] [.box 9 (.leaf .str)] 1) (.j1 [.l aA] [.box 9 (.leaf .str)] 2) (u2 (M.bz N)):=fz N [SF N] [O,T,O,T,P ⟨[(8, .l aA)],[(0, .box 9 (.leaf .str))],[],66⟩] Tryz.func223
def M.bO(b:List dL.den)(c:ByteArray):Option (Bool×ByteArray):=
aiz (M.bz N b c) λa=>aa (ai (0<=a.1),a.2)
def SH:Fo 151 (.j1 [.l (.slice dL), .fn 152 [(0,[],0)]] [.box 9 (.leaf .str)] 1) (.j1 [.l .bool] [.box 9 (.leaf .str)] 2) (u2 (M.bO N)):=fz N [SG N] [] Tryz.func151
def M.jb(a:List dL.den)(b:ByteArray):Option Bool:=
aiz (M.bO N a b) λc=>aa c.1
def W91:Fo 91 (.i1 [.l (.slice dL), .l .str]) (.i1 [.l .bool]) (u2 (M.jb N)):=fz N [SH N] [] Tryz.func91
def M.dE(b:List ByteArray)(c:ByteArray):Option Int:=
Loop (S:=Int) (X:=Int) (λa=>(if(ai (a<(b.length:Int)))then
aiz (idx b a) λd=>(if(ai (c=d))then
aa (.inr a)
else
aa (.inl (aiB.wrap (a+1))))
else
aa (.inr (-1)))) N 0
def aay:Fo 220 (.i1 [.l (.slice .str), .l .str]) (.i1 [.l aA]) (u2 (M.dE N)):=fz N [] [O,T,O,T,L 8 64] Tryz.func220
def M.db(a:List ByteArray)(b:ByteArray):Option Bool:=
aiz (M.dE N a b) λc=>aa (ai (0<=c))
def aaz:Fo 143 (.i1 [.l (.slice .str), .l .str]) (.i1 [.l .bool]) (u2 (M.db N)):=fz N [aay N] [] Tryz.func143
def M.lR(d:cT.den)(e:Int)(a:dL.den):Option (Int×Int):=
aiz (M.cd N a.1) λf=>(if(!f)then
aa (2,0)
else
aiz (gI d.1 0 e) λg=>aiz (M.jb N g a.1) λh=>(if h then
aa (7,0)
else(if(ai ((a.2.length:Int)=0))then
aa (5,0)
else(if(ai (16<(a.2.length:Int)))then
aa (4,116)
else
Loop (S:=Int) (X:=Int×Int) (λb=>(if(ai (b<(a.2.length:Int)))then
aiz (idx a.2 b) λc=>aiz (M.cd N c) λi=>(if(!i)then
aa (.inr (2,aiB.wrap (100+b)))
else
aiz (gI a.2 0 b) λj=>aiz (M.db N j c) λk=>(if k then
aa (.inr (7,aiB.wrap (100+b)))
else
aa (.inl (aiB.wrap (b+1)))))
else
aa (.inr (0,0)))) N 0))))
def W88:Fo 88 (.i1 [.g cT, .l aA, .g dL]) (.i1 [.l aA, .l aA]) (u3 (M.lR N)):=fz N [V3 N,W91 N,aaz N] [O,O,T,O,T,L 36 496] Tryz.func88
def M.kV(b:cT.den):Option (aI.den):=
(if(ai (8<(b.1.length:Int)))then
aa (4,(1,(8,0)))
else
b9 (J:=Unit) (R:=aI.den) (Loop (S:=Int) (X:=Unit⊕(aI.den)) (λa=>(if(ai (a<(b.1.length:Int)))then
aiz (idx b.1 a) λd=>aiz (M.lR N b a d) λc=>(if(!ai (c.1=0))then
aa (.inr (.inr (c.1,(1,(a,c.2)))))
else
aa (.inl (aiB.wrap (a+1))))
else
aa (.inr (.inl ())))) N 0) λe=>aa (0,(0,(0,0))))
def W55:Fo 55 (.i1 [.g cT]) (.i1 [.g aI]) (M.kV N):=fz N [W88 N] [O,O,E 96,O,T,L 15 160] Tryz.func55
def M.cm(N:Nat)(a:az.den)(b:List dL.den):Option Bool:=
aiz (if(ai (a.1=1))then
aa (ai (a.1=1))
else(if(ai (a.1=2))then
aa (ai (a.1=2))
else(if(ai (a.1=3))then
aa (ai (a.1=3))
else(if(ai (a.1=4))then
aa (ai (a.1=4))
else
aa (ai (a.1=5)))))) λc=>(if c then
aa (ai (a.2=0))
else(if(ai (a.1=6))then
aiz (if(ai (0<=a.2))then
aa (ai (a.2<(b.length:Int)))
else
aa ah) λd=>aa d
else
aa ah))
def Mm:Fo 144 (.i1 [.g az, .l (.slice dL)]) (.i1 [.l .bool]) (u2 (M.cm N)):=fz N [] [O,T,O,T,R ⟨[(7, .l .bool)],[],[],64⟩,X,O,O,T,B 4 96] Tryz.func144
def M.fS(a:az.den)(b:List dL.den):Option (Int×Int):=
aiz (M.cm N a b) λc=>(if(!c)then
aa (0,(-1))
else(if(ai (a.1=1))then
aa (0,1)
else(if(ai (a.1=2))then
aa ((-1000000000000),1000000000000)
else(if(ai (a.1=3))then
aa ((-1000000000000000),1000000000000000)
else(if(ai (a.1=4))then
aa ((-1000000000),1000000000)
else(if(ai (a.1=5))then
aa (0,109572)
else
aiz (idx b a.2) λd=>aa (0,aiB.wrap ((d.2.length:Int)-1))))))))
def W94:Fo 94 (.i1 [.g az, .l (.slice dL)]) (.i1 [.l aA, .l aA]) (u2 (M.fS N)):=fz N [Mm N] [] Tryz.func94
def M.iD(a:az.den):Option Bool:=
aiz (aiz (M.eP N a) λb=>(if b then
aa (ai (a.1<a.2))
else
aa ah):Option Bool) λc=>aa c
def aaB:Fo 281 (.i1 [.g az]) (.i1 [.l .bool]) (M.iD N):=fz N [Su N] [O,B 2 32] Tryz.func281
def M.jE(a:az.den)(b:az.den):Option (az.den×Bool):=
aiz (aiz (M.iD N a) λc=>(if(!c)then
aa af
else
aiz (M.iD N b) λd=>aa (!d)):Option Bool) λe=>(if e then
aa ((0,0),ah)
else(if(ai ((if b.2<a.2 then b.2 else a.2)<=(if a.1<b.1 then b.1 else a.1)))then
aa ((0,0),ah)
else
aa ((if a.1<b.1 then b.1 else a.1,if b.2<a.2 then b.2 else a.2),af)))
def aaC:Fo 221 (.i1 [.g az, .g az]) (.i1 [.g az, .l .bool]) (u2 (M.jE N)):=fz N [aaB N] [O,T,B 14 64] Tryz.func221
def M.kW(a:jJ.den)(b:jJ.den):Option Bool:=
aiz (M.jE N a.1 b.1) λc=>aiz (if c.2 then
aa (ai ((if a.2.1<b.2.1 then b.2.1 else a.2.1)<(if b.2.2.1<a.2.2.1 then b.2.2.1 else a.2.2.1)))
else
aa ah) λd=>aa d
def aaD:Fo 147 (.i1 [.g jJ, .g jJ]) (.i1 [.l .bool]) (u2 (M.kW N)):=fz N [aaC N] [O,O,B 4 224] Tryz.func147
def M.jc(b:jJ.den)(a:jJ.den):Option (Bool×jJ.den):=
aiz (M.kW N b a) λc=>aa (c,a)
def SI:Fo 146 (.j1 [.g jJ, .ptr 0 [] 0] [.box 224 (.leaf jJ)] 1) (.j1 [.l .bool] [.box 224 (.leaf jJ)] 2) (u2 (M.jc N)):=fz N [aaD N] [] Tryz.func146
def M.cn(c:List jJ.den)(d:jJ.den):Option (Int×Bool×jJ.den):=
Loop (S:=Int×jJ.den) (X:=Int×Bool×jJ.den) (λa=>(if(ai (a.1<(c.length:Int)))then
aiz (idx c a.1) λe=>aiz (M.jc N e a.2) λb=>(if b.1 then
aa (.inr (a.1,af,b.2))
else
aa (.inl (aiB.wrap (a.1+1),b.2)))
else
aa (.inr (0,ah,a.2)))) N (0,d)
def SJ:Fo 145 (.j1 [.l (.slice jJ), .fn 146 [(0,[],0)]] [.box 224 (.leaf jJ)] 1) (.j1 [.l aA, .l .bool] [.box 224 (.leaf jJ)] 2) (u2 (M.cn N)):=fz N [SI N] [O,T,O,T,P ⟨[(10, .l aA)],[(0, .box 224 (.leaf jJ))],[],82⟩] Tryz.func145
def M.kX(b:aT.den)(d:List dL.den):Option (Int×Int):=
(if(ai (64<(b.2.2.2.length:Int)))then
aa (64,4)
else
aiz (aiz (M.cm N b.2.1 d) λg=>(if(!g)then
aa af
else
aiz (M.cm N b.2.2.1 d) λh=>aa (!h)):Option Bool) λi=>(if i then
aa ((-1),8)
else
aiz (M.fS N b.2.1 d) λe=>aiz (M.fS N b.2.2.1 d) λf=>Loop (S:=Int) (X:=Int×Int) (λc=>(if(ai (c<(b.2.2.2.length:Int)))then
aiz (idx b.2.2.2 c) λa=>aiz (aiz (M.eP N a.1) λj=>(if(!j)then
aa af
else(if(ai (a.1.1=a.1.2))then
aa af
else
aa (ai (a.2.2.1<=a.2.1)))):Option Bool) λk=>(if k then
aa (.inr (c,3))
else
aiz (if(ai (a.2.1<e.1))then
aa af
else(if(ai (e.2<a.2.1))then
aa af
else(if(ai ((aiB.wrap (a.2.2.1-1))<e.1))then
aa af
else
aa (ai (e.2<(aiB.wrap (a.2.2.1-1))))))) λl=>(if l then
aa (.inr (c,3))
else
aiz (if(ai (a.2.2.2<f.1))then
aa af
else
aa (ai (f.2<a.2.2.2))) λm=>(if m then
aa (.inr (c,3))
else
aiz (gI b.2.2.2 0 c) λn=>aiz (M.cn N n a) λo=>(if o.2.1 then
aa (.inr (c,11))
else
aa (.inl (aiB.wrap (c+1)))))))
else
aa (.inr (0,0)))) N 0))
def W89:Fo 89 (.i1 [.g aT, .l (.slice dL)]) (.i1 [.l aA, .l aA]) (u2 (M.kX N)):=fz N [W94 N,Su N,Mm N,SJ N] [O,O,T,B 29 112,O,O,T,O,T,L 47 464,O,O,T,T,O,T,B 71 576,T,B 96 576,T,B 107 576] Tryz.func89
def M.kl(N:Nat)(b:aT.den)(a:ByteArray):Option (Bool×ByteArray):=
aa (ai (b.1=a),a)
def SK:Fo 154 (.j1 [.g aT, .ptr 0 [] 0] [.box 9 (.leaf .str)] 1) (.j1 [.l .bool] [.box 9 (.leaf .str)] 2) (u2 (M.kl N)):=fz N [] [] Tryz.func154
def M.bq(c:List aT.den)(d:ByteArray):Option (Int×ByteArray):=
Loop (S:=Int×ByteArray) (X:=Int×ByteArray) (λa=>(if(ai (a.1<(c.length:Int)))then
aiz (idx c a.1) λe=>aiz (M.kl N e a.2) λb=>(if b.1 then
aa (.inr (a.1,b.2))
else
aa (.inl (aiB.wrap (a.1+1),b.2)))
else
aa (.inr ((-1),a.2)))) N (0,d)
def SL:Fo 224 (.j1 [.l (.slice aT), .fn 154 [(0,[],0)]] [.box 9 (.leaf .str)] 1) (.j1 [.l aA] [.box 9 (.leaf .str)] 2) (u2 (M.bq N)):=fz N [SK N] [O,T,O,T,P ⟨[(8, .l aA)],[(0, .box 9 (.leaf .str))],[],66⟩] Tryz.func224
def M.bJ(b:List aT.den)(c:ByteArray):Option (Bool×ByteArray):=
aiz (M.bq N b c) λa=>aa (ai (0<=a.1),a.2)
def SM:Fo 153 (.j1 [.l (.slice aT), .fn 154 [(0,[],0)]] [.box 9 (.leaf .str)] 1) (.j1 [.l .bool] [.box 9 (.leaf .str)] 2) (u2 (M.bJ N)):=fz N [SL N] [] Tryz.func153
def M.jx(a:List aT.den)(b:ByteArray):Option Bool:=
aiz (M.bJ N a b) λc=>aa c.1
def W92:Fo 92 (.i1 [.l (.slice aT), .l .str]) (.i1 [.l .bool]) (u2 (M.jx N)):=fz N [SM N] [] Tryz.func92
def M.jT(b:cT.den):Option (aI.den):=
(if(ai (8<(b.2.1.length:Int)))then
aa (4,(2,(8,0)))
else
b9 (J:=Unit) (R:=aI.den) (Loop (S:=Int) (X:=Unit⊕(aI.den)) (λa=>(if(ai (a<(b.2.1.length:Int)))then
aiz (idx b.2.1 a) λd=>aiz (M.kX N d b.1) λc=>aiz (aiz (M.cd N d.1) λf=>(if(!f)then
aa (2,(2,(a,0)))
else
aiz (aiz (M.jb N b.1 d.1) λg=>(if g then
aa af
else
aiz (gI b.2.1 0 a) λh=>aiz (M.jx N h d.1) λi=>aa i):Option Bool) λj=>(if j then
aa (7,(2,(a,0)))
else(if(!ai (c.2=0))then(if(!ai (c.1=(-1)))then
aa (c.2,(2,(a,aiB.wrap (100+c.1))))
else
aa (c.2,(2,(a,0))))
else
aa (0,(2,(a,0)))))):Option (aI.den)) λe=>(if(!ai (e.1=0))then
aa (.inr (.inr e))
else
aa (.inl (aiB.wrap (a+1))))
else
aa (.inr (.inl ())))) N 0) λk=>aa (0,(0,(0,0))))
def W56:Fo 56 (.i1 [.g cT]) (.i1 [.g aI]) (M.jT N):=fz N [W89 N,V3 N,W91 N,W92 N] [O,O,E 96,O,T,L 16 160,O,O,T,T,O,O,O,T,R ⟨[],[(304, .box 90 (.leaf aI))],[],481⟩,O,O,B 36 560] Tryz.func56
def M.jd(N:Nat)(b:bF.den)(a:bF.den):Option (Bool×bF.den):=
aa (ai (b.1=a.1),a)
def SN:Fo 226 (.j1 [.g bF, .ptr 0 [] 0] [.box 94 (.leaf bF)] 1) (.j1 [.l .bool] [.box 94 (.leaf bF)] 2) (u2 (M.jd N)):=fz N [] [] Tryz.func226
def M.br(c:List bF.den)(d:bF.den):Option (Int×bF.den):=
Loop (S:=Int×bF.den) (X:=Int×bF.den) (λa=>(if(ai (a.1<(c.length:Int)))then
aiz (idx c a.1) λe=>aiz (M.jd N e a.2) λb=>(if b.1 then
aa (.inr (a.1,b.2))
else
aa (.inl (aiB.wrap (a.1+1),b.2)))
else
aa (.inr ((-1),a.2)))) N (0,d)
def SO:Fo 282 (.j1 [.l (.slice bF), .fn 226 [(0,[],0)]] [.box 94 (.leaf bF)] 1) (.j1 [.l aA] [.box 94 (.leaf bF)] 2) (u2 (M.br N)):=fz N [SN N] [O,T,O,T,P ⟨[(8, .l aA)],[(0, .box 94 (.leaf bF))],[],66⟩] Tryz.func282
def M.aW(b:List bF.den)(c:bF.den):Option (Bool×bF.den):=
aiz (M.br N b c) λa=>aa (ai (0<=a.1),a.2)
def SP:Fo 227 (.j1 [.l (.slice bF), .fn 226 [(0,[],0)]] [.box 94 (.leaf bF)] 1) (.j1 [.l .bool] [.box 94 (.leaf bF)] 2) (u2 (M.aW N)):=fz N [SO N] [] Tryz.func227
def M.je(e:cT.den)(b:bF.den)(f:List bF.den)(g:List bF.den):Option Int:=
aiz (M.cd N b.1) λh=>(if(!h)then
aa 2
else
aiz (aiz (M.aW N f b) λa=>(if a.1 then
aa (af,a.2)
else
aiz (M.aW N g a.2) λc=>aa (c.1,c.2)):Option (Bool×bF.den)) λd=>(if d.1 then
aa 7
else
aiz (M.cm N d.2.2 e.1) λi=>(if(!i)then
aa 8
else
aa 0)))
def aaE:Fo 157 (.i1 [.g cT, .g bF, .l (.slice bF), .l (.slice bF)]) (.i1 [.l aA]) (u4 (M.je N)):=fz N [V3 N,Mm N,SP N] [O,O,T,T,O,O,R ⟨[(16, .l .bool)],[(16, .box 94 (.leaf bF))],[],161⟩] Tryz.func157
def M.kY(b:List bF.den):Option (List az.den):=
Loop (S:=Int×List az.den) (X:=List az.den) (λa=>(if(ai (a.1<(b.length:Int)))then
aiz (idx b a.1) λc=>aiz (cz a.2 ([c.2]:List az.den)) λd=>aa (.inl (aiB.wrap (a.1+1),d))
else
aa (.inr a.2))) N (0,([]:List az.den))
def aaF:Fo 228 (.i1 [.l (.slice bF)]) (.w1 74 az) (M.kY N):=fz N [] [O,O,T,O,T,P ⟨[(3, .val ah (.own 80)),(8, .l aA)],[(80, .own 74 az)],[],81⟩] Tryz.func228
def M.jF(a:cT.den)(f:Int):Option ((List dL.den)×(List aT.den)×Bool×(List az.den)×(List az.den)×List az.den):=
aiz (idx a.2.2 f) λc=>aiz (M.kY N c.2.2.1) λd=>aiz (M.kY N c.2.2.2.1) λe=>aiz (aiz (if(ai (0<=c.2.1))then
aa (ai (c.2.1<(a.2.2.length:Int)))
else
aa ah) λg=>(if g then
aiz (idx a.2.2 c.2.1) λh=>aiz (M.kY N h.2.2.2.1) λi=>aa (d,e,a.1,a.2.1,af,i)
else
aa (d,e,a.1,a.2.1,ah,([]:List az.den))):Option ((List az.den)×(List az.den)×(List dL.den)×(List aT.den)×Bool×List az.den)) λb=>aa (b.2.2.1,b.2.2.2.1,b.2.2.2.2.1,b.1,b.2.1,b.2.2.2.2.2)
def aaG:Fo 158 (.i1 [.g cT, .l aA]) (.j1 [.val af (.pair (.leaf (.slice dL)) (.pair (.leaf (.slice aT)) (.pair (.own 0) (.pair (.own 1) (.pair (.own 2) (.leaf .bool))))))] [.own 74 az, .own 74 az, .own 74 az] 3) (u2 (M.jF N)):=fz N [aaF N] [O,O,O,R ⟨[],[(240, .own 74 az),(288, .own 74 az),(320, .box 237 (.pair (.leaf (.slice dL)) (.pair (.leaf (.slice aT)) (.pair (.own 240) (.pair (.own 288) (.pair (.own 352) (.leaf .bool))))))),(352, .own 74 az)],[],356⟩,B 33 352] Tryz.func158
def M.strings_Contains(N:Nat)(a:ByteArray)(b:ByteArray):Option Bool:=qP (a,b)
def aaH:pj:=⟨.i1 [.l .str, .l .str], .i1 [.l .bool],u2 (M.strings_Contains N)⟩
def aaI(N:Nat):gZ Tryz.prog 284 (aaH N):=CZ ⟨_,Tryz.func284,by kernel_rfl,by kernel_rfl⟩ Tryz.strings_Contains_one
def M.jU(a:ByteArray):Option Bool:=
aiz (if(ai (64<(a.size:Int)))then
aa af
else
aiz (M.strings_Contains N a (⟨#[34]⟩:ByteArray)) λc=>aa c) λd=>(if d then
aa ah
else
Loop (S:=Int) (X:=Bool) (λb=>(if(ai (b<(a.size:Int)))then
aiz (aiz (lr a b) λe=>(if(ai (e<32))then
aa af
else
aiz (lr a b) λf=>aa (ai (126<f))):Option Bool) λg=>(if g then
aa (.inr ah)
else
aa (.inl (aiB.wrap (b+1))))
else
aa (.inr af))) N 0)
def aaJ:Fo 231 (.i1 [.l .str]) (.i1 [.l .bool]) (M.jU N):=fz N [aaI N] [O,T,B 10 16,T,O,T,L 13 64,O,O,T,T,O,B 25 112] Tryz.func231
def M.cF(a:Int)(b:Int)(d:bI.den):Option (az.den×Int):=
aiz (M.fS N (b,0) d.1) λc=>aiz (if(ai (a<c.1))then
aa af
else
aa (ai (c.2<a))) λe=>(if e then
aa ((0,0),3)
else
aa ((b,0),0))
def aaK:Fo 346 (.i1 [.l aA, .l aA, .g bI]) (.i1 [.g az, .l aA]) (u3 (M.cF N)):=fz N [W94 N] [O,O,T,O,B 27 256] Tryz.func346
def M.bR(N:Nat)(a:Int)(b:bI.den):Option (az.den×Int):=
(if(ai (a<0))then
aa ((0,0),3)
else
aiz (if(ai ((b.1.length:Int)<=(aiB.wrap (aiR a 16))))then
aa af
else
aiz (idx b.1 (aiB.wrap (aiR a 16))) λc=>aa (ai ((c.2.length:Int)<=(ai3 a 16)))) λd=>(if d then
aa ((0,0),6)
else
aa ((6,aiB.wrap (aiR a 16)),0)))
def aaL:Fo 347 (.i1 [.l aA, .g bI]) (.i1 [.g az, .l aA]) (u2 (M.bR N)):=fz N [] [O,O,O,T,B 30 176] Tryz.func347
def M.dQ(a:Int)(b:List az.den)(c:bI.den):Option (az.den×Int):=
aiz (if(ai (a<0))then
aa af
else
aa (ai ((b.length:Int)<=a))) λd=>(if d then
aa ((0,0),6)
else
aiz (idx b a) λe=>aiz (M.cm N e c.1) λf=>(if(!f)then
aa ((0,0),8)
else
aiz (idx b a) λg=>aa (g,0)))
def V4:Fo 348 (.i1 [.l aA, .l (.slice az), .g bI]) (.i1 [.g az, .l aA]) (u3 (M.dQ N)):=fz N [Mm N] [O,T,B 15 48] Tryz.func348
def M.fx(N:Nat)(a:Int):Option Bool:=
aiz (if(ai (0<=a))then
aa (ai (a<=5))
else
aa ah) λb=>aa b
def V5:Fo 351 (.i1 [.l aA]) (.i1 [.l .bool]) (M.fx N):=fz N [] [O,B 2 16] Tryz.func351
def M.gz(a:az.den)(f:az.den)(b:bI.den):Option (az.den×Int):=
b9 (J:=Int) (R:=az.den×Int) ((if(ai (a.1=34))then
aiz (if(ai (a.2<0))then
aa af
else
aiz (M.fx N (ai3 a.2 8)) λg=>aa (!g)) λh=>(if h then
aa (.inr ((0,0),3))
else
aa (.inl (aiB.wrap (aiR a.2 8))))
else
aa (.inl a.2))) λc=>aiz (if(ai (c<0))then
aa af
else
aa (ai ((b.2.1.length:Int)<=c))) λi=>(if i then
aa ((0,0),6)
else
aiz (idx b.2.1 c) λd=>aiz (idx b.2.1 c) λe=>aiz (aiz (M.cm N d.2.1 b.1) λj=>(if(!j)then
aa af
else
aiz (M.cm N e.2.2.1 b.1) λk=>(if(!k)then
aa af
else
aa (!(lA az f d.2.1)))):Option Bool) λl=>(if l then
aa ((0,0),8)
else(if(ai (a.1=34))then
aiz (if(!ai (d.2.1.1=3))then
aa af
else
aa (!ai (e.2.2.1.1=4))) λm=>(if m then
aa ((0,0),8)
else
aa (d.2.1,0))
else
aa (e.2.2.1,0))))
def aaM:Fo 349 (.i1 [.g az, .g az, .g bI]) (.i1 [.g az, .l aA]) (u3 (M.gz N)):=fz N [Mm N,V5 N] [O,O,J ⟨[(8, .l aA)],[],[],128⟩,O,T,T,B 25 176,X,X,T,B 38 128,O,T,B 68 384,T,O,T,T,B 80 432] Tryz.func349
def M.dC(N:Nat)(a:Int):Option Bool:=
aiz (if(ai (a=2))then
aa af
else(if(ai (a=3))then
aa af
else
aa (ai (a=4)))) λb=>aa b
def V6:Fo 367 (.i1 [.l aA]) (.i1 [.l .bool]) (M.dC N):=fz N [] [O,B 2 16] Tryz.func367
def M.bB(b:az.den)(c:bI.den):Option (az.den×Int):=
(if(!c.2.2.2.2.2)then
aa ((0,0),6)
else(if(ai (b.1=35))then
aa ((2,0),0)
else
aiz (M.dQ N b.2 c.2.2.2.2.1 c) λa=>(if(!ai (a.2=0))then
aa ((0,0),a.2)
else
aiz (if(ai (b.1=36))then(if(ai (a.1.1=2))then
aa af
else
aa (ai (a.1.1=3)))
else
aiz (if(ai (b.1=37))then
aa (ai (b.1=37))
else
aa (ai (b.1=38))) λd=>(if d then
aa (ai (a.1.1=1))
else(if(ai (b.1=39))then
aiz (M.dC N a.1.1) λe=>(if e then
aa af
else
aa (ai (a.1.1=5)))
else
aa ah))) λf=>(if(!f)then
aa ((0,0),8)
else
aa (a.1,0)))))
def aaN:Fo 350 (.i1 [.g az, .g bI]) (.i1 [.g az, .l aA]) (u2 (M.bB N)):=fz N [V4 N,V6 N] [O,O,O,O,O,O,T,O,R ⟨[(8, .l .bool)],[],[],432⟩,O,O,B 42 464] Tryz.func350
def M.gA(N:Nat)(c:Int)(a:Int)(b:Int):Option (az.den×Bool):=
(if(ai (c=14))then
aiz ((if(ai (b=4))then(if(ai (a=3))then
aa (af,(a,0))
else
aa (ai (a=4),(a,0)))
else
aa (ah,(a,0))):Option (Bool×az.den)) λd=>aa (d.2,d.1)
else(if(ai (b=2))then
aiz ((if(ai (a=2))then
aa (af,(a,0))
else
aa (ai (a=3),(a,0))):Option (Bool×az.den)) λe=>aa (e.2,e.1)
else
aiz (if(ai (c=15))then(if(ai (a=3))then
aa (ai (b=3))
else
aa ah)
else
aa ah) λf=>(if f then
aa ((4,0),af)
else
aa ((0,0),ah))))
def aaO:Fo 368 (.i1 [.l aA, .l aA, .l aA]) (.i1 [.g az, .l .bool]) (u3 (M.gA N)):=fz N [] [O,T,T,O,T,R ⟨[(7, .l .bool)],[(0, .box 74 (.leaf az))],[],81⟩,X,X,O,T,R ⟨[(7, .l .bool)],[(0, .box 74 (.leaf az))],[],129⟩,X,X,B 34 128] Tryz.func368
def M.cB(b:Int)(a:List az.den):Option (az.den×Bool):=
(if(ai (b=10))then
aiz (idx a 0) λq=>aiz (idx a 0) λr=>aiz (M.dC N r.1) λs=>aa (q,s)
else(if(ai (b=25))then
aiz (idx a 0) λt=>aa ((1,0),ai (t.1=1))
else
aiz (if(ai (b=11))then
aa (ai (b=11))
else
aa (ai (b=12))) λu=>(if u then
aiz (aiz (idx a 0) λd=>aiz (idx a 0) λv=>aiz (idx a 1) λw=>(if(lA az v w)then
aiz (idx a 0) λx=>aiz (M.dC N x.1) λy=>aa (y,d)
else
aa (ah,d)):Option (Bool×az.den)) λe=>aa (e.2,e.1)
else
aiz (if(ai (b=13))then
aa (ai (b=13))
else(if(ai (b=14))then
aa (ai (b=14))
else
aa (ai (b=15)))) λz=>(if z then
aiz (idx a 0) λA=>aiz (idx a 1) λC=>aiz (M.gA N b A.1 C.1) λf=>aa (f.1,f.2)
else(if(ai (b=16))then
aiz (aiz (idx a 0) λg=>aiz (idx a 0) λD=>(if(ai (D.1=3))then
aiz (idx a 1) λF=>aa (ai (F.1=3),g)
else
aa (ah,g)):Option (Bool×az.den)) λh=>aa (h.2,h.1)
else
aiz (if(ai (b=17))then
aa (ai (b=17))
else
aa (ai (b=18))) λG=>(if G then
aiz (aiz (idx a 0) λc=>aiz (idx a 0) λH=>aiz (idx a 1) λI=>(if(lA az H I)then
aiz (idx a 0) λQ=>aiz (M.dC N Q.1) λU=>(if U then
aa (af,c)
else
aiz (idx a 0) λV=>aa (ai (V.1=5),c))
else
aa (ah,c)):Option (Bool×az.den)) λi=>aa (i.2,i.1)
else
aiz (if(ai (b=19))then
aa (ai (b=19))
else
aa (ai (b=20))) λW=>(if W then
aiz (idx a 0) λY=>aiz (idx a 1) λZ=>aa ((1,0),(lA az Y Z))
else
aiz (if(ai (b=21))then
aa (ai (b=21))
else
aa (ai (b=22))) λj31=>(if j31 then
aiz (aiz (idx a 0) λQ3=>aiz (idx a 1) λV7=>(if(lA az Q3 V7)then
aiz (idx a 0) λx35=>aiz (M.dC N x35.1) λy36=>(if y36 then
aa (af,(1,0))
else
aiz (idx a 0) λx37=>aa (ai (x37.1=5),(1,0)))
else
aa (ah,(1,0))):Option (Bool×az.den)) λj=>aa (j.2,j.1)
else
aiz (if(ai (b=23))then
aa (ai (b=23))
else
aa (ai (b=24))) λj38=>(if j38 then
aiz (aiz (idx a 0) λx40=>(if(ai (x40.1=1))then
aiz (idx a 1) λx41=>aa (ai (x41.1=1),(1,0))
else
aa (ah,(1,0))):Option (Bool×az.den)) λk=>aa (k.2,k.1)
else(if(ai (b=26))then
aiz (aiz (idx a 1) λl=>aiz (idx a 0) λx44=>(if(ai (x44.1=1))then
aiz (idx a 1) λx45=>aiz (idx a 2) λx46=>aa ((lA az x45 x46),l)
else
aa (ah,l)):Option (Bool×az.den)) λm=>aa (m.2,m.1)
else
aiz (if(ai (b=27))then
aa (ai (b=27))
else
aa (ai (b=28))) λj47=>(if j47 then
aiz (aiz (idx a 0) λn=>aiz (idx a 0) λx50=>(if(ai (x50.1=5))then
aiz (idx a 1) λx51=>aa (ai (x51.1=2),n)
else
aa (ah,n)):Option (Bool×az.den)) λo=>aa (o.2,o.1)
else
aiz (if(ai (b=29))then
aa (ai (b=29))
else
aa (ai (b=30))) λj52=>(if j52 then
aiz (aiz (idx a 0) λx54=>(if(ai (x54.1=5))then
aiz (idx a 1) λx55=>aa (ai (x55.1=5),(2,0))
else
aa (ah,(2,0))):Option (Bool×az.den)) λp=>aa (p.2,p.1)
else
aiz (if(ai (b=31))then
aa (ai (b=31))
else
aa (ai (b=32))) λj56=>(if j56 then
aiz (idx a 0) λx57=>aa ((2,0),ai (x57.1=5))
else
aa ((0,0),ah))))))))))))))
def aaP:Fo 352 (.i1 [.l aA, .l (.slice az)]) (.i1 [.g az, .l .bool]) (u2 (M.cB N)):=fz N [V6 N,aaO N] [O,O,T,O,T,O,O,O,O,R ⟨[(27, .l .bool)],[],[],160⟩,X,T,R ⟨[(5, .l .bool)],[(0, .box 74 (.leaf az))],[],161⟩,X,X,R ⟨[(47, .l .bool)],[],[],160⟩,X,O,O,T,R ⟨[(5, .l .bool)],[(0, .box 74 (.leaf az))],[],193⟩,X,X,R ⟨[(80, .l .bool)],[],[],192⟩,X,T,R ⟨[(5, .l .bool)],[(0, .box 74 (.leaf az))],[],193⟩,X,X,R ⟨[(107, .l .bool)],[],[],192⟩,X,O,R ⟨[(118, .l .bool)],[],[],192⟩,X,T,R ⟨[(5, .l .bool)],[(0, .box 74 (.leaf az))],[],193⟩,X,X,R ⟨[(143, .l .bool)],[],[],192⟩,X,T,R ⟨[(5, .l .bool)],[(0, .box 74 (.leaf az))],[],193⟩,X,X,O,T,R ⟨[(5, .l .bool)],[(0, .box 74 (.leaf az))],[],225⟩,X,X,R ⟨[(178, .l .bool)],[],[],224⟩,X,T,R ⟨[(5, .l .bool)],[(0, .box 74 (.leaf az))],[],225⟩,X,X,R ⟨[(196, .l .bool)],[],[],224⟩,X,T,R ⟨[(5, .l .bool)],[(0, .box 74 (.leaf az))],[],225⟩,X,X,B 212 224] Tryz.func352
def M.aY(a:az.den)(c:List az.den)(b:bI.den):Option (az.den×Int):=
b9 (J:=Unit) (R:=az.den×Int) ((if(ai (a.1=1))then
aiz (M.cF N a.2 1 b) λd=>aa (.inr (d.1,d.2))
else(if(ai (a.1=2))then
aiz (M.cF N a.2 2 b) λe=>aa (.inr (e.1,e.2))
else(if(ai (a.1=3))then
aiz (M.cF N a.2 3 b) λf=>aa (.inr (f.1,f.2))
else(if(ai (a.1=4))then
aiz (M.cF N a.2 4 b) λg=>aa (.inr (g.1,g.2))
else(if(ai (a.1=5))then
aiz (M.cF N a.2 5 b) λh=>aa (.inr (h.1,h.2))
else(if(ai (a.1=6))then
aiz (M.bR N a.2 b) λi=>aa (.inr (i.1,i.2))
else(if(ai (a.1=7))then
aiz (M.dQ N a.2 b.2.2.1 b) λj=>aa (.inr (j.1,j.2))
else(if(ai (a.1=8))then
aiz (M.dQ N a.2 b.2.2.2.1 b) λk=>aa (.inr (k.1,k.2))
else(if(ai (a.1=9))then
aa (.inr ((5,0),0))
else
aiz (if(ai (a.1=33))then
aa (ai (a.1=33))
else
aa (ai (a.1=34))) λo=>(if o then
aiz (idx c 0) λp=>aiz (M.gz N a p b) λl=>aa (.inr (l.1,l.2))
else
aiz (if(ai (a.1=35))then
aa (ai (a.1=35))
else(if(ai (a.1=36))then
aa (ai (a.1=36))
else(if(ai (a.1=37))then
aa (ai (a.1=37))
else(if(ai (a.1=38))then
aa (ai (a.1=38))
else
aa (ai (a.1=39)))))) λq=>(if q then
aiz (M.bB N a b) λm=>aa (.inr (m.1,m.2))
else
aiz (if(ai (a.1=14))then
aa (ai (a.1=14))
else(if(ai (a.1=15))then
aa (ai (a.1=15))
else
aa (ai (a.1=16)))) λr=>(if r then
aiz (M.fx N a.2) λs=>(if(!s)then
aa (.inr ((0,0),3))
else
aa (.inl ()))
else
aa (.inl ())))))))))))))) λt=>aiz (M.cB N a.1 c) λn=>(if(!n.2)then
aa ((0,0),8)
else
aa (n.1,0))
def aaQ:Fo 317 (.i1 [.g az, .l (.slice az), .g bI]) (.i1 [.g az, .l aA]) (u3 (M.aY N)):=fz N [aaK N,aaL N,V4 N,aaM N,aaN N,V5 N,aaP N] [O,T,O,E 96,O,O,O,O,O,O,O,O,O,O,O,O,O,O,O,O,O,O,R ⟨[(83, .l .bool)],[],[],384⟩,X,O,R ⟨[(94, .l .bool)],[],[],384⟩,X,O,B 105 384] Tryz.func317
def M.gL(c:List az.den)(g:bI.den):Option (az.den×Int×Int):=
aiz (M.fm N c) λd=>(if(!ai (d.2.1=0))then
aa ((0,0),d.1,d.2.1)
else
b9 (J:=List az.den) (R:=az.den×Int×Int) (Loop (S:=Int×List az.den) (X:=(List az.den)⊕(az.den×Int×Int)) (λa=>(if(ai (a.1<(c.length:Int)))then
aiz (idx c a.1) λb=>aiz (if(!ai (b.2=0))then
aiz (M.gP N b.1) λh=>aa (!h)
else
aa ah) λi=>(if i then
aa (.inr (.inr ((0,0),a.1,2)))
else
aiz (M.gj N b.1) λf=>aiz (gI a.2 (aiB.wrap ((a.2.length:Int)-f)) (a.2.length:Int)) λj=>aiz (M.aY N b j g) λe=>(if(!ai (e.2=0))then
aa (.inr (.inr ((0,0),a.1,e.2)))
else
aiz (gI a.2 0 (aiB.wrap ((a.2.length:Int)-f))) λk=>aiz (cz k ([e.1]:List az.den)) λl=>aa (.inl (aiB.wrap (a.1+1),l))))
else
aa (.inr (.inl a.2)))) N (0,([]:List az.den))) λm=>aiz (idx m 0) λn=>aa (n,0,0))
def aaR:Fo 285 (.i1 [.l (.slice az), .g bI]) (.i1 [.g az, .l aA, .l aA]) (u2 (M.gL N)):=fz N [W76 N,Ml N,VO N,aaQ N] [O,O,O,O,J ⟨[(10, .val ah (.own 256))],[(256, .own 74 az)],[],257⟩,O,T,P ⟨[(10, .val ah (.own 304)),(29, .l aA)],[(304, .own 74 az)],[],305⟩,O,O,T,T,O,T,B 42 417] Tryz.func285
def M.gn(b:List az.den)(c:bI.den)(d:az.den):Option Int:=
aiz (M.gL N b c) λa=>(if(!ai (a.2.2=0))then
aa a.2.2
else(if(!(lA az a.1 d))then
aa 8
else
aa 0))
def aaS:Fo 232 (.i1 [.l (.slice az), .g bI, .g az]) (.i1 [.l aA]) (u3 (M.gn N)):=fz N [aaR N] [] Tryz.func232
def M.jG(N:Nat)(b:da.den)(a:da.den):Option (Bool×da.den):=
aa (ai (b.1=a.1),a)
def SQ:Fo 230 (.j1 [.g da, .ptr 0 [] 0] [.box 113 (.leaf da)] 1) (.j1 [.l .bool] [.box 113 (.leaf da)] 2) (u2 (M.jG N)):=fz N [] [] Tryz.func230
def M.bA(c:List da.den)(d:da.den):Option (Int×da.den):=
Loop (S:=Int×da.den) (X:=Int×da.den) (λa=>(if(ai (a.1<(c.length:Int)))then
aiz (idx c a.1) λe=>aiz (M.jG N e a.2) λb=>(if b.1 then
aa (.inr (a.1,b.2))
else
aa (.inl (aiB.wrap (a.1+1),b.2)))
else
aa (.inr ((-1),a.2)))) N (0,d)
def SR:Fo 283 (.j1 [.l (.slice da), .fn 230 [(0,[],0)]] [.box 113 (.leaf da)] 1) (.j1 [.l aA] [.box 113 (.leaf da)] 2) (u2 (M.bA N)):=fz N [SQ N] [O,T,O,T,P ⟨[(8, .l aA)],[(0, .box 113 (.leaf da))],[],66⟩] Tryz.func283
def M.bn(b:List da.den)(c:da.den):Option (Bool×da.den):=
aiz (M.bA N b c) λa=>aa (ai (0<=a.1),a.2)
def SU:Fo 229 (.j1 [.l (.slice da), .fn 230 [(0,[],0)]] [.box 113 (.leaf da)] 1) (.j1 [.l .bool] [.box 113 (.leaf da)] 2) (u2 (M.bn N)):=fz N [SR N] [] Tryz.func229
def M.jL(b:aP.den)(d:Int)(f:bI.den):Option Int:=
aiz (idx b.2.2.2.2 d) λe=>aiz (aiz (gI b.2.2.2.2 0 d) λg=>Loop (S:=Int×Int) (X:=Int) (λc=>(if(ai (c.2<(g.length:Int)))then
aiz (aiz (idx g c.2) λi=>(if(ai (i.2.1=e.2.1))then
aa (aiB.wrap (c.1+1))
else
aa c.1):Option Int) λj=>aa (.inl (j,aiB.wrap (c.2+1)))
else
aa (.inr c.1))) N (0,0):Option Int) λk=>aiz (M.cd N e.1) λl=>(if(!l)then
aa 2
else
aiz (gI b.2.2.2.2 0 d) λm=>aiz (M.bn N m e) λa=>(if a.1 then
aa 7
else
aiz (if(ai (a.2.2.1<0))then
aa af
else
aa (ai ((b.2.2.2.1.length:Int)<=a.2.2.1))) λn=>(if n then
aa 6
else
aiz (if(!ai (a.2.2.2.1=(-1)))then(if(ai (a.2.2.2.1<0))then
aa af
else(if(ai (d<=a.2.2.2.1))then
aa af
else
aiz (idx b.2.2.2.2 a.2.2.2.1) λo=>aa (!ai (o.2.1=a.2.2.1))))
else
aa ah) λp=>(if p then
aa 9
else
aiz (if(ai (a.2.2.2.2.1<0))then
aa af
else
aa (ai (9<a.2.2.2.2.1))) λq=>(if q then
aa 3
else
aiz (if(ai (a.2.2.2.2.2.1.1<0))then
aa af
else(if(ai (a.2.2.2.2.2.1.2<=a.2.2.2.2.2.1.1))then
aa af
else
aa (ai (109573<a.2.2.2.2.2.1.2)))) λr=>(if r then
aa 3
else(if(ai (8<=k))then
aa 4
else
aiz (M.jU N a.2.2.2.2.2.2.2.2) λs=>(if(!s)then
aa 2
else
b9 (J:=Unit) (R:=Int) ((if(ai (0<(a.2.2.2.2.2.2.1.length:Int)))then
aiz (M.gn N a.2.2.2.2.2.2.1 f (1,0)) λh=>(if(!ai (h=0))then
aa (.inr h)
else
aa (.inl ()))
else
aa (.inl ()))) λv=>aiz (idx b.2.2.2.1 a.2.2.1) λt=>aiz (M.gn N a.2.2.2.2.2.2.2.1 f t.2) λu=>aa u))))))))
def aaT:Fo 159 (.i1 [.g aP, .l aA, .g bI]) (.i1 [.l aA]) (u3 (M.jL N)):=fz N [V3 N,SU N,aaJ N,aaS N] [O,O,O,R ⟨[(8, .l aA)],[],[],176⟩,O,T,P ⟨[(8, .l aA),(22, .l aA)],[],[],272⟩,O,O,T,R ⟨[(8, .l aA)],[],[],288⟩,X,X,X,X,T,T,O,O,O,O,R ⟨[(46, .l .bool)],[],[],368⟩,X,O,R ⟨[(58, .l .bool)],[],[],368⟩,X,O,R ⟨[(85, .l .bool)],[],[],368⟩,X,O,B 94 368,X,E 496] Tryz.func159
def M.fT(b:List Int)(c:Int):Option Int:=
Loop (S:=Int) (X:=Int) (λa=>(if(ai (a<(b.length:Int)))then
aiz (idx b a) λd=>(if(ai (c=d))then
aa (.inr a)
else
aa (.inl (aiB.wrap (a+1))))
else
aa (.inr (-1)))) N 0
def aaU:Fo 233 (.i1 [.l (.slice aA), .l aA]) (.i1 [.l aA]) (u2 (M.fT N)):=fz N [] [O,T,O,T,L 8 64] Tryz.func233
def M.eE(a:List Int)(b:Int):Option Bool:=
aiz (M.fT N a b) λc=>aa (ai (0<=c))
def aaV:Fo 160 (.i1 [.l (.slice aA), .l aA]) (.i1 [.l .bool]) (u2 (M.eE N)):=fz N [aaU N] [] Tryz.func160
def M.dJ(N:Nat)(a:List Int):Option (List Int):=CY a
def aaW:pj:=⟨.w1 3 aA, .j1 [] [.own 3 aA] 2,M.dJ N⟩
def V8(N:Nat):gZ Tryz.prog 236 (aaW N):=Px ⟨_,Tryz.func236,by kernel_rfl,by kernel_rfl⟩ Tryz.slices_Sort_int Tryz.slices_Sort_int_none
def M.cW(N:Nat)(a:List Int):Option (List Int):=pV a
def aaX:pj:=⟨.w1 3 aA,⟨[(0, .val ah (.own 1))],[(1, .own 3 aA)],[],2⟩,M.cW N⟩
def V9(N:Nat):gZ Tryz.prog 237 (aaX N):=FE ⟨_,Tryz.func237,by kernel_rfl,by kernel_rfl⟩ Tryz.slices_Compact_int Tryz.slices_Compact_int_empty
def M.gB(a:List Int):Option (List Int):=
aiz (M.dJ N a) λb=>aiz (M.cW N b) λc=>aa c
def SV:Fo 286 (.w1 3 aA) ⟨[(0, .val ah (.own 1))],[(1, .own 3 aA)],[],2⟩ (M.gB N):=fz N [V8 N,V9 N] [] Tryz.func286
def M.ic(e:List az.den):Option ((List Int)×(List Int)×List Int):=
aiz (Loop (S:=Int×(List Int)×(List Int)×List Int) (X:=(List Int)×(List Int)×List Int) (λa=>(if(ai (a.1<(e.length:Int)))then
aiz (idx e a.1) λb=>aiz ((if(ai (b.1=7))then
aiz (cz a.2.1 ([b.2]:List Int)) λf=>aa (f,a.2.2.1,a.2.2.2)
else(if(ai (b.1=8))then
aiz (cz a.2.2.1 ([b.2]:List Int)) λg=>aa (a.2.1,g,a.2.2.2)
else
aiz (if(ai (b.1=36))then
aa (ai (b.1=36))
else(if(ai (b.1=37))then
aa (ai (b.1=37))
else(if(ai (b.1=38))then
aa (ai (b.1=38))
else
aa (ai (b.1=39))))) λh=>(if h then
aiz (cz a.2.2.2 ([b.2]:List Int)) λi=>aa (a.2.1,a.2.2.1,i)
else
aa (a.2.1,a.2.2.1,a.2.2.2)))):Option ((List Int)×(List Int)×List Int)) λc=>aa (.inl (aiB.wrap (a.1+1),c.1,c.2.1,c.2.2))
else
aa (.inr (a.2.1,a.2.2.1,a.2.2.2)))) N (0,([]:List Int),([]:List Int),([]:List Int)):Option ((List Int)×(List Int)×List Int)) λd=>aiz (M.gB N d.1) λj=>aiz (M.gB N d.2.1) λk=>aiz (M.gB N d.2.2) λl=>aa (j,k,l)
def aaY:Fo 235 (.i1 [.l (.slice az)]) (.j1 [.val ah (.own 0), .val ah (.own 1), .val ah (.own 2)] [.own 3 aA, .own 3 aA, .own 3 aA] 3) (M.ic N):=fz N [SV N] [O,O,R ⟨[(5, .val ah (.own 96)),(6, .val ah (.own 97)),(7, .val ah (.own 98))],[(96, .own 3 aA),(97, .own 3 aA),(98, .own 3 aA)],[],99⟩,O,T,P ⟨[(5, .val ah (.own 144)),(6, .val ah (.own 145)),(7, .val ah (.own 146)),(12, .l aA)],[(144, .own 3 aA),(145, .own 3 aA),(146, .own 3 aA)],[],147⟩,O,O,T,T,O,O,R ⟨[(5, .val ah (.own 259)),(6, .val ah (.own 260)),(7, .val ah (.own 261))],[(259, .own 3 aA),(260, .own 3 aA),(261, .own 3 aA)],[144,145,146],262⟩,O,O,O,O,B 32 323] Tryz.func235
def M.fy(e:da.den)(f:Int):Option (List Int):=
aiz (M.ic N e.2.2.2.2.2.1) λg=>aiz (M.ic N e.2.2.2.2.2.2.1) λh=>aiz (Loop (S:=Int×List Int) (X:=List Int) (λa=>(if(ai (a.1<(g.2.1.length:Int)))then
aiz (aiz (idx g.2.1 a.1) λc=>aiz (if(ai (0<=c))then
aa (ai (c<f))
else
aa ah) λi=>(if i then
aiz (cz a.2 ([c]:List Int)) λj=>aa j
else
aa a.2):Option (List Int)) λk=>aa (.inl (aiB.wrap (a.1+1),k))
else
aa (.inr a.2))) N (0,([]:List Int)):Option (List Int)) λl=>Loop (S:=Int×List Int) (X:=List Int) (λb=>(if(ai (b.1<(h.2.1.length:Int)))then
aiz (aiz (idx h.2.1 b.1) λd=>aiz (if(ai (0<=d))then
aa (ai (d<f))
else
aa ah) λm=>(if m then
aiz (cz b.2 ([d]:List Int)) λn=>aa n
else
aa b.2):Option (List Int)) λo=>aa (.inl (aiB.wrap (b.1+1),o))
else
aa (.inr b.2))) N (0,l)
def Wa:Fo 162 (.i1 [.g da, .l aA]) (.w1 3 aA) (u2 (M.fy N)):=fz N [aaY N] [O,O,O,O,R ⟨[(5, .val ah (.own 368))],[(368, .own 3 aA)],[],369⟩,O,T,P ⟨[(5, .val ah (.own 416)),(32, .l aA)],[(416, .own 3 aA)],[],417⟩,O,O,T,R ⟨[(5, .val ah (.own 433))],[(433, .own 3 aA)],[416],434⟩,O,B 42 481,X,X,X,T,O,T,P ⟨[(5, .val ah (.own 417)),(50, .l aA)],[(417, .own 3 aA)],[368],418⟩,O,O,T,R ⟨[(5, .val ah (.own 434))],[(434, .own 3 aA)],[417],435⟩,O,B 60 482] Tryz.func162
def M.iE(a:List Int):Option (List Int):=
aiz (M.dJ N a) λb=>aiz (M.cW N b) λc=>aa c
def Mn:Fo 163 (.w1 3 aA) ⟨[(0, .val ah (.own 1))],[(1, .own 3 aA)],[],2⟩ (M.iE N):=fz N [V8 N,V9 N] [] Tryz.func163
def M.jh(d:aP.den):Option (List (List Int)):=
aiz (nu (d.2.2.2.1.length:Int) ([]:List Int)) λf=>aiz (Loop (S:=Int×List (List Int)) (X:=List (List Int)) (λb=>(if(ai (b.1<(d.2.2.2.2.length:Int)))then
aiz (aiz (idx d.2.2.2.2 b.1) λc=>aiz (if(ai (0<=c.2.1))then
aa (ai (c.2.1<(b.2.length:Int)))
else
aa ah) λg=>(if g then
aiz (idx b.2 c.2.1) λn=>aiz (idx b.2 c.2.1) λh=>aiz (M.fy N c (b.2.length:Int)) λi=>aiz (cz h i) λj=>aiz (idx b.2 c.2.1) λo=>(if ai (c.2.1=c.2.1)then
aiz (idx b.2 c.2.1) λp=>aa (sy b.2 c.2.1 (λq=>j))
else ae)
else
aa b.2):Option (List (List Int))) λk=>aa (.inl (aiB.wrap (b.1+1),k))
else
aa (.inr b.2))) N (0,f):Option (List (List Int))) λe=>Loop (S:=Int×List (List Int)) (X:=List (List Int)) (λa=>(if(ai (a.1<(e.length:Int)))then
aiz (idx a.2 a.1) λr=>aiz (idx a.2 a.1) λl=>aiz (M.iE N l) λm=>aiz (idx a.2 a.1) λs=>(if ai (a.1=a.1)then
aiz (idx a.2 a.1) λt=>aa (.inl (aiB.wrap (a.1+1),sy a.2 a.1 (λu=>m)))
else ae)
else
aa (.inr a.2))) N (0,e)
def S95:pj:=⟨.i1 [.g aP], .j1 [.val ah (.own 0)] [.deep 23 (.sl 3 (.leaf aA))] 1,M.jh N⟩
def W95(N:Nat):gZ Tryz.prog 95 (S95 N):=fw (en [ck (Wa N),ck (Mn N)] af ah) (N:=N) (.o (.o (.meet ⟨[],[(80, .deep 23 (.sl 3 (.leaf aA)))],[],113⟩ (.o (.two (.loop ⟨[(15, .l aA)],[(80, .deep 23 (.sl 3 (.leaf aA)))],[],177⟩ (.o (.o (.two (.meet ⟨[],[(80, .deep 23 (.sl 3 (.leaf aA)))],[],194⟩ (.o (.meet ⟨[(28, .l .bool)],[],[],257⟩ .nil .nil)) .nil) .nil)))) .nil)) (.two (.o (.two (.loop ⟨[(46, .l aA)],[(80, .deep 23 (.sl 3 (.leaf aA)))],[],162⟩ .nil) .nil)) .nil)))) Tryz.func95 (by kernel_rfl) λx=>by kernel_rfl
def M.mG(e:List (List Int))(i:Int):Option (List Int):=
aiz (nu (e.length:Int) ah) λj=>aiz (Loop (S:=(List Bool)×List Int) (X:=List Bool) (λc=>(if(ai (0<(c.2.length:Int)))then
aiz (idx c.2 0) λk=>aiz (gI c.2 1 (c.2.length:Int)) λl=>aiz (idx e k) λf=>Loop (S:=Int×(List Bool)×List Int) (X:=((List Bool)×List Int)⊕(List Bool)) (λa=>(if(ai (a.1<(f.length:Int)))then
aiz (aiz (idx f a.1) λd=>aiz (idx a.2.1 d) λm=>(if(!m)then
aiz (idx a.2.1 d) λr=>aiz (cz a.2.2 ([d]:List Int)) λn=>aa (bg a.2.1 d af,n)
else
aa (a.2.1,a.2.2)):Option ((List Bool)×List Int)) λg=>aa (.inl (aiB.wrap (a.1+1),g.1,g.2))
else
aa (.inr (.inl (a.2.1,a.2.2))))) N (0,c.1,l)
else
aa (.inr c.1))) N (j,([i]:List Int)):Option (List Bool)) λh=>Loop (S:=Int×List Int) (X:=List Int) (λb=>(if(ai (b.1<(h.length:Int)))then
aiz (aiz (idx h b.1) λo=>(if o then
aiz (cz b.2 ([b.1]:List Int)) λp=>aa p
else
aa b.2):Option (List Int)) λq=>aa (.inl (aiB.wrap (b.1+1),q))
else
aa (.inr b.2))) N (0,([]:List Int))
def aaZ:pj:=⟨.i1 [.l (.slice (.slice aA)), .l aA], .w1 3 aA,u2 (M.mG N)⟩
def aa0(N:Nat):gZ Tryz.prog 234 (aaZ N):=fw (en [] ah af) (N:=N) (.o (.o (.o (.meet ⟨[],[(48, .own 4 .bool)],[96],129⟩ (.two (.loop ⟨[(6, .val ah (.own 128))],[(48, .own 4 .bool),(128, .own 3 aA)],[96],130⟩ (.o (.two (.o (.o (.o (.two (.loop ⟨[(6, .val ah (.own 386)),(31, .l aA)],[(48, .own 4 .bool),(386, .own 3 aA)],[258],388⟩ (.o (.o (.two (.meet ⟨[(6, .val ah (.own 404))],[(48, .own 4 .bool),(404, .own 3 aA)],[386],406⟩ .nil .nil) .nil)))) .nil)))) .nil))) .nil) (.o (.two (.o (.two (.loop ⟨[(10, .val ah (.own 193)),(50, .l aA)],[(193, .own 3 aA)],[],194⟩ (.o (.o (.two (.meet ⟨[(10, .val ah (.own 210))],[(210, .own 3 aA)],[193],211⟩ .nil .nil) .nil)))) .nil)) .nil)))))) Tryz.func234 (by kernel_rfl) λx=>by kernel_rfl
def M.ie(b:aP.den)(a:Int):Option (List Int):=
aiz (if(ai (a<0))then
aa af
else
aa (ai ((b.2.2.2.1.length:Int)<=a))) λc=>(if c then
aa ([]:List Int)
else
aiz (M.jh N b) λd=>aiz (M.mG N d a) λe=>aa e)
def aa1:Fo 161 (.i1 [.g aP, .l aA]) (.w1 3 aA) (u2 (M.ie N)):=fz N [W95 N,aa0 N] [O,T,B 13 32] Tryz.func161
def M.ji(N:Nat)(b:aP.den)(a:aP.den):Option (Bool×aP.den):=
aa (ai (b.1=a.1),a)
def SX:Fo 156 (.j1 [.g aP, .ptr 0 [] 0] [.box 68 (.leaf aP)] 1) (.j1 [.l .bool] [.box 68 (.leaf aP)] 2) (u2 (M.ji N)):=fz N [] [] Tryz.func156
def M.bu(c:List aP.den)(d:aP.den):Option (Int×aP.den):=
Loop (S:=Int×aP.den) (X:=Int×aP.den) (λa=>(if(ai (a.1<(c.length:Int)))then
aiz (idx c a.1) λe=>aiz (M.ji N e a.2) λb=>(if b.1 then
aa (.inr (a.1,b.2))
else
aa (.inl (aiB.wrap (a.1+1),b.2)))
else
aa (.inr ((-1),a.2)))) N (0,d)
def SY:Fo 225 (.j1 [.l (.slice aP), .fn 156 [(0,[],0)]] [.box 68 (.leaf aP)] 1) (.j1 [.l aA] [.box 68 (.leaf aP)] 2) (u2 (M.bu N)):=fz N [SX N] [O,T,O,T,P ⟨[(8, .l aA)],[(0, .box 68 (.leaf aP))],[],66⟩] Tryz.func225
def M.aX(b:List aP.den)(c:aP.den):Option (Bool×aP.den):=
aiz (M.bu N b c) λa=>aa (ai (0<=a.1),a.2)
def SZ:Fo 155 (.j1 [.l (.slice aP), .fn 156 [(0,[],0)]] [.box 68 (.leaf aP)] 1) (.j1 [.l .bool] [.box 68 (.leaf aP)] 2) (u2 (M.aX N)):=fz N [SY N] [] Tryz.func155
def M.kZ(b:cT.den)(h:Int):Option (Int×Int):=
aiz (idx b.2.2 h) λd=>aiz (gI b.2.2 0 h) λj=>aiz (aiz (M.jb N b.1 d.1) λo=>(if o then
aa (af,d)
else
aiz (M.jx N b.2.1 d.1) λp=>(if p then
aa (af,d)
else
aiz (M.aX N j d) λk=>aa (k.1,k.2))):Option (Bool×aP.den)) λa=>aiz (M.cd N a.2.1) λq=>(if(!q)then
aa (2,0)
else(if a.1 then
aa (7,0)
else
aiz (if(!ai (a.2.2.1=(-1)))then(if(ai (a.2.2.1<0))then
aa af
else(if(ai (h<=a.2.2.1))then
aa af
else
aiz (idx j a.2.2.1) λr=>aa (!ai (r.2.1=(-1)))))
else
aa ah) λs=>(if s then
aa (6,0)
else(if(ai (12<(a.2.2.2.1.length:Int)))then
aa (4,112)
else(if(ai (12<(a.2.2.2.2.1.length:Int)))then
aa (4,212)
else
b9 (J:=Unit) (R:=Int×Int) (Loop (S:=Int) (X:=Unit⊕(Int×Int)) (λe=>(if(ai (e<(a.2.2.2.1.length:Int)))then
aiz (idx a.2.2.2.1 e) λt=>aiz (gI a.2.2.2.1 0 e) λu=>aiz (M.je N b t u ([]:List bF.den)) λl=>(if(!ai (l=0))then
aa (.inr (.inr (l,aiB.wrap (100+e))))
else
aa (.inl (aiB.wrap (e+1))))
else
aa (.inr (.inl ())))) N 0) λz=>b9 (J:=Unit) (R:=Int×Int) (Loop (S:=Int) (X:=Unit⊕(Int×Int)) (λf=>(if(ai (f<(a.2.2.2.2.1.length:Int)))then
aiz (idx a.2.2.2.2.1 f) λv=>aiz (gI a.2.2.2.2.1 0 f) λw=>aiz (M.je N b v a.2.2.2.1 w) λm=>(if(!ai (m=0))then
aa (.inr (.inr (m,aiB.wrap (200+f))))
else
aa (.inl (aiB.wrap (f+1))))
else
aa (.inr (.inl ())))) N 0) λA=>aiz (M.jF N b h) λc=>b9 (J:=Unit) (R:=Int×Int) (Loop (S:=Int) (X:=Unit⊕(Int×Int)) (λi=>(if(ai (i<(a.2.2.2.2.2.length:Int)))then
aiz (M.jL N a.2 i (c.1,(c.2.1,(c.2.2.2.1,(c.2.2.2.2.1,(c.2.2.2.2.2,c.2.2.1)))))) λn=>(if(!ai (n=0))then
aa (.inr (.inr (n,aiB.wrap (300+i))))
else
aa (.inl (aiB.wrap (i+1))))
else
aa (.inr (.inl ())))) N 0) λC=>Loop (S:=Int) (X:=Int×Int) (λg=>(if(ai (g<(a.2.2.2.2.1.length:Int)))then
aiz (M.ie N a.2 g) λx=>aiz (M.eE N x g) λy=>(if y then
aa (.inr (9,aiB.wrap (200+g)))
else
aa (.inl (aiB.wrap (g+1))))
else
aa (.inr (0,0)))) N 0)))))
def W93:Fo 93 (.i1 [.g cT, .l aA]) (.i1 [.l aA, .l aA]) (u2 (M.kZ N)):=fz N [V3 N,W91 N,W92 N,SZ N,aaE N,aaG N,aaT N,aaV N,aa1 N] [O,O,O,R ⟨[(8, .l .bool)],[(128, .box 68 (.leaf aP))],[],241⟩,X,T,T,O,O,O,O,B 52 353,X,E 513,O,T,L 89 577,X,X,E 513,O,T,L 110 577,X,X,O,E 593,O,T,L 136 657,X,X,T,O,T,L 152 657] Tryz.func93
def M.jV(b:cT.den):Option (aI.den):=
(if(ai (4<(b.2.2.length:Int)))then
aa (4,(3,(4,0)))
else
b9 (J:=Unit) (R:=aI.den) (Loop (S:=Int) (X:=Unit⊕(aI.den)) (λa=>(if(ai (a<(b.2.2.length:Int)))then
aiz (M.kZ N b a) λc=>(if(!ai (c.1=0))then
aa (.inr (.inr (c.1,(3,(a,c.2)))))
else
aa (.inl (aiB.wrap (a+1))))
else
aa (.inr (.inl ())))) N 0) λd=>aa (0,(0,(0,0))))
def W57:Fo 57 (.i1 [.g cT]) (.i1 [.g aI]) (M.jV N):=fz N [W93 N] [O,O,E 96,O,T,L 14 160] Tryz.func57
def M.eZ(a:cT.den):Option (aI.den):=
aiz (M.kV N a) λb=>(if(!ai (b.1=0))then
aa b
else
aiz (M.jT N a) λc=>(if(!ai (c.1=0))then
aa c
else
aiz (M.jV N a) λd=>aa d))
def W28:Fo 28 (.i1 [.g cT]) (.i1 [.g aI]) (M.eZ N):=fz N [W55 N,W56 N,W57 N] [] Tryz.func28
def M.ey(g:cT.den)(b:List aB.den)(c:List bF.den):Option (Int×Int):=
(if(ai ((b.length:Int)<(c.length:Int)))then
aa ((b.length:Int),5)
else(if(ai ((c.length:Int)<(b.length:Int)))then
aa ((c.length:Int),4)
else
Loop (S:=Int) (X:=Int×Int) (λa=>(if(ai (a<(b.length:Int)))then
aiz (idx b a) λd=>aiz (idx c a) λe=>aiz (if(!ai (d.1=e.2.1))then
aa af
else
aa (!ai (d.2.1=e.2.2))) λh=>(if h then
aa (.inr (a,8))
else
aiz (M.fS N e.2 g.1) λf=>aiz (if(ai (d.2.2<f.1))then
aa af
else
aa (ai (f.2<d.2.2))) λi=>(if i then
aa (.inr (a,3))
else
aa (.inl (aiB.wrap (a+1)))))
else
aa (.inr (0,0)))) N 0))
def W58:Fo 58 (.i1 [.g cT, .l (.slice aB), .l (.slice bF)]) (.i1 [.l aA, .l aA]) (u3 (M.ey N)):=fz N [W94 N] [O,O,O,T,O,T,L 29 256,O,O,T,T,O,O,T,B 50 480,O,B 68 624] Tryz.func58
def M.fF(N:Nat)(a:cT.den)(c:Int):Option ((List bF.den)×Int):=
aiz (idx a.2.2 c) λb=>aiz (if(ai (b.2.1<0))then
aa af
else
aa (ai ((a.2.2.length:Int)<=b.2.1))) λd=>(if d then
aa (([]:List bF.den),0)
else
aiz (idx a.2.2 b.2.1) λe=>aa (e.2.2.1,8))
def W59:Fo 59 (.i1 [.g cT, .l aA]) (.i1 [.l (.slice bF), .l aA]) (u2 (M.fF N)):=fz N [] [O,O,T,B 21 160] Tryz.func59
def M.b8(b:cT.den)(c:Int)(a:dT.den):Option (Int×Int×Int):=
aiz (if(ai (c<0))then
aa af
else
aa (ai ((b.2.2.length:Int)<=c))) λh=>(if h then
aa ((-1),(-1),6)
else
aiz (if(ai (a.1<0))then
aa af
else
aa (ai (109572<a.1))) λi=>(if i then
aa ((-1),(-1),3)
else
aiz (idx b.2.2 c) λj=>aiz (M.ey N b a.2.1 j.2.2.1) λe=>(if(!ai (e.2=0))then
aa ((-1),e.1,e.2)
else
aiz (M.fF N b c) λf=>(if(ai (f.2<(a.2.2.length:Int)))then
aa (f.2,(-1),4)
else
Loop (S:=Int) (X:=Int×Int×Int) (λd=>(if(ai (d<(a.2.2.length:Int)))then
aiz (idx a.2.2 d) λk=>aiz (M.ey N b k f.1) λg=>(if(!ai (g.2=0))then
aa (.inr (d,g.1,g.2))
else
aa (.inl (aiB.wrap (d+1))))
else
aa (.inr (0,0,0)))) N 0))))
def W29:Fo 29 (.i1 [.g cT, .l aA, .g dT]) (.i1 [.l aA, .l aA, .l aA]) (u3 (M.b8 N)):=fz N [W58 N,W59 N] [O,T,B 25 80,T,B 33 80,O,O,O,T,O,T,L 66 624] Tryz.func29
def M.fa(a:da.den)(b:Int)(c:Int):Option (Bool×Int×Int):=
aiz (if(ai (a.2.1=b))then
aiz (M.cP N a.2.2.2.2.1 c) λd=>aa d
else
aa ah) λe=>aa (e,b,c)
def Wb:Fo 70 (.j1 [.g da, .ptr 0 [] 0, .ptr 1 [] 0] [.box 3 (.leaf aA), .box 3 (.leaf aA)] 2) (.j1 [.l .bool] [.box 3 (.leaf aA), .box 3 (.leaf aA)] 4) (u3 (M.fa N)):=fz N [Z7 N] [O,B 4 34] Tryz.func70
def M.fb(f:List da.den)(g:Int)(h:Int):Option (Int×Int×(List Int)×List Int):=
aiz (nu (f.length:Int) 0) λi=>Loop (S:=Int×Int×Int×(List Int)×(List Int)×List Int) (X:=Int×Int×(List Int)×List Int) (λa=>(if(ai (a.1<(f.length:Int)))then
aiz (aiz (idx f a.1) λd=>aiz (aiz (if(ai (0<=d.2.2.1))then
aa (ai (d.2.2.1<a.1))
else
aa ah) λj=>(if j then
aiz (idx a.2.2.2.1 d.2.2.1) λk=>aa k
else
aa (-1)):Option Int) λe=>aiz (idx a.2.2.2.1 a.1) λn=>aiz (M.fa N d a.2.1 a.2.2.1) λb=>(if b.1 then
aiz (idx (bg a.2.2.2.1 a.1 e) a.1) λo=>aiz (cz a.2.2.2.2.1 ([a.1]:List Int)) λl=>aiz (cz a.2.2.2.2.2 ([e]:List Int)) λm=>aa (b.2.1,b.2.2,bg (bg a.2.2.2.1 a.1 e) a.1 (a.2.2.2.2.1.length:Int),l,m)
else
aa (b.2.1,b.2.2,bg a.2.2.2.1 a.1 e,a.2.2.2.2.1,a.2.2.2.2.2)):Option (Int×Int×(List Int)×(List Int)×List Int)) λc=>aa (.inl (aiB.wrap (a.1+1),c.1,c.2.1,c.2.2.1,c.2.2.2.1,c.2.2.2.2))
else
aa (.inr (a.2.1,a.2.2.1,a.2.2.2.2.1,a.2.2.2.2.2)))) N (0,g,h,i,([]:List Int),([]:List Int))
def Wc:Fo 69 (.j1 [.l (.slice da), .fn 70 [(0,[],0),(1,[],0)]] [.box 3 (.leaf aA), .box 3 (.leaf aA)] 2) (.j1 [.val ah (.own 2), .val ah (.own 3)] [.box 3 (.leaf aA), .box 3 (.leaf aA), .own 3 aA, .own 3 aA] 6) (u3 (M.fb N)):=fz N [Wb N] [O,O,O,T,O,T,P ⟨[(6, .val ah (.own 178)),(7, .val ah (.own 179)),(17, .l aA)],[(0, .box 3 (.leaf aA)),(1, .box 3 (.leaf aA)),(98, .own 3 aA),(178, .own 3 aA),(179, .own 3 aA)],[],183⟩,O,O,T,R ⟨[(6, .val ah (.own 199)),(7, .val ah (.own 200))],[(0, .box 3 (.leaf aA)),(1, .box 3 (.leaf aA)),(98, .own 3 aA),(199, .own 3 aA),(200, .own 3 aA)],[178,179],204⟩,O,O,R ⟨[(11, .l aA)],[],[],311⟩,B 30 311] Tryz.func69
def M.gC(c:aP.den)(d:Int)(e:Int):Option ((List Int)×(List Int)×List Int):=
aiz (M.fb N c.2.2.2.2 d e) λb=>aiz (Loop (S:=Int×List Int) (X:=List Int) (λa=>(if(ai (a.1<(b.2.2.1.length:Int)))then
aiz (idx b.2.2.1 a.1) λf=>aiz (idx c.2.2.2.2 f) λg=>aiz (cz a.2 ([g.2.2.2.1]:List Int)) λh=>aa (.inl (aiB.wrap (a.1+1),h))
else
aa (.inr a.2))) N (0,([]:List Int)):Option (List Int)) λi=>aa (b.2.2.1,b.2.2.2,i)
def W40:Fo 40 (.i1 [.g aP, .l aA, .l aA]) (.j1 [.val ah (.own 0), .val ah (.own 1), .val ah (.own 2)] [.own 3 aA, .own 3 aA, .own 3 aA] 3) (u3 (M.gC N)):=fz N [Wc N] [O,O,O,R ⟨[(11, .val ah (.own 256))],[(256, .own 3 aA)],[],257⟩,O,T,P ⟨[(11, .val ah (.own 304)),(23, .l aA)],[(304, .own 3 aA)],[],305⟩] Tryz.func40
def M.bL(b:List az.den)(c:List az.den):Option Bool:=
(if(!ai ((b.length:Int)=(c.length:Int)))then
aa ah
else
Loop (S:=Int) (X:=Bool) (λa=>(if(ai (a<(b.length:Int)))then
aiz (idx b a) λd=>aiz (idx c a) λe=>(if(!(lA az d e))then
aa (.inr ah)
else
aa (.inl (aiB.wrap (a+1))))
else
aa (.inr af))) N 0)
def W72:Fo 72 (.i1 [.l (.slice az), .l (.slice az)]) (.i1 [.l .bool]) (u2 (M.bL N)):=fz N [] [O,O,T,O,T,L 13 144] Tryz.func72
def M.eF(b:List (List az.den))(c:List az.den):Option Int:=
Loop (S:=Int) (X:=Int) (λa=>(if(ai (a<(b.length:Int)))then
aiz (idx b a) λd=>aiz (M.bL N d c) λe=>(if e then
aa (.inr a)
else
aa (.inl (aiB.wrap (a+1))))
else
aa (.inr (-1)))) N 0
def W41:Fo 41 (.i1 [.l (.slice (.slice az)), .l (.slice az)]) (.i1 [.l aA]) (u2 (M.eF N)):=fz N [W72 N] [O,T,O,T,L 9 64] Tryz.func41
def M.bM(N:Nat)(a:List az.den):Option (List az.den):=
(if aiJ (a).length 0 then
Fi (aa ([]:List az.den))
(aiz (cz ([]:List az.den) a) λb=>aa b)
else
aiz (cz ([]:List az.den) a) λc=>aa c)
def W42:Fo 42 (.i1 [.l (.slice az)]) (.w1 79 az) (M.bM N):=fz N [] [] Tryz.func42
def M.dc(b:List Int)(c:List Int):Option Int:=
(if(!ai ((b.length:Int)=(c.length:Int)))then
aa 2
else(if(ai (8<(b.length:Int)))then
aa 4
else
Loop (S:=Int) (X:=Int) (λa=>(if(ai (a<(b.length:Int)))then
aiz (idx b a) λd=>aiz (if(ai (d<(-1)))then
aa af
else
aa (ai (a<=d))) λe=>(if e then
aa (.inr 9)
else
aiz (aiz (idx c a) λf=>(if(ai (f<0))then
aa af
else
aiz (idx c a) λg=>aa (ai (9<g))):Option Bool) λh=>(if h then
aa (.inr 3)
else
aa (.inl (aiB.wrap (a+1)))))
else
aa (.inr 0))) N 0))
def aa3:Fo 113 (.i1 [.l (.slice aA), .l (.slice aA)]) (.i1 [.l aA]) (u2 (M.dc N)):=fz N [] [O,O,O,T,O,T,L 17 192,O,O,T,T,O,T,B 28 288,B 40 288] Tryz.func113
def M.dF(b:List Int)(c:Int):Option (List Int):=
Loop (S:=Int×List Int) (X:=List Int) (λa=>(if(ai (a.1<(b.length:Int)))then
aiz (aiz (idx b a.1) λd=>(if(ai (d=c))then
aiz (cz a.2 ([a.1]:List Int)) λe=>aa e
else
aa a.2):Option (List Int)) λf=>aa (.inl (aiB.wrap (a.1+1),f))
else
aa (.inr a.2))) N (0,([]:List Int))
def aa4:Fo 257 (.i1 [.l (.slice aA), .l aA]) (.w1 3 aA) (u2 (M.dF N)):=fz N [] [O,O,T,O,T,P ⟨[(5, .val ah (.own 80)),(10, .l aA)],[(80, .own 3 aA)],[],81⟩,O,O,T,R ⟨[(5, .val ah (.own 97))],[(97, .own 3 aA)],[80],98⟩] Tryz.func257
def M.dX(b:gy.den)(f:Int):Option (List Int):=
aiz (M.dF N b.1 f) λe=>Loop (S:=Int×List Int) (X:=List Int) (λa=>(if(ai (a.1<(e.length:Int)))then
aiz (aiz (idx e a.1) λc=>aiz (idx b.2.2 c) λg=>(if(ai (g=(-1)))then
aa a.2
else
aiz (aiz (if(ai (0<(a.2.length:Int)))then
aiz (idx b.2.1 c) λh=>aiz (idx a.2 0) λi=>aiz (idx b.2.1 i) λj=>aa (ai (j<h))
else
aa ah) λk=>(if k then
aiz (gI a.2 0 0) λl=>aa l
else
aa a.2):Option (List Int)) λd=>aiz (if(ai ((d.length:Int)=0))then
aa af
else
aiz (idx b.2.1 c) λm=>aiz (idx d 0) λn=>aiz (idx b.2.1 n) λo=>aa (ai (m=o))) λp=>(if p then
aiz (cz d ([c]:List Int)) λq=>aa q
else
aa d)):Option (List Int)) λr=>aa (.inl (aiB.wrap (a.1+1),r))
else
aa (.inr a.2))) N (0,([]:List Int))
def aa5:Fo 185 (.i1 [.g gy, .l aA]) (.w1 3 aA) (u2 (M.dX N)):=fz N [aa4 N] [O,O,T,O,T,P ⟨[(5, .val ah (.own 144)),(13, .l aA)],[(144, .own 3 aA)],[],145⟩,O,O,T,R ⟨[(5, .val ah (.own 161))],[(161, .own 3 aA)],[144],162⟩,O,O,R ⟨[(5, .val ah (.own 305))],[(305, .own 3 aA)],[144],306⟩,B 40 305,B 60 306] Tryz.func185
def M.cg(b:gy.den)(c:Int):Option Int:=
aiz (M.dX N b c) λa=>(if(ai ((a.length:Int)=0))then
aa (-1)
else(if(ai ((a.length:Int)=1))then
aiz (idx a 0) λd=>aiz (idx b.2.2 d) λe=>aa e
else
aa (-2)))
def We:Fo 115 (.i1 [.g gy, .l aA]) (.i1 [.l aA]) (u2 (M.cg N)):=fz N [aa5 N] [] Tryz.func115
def M.eG(c:List Int)(d:List Int)(e:List Bool):Option (List Int):=
aiz (nu (c.length:Int) 0) λf=>Loop (S:=Int×List Int) (X:=List Int) (λa=>(if(ai (0<=a.1))then
aiz (aiz (M.cg N (c,(d,a.2)) a.1) λb=>aiz (idx a.2 a.1) λk=>aiz (aiz (idx (bg a.2 a.1 b) a.1) λg=>(if(ai (g=(-1)))then
aiz (idx e a.1) λh=>aa h
else
aa ah):Option Bool) λi=>(if i then
aiz (idx (bg a.2 a.1 b) a.1) λl=>aa (bg (bg a.2 a.1 b) a.1 a.1)
else
aa (bg a.2 a.1 b)):Option (List Int)) λj=>aa (.inl (aiB.wrap (a.1-1),j))
else
aa (.inr a.2))) N (aiB.wrap ((c.length:Int)-1),f)
def aa6:Fo 114 (.i1 [.l (.slice aA), .l (.slice aA), .l (.slice .bool)]) (.w1 3 aA) (u3 (M.eG N)):=fz N [We N] [O,O,T,O,T,P ⟨[(8, .l aA)],[(80, .own 3 aA)],[],209⟩,O,T,R ⟨[],[(80, .own 3 aA)],[],242⟩,O,B 40 369] Tryz.func114
def M.cC(a:List Int)(b:List Int)(c:List Bool):Option Int:=
aiz (aiz (M.dc N a b) λd=>(if(!ai (d=0))then
aa af
else
aa (!ai ((c.length:Int)=(a.length:Int)))):Option Bool) λe=>(if e then
aa (-1)
else
aiz (M.eG N a b c) λf=>aiz (M.cg N (a,(b,f)) (-1)) λg=>aa g)
def W73:Fo 73 (.i1 [.l (.slice aA), .l (.slice aA), .l (.slice .bool)]) (.i1 [.l aA]) (u3 (M.cC N)):=fz N [aa3 N,aa6 N,We N] [O,T,B 17 16] Tryz.func73
def M.cD(d:List Int)(k:List Int)(l:List Int)(f:List Int)(m:Int):Option (List Int):=
aiz (rA .i64 1 m) λn=>aiz (nu n 0) λg=>aiz (nu (d.length:Int) ah) λo=>Loop (S:=Int×(List Int)×List Bool) (X:=List Int) (λa=>(if(ai (a.1<(g.length:Int)))then
aiz (aiz (aiz (Loop (S:=Int×List Bool) (X:=List Bool) (λb=>(if(ai (b.1<(f.length:Int)))then
aiz (aiz (idx f b.1) λh=>(if(ai (h<0))then
aiz (idx b.2 b.1) λt=>aa (bg b.2 b.1 af)
else
aiz (xS .i64 a.1 h) λp=>aiz (idx b.2 b.1) λu=>aa (bg b.2 b.1 (ai ((aJ .and .i64 p 1)=1)))):Option (List Bool)) λq=>aa (.inl (aiB.wrap (b.1+1),q))
else
aa (.inr b.2))) N (0,a.2.2):Option (List Bool)) λe=>aiz (M.cC N k l e) λc=>aiz (if(ai (0<=c))then
aa (ai (c<(d.length:Int)))
else
aa ah) λr=>(if r then
aiz (idx d c) λs=>aiz (idx a.2.1 a.1) λv=>aa (bg a.2.1 a.1 s,e)
else
aiz (idx a.2.1 a.1) λw=>aa (bg a.2.1 a.1 c,e)):Option ((List Int)×List Bool)) λi=>aa (i.1,i.2):Option ((List Int)×List Bool)) λj=>aa (.inl (aiB.wrap (a.1+1),j.1,j.2))
else
aa (.inr a.2.1))) N (0,g,o)
def W43:Fo 43 (.i1 [.l (.slice aA), .l (.slice aA), .l (.slice aA), .l (.slice aA), .l aA]) (.w1 3 aA) (u5 (M.cD N)):=fz N [W73 N] [O,O,O,T,O,T,P ⟨[(25, .l aA)],[(48, .own 3 aA),(112, .own 4 .bool)],[],194⟩,O,O,R ⟨[],[(48, .own 3 aA),(112, .own 4 .bool)],[],212⟩,R ⟨[],[(48, .own 3 aA),(112, .own 4 .bool)],[],212⟩,O,R ⟨[],[(112, .own 4 .bool)],[],243⟩,O,T,P ⟨[(30, .l aA)],[(112, .own 4 .bool)],[],291⟩,O,O,T,R ⟨[],[(112, .own 4 .bool)],[],308⟩,X,X,X,X,O,B 59 323] Tryz.func43
def M.fL(N:Nat)(a:az.den)(b:Int):Option Bool:=
aa (ai ((aJ .and .i64 b a.1)=a.2))
def W45:Fo 45 (.i1 [.g az, .l aA]) (.i1 [.l .bool]) (u2 (M.fL N)):=fz N [] [] Tryz.func45
def M.iF(N:Nat)(a:Int):Option Int:=
aa (if 8<(if a<0 then 0 else a)then 8 else(if a<0 then 0 else a))
def aa7:Fo 116 (.i1 [.l aA]) (.i1 [.l aA]) (M.iF N):=fz N [] [] Tryz.func116
def M.iA(N:Nat)(a:Int):Option Int:=
aa (aJ .and .i64 (aiB.wrap (aiD.wrap ((aiD.wrap ((aiD.wrap ((aJ .and .u64 (aiD.wrap ((bT .u64 (aiD.wrap ((aJ .and .u64 (bT .u64 (aiD.wrap ((aJ .and .u64 (bT .u64 a 1) 6148914691236517205)+(aJ .and .u64 a 6148914691236517205))) 2) 3689348814741910323)+(aJ .and .u64 (aiD.wrap ((aJ .and .u64 (bT .u64 a 1) 6148914691236517205)+(aJ .and .u64 a 6148914691236517205))) 3689348814741910323))) 4)+(aiD.wrap ((aJ .and .u64 (bT .u64 (aiD.wrap ((aJ .and .u64 (bT .u64 a 1) 6148914691236517205)+(aJ .and .u64 a 6148914691236517205))) 2) 3689348814741910323)+(aJ .and .u64 (aiD.wrap ((aJ .and .u64 (bT .u64 a 1) 6148914691236517205)+(aJ .and .u64 a 6148914691236517205))) 3689348814741910323))))) 1085102592571150095)+(bT .u64 (aJ .and .u64 (aiD.wrap ((bT .u64 (aiD.wrap ((aJ .and .u64 (bT .u64 (aiD.wrap ((aJ .and .u64 (bT .u64 a 1) 6148914691236517205)+(aJ .and .u64 a 6148914691236517205))) 2) 3689348814741910323)+(aJ .and .u64 (aiD.wrap ((aJ .and .u64 (bT .u64 a 1) 6148914691236517205)+(aJ .and .u64 a 6148914691236517205))) 3689348814741910323))) 4)+(aiD.wrap ((aJ .and .u64 (bT .u64 (aiD.wrap ((aJ .and .u64 (bT .u64 a 1) 6148914691236517205)+(aJ .and .u64 a 6148914691236517205))) 2) 3689348814741910323)+(aJ .and .u64 (aiD.wrap ((aJ .and .u64 (bT .u64 a 1) 6148914691236517205)+(aJ .and .u64 a 6148914691236517205))) 3689348814741910323))))) 1085102592571150095) 8)))+(bT .u64 (aiD.wrap ((aJ .and .u64 (aiD.wrap ((bT .u64 (aiD.wrap ((aJ .and .u64 (bT .u64 (aiD.wrap ((aJ .and .u64 (bT .u64 a 1) 6148914691236517205)+(aJ .and .u64 a 6148914691236517205))) 2) 3689348814741910323)+(aJ .and .u64 (aiD.wrap ((aJ .and .u64 (bT .u64 a 1) 6148914691236517205)+(aJ .and .u64 a 6148914691236517205))) 3689348814741910323))) 4)+(aiD.wrap ((aJ .and .u64 (bT .u64 (aiD.wrap ((aJ .and .u64 (bT .u64 a 1) 6148914691236517205)+(aJ .and .u64 a 6148914691236517205))) 2) 3689348814741910323)+(aJ .and .u64 (aiD.wrap ((aJ .and .u64 (bT .u64 a 1) 6148914691236517205)+(aJ .and .u64 a 6148914691236517205))) 3689348814741910323))))) 1085102592571150095)+(bT .u64 (aJ .and .u64 (aiD.wrap ((bT .u64 (aiD.wrap ((aJ .and .u64 (bT .u64 (aiD.wrap ((aJ .and .u64 (bT .u64 a 1) 6148914691236517205)+(aJ .and .u64 a 6148914691236517205))) 2) 3689348814741910323)+(aJ .and .u64 (aiD.wrap ((aJ .and .u64 (bT .u64 a 1) 6148914691236517205)+(aJ .and .u64 a 6148914691236517205))) 3689348814741910323))) 4)+(aiD.wrap ((aJ .and .u64 (bT .u64 (aiD.wrap ((aJ .and .u64 (bT .u64 a 1) 6148914691236517205)+(aJ .and .u64 a 6148914691236517205))) 2) 3689348814741910323)+(aJ .and .u64 (aiD.wrap ((aJ .and .u64 (bT .u64 a 1) 6148914691236517205)+(aJ .and .u64 a 6148914691236517205))) 3689348814741910323))))) 1085102592571150095) 8))) 16)))+(bT .u64 (aiD.wrap ((aiD.wrap ((aJ .and .u64 (aiD.wrap ((bT .u64 (aiD.wrap ((aJ .and .u64 (bT .u64 (aiD.wrap ((aJ .and .u64 (bT .u64 a 1) 6148914691236517205)+(aJ .and .u64 a 6148914691236517205))) 2) 3689348814741910323)+(aJ .and .u64 (aiD.wrap ((aJ .and .u64 (bT .u64 a 1) 6148914691236517205)+(aJ .and .u64 a 6148914691236517205))) 3689348814741910323))) 4)+(aiD.wrap ((aJ .and .u64 (bT .u64 (aiD.wrap ((aJ .and .u64 (bT .u64 a 1) 6148914691236517205)+(aJ .and .u64 a 6148914691236517205))) 2) 3689348814741910323)+(aJ .and .u64 (aiD.wrap ((aJ .and .u64 (bT .u64 a 1) 6148914691236517205)+(aJ .and .u64 a 6148914691236517205))) 3689348814741910323))))) 1085102592571150095)+(bT .u64 (aJ .and .u64 (aiD.wrap ((bT .u64 (aiD.wrap ((aJ .and .u64 (bT .u64 (aiD.wrap ((aJ .and .u64 (bT .u64 a 1) 6148914691236517205)+(aJ .and .u64 a 6148914691236517205))) 2) 3689348814741910323)+(aJ .and .u64 (aiD.wrap ((aJ .and .u64 (bT .u64 a 1) 6148914691236517205)+(aJ .and .u64 a 6148914691236517205))) 3689348814741910323))) 4)+(aiD.wrap ((aJ .and .u64 (bT .u64 (aiD.wrap ((aJ .and .u64 (bT .u64 a 1) 6148914691236517205)+(aJ .and .u64 a 6148914691236517205))) 2) 3689348814741910323)+(aJ .and .u64 (aiD.wrap ((aJ .and .u64 (bT .u64 a 1) 6148914691236517205)+(aJ .and .u64 a 6148914691236517205))) 3689348814741910323))))) 1085102592571150095) 8)))+(bT .u64 (aiD.wrap ((aJ .and .u64 (aiD.wrap ((bT .u64 (aiD.wrap ((aJ .and .u64 (bT .u64 (aiD.wrap ((aJ .and .u64 (bT .u64 a 1) 6148914691236517205)+(aJ .and .u64 a 6148914691236517205))) 2) 3689348814741910323)+(aJ .and .u64 (aiD.wrap ((aJ .and .u64 (bT .u64 a 1) 6148914691236517205)+(aJ .and .u64 a 6148914691236517205))) 3689348814741910323))) 4)+(aiD.wrap ((aJ .and .u64 (bT .u64 (aiD.wrap ((aJ .and .u64 (bT .u64 a 1) 6148914691236517205)+(aJ .and .u64 a 6148914691236517205))) 2) 3689348814741910323)+(aJ .and .u64 (aiD.wrap ((aJ .and .u64 (bT .u64 a 1) 6148914691236517205)+(aJ .and .u64 a 6148914691236517205))) 3689348814741910323))))) 1085102592571150095)+(bT .u64 (aJ .and .u64 (aiD.wrap ((bT .u64 (aiD.wrap ((aJ .and .u64 (bT .u64 (aiD.wrap ((aJ .and .u64 (bT .u64 a 1) 6148914691236517205)+(aJ .and .u64 a 6148914691236517205))) 2) 3689348814741910323)+(aJ .and .u64 (aiD.wrap ((aJ .and .u64 (bT .u64 a 1) 6148914691236517205)+(aJ .and .u64 a 6148914691236517205))) 3689348814741910323))) 4)+(aiD.wrap ((aJ .and .u64 (bT .u64 (aiD.wrap ((aJ .and .u64 (bT .u64 a 1) 6148914691236517205)+(aJ .and .u64 a 6148914691236517205))) 2) 3689348814741910323)+(aJ .and .u64 (aiD.wrap ((aJ .and .u64 (bT .u64 a 1) 6148914691236517205)+(aJ .and .u64 a 6148914691236517205))) 3689348814741910323))))) 1085102592571150095) 8))) 16))) 32)))) 127)
def aa8:Fo 262 (.i1 [.l (.int .u64)]) (.i1 [.l aA]) (M.iA N):=fz N [] [] Tryz.func262
def M.cZ(a:Int):Option Int:=
aiz (M.iA N a) λb=>aa b
def Wf:Fo 191 (.i1 [.l (.int .u64)]) (.i1 [.l aA]) (M.cZ N):=fz N [aa8 N] [] Tryz.func191
def M.lS(a:az.den)(b:az.den):Option (az.den×Bool):=
aiz (if(!ai (a.1=b.1))then
aa af
else
aiz (M.cZ N (aiD.wrap (aJ .xor .i64 a.2 b.2))) λc=>(if(!ai (c=1))then
aa af
else
aa (ai ((aJ .and .i64 (aJ .xor .i64 a.2 b.2) a.1)=0)))) λd=>(if d then
aa ((0,0),ah)
else
aa ((aJ .andNot .i64 a.1 (aJ .xor .i64 a.2 b.2),aJ .andNot .i64 a.2 (aJ .xor .i64 a.2 b.2)),af))
def aa9:Fo 186 (.i1 [.g az, .g az]) (.i1 [.g az, .l .bool]) (u2 (M.lS N)):=fz N [Wf N] [O,O,T,B 29 160] Tryz.func186
end
end
end Go.Proofs.YtfeahmiobbjklaaGreatDoor
