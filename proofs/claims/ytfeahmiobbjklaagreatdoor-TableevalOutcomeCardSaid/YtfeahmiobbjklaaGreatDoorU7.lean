/- Joined texts: SL Model. -/
import Derived.Test.YtfeahmiobbjklaaGreatDoorU6
import Derived.Test.YtfeahmiobbjklaaGreatDoorProg
import Derived.Test.YtfeahmiobbjklaaGreatDoorU4
import Derived.Test.YtfeahmiobbjklaaGreatDoorU5
set_option linter.defProp false
open _root_.Bool renaming false->ag,true->af
open _root_.Option renaming none->ae,some->aa,bind->agu
open _root_.Decidable renaming decide->ah
open _root_.Int renaming tdiv->agN,tmod->aha
open _root_.Go.IntKind renaming i64->agw,u64->agy
open _root_.List renaming forall_mem_cons->ahB
open _root_.Nat renaming beq->agC
namespace Go.Proofs.YtfeahmiobbjklaaGreatDoor
open Go Go.RowKit
set_option maxRecDepth 100000
set_option linter.unusedSimpArgs false
set_option linter.unusedVariables false
set_option linter.defProp false
section
open Go Go.RowKit Go.Shelf Go.Lib Go.Sort
def EI{g:Int->Int->Int->Int->Option Int}(Xj:gD Tryz.prog 188 ⟨⟨[(0, .val af (.leaf mD)),(1, .val af (.leaf mD))],[],[],0⟩,⟨[(0, .val ag (.leaf az))],[],[],0⟩,λ(x:mD.den×mD.den)=>g x.1.1 x.1.2 x.2.1 x.2.2⟩):
 gD Tryz.prog 187 ⟨⟨[(0, .val ag (.own 0)),(1, .fn 188 [])],[(0, .own 119 mD)],[],1⟩,⟨[],[(0, .own 119 mD)],[],2⟩,λx=>yt g x⟩:=by
 have eg:∀args w,(callFunc 188 args).run Tryz.prog w= .ok (.enter 188 args) w:=enters_of Tryz.func188 (by kernel_rfl) rfl;refine KZ ⟨_,Tryz.func187,by kernel_rfl,by kernel_rfl⟩ Xj (λcf hO nv off cap d w hC hH hb hs hT=>?_) (λw=>?_)
 .exact AnyQ.slices_SortFunc_total Tryz.Gh 2 Tryz.isAgg119 Tryz.sizeOf119 lB KX (λx v hv=>by simp[lB]at hv;rcases hv with rfl|rfl<;>rfl) cf hO 188 #[] nv off cap d w eg hC hH hb hs hT
 .exact AnyF.slices_SortFunc_none Tryz.Gh ae 0 _ w
end
section
noncomputable section
open Tk
variable (N:Nat)
set_option maxRecDepth 100000
set_option linter.unusedVariables false
@[reducible] def ay:Row:= .pair az az
@[reducible] def aA:Row:= .pair az ay
@[reducible] def jr:Row:= .pair ay aA
@[reducible] def bn:Row:= .pair .str (.pair ay (.pair ay (.slice jr)))
@[reducible] def ik:Row:= .pair az (.pair (.slice aA) (.pair (.slice aA) (.pair (.slice (.slice aA)) (.pair (.slice ay) (.slice bn)))))
@[reducible] def bE:Row:= .pair (.slice ay) (.pair (.slice az) ik)
@[reducible] def aK:Row:= .pair ay az
@[reducible] def bA:Row:= .pair az (.pair (.slice (.slice ay)) (.pair (.slice az) (.slice aK)))
@[reducible] def dD:Row:= .pair .str (.slice .str)
@[reducible] def bB:Row:= .pair .str ay
@[reducible] def cX:Row:= .pair .str (.pair az (.pair az (.pair az (.pair ay (.pair (.slice ay) (.pair (.slice ay) .str))))))
@[reducible] def br:Row:= .pair .str (.pair az (.pair (.slice bB) (.pair (.slice bB) (.slice cX))))
@[reducible] def dv:Row:= .pair (.slice dD) (.pair (.slice bn) (.slice br))
@[reducible] def aR:Row:= .pair az aA
@[reducible] def bJ:Row:= .pair (.slice dD) (.pair (.slice bn) (.pair (.slice ay) (.pair (.slice ay) (.pair (.slice ay) .bool))))
@[reducible] def fi:Row:= .pair az (.pair (.slice aA) (.slice (.slice aA)))
@[reducible] def fU:Row:= .pair (.slice az) (.pair (.slice az) (.slice az))
@[reducible] def dx:Row:= .pair br (.pair (.slice az) (.pair (.slice bA) (.slice az)))
@[reducible] def aE:Row:= .pair (.slice aA) (.slice az)
@[reducible] def qc:Row:= .pair (.slice aA) (.pair (.slice az) (.slice aE))
@[reducible] def qB:Row:= .pair br (.pair br (.pair (.slice .bool) (.slice .bool)))
def Dl:TI Tryz.prog 3 az:=TI.mk (k:=1) (by kernel_rfl) rfl
def Ti4:TI Tryz.prog 4 .bool:=TI.mk (k:=1) (by kernel_rfl) rfl
def Ti9:TI Tryz.prog 9 .str:=TI.mk (k:=1) (by kernel_rfl) rfl
def Xk:TI Tryz.prog 22 (.slice (.slice ay)):=TI.mk (k:=1) (by kernel_rfl) rfl
def Xl:TI Tryz.prog 23 (.slice az):=TI.mk (k:=1) (by kernel_rfl) rfl
def Xm:TI Tryz.prog 24 (.slice aK):=TI.mk (k:=1) (by kernel_rfl) rfl
def Xn:TI Tryz.prog 26 bA:=TI.mk (k:=4) (by kernel_rfl) rfl
def Xo:TI Tryz.prog 27 (.slice aA):=TI.mk (k:=1) (by kernel_rfl) rfl
def Xp:TI Tryz.prog 28 (.slice (.slice aA)):=TI.mk (k:=1) (by kernel_rfl) rfl
def Xq:TI Tryz.prog 29 (.slice ay):=TI.mk (k:=1) (by kernel_rfl) rfl
def Xr:TI Tryz.prog 30 (.slice bn):=TI.mk (k:=1) (by kernel_rfl) rfl
def Xs:TI Tryz.prog 32 ik:=TI.mk (k:=6) (by kernel_rfl) rfl
def Qy:TI Tryz.prog 36 az:=TI.mk (k:=1) (by kernel_rfl) rfl
def Xt:TI Tryz.prog 40 aA:=TI.mk (k:=3) (by kernel_rfl) rfl
def Xu:TI Tryz.prog 43 (.slice ay):=TI.mk (k:=1) (by kernel_rfl) rfl
def Xv:TI Tryz.prog 45 (.slice dD):=TI.mk (k:=1) (by kernel_rfl) rfl
def Xw:TI Tryz.prog 46 (.slice br):=TI.mk (k:=1) (by kernel_rfl) rfl
def Xx:TI Tryz.prog 48 dv:=TI.mk (k:=3) (by kernel_rfl) rfl
def Xy:TI Tryz.prog 50 fi:=TI.mk (k:=3) (by kernel_rfl) rfl
def Xz:TI Tryz.prog 53 (.slice aE):=TI.mk (k:=1) (by kernel_rfl) rfl
def XA:TI Tryz.prog 55 qc:=TI.mk (k:=3) (by kernel_rfl) rfl
def XB:TI Tryz.prog 57 aR:=TI.mk (k:=4) (by kernel_rfl) rfl
def XC:TI Tryz.prog 63 aE:=TI.mk (k:=2) (by kernel_rfl) rfl
def XD:TI Tryz.prog 65 (.slice bB):=TI.mk (k:=1) (by kernel_rfl) rfl
def XE:TI Tryz.prog 66 (.slice cX):=TI.mk (k:=1) (by kernel_rfl) rfl
def XF:TI Tryz.prog 68 br:=TI.mk (k:=5) (by kernel_rfl) rfl
def XG:TI Tryz.prog 74 ay:=TI.mk (k:=2) (by kernel_rfl) rfl
def XH:TI Tryz.prog 75 (.slice jr):=TI.mk (k:=1) (by kernel_rfl) rfl
def XI:TI Tryz.prog 77 bn:=TI.mk (k:=6) (by kernel_rfl) rfl
def XJ:TI Tryz.prog 79 ay:=TI.mk (k:=2) (by kernel_rfl) rfl
def XK:TI Tryz.prog 85 (.slice .str):=TI.mk (k:=1) (by kernel_rfl) rfl
def XL:TI Tryz.prog 87 dD:=TI.mk (k:=2) (by kernel_rfl) rfl
def XM:TI Tryz.prog 90 aR:=TI.mk (k:=4) (by kernel_rfl) rfl
def XN:TI Tryz.prog 94 bB:=TI.mk (k:=3) (by kernel_rfl) rfl
def XO:TI Tryz.prog 95 (.slice bA):=TI.mk (k:=1) (by kernel_rfl) rfl
def XP:TI Tryz.prog 96 (.slice az):=TI.mk (k:=1) (by kernel_rfl) rfl
def XQ:TI Tryz.prog 98 dx:=TI.mk (k:=8) (by kernel_rfl) rfl
def Tx:TI Tryz.prog 111 ay:=TI.mk (k:=2) (by kernel_rfl) rfl
def Tz:TI Tryz.prog 113 cX:=TI.mk (k:=9) (by kernel_rfl) rfl
def TA:TI Tryz.prog 119 ay:=TI.mk (k:=2) (by kernel_rfl) rfl
def TB:TI Tryz.prog 121 aK:=TI.mk (k:=3) (by kernel_rfl) rfl
def TC:TI Tryz.prog 126 (.slice .bool):=TI.mk (k:=1) (by kernel_rfl) rfl
def TD:TI Tryz.prog 128 qB:=TI.mk (k:=12) (by kernel_rfl) rfl
def TE:TI Tryz.prog 132 bE:=TI.mk (k:=8) (by kernel_rfl) rfl
def TF:TI Tryz.prog 184 (.slice az):=TI.mk (k:=1) (by kernel_rfl) rfl
def TG:TI Tryz.prog 198 fU:=TI.mk (k:=3) (by kernel_rfl) rfl
def TH:TI Tryz.prog 224 jr:=TI.mk (k:=5) (by kernel_rfl) rfl
def TJ:TI Tryz.prog 237 bJ:=TI.mk (k:=6) (by kernel_rfl) rfl
def TK:TI Tryz.prog 333 (.int .u64):=TI.mk (k:=1) (by kernel_rfl) rfl
def EJ:qp Tryz.prog 3 az 1:=Fs Tryz.underlying3
def XR:qp Tryz.prog 74 ay 2:=kV Tryz.underlying74 (by kernel_rfl) (iq rfl rfl Tryz.underlying3 (by simp[gL]) Dl EJ (nz rfl rfl Tryz.underlying3 (by simp[gL]) Dl EJ))
def XS:qp Tryz.prog 79 ay 2:=kV Tryz.underlying79 (by kernel_rfl) (iq rfl rfl Tryz.underlying3 (by simp[gL]) Dl EJ (nz rfl rfl Tryz.underlying3 (by simp[gL]) Dl EJ))
def TL:qp Tryz.prog 119 ay 2:=kV Tryz.underlying119 (by kernel_rfl) (iq rfl rfl Tryz.underlying3 (by simp[gL]) Dl EJ (nz rfl rfl Tryz.underlying3 (by simp[gL]) Dl EJ))
def TM:qp Tryz.prog 36 az 1:=Fs Tryz.underlying36
def XT:qp Tryz.prog 90 aR 2:=kV Tryz.underlying90 (by kernel_rfl) (iq rfl rfl Tryz.underlying36 (by simp[gL]) Qy TM (iq rfl rfl Tryz.underlying3 (by simp[gL]) Dl EJ (iq rfl rfl Tryz.underlying3 (by simp[gL]) Dl EJ (nz rfl rfl Tryz.underlying3 (by simp[gL]) Dl EJ))))
def XU:qp Tryz.prog 57 aR 2:=kV Tryz.underlying57 (by kernel_rfl) (iq rfl rfl Tryz.underlying36 (by simp[gL]) Qy TM (iq rfl rfl Tryz.underlying3 (by simp[gL]) Dl EJ (iq rfl rfl Tryz.underlying3 (by simp[gL]) Dl EJ (nz rfl rfl Tryz.underlying3 (by simp[gL]) Dl EJ))))
def XV:qp Tryz.prog 40 aA 2:=kV Tryz.underlying40 (by kernel_rfl) (iq rfl rfl Tryz.underlying3 (by simp[gL]) Dl EJ (iq rfl rfl Tryz.underlying3 (by simp[gL]) Dl EJ (nz rfl rfl Tryz.underlying3 (by simp[gL]) Dl EJ)))
def tu:∀p∈([(3, .int .i64),(4, .bool),(5, .int .u8),(9, .str),(20, .other),(22, .slice 43),(23, .slice 3),(24, .slice 121),(26, .struct [(3,0),(22,1),(23,2),(24,3)]),(27, .slice 40),(28, .slice 27),(29, .slice 74),(30, .slice 77),(32, .struct [(3,0),(27,1),(27,2),(28,3),(29,4),(30,5)]),(36, .int .i64),(40, .struct [(3,0),(3,1),(3,2)]),(43, .slice 79),(45, .slice 87),(46, .slice 68),(48, .struct [(45,0),(30,1),(46,2)]),(50, .struct [(3,0),(27,1),(28,2)]),(53, .slice 63),(55, .struct [(27,0),(23,1),(53,2)]),(57, .struct [(36,0),(3,1),(3,2),(3,3)]),(63, .struct [(27,0),(23,1)]),(65, .slice 94),(66, .slice 113),(68, .struct [(9,0),(3,1),(65,2),(65,3),(66,4)]),(74, .struct [(3,0),(3,1)]),(75, .slice 224),(77, .struct [(9,0),(74,1),(74,3),(75,5)]),(79, .struct [(3,0),(3,1)]),(85, .slice 9),(87, .struct [(9,0),(85,1)]),(88, .other),(90, .struct [(36,0),(3,1),(3,2),(3,3)]),(94, .struct [(9,0),(74,1)]),(95, .slice 26),(96, .slice 36),(98, .struct [(68,0),(23,5),(95,6),(96,7)]),(111, .struct [(3,0),(3,1)]),(113, .struct [(9,0),(3,1),(3,2),(3,3),(111,4),(43,6),(43,7),(9,8)]),(119, .struct [(3,0),(3,1)]),(121, .struct [(119,0),(3,2)]),(124, .ptr 128),(126, .slice 4),(128, .struct [(68,0),(68,5),(126,10),(126,11)]),(132, .struct [(43,0),(23,1),(32,2)]),(156, .other),(159, .slice 119),(163, .ptr 32),(181, .slice 23),(183, .ptr 184),(184, .slice 3),(198, .struct [(23,0),(23,1),(23,2)]),(199, .map 3 4),(200, .map 119 4),(224, .struct [(111,0),(3,2),(3,3),(3,4)]),(227, .other),(231, .other),(233, .other),(237, .struct [(45,0),(30,1),(29,2),(29,3),(29,4),(4,5)]),(244, .other),(264, .int .u64),(265, .other),(283, .other),(300, .int .u32),(302, .int .u64),(333, .int .u64),(337, .ptr 3),(344, .array 12 3),(359, .ptr 333)]:List (Nat×Jd)),xF Tryz.prog p.1 p.2:=by
 simp only[ahB];exact⟨Tryz.underlying3,Tryz.underlying4,Tryz.underlying5,Tryz.underlying9,⟨_,Tryz.underlying20,rfl⟩,Tryz.underlying22,Tryz.underlying23,Tryz.underlying24,⟨_,Tryz.underlying26,rfl⟩,Tryz.underlying27,Tryz.underlying28,Tryz.underlying29,Tryz.underlying30,⟨_,Tryz.underlying32,rfl⟩,Tryz.underlying36,⟨_,Tryz.underlying40,rfl⟩,Tryz.underlying43,Tryz.underlying45,Tryz.underlying46,⟨_,Tryz.underlying48,rfl⟩,⟨_,Tryz.underlying50,rfl⟩,Tryz.underlying53,⟨_,Tryz.underlying55,rfl⟩,⟨_,Tryz.underlying57,rfl⟩,⟨_,Tryz.underlying63,rfl⟩,Tryz.underlying65,Tryz.underlying66,⟨_,Tryz.underlying68,rfl⟩,⟨_,Tryz.underlying74,rfl⟩,Tryz.underlying75,⟨_,Tryz.underlying77,rfl⟩,⟨_,Tryz.underlying79,rfl⟩,Tryz.underlying85,⟨_,Tryz.underlying87,rfl⟩,⟨_,Tryz.underlying88,rfl⟩,⟨_,Tryz.underlying90,rfl⟩,⟨_,Tryz.underlying94,rfl⟩,Tryz.underlying95,Tryz.underlying96,⟨_,Tryz.underlying98,rfl⟩,⟨_,Tryz.underlying111,rfl⟩,⟨_,Tryz.underlying113,rfl⟩,⟨_,Tryz.underlying119,rfl⟩,⟨_,Tryz.underlying121,rfl⟩,Tryz.underlying124,Tryz.underlying126,⟨_,Tryz.underlying128,rfl⟩,⟨_,Tryz.underlying132,rfl⟩,⟨_,Tryz.underlying156,rfl⟩,Tryz.underlying159,Tryz.underlying163,Tryz.underlying181,Tryz.underlying183,Tryz.underlying184,⟨_,Tryz.underlying198,rfl⟩,Tryz.underlying199,Tryz.underlying200,⟨_,Tryz.underlying224,rfl⟩,⟨_,Tryz.underlying227,rfl⟩,⟨_,Tryz.underlying231,rfl⟩,⟨_,Tryz.underlying233,rfl⟩,⟨_,Tryz.underlying237,rfl⟩,⟨_,Tryz.underlying244,rfl⟩,Tryz.underlying264,⟨_,Tryz.underlying265,rfl⟩,⟨_,Tryz.underlying283,rfl⟩,Tryz.underlying300,Tryz.underlying302,Tryz.underlying333,Tryz.underlying337,Tryz.underlying344,Tryz.underlying359,λ_ h=>absurd h (by simp)⟩
def tr:∀p∈([(3,az),(4, .bool),(9, .str),(22,(.slice (.slice ay))),(23,(.slice az)),(24,(.slice aK)),(26,bA),(27,(.slice aA)),(28,(.slice (.slice aA))),(29,(.slice ay)),(30,(.slice bn)),(32,ik),(36,az),(40,aA),(43,(.slice ay)),(45,(.slice dD)),(46,(.slice br)),(48,dv),(50,fi),(53,(.slice aE)),(55,qc),(57,aR),(63,aE),(65,(.slice bB)),(66,(.slice cX)),(68,br),(74,ay),(75,(.slice jr)),(77,bn),(79,ay),(85,(.slice .str)),(87,dD),(90,aR),(94,bB),(95,(.slice bA)),(96,(.slice az)),(98,dx),(111,ay),(113,cX),(119,ay),(121,aK),(126,(.slice .bool)),(128,qB),(132,bE),(184,(.slice az)),(198,fU),(224,jr),(237,bJ),(333,(.int .u64))]:List (Nat×Row)),TI Tryz.prog p.1 p.2:=by
 simp only[ahB];exact⟨Dl,Ti4,Ti9,Xk,Xl,Xm,Xn,Xo,Xp,Xq,Xr,Xs,Qy,Xt,Xu,Xv,Xw,Xx,Xy,Xz,XA,XB,XC,XD,XE,XF,XG,XH,XI,XJ,XK,XL,XM,XN,XO,XP,XQ,Tx,Tz,TA,TB,TC,TD,TE,TF,TG,TH,TJ,TK,λ_ h=>absurd h (by simp)⟩
def te:∀p∈([(40,aA),(57,aR),(74,ay),(79,ay),(90,aR),(119,ay)]:List (Nat×Row)),∃K d,qp Tryz.prog p.1 p.2 K/\d+K=10000/\Tryz.prog.eqGuardType Tryz.prog.depth p.1=ag/\(Tryz.prog.underlying p.1).any gL=af:=by
 simp only[ahB];exact⟨⟨2,9998,XV,rfl,by kernel_rfl,by kernel_rfl⟩,⟨2,9998,XU,rfl,by kernel_rfl,by kernel_rfl⟩,⟨2,9998,XR,rfl,by kernel_rfl,by kernel_rfl⟩,⟨2,9998,XS,rfl,by kernel_rfl,by kernel_rfl⟩,⟨2,9998,XT,rfl,by kernel_rfl,by kernel_rfl⟩,⟨2,9998,TL,rfl,by kernel_rfl,by kernel_rfl⟩,λ_ h=>absurd h (by simp)⟩
def tz:∀p∈([(4,(ag, .bool))]:List (Nat×(Bool×Row))),yZ Tryz.prog p.1 p.2.1 p.2.2:=by
 simp only[ahB];exact⟨⟨_,by kernel_rfl,rfl⟩,λ_ h=>absurd h (by simp)⟩
def tm:∀p∈([(183,("Len",(97,ag))),(183,("Less",(393,ag))),(183,("Pop",(394,af))),(183,("Push",(395,af))),(183,("Swap",(396,ag)))]:List (TypeId×(String×(FuncId×Bool)))),qx Tryz.prog p.1 p.2.1 p.2.2.1 p.2.2.2:=by
 simp only[ahB];exact⟨(by unfold qx;kernel_rfl),(by unfold qx;kernel_rfl),(by unfold qx;kernel_rfl),(by unfold qx;kernel_rfl),(by unfold qx;kernel_rfl),λ_ h=>absurd h (by simp)⟩
def tk:∀t∈([119]:List TypeId),∀(em:Bool)(a b:Value)(w:World),(Instr.checkKey em 10000 t (.agg #[a,b])).run Tryz.prog w= .ok () w:=by
 simp only[ahB];exact⟨λem a b w=>by kernel_rfl,λ_ h=>absurd h (by simp)⟩
def TO:be Tryz.prog:=⟨_,_,_,_,mH tu,mH tr,mH te,λt a r h=>mH (Q:=λt p=>yZ Tryz.prog t p.1 p.2) tz t (a,r) h,_,tk,_,tm⟩
def mixed:Tryz.prog.follows .mixedOrders=af:=by kernel_rfl
def en(l:List (CT Tryz.prog))(d p:Bool):Env Tryz.prog:=⟨TO,CT.tab l,CT.zR,mixed,d,p⟩
abbrev Fo(f:Nat)(a b:JS)(g:cW a.rows->Option (cW b.rows)):Prop:=gD Tryz.prog f ⟨a,b,g⟩
def fz{f:FuncId}{fn:Func}{sg:oH}(N:Nat)(l:List (CT Tryz.prog))(a:List Tk)(hf:Tryz.prog.funcs[f]? =aa fn)(hc:Xg fn sg=af:=by kernel_rfl)(AH:∀x,sg.fn x=Qv (en l ag ag) fn.ntmps N (fn.body.getD .skip) fn.results.toList (ak a) sg.inn sg.out x:=by intro x;kernel_rfl):gD Tryz.prog f sg:=fw (en l ag ag) (N:=N) (ak a) hf hc AH
def M.fJ(N:Nat)(a:Int):Option Int:=
agu (if(ah (a=1))then
aa (ah (a=1))
else(if(ah (a=2))then
aa (ah (a=2))
else(if(ah (a=3))then
aa (ah (a=3))
else(if(ah (a=4))then
aa (ah (a=4))
else(if(ah (a=5))then
aa (ah (a=5))
else(if(ah (a=6))then
aa (ah (a=6))
else(if(ah (a=7))then
aa (ah (a=7))
else(if(ah (a=8))then
aa (ah (a=8))
else(if(ah (a=9))then
aa (ah (a=9))
else(if(ah (a=35))then
aa (ah (a=35))
else(if(ah (a=36))then
aa (ah (a=36))
else(if(ah (a=37))then
aa (ah (a=37))
else(if(ah (a=38))then
aa (ah (a=38))
else
aa (ah (a=39))))))))))))))) λb=>(if b then
aa 0
else
agu (if(ah (a=10))then
aa (ah (a=10))
else(if(ah (a=25))then
aa (ah (a=25))
else(if(ah (a=31))then
aa (ah (a=31))
else(if(ah (a=32))then
aa (ah (a=32))
else(if(ah (a=33))then
aa (ah (a=33))
else
aa (ah (a=34))))))) λc=>(if c then
aa 1
else
agu (if(ah (a=11))then
aa (ah (a=11))
else(if(ah (a=12))then
aa (ah (a=12))
else(if(ah (a=13))then
aa (ah (a=13))
else(if(ah (a=14))then
aa (ah (a=14))
else(if(ah (a=15))then
aa (ah (a=15))
else(if(ah (a=16))then
aa (ah (a=16))
else(if(ah (a=17))then
aa (ah (a=17))
else(if(ah (a=18))then
aa (ah (a=18))
else(if(ah (a=19))then
aa (ah (a=19))
else(if(ah (a=20))then
aa (ah (a=20))
else(if(ah (a=21))then
aa (ah (a=21))
else(if(ah (a=22))then
aa (ah (a=22))
else(if(ah (a=23))then
aa (ah (a=23))
else(if(ah (a=24))then
aa (ah (a=24))
else(if(ah (a=27))then
aa (ah (a=27))
else(if(ah (a=28))then
aa (ah (a=28))
else(if(ah (a=29))then
aa (ah (a=29))
else
aa (ah (a=30))))))))))))))))))) λd=>(if d then
aa 2
else(if(ah (a=26))then
aa 3
else
aa (-1)))))
def K0:Fo 120 (.i1 [.l az]) (.i1 [.l az]) (M.fJ N):=fz N [] [O,T,O,T,R ⟨[(4, .l .bool)],[],[],32⟩,X,O,R ⟨[(19, .l .bool)],[],[],32⟩,X,O,B 26 32] Tryz.func120
def M.eT(b:List ay.den):Option (Int×Int×List Int):=
(if(ah (48<(b.length:Int)))then
aa (0,4,([]:List Int))
else(if(ah ((b.length:Int)=0))then
aa (0,5,([]:List Int))
else
agu (oM (b.length:Int) 0) λg=>cd (J:=(List Int)×List Int) (R:=Int×Int×List Int) (Loop (S:=Int×(List Int)×List Int) (X:=((List Int)×List Int)⊕(Int×Int×List Int)) (λa=>(if(ah (a.1<(b.length:Int)))then
agu (idx b a.1) λh=>agu (M.fJ N h.1) λc=>(if(ah (c<0))then
aa (.inr (.inr (a.1,2,([]:List Int))))
else(if(ah ((a.2.2.length:Int)<c))then
aa (.inr (.inr (a.1,5,([]:List Int))))
else
agu (idx a.2.1 a.1) λl=>agu ((if(ah (0<c))then
agu (idx a.2.2 (agw.wrap ((a.2.2.length:Int)-c))) λi=>agu (idx (bm a.2.1 a.1 a.1) a.1) λm=>aa (bm (bm a.2.1 a.1 a.1) a.1 i)
else
aa (bm a.2.1 a.1 a.1)):Option (List Int)) λd=>agu (ga a.2.2 0 (agw.wrap ((a.2.2.length:Int)-c))) λj=>agu (idx d a.1) λk=>agu (cm j ([k]:List Int)) λe=>(if(ah (12<(e.length:Int)))then
aa (.inr (.inr (a.1,16,([]:List Int))))
else
aa (.inl (agw.wrap (a.1+1),d,e)))))
else
aa (.inr (.inl (a.2.1,a.2.2))))) N (0,g,([]:List Int))) λf=>(if(ah (1<(f.2.length:Int)))then
aa ((b.length:Int),4,([]:List Int))
else
aa (0,0,f.1))))
def W76:Fo 76 (.i1 [.l (.slice ay)]) (.j1 [.val ag (.own 0), .l az, .l az] [.own 3 az] 1) (M.eT N):=fz N [K0 N] [O,O,O,O,O,J ⟨[(6, .val ag (.own 224))],[(176, .own 3 az),(224, .own 3 az)],[],226⟩,O,T,P ⟨[(6, .val ag (.own 272)),(21, .l az)],[(176, .own 3 az),(272, .own 3 az)],[],274⟩,O,O,T,T,O,O,O,O,O,R ⟨[],[(176, .own 3 az)],[],627⟩] Tryz.func76
def M.mO(b:List ay.den):Option (Int×List Int):=
agu (M.eT N b) λa=>aa (a.2.1,a.2.2)
def W49:Fo 49 (.i1 [.l (.slice ay)]) (.j1 [.val ag (.own 0), .l az] [.own 3 az] 1) (M.mO N):=fz N [W76 N] [] Tryz.func49
def M.dS(b:bE.den)(c:Int):Option (List Int):=
agu (idx b.1 c) λe=>agu (M.fJ N e.1) λf=>agu (oM f 0) λd=>Loop (S:=Int×Int×List Int) (X:=List Int) (λa=>(if(ah (0<=a.2.1))then
agu (idx a.2.2 a.2.1) λh=>agu (idx b.2.1 a.1) λg=>aa (.inl (agw.wrap (g-1),agw.wrap (a.2.1-1),bm a.2.2 a.2.1 a.1))
else
aa (.inr a.2.2))) N (agw.wrap (c-1),agw.wrap ((d.length:Int)-1),d)
def W77:Fo 77 (.i1 [.g bE, .l az]) (.w1 3 az) (u2 (M.dS N)):=fz N [K0 N] [O,O,O,T,O,T,P ⟨[(6, .l az),(7, .l az)],[(144, .own 3 az)],[],289⟩] Tryz.func77
def M.jK(N:Nat)(a:Int):Option Bool:=
agu (if(ah (a=1))then
aa (ah (a=1))
else(if(ah (a=2))then
aa (ah (a=2))
else(if(ah (a=3))then
aa (ah (a=3))
else(if(ah (a=4))then
aa (ah (a=4))
else(if(ah (a=5))then
aa (ah (a=5))
else(if(ah (a=6))then
aa (ah (a=6))
else(if(ah (a=7))then
aa (ah (a=7))
else(if(ah (a=8))then
aa (ah (a=8))
else(if(ah (a=14))then
aa (ah (a=14))
else(if(ah (a=15))then
aa (ah (a=15))
else(if(ah (a=16))then
aa (ah (a=16))
else(if(ah (a=33))then
aa (ah (a=33))
else(if(ah (a=34))then
aa (ah (a=34))
else(if(ah (a=36))then
aa (ah (a=36))
else(if(ah (a=37))then
aa (ah (a=37))
else(if(ah (a=38))then
aa (ah (a=38))
else
aa (ah (a=39)))))))))))))))))) λb=>(if b then
aa af
else
aa ag)
def TP:Fo 192 (.i1 [.l az]) (.i1 [.l .bool]) (M.jK N):=fz N [] [O,T,O,T,B 4 32] Tryz.func192
def M.jz(a:ay.den):Option Bool:=
agu (agu (M.fJ N a.1) λb=>(if(ah (b<0))then
aa af
else(if(!ah (a.2=0))then
agu (M.jK N a.1) λc=>aa (!c)
else
aa ag)):Option Bool) λd=>(if d then
aa ag
else
agu (if(ah (a.1=14))then
aa (ah (a.1=14))
else(if(ah (a.1=15))then
aa (ah (a.1=15))
else
aa (ah (a.1=16)))) λe=>(if e then
agu (if(ah (0<=a.2))then
aa (ah (a.2<=5))
else
aa ag) λf=>aa f
else(if(ah (a.1=34))then
agu (if(ah (0<=a.2))then
aa (ah ((aha a.2 8)<=5))
else
aa ag) λg=>aa g
else(if(ah (a.1=6))then
aa (ah (0<=a.2))
else
aa af))))
def XW:Fo 122 (.i1 [.g ay]) (.i1 [.l .bool]) (M.jz N):=fz N [K0 N,TP N] [O,T,B 17 32,T,O,T,R ⟨[(20, .l .bool)],[],[],64⟩,X,T,B 2 64,O,T,B 2 96] Tryz.func122
def M.gj(N:Nat)(a:ay.den)(b:ik.den):Option Bool:=
(if(ah (a.1=7))then
agu (if(ah (0<=a.2))then
aa (ah (a.2<(b.2.1.length:Int)))
else
aa ag) λc=>aa c
else(if(ah (a.1=8))then
agu (if(ah (0<=a.2))then(if(ah (a.2<(b.2.2.1.length:Int)))then
agu (idx b.2.2.1 a.2) λd=>aa (!ah (d.1=0))
else
aa ag)
else
aa ag) λe=>aa e
else(if(ah (a.1=33))then
agu (if(ah (0<=a.2))then
aa (ah (a.2<(b.2.2.2.2.2.length:Int)))
else
aa ag) λf=>aa f
else(if(ah (a.1=34))then
aa (ah ((agw.wrap (agN a.2 8))<(b.2.2.2.2.2.length:Int)))
else
agu (if(ah (a.1=36))then
aa (ah (a.1=36))
else(if(ah (a.1=37))then
aa (ah (a.1=37))
else(if(ah (a.1=38))then
aa (ah (a.1=38))
else
aa (ah (a.1=39))))) λg=>(if g then
agu (if(ah (0<=a.2))then
aa (ah (a.2<(b.2.2.2.2.1.length:Int)))
else
aa ag) λh=>aa h
else
aa af)))))
def XX:Fo 123 (.i1 [.g ay, .g ik]) (.i1 [.l .bool]) (u2 (M.gj N)):=fz N [] [O,T,O,T,O,T,B 4 112,O,T,B 4 144,O,T,B 4 176,O,O,R ⟨[(65, .l .bool)],[],[],208⟩,X,T,B 4 208] Tryz.func123
def M.cY(N:Nat)(a:aA.den):Option Bool:=
agu (if(!ah (a.1=6))then
aa (!ah (a.2.1=0))
else
aa ag) λb=>(if b then
aa ag
else(if(ah (a.1=1))then
agu (if(ah (a.2.2=0))then
aa af
else
aa (ah (a.2.2=1))) λc=>aa c
else(if(ah (a.1=2))then
agu (if(ah ((-1000000000000)<=a.2.2))then
aa (ah (a.2.2<=1000000000000))
else
aa ag) λd=>aa d
else(if(ah (a.1=3))then
agu (if(ah ((-1000000000000000)<=a.2.2))then
aa (ah (a.2.2<=1000000000000000))
else
aa ag) λe=>aa e
else(if(ah (a.1=4))then
agu (if(ah ((-1000000000)<=a.2.2))then
aa (ah (a.2.2<=1000000000))
else
aa ag) λf=>aa f
else(if(ah (a.1=5))then
agu (if(ah (0<=a.2.2))then
aa (ah (a.2.2<=109572))
else
aa ag) λg=>aa g
else(if(ah (a.1=6))then
agu (if(ah (0<=a.2.1))then(if(ah (a.2.1<8))then(if(ah (0<=a.2.2))then
aa (ah (a.2.2<16))
else
aa ag)
else
aa ag)
else
aa ag) λh=>aa h
else
aa ag)))))))
def Il:Fo 127 (.i1 [.g aA]) (.i1 [.l .bool]) (M.cY N):=fz N [] [O,T,B 10 32,T,O,T,O,T,B 2 96,O,T,B 2 128,O,T,B 2 160,O,T,B 2 192,O,T,B 2 224,O,T,B 2 256] Tryz.func127
def M.gT(b:List aA.den):Option Bool:=
Loop (S:=Int) (X:=Bool) (λa=>(if(ah (a<(b.length:Int)))then
agu (idx b a) λc=>agu (M.cY N c) λd=>(if(!d)then
aa (.inr ag)
else
aa (.inl (agw.wrap (a+1))))
else
aa (.inr af))) N 0
def XY:Fo 124 (.i1 [.l (.slice aA)]) (.i1 [.l .bool]) (M.gT N):=fz N [Il N] [O,T,O,T,L 7 64] Tryz.func124
def M.ki(a:aA.den)(b:ay.den):Option Bool:=
agu (agu (M.cY N a) λc=>(if c then(if(ah (a.1=b.1))then
aa (ah (a.2.1=b.2))
else
aa ag)
else
aa ag):Option Bool) λd=>aa d
def TQ:Fo 193 (.i1 [.g aA, .g ay]) (.i1 [.l .bool]) (u2 (M.ki N)):=fz N [Il N] [O,B 4 48] Tryz.func193
def M.fK(N:Nat)(a:Int):Option Bool:=
agu (if(ah (a=2))then
aa af
else(if(ah (a=3))then
aa af
else
aa (ah (a=4)))) λb=>aa b
def Qz:Fo 263 (.i1 [.l az]) (.i1 [.l .bool]) (M.fK N):=fz N [] [O,B 2 16] Tryz.func263
def M.gp(b:Int)(a:ay.den):Option Bool:=
(if(!ah (a.2=0))then
aa ag
else(if(ah (b=36))then
agu (if(ah (a.1=2))then
aa af
else
aa (ah (a.1=3))) λc=>aa c
else(if(ah (b=39))then
agu (agu (M.fK N a.1) λd=>(if d then
aa af
else
aa (ah (a.1=5))):Option Bool) λe=>aa e
else
aa (ah (a.1=1)))))
def XZ:Fo 194 (.i1 [.l az, .g ay]) (.i1 [.l .bool]) (u2 (M.gp N)):=fz N [Qz N] [O,O,T,O,T,O,T,B 4 128,O,T,B 4 160] Tryz.func194
def M.gU(b:Int)(a:Int):Option Bool:=
(if(ah (b=10))then
agu (M.fK N a) λc=>aa c
else(if(ah (b=25))then
aa (ah (a=1))
else
aa (ah (a=5))))
def X0:Fo 195 (.i1 [.l az, .l az]) (.i1 [.l .bool]) (u2 (M.gU N)):=fz N [Qz N] [] Tryz.func195
def M.eK(N:Nat)(a:aA.den)(b:aA.den):Option Bool:=
agu (if(ah (a.1=b.1))then
aa (ah (a.2.1=b.2.1))
else
aa ag) λc=>aa c
def TR:Fo 197 (.i1 [.g aA, .g aA]) (.i1 [.l .bool]) (u2 (M.eK N)):=fz N [] [O,B 4 48] Tryz.func197
def M.gq(a:Int)(b:aA.den)(c:aA.den):Option Bool:=
agu (if(ah (a=11))then
aa (ah (a=11))
else
aa (ah (a=12))) λd=>(if d then
agu (agu (M.eK N b c) λe=>(if e then
agu (M.fK N b.1) λf=>aa f
else
aa ag):Option Bool) λg=>aa g
else(if(ah (a=13))then
agu (if(ah (c.1=2))then(if(ah (b.1=2))then
aa af
else
aa (ah (b.1=3)))
else
aa ag) λh=>aa h
else(if(ah (a=14))then
agu (if(ah (c.1=4))then(if(ah (b.1=3))then
aa af
else
aa (ah (b.1=4)))
else
aa ag) λi=>aa i
else(if(ah (a=15))then(if(ah (c.1=2))then
agu (if(ah (b.1=2))then
aa af
else
aa (ah (b.1=3))) λj=>aa j
else
agu (if(ah (b.1=3))then
aa (ah (c.1=3))
else
aa ag) λk=>aa k)
else(if(ah (a=16))then
agu (if(ah (b.1=3))then
aa (ah (c.1=3))
else
aa ag) λl=>aa l
else
agu (if(ah (a=17))then
aa (ah (a=17))
else(if(ah (a=18))then
aa (ah (a=18))
else(if(ah (a=21))then
aa (ah (a=21))
else
aa (ah (a=22))))) λm=>(if m then
agu (agu (M.eK N b c) λn=>(if n then
agu (M.fK N b.1) λo=>(if o then
aa af
else
aa (ah (b.1=5)))
else
aa ag):Option Bool) λp=>aa p
else
agu (if(ah (a=19))then
aa (ah (a=19))
else
aa (ah (a=20))) λq=>(if q then
agu (M.eK N b c) λr=>aa r
else
agu (if(ah (a=23))then
aa (ah (a=23))
else
aa (ah (a=24))) λs=>(if s then
agu (if(ah (b.1=1))then
aa (ah (c.1=1))
else
aa ag) λt=>aa t
else
agu (if(ah (a=27))then
aa (ah (a=27))
else
aa (ah (a=28))) λu=>(if u then
agu (if(ah (b.1=5))then
aa (ah (c.1=2))
else
aa ag) λv=>aa v
else
agu (if(ah (b.1=5))then
aa (ah (c.1=5))
else
aa ag) λw=>aa w)))))))))
def X1:Fo 196 (.i1 [.l az, .g aA, .g aA]) (.i1 [.l .bool]) (u3 (M.gq N)):=fz N [TR N,Qz N] [O,T,O,T,R ⟨[(8, .l .bool)],[],[],64⟩,X,T,B 6 64,O,T,B 6 96,O,T,B 6 128,O,T,T,O,T,B 6 208,X,B 6 208,O,T,B 6 192,R ⟨[(80, .l .bool)],[],[],192⟩,X,T,B 6 192,R ⟨[(98, .l .bool)],[],[],192⟩,X,O,R ⟨[(104, .l .bool)],[],[],192⟩,X,T,B 6 192,R ⟨[(115, .l .bool)],[],[],192⟩,X,T,B 6 192,X,X,B 6 192] Tryz.func196
def M.iV(a:ay.den)(b:List aA.den)(c:ik.den):Option Bool:=
(if(ah (a.1=7))then
agu (idx c.2.1 a.2) λf=>agu (M.cY N f) λg=>aa g
else(if(ah (a.1=8))then
agu (idx c.2.2.1 a.2) λh=>agu (M.cY N h) λi=>aa i
else(if(ah (a.1=33))then
agu (idx c.2.2.2.2.2 a.2) λd=>agu (agu (idx b 0) λj=>agu (M.ki N j d.2.1) λk=>(if k then(if(ah (1<=d.2.2.1.1))then
aa (ah (d.2.2.1.1<=6))
else
aa ag)
else
aa ag):Option Bool) λl=>aa l
else(if(ah (a.1=34))then
agu (idx c.2.2.2.2.2 (agw.wrap (agN a.2 8))) λe=>agu (agu (idx b 0) λm=>(if(ah (m.1=3))then(if(lH ay e.2.1 (3,0))then
aa (lH ay e.2.2.1 (4,0))
else
aa ag)
else
aa ag):Option Bool) λn=>aa n
else
agu (if(ah (a.1=36))then
aa (ah (a.1=36))
else(if(ah (a.1=37))then
aa (ah (a.1=37))
else(if(ah (a.1=38))then
aa (ah (a.1=38))
else
aa (ah (a.1=39))))) λo=>(if o then
agu (idx c.2.2.2.2.1 a.2) λp=>agu (M.gp N a.1 p) λq=>aa q
else(if(ah ((b.length:Int)=1))then
agu (idx b 0) λr=>agu (M.gU N a.1 r.1) λs=>aa s
else(if(ah ((b.length:Int)=2))then
agu (idx b 0) λt=>agu (idx b 1) λu=>agu (M.gq N a.1 t u) λv=>aa v
else(if(ah ((b.length:Int)=3))then
agu (agu (idx b 0) λw=>(if(ah (w.1=1))then
agu (idx b 1) λx=>agu (idx b 2) λy=>agu (M.eK N x y) λz=>aa z
else
aa ag):Option Bool) λA=>aa A
else
aa af))))))))
def X2:Fo 125 (.i1 [.g ay, .l (.slice aA), .g ik]) (.i1 [.l .bool]) (u3 (M.iV N)):=fz N [Il N,TQ N,XZ N,X0 N,X1 N,TR N] [O,T,O,T,O,O,O,O,O,T,O,B 6 304,O,T,O,B 6 352,B 81 208,X,T,O,T,O,O,O,O,O,T,B 6 336] Tryz.func125
def M.eN(b:ay.den)(e:ik.den):Option (aA.den×Int):=
agu (idx e.2.2.2.2.1 b.2) λd=>agu ((if(ah (b.1=37))then
aa (d.1,(d.2,1))
else
aa (d.1,(d.2,0))):Option (aA.den)) λg=>agu (if(ah (b.1=39))then
aa (ah ((e.2.2.2.1.length:Int)=0))
else
aa ag) λh=>(if h then
aa ((0,(0,0)),6)
else
cd (J:=aA.den) (R:=aA.den×Int) (Loop (S:=Int×aA.den) (X:=(aA.den)⊕(aA.den×Int)) (λa=>(if(ah (a.1<(e.2.2.2.1.length:Int)))then
agu (idx e.2.2.2.1 a.1) λf=>agu (if(ah ((f.length:Int)<=b.2))then
aa af
else
agu (idx f b.2) λi=>aa (ah (i.1=0))) λj=>(if j then
aa (.inr (.inr ((0,(0,0)),6)))
else
agu (idx f b.2) λc=>agu (M.ki N c d) λk=>(if(!k)then
aa (.inr (.inr ((0,(0,0)),8)))
else
cd (J:=aA.den) (R:=(Int×aA.den)⊕((aA.den)⊕(aA.den×Int))) ((if(ah (b.1=36))then
agu (M.cY N (a.2.1,(a.2.2.1,agw.wrap (a.2.2.2+c.2.2)))) λl=>(if(!l)then
aa (.inr (.inr (.inr ((0,(0,0)),3))))
else
aa (.inl (a.2.1,(a.2.2.1,agw.wrap (a.2.2.2+c.2.2)))))
else(if(ah (b.1=37))then
aa (.inl (a.2.1,(a.2.2.1,if c.2.2<a.2.2.2 then c.2.2 else a.2.2.2)))
else(if(ah (b.1=38))then
aa (.inl (a.2.1,(a.2.2.1,if a.2.2.2<c.2.2 then c.2.2 else a.2.2.2)))
else(if(ah (b.1=39))then
agu (if(ah (a.1=0))then
aa af
else
aa (ah (a.2.2.2<c.2.2))) λm=>(if m then
aa (.inl c)
else
aa (.inl a.2))
else
aa (.inl a.2)))))) λn=>aa (.inl (agw.wrap (a.1+1),n))))
else
aa (.inr (.inl a.2)))) N (0,g)) λo=>aa (o,0))
def X3:Fo 198 (.i1 [.g ay, .g ik]) (.i1 [.g aA, .l az]) (u2 (M.eN N)):=fz N [Il N,TQ N] [O,O,O,R ⟨[],[(272, .box 40 (.leaf aA))],[],305⟩,X,T,B 34 305,J ⟨[],[(272, .box 40 (.leaf aA))],[],306⟩,O,T,P ⟨[(39, .l az)],[(272, .box 40 (.leaf aA))],[],370⟩,O,O,T,T,O,T,B 57 466,O,O,O,J ⟨[],[(272, .box 40 (.leaf aA))],[],675⟩,O,O,O,O,O,O,O,T,B 109 802] Tryz.func198
def M.ed(N:Nat)(a:ay.den):Option Bool:=
agu (if(ah (0<=a.1))then(if(ah (a.1<=a.2))then
aa (ah (a.2<=109573))
else
aa ag)
else
aa ag) λb=>aa b
def QA:Fo 112 (.i1 [.g ay]) (.i1 [.l .bool]) (M.ed N):=fz N [] [O,B 2 32] Tryz.func112
def M.cB(a:ay.den)(b:Int):Option Bool:=
agu (agu (M.ed N a) λc=>(if c then(if(ah (a.1<=b))then
aa (ah (b<a.2))
else
aa ag)
else
aa ag):Option Bool) λd=>aa d
def X4:Fo 71 (.i1 [.g ay, .l az]) (.i1 [.l .bool]) (u2 (M.cB N)):=fz N [QA N] [O,B 4 32] Tryz.func71
def M.jL(a:jr.den)(c:Int)(b:Int):Option (Bool×Int×Int):=
agu (agu (M.cB N a.1 c) λd=>(if d then(if(ah (a.2.1<=b))then
aa (ah (b<a.2.2.1))
else
aa ag)
else
aa ag):Option Bool) λe=>aa (e,c,b)
def QB:Fo 264 (.j1 [.g jr, .ptr 0 [] 0, .ptr 1 [] 0] [.box 3 (.leaf az), .box 3 (.leaf az)] 2) (.j1 [.l .bool] [.box 3 (.leaf az), .box 3 (.leaf az)] 4) (u3 (M.jL N)):=fz N [X4 N] [O,B 4 34] Tryz.func264
def M.cI(c:List jr.den)(d:Int)(e:Int):Option (Int×Bool×Int×Int):=
Loop (S:=Int×Int×Int) (X:=Int×Bool×Int×Int) (λa=>(if(ah (a.1<(c.length:Int)))then
agu (idx c a.1) λf=>agu (M.jL N f a.2.1 a.2.2) λb=>(if b.1 then
aa (.inr (a.1,af,b.2.1,b.2.2))
else
aa (.inl (agw.wrap (a.1+1),b.2.1,b.2.2)))
else
aa (.inr (0,ag,a.2.1,a.2.2)))) N (0,d,e)
def QC:Fo 145 (.j1 [.l (.slice jr), .fn 264 [(0,[],0),(1,[],0)]] [.box 3 (.leaf az), .box 3 (.leaf az)] 2) (.j1 [.l az, .l .bool] [.box 3 (.leaf az), .box 3 (.leaf az)] 4) (u3 (M.cI N)):=fz N [QB N] [O,T,O,T,P ⟨[(10, .l az)],[(0, .box 3 (.leaf az)),(1, .box 3 (.leaf az))],[],84⟩] Tryz.func145
def M.lV(b:bn.den)(c:Int)(d:Int):Option (Int×Bool):=
agu (M.cI N b.2.2.2 c d) λa=>aa (a.1,a.2.1)
def X5:Fo 199 (.i1 [.g bn, .l az, .l az]) (.i1 [.l az, .l .bool]) (u3 (M.lV N)):=fz N [QC N] [] Tryz.func199
def M.ee(N:Nat)(a:Int)(b:Int):Option (Int×Int):=
aa (agy.wrap ((agy.wrap ((agy.wrap ((bQ .u64 a 32)*(bQ .u64 b 32)))+(bQ .u64 (agy.wrap ((agy.wrap ((bQ .u64 a 32)*(aG .and .u64 b 4294967295)))+(bQ .u64 (agy.wrap ((aG .and .u64 a 4294967295)*(aG .and .u64 b 4294967295))) 32))) 32)))+(bQ .u64 (agy.wrap ((aG .and .u64 (agy.wrap ((agy.wrap ((bQ .u64 a 32)*(aG .and .u64 b 4294967295)))+(bQ .u64 (agy.wrap ((aG .and .u64 a 4294967295)*(aG .and .u64 b 4294967295))) 32))) 4294967295)+(agy.wrap ((aG .and .u64 a 4294967295)*(bQ .u64 b 32))))) 32)),agy.wrap (a*b))
def NL:Fo 304 (.i1 [.l (.int .u64), .l (.int .u64)]) (.i1 [.l (.int .u64), .l (.int .u64)]) (u2 (M.ee N)):=fz N [] [] Tryz.func304
def M.jA(N:Nat)(c:Int):Option Int:=
agu ((if(ah (4294967296<=c))then
aa (bQ .u64 c 32,32)
else
aa (c,0)):Option (Int×Int)) λa=>agu ((if(ah (65536<=a.1))then
aa (bQ .u64 a.1 16,agw.wrap (a.2+16))
else
aa (a.1,a.2)):Option (Int×Int)) λb=>agu ((if(ah (256<=b.1))then
aa (bQ .u64 b.1 8,agw.wrap (b.2+8))
else
aa (b.1,b.2)):Option (Int×Int)) λd=>agu (kS (⟨#[0,1,2,2,3,3,3,3,4,4,4,4,4,4,4,4,5,5,5,5,5,5,5,5,5,5,5,5,5,5,5,5,6,6,6,6,6,6,6,6,6,6,6,6,6,6,6,6,6,6,6,6,6,6,6,6,6,6,6,6,6,6,6,6,7,7,7,7,7,7,7,7,7,7,7,7,7,7,7,7,7,7,7,7,7,7,7,7,7,7,7,7,7,7,7,7,7,7,7,7,7,7,7,7,7,7,7,7,7,7,7,7,7,7,7,7,7,7,7,7,7,7,7,7,7,7,7,7,8,8,8,8,8,8,8,8,8,8,8,8,8,8,8,8,8,8,8,8,8,8,8,8,8,8,8,8,8,8,8,8,8,8,8,8,8,8,8,8,8,8,8,8,8,8,8,8,8,8,8,8,8,8,8,8,8,8,8,8,8,8,8,8,8,8,8,8,8,8,8,8,8,8,8,8,8,8,8,8,8,8,8,8,8,8,8,8,8,8,8,8,8,8,8,8,8,8,8,8,8,8,8,8,8,8,8,8,8,8,8,8,8,8,8,8,8,8,8,8,8,8,8,8,8,8,8,8]⟩:ByteArray) (IntKind.u8.wrap d.1)) λe=>aa (agw.wrap (d.2+(agw.wrap e)))
def X6:Fo 303 (.i1 [.l (.int .u64)]) (.i1 [.l az]) (M.jA N):=fz N [] [O,R ⟨[(0, .l (.int .u64)),(2, .l az)],[],[],16⟩,X,R ⟨[(0, .l (.int .u64)),(2, .l az)],[],[],16⟩,X,R ⟨[(0, .l (.int .u64)),(2, .l az)],[],[],16⟩] Tryz.func303
def M.fL(a:Int):Option Int:=
agu (M.jA N a) λb=>aa (agw.wrap (64-b))
def X7:Fo 333 (.i1 [.l (.int .u64)]) (.i1 [.l az]) (M.fL N):=fz N [X6 N] [] Tryz.func333
def M.dy(k:Int)(i:Int)(d:Int):Option (Int×Int):=
(if(ah (d=0))then
ae
else(if(ah (d<=k))then
ae
else(if(ah (k=0))then
agu (y0 i d) λo=>agu (G6 i d) λp=>aa (agy.wrap o,p)
else
agu (M.fL N d) λf=>agu (qK .u64 d (agy.wrap f)) λa=>agu (qK .u64 k (agy.wrap f)) λg=>agu (w8 .u64 i (agy.wrap (64-(agy.wrap f)))) λh=>agu (qK .u64 i (agy.wrap f)) λe=>agu (y0 (aG .or .u64 g h) (bQ .u64 a 32)) λl=>agu (agu (Loop (S:=Int×Int) (X:=Int) (λb=>agu (if(ah (4294967296<=b.1))then
aa af
else
aa (ah ((agy.wrap ((agy.wrap (4294967296*b.2))+(bQ .u64 e 32)))<(agy.wrap (b.1*(aG .and .u64 a 4294967295)))))) λq=>(if q then(if(ah (4294967296<=(agy.wrap (b.2+(bQ .u64 a 32)))))then
aa (.inr (agy.wrap (b.1-1)))
else
aa (.inl (agy.wrap (b.1-1),agy.wrap (b.2+(bQ .u64 a 32)))))
else
aa (.inr b.1))) N (agy.wrap l,agy.wrap ((aG .or .u64 g h)-(agy.wrap ((agy.wrap l)*(bQ .u64 a 32))))):Option Int) λr=>aa r:Option Int) λj=>agu (y0 (agy.wrap ((agy.wrap ((agy.wrap ((aG .or .u64 g h)*4294967296))+(bQ .u64 e 32)))-(agy.wrap (j*a)))) (bQ .u64 a 32)) λm=>agu (agu (Loop (S:=Int×Int) (X:=Int) (λc=>agu (if(ah (4294967296<=c.2))then
aa af
else
aa (ah ((agy.wrap ((agy.wrap (4294967296*c.1))+(aG .and .u64 e 4294967295)))<(agy.wrap (c.2*(aG .and .u64 a 4294967295)))))) λs=>(if s then(if(ah (4294967296<=(agy.wrap (c.1+(bQ .u64 a 32)))))then
aa (.inr (agy.wrap (c.2-1)))
else
aa (.inl (agy.wrap (c.1+(bQ .u64 a 32)),agy.wrap (c.2-1))))
else
aa (.inr c.2))) N (agy.wrap ((agy.wrap ((agy.wrap ((agy.wrap ((aG .or .u64 g h)*4294967296))+(bQ .u64 e 32)))-(agy.wrap (j*a))))-(agy.wrap ((agy.wrap m)*(bQ .u64 a 32)))),agy.wrap m):Option Int) λt=>aa t:Option Int) λn=>agu (w8 .u64 (agy.wrap ((agy.wrap ((agy.wrap ((agy.wrap ((agy.wrap ((agy.wrap ((aG .or .u64 g h)*4294967296))+(bQ .u64 e 32)))-(agy.wrap (j*a))))*4294967296))+(aG .and .u64 e 4294967295)))-(agy.wrap (n*a)))) (agy.wrap f)) λu=>aa (agy.wrap ((agy.wrap (j*4294967296))+n),u))))
def QD:Fo 305 (.i1 [.l (.int .u64), .l (.int .u64), .l (.int .u64)]) (.i1 [.l (.int .u64), .l (.int .u64)]) (u3 (M.dy N)):=fz N [X7 N] [O,O,O,O,O,O,O,O,O,O,O,O,O,O,R ⟨[(15, .l (.int .u64))],[],[],832⟩,R ⟨[(15, .l (.int .u64))],[],[],832⟩,P ⟨[(15, .l (.int .u64)),(16, .l (.int .u64))],[],[],832⟩,T,B 78 832,X,X,O,O,O,R ⟨[(18, .l (.int .u64))],[],[],1136⟩,R ⟨[(18, .l (.int .u64))],[],[],1136⟩,P ⟨[(16, .l (.int .u64)),(18, .l (.int .u64))],[],[],1136⟩,T,B 113 1136] Tryz.func305
def M.gr(d:Int)(b:Int):Option (Int×Int×Bool):=
agu ((if(ah (b<0))then
aa (agy.wrap (0-(agy.wrap b)))
else
aa (agy.wrap b)):Option Int) λe=>agu (M.ee N (agy.wrap d) e) λc=>(if(ah (1000000<=c.1))then
aa (0,0,ag)
else
agu (M.dy N c.1 c.2 1000000) λa=>(if(ah (1000000000000000<a.1))then
aa (0,0,ag)
else(if(ah (b<0))then
aa (agw.wrap (0-(agw.wrap a.1)),agw.wrap (0-(agw.wrap a.2)),af)
else
aa (agw.wrap a.1,agw.wrap a.2,af))))
def X8:Fo 265 (.i1 [.l az, .l az]) (.i1 [.l az, .l az, .l .bool]) (u2 (M.gr N)):=fz N [NL N,QD N] [O,O,R ⟨[(7, .l (.int .u64))],[],[],96⟩] Tryz.func265
def M.fm(N:Nat)(a:Int):Option Bool:=
agu (if(ah (0<=a))then
aa (ah (a<=5))
else
aa ag) λb=>aa b
def QE:Fo 334 (.i1 [.l az]) (.i1 [.l .bool]) (M.fm N):=fz N [] [O,B 2 16] Tryz.func334
def M.dM(N:Nat)(a:Int)(b:Int):Option Bool:=
agu (if(ah (b<a))then
aa af
else
aa (ah (a<(agw.wrap (0-b))))) λc=>aa c
def QF:Fo 335 (.i1 [.l az, .l az]) (.i1 [.l .bool]) (u2 (M.dM N)):=fz N [] [O,B 4 16] Tryz.func335
def M.dz(N:Nat)(a:Int):Option Int:=
(if(ah (a<0))then
aa (agy.wrap (0-(agy.wrap a)))
else
aa (agy.wrap a))
def TS:Fo 336 (.i1 [.l az]) (.i1 [.l (.int .u64)]) (M.dz N):=fz N [] [] Tryz.func336
def M.dO(N:Nat)(c:Int)(a:Int)(d:Int)(e:Bool)(b:Int):Option Int:=
(if(ah (a=0))then
aa c
else
agu (if(ah (b=0))then
aa e
else(if(ah (b=1))then
aa (!e)
else(if(ah (b=3))then
aa af
else(if(ah (b=4))then
aa (ah ((agy.wrap (d-a))<=a))
else(if(ah (b=5))then(if(ah ((agy.wrap (d-a))<a))then
aa af
else(if(ah (a=(agy.wrap (d-a))))then
aa (ah ((aha c 2)=1))
else
aa ag))
else
aa ag))))) λf=>agu ((if f then
aa (agy.wrap (c+1))
else
aa c):Option Int) λg=>aa g)
def TT:Fo 337 (.i1 [.l (.int .u64), .l (.int .u64), .l (.int .u64), .l .bool, .l az]) (.i1 [.l (.int .u64)]) (u5 (M.dO N)):=fz N [] [O,O,O,T,O,B 11 80,R ⟨[(0, .l (.int .u64))],[],[],80⟩] Tryz.func337
def M.kj(N:Nat)(a:Int)(b:Bool):Option Int:=
(if b then
aa (agw.wrap (0-(agw.wrap a)))
else
aa (agw.wrap a))
def TU:Fo 338 (.i1 [.l (.int .u64), .l .bool]) (.i1 [.l az]) (u2 (M.kj N)):=fz N [] [] Tryz.func338
def M.eU(b:Int)(a:Int)(d:Int):Option (Int×Int):=
agu (M.fm N d) λf=>(if(!f)then
aa (0,1)
else(if(ah (a=0))then
aa (0,12)
else
agu (agu (M.dM N b 4611686018427387904) λg=>(if g then
aa af
else
agu (M.dM N a 4611686018427387904) λh=>aa h):Option Bool) λi=>(if i then
aa (0,3)
else
agu (M.dz N b) λe=>agu (M.dz N a) λc=>agu (y0 e c) λj=>agu (G6 e c) λk=>agu (M.dO N (agy.wrap j) k c (!ah ((ah (b<0))=(ah (a<0)))) d) λl=>agu (M.kj N l (!ah ((ah (b<0))=(ah (a<0))))) λm=>aa (m,0))))
def NM:Fo 306 (.i1 [.l az, .l az, .l az]) (.i1 [.l az, .l az]) (u3 (M.eU N)):=fz N [QE N,QF N,TS N,TT N,TU N] [O,O,O,T,B 22 112] Tryz.func306
def M.iE(b:Int)(a:Int)(e:Int):Option (Int×Int):=
agu (if(ah ((agw.wrap (b+(agw.wrap (agN a 1000000))))<(-2000000000000000)))then
aa af
else
aa (ah (2000000000000000<(agw.wrap (b+(agw.wrap (agN a 1000000))))))) λf=>(if f then
aa (0,3)
else
agu ((if(ah (1<(agw.wrap (b+(agw.wrap (agN a 1000000))))))then
aa (agw.wrap ((aha (agw.wrap (b+(agw.wrap (agN a 1000000)))) 2)+2))
else(if(ah ((agw.wrap (b+(agw.wrap (agN a 1000000))))<(-1)))then
aa (agw.wrap ((aha (agw.wrap (b+(agw.wrap (agN a 1000000)))) 2)-2))
else
aa (aha (agw.wrap (b+(agw.wrap (agN a 1000000)))) 2))):Option Int) λd=>agu (M.eU N (agw.wrap ((agw.wrap (d*1000000))+(aha a 1000000))) 1000000 e) λc=>(if(!ah (c.2=0))then
aa (0,c.2)
else
agu (if(ah ((agw.wrap ((agw.wrap ((agw.wrap (b+(agw.wrap (agN a 1000000))))-d))+c.1))<(-1000000000000000)))then
aa af
else
aa (ah (1000000000000000<(agw.wrap ((agw.wrap ((agw.wrap (b+(agw.wrap (agN a 1000000))))-d))+c.1))))) λg=>(if g then
aa (0,3)
else
aa (agw.wrap ((agw.wrap ((agw.wrap (b+(agw.wrap (agN a 1000000))))-d))+c.1),0))))
def X9:Fo 266 (.i1 [.l az, .l az, .l az]) (.i1 [.l az, .l az]) (u3 (M.iE N)):=fz N [NM N] [O,O,O,T,B 23 160,O,T,R ⟨[(8, .l az)],[],[],208⟩,X,X,O,O,O,T,B 58 512] Tryz.func266
def M.kl(d:bn.den)(j:Int)(c:Int)(e:Int):Option (Int×Int):=
agu (if(ah (e<0))then
aa af
else
aa (ah (5<e))) λk=>(if k then
aa (0,1)
else
agu (if(!(lH ay d.2.1 (3,0)))then
aa af
else
aa (!(lH ay d.2.2.1 (4,0)))) λl=>(if l then
aa (0,8)
else
agu (if(ah (c<(-1000000000000000)))then
aa af
else
aa (ah (1000000000000000<c))) λm=>(if m then
aa (0,3)
else
cd (J:=Int×Int) (R:=Int×Int) (Loop (S:=Int×Int×Int) (X:=(Int×Int)⊕(Int×Int)) (λb=>(if(ah (b.2.2<(d.2.2.2.length:Int)))then
cd (J:=Int×Int) (R:=(Int×Int×Int)⊕((Int×Int)⊕(Int×Int))) (agu (idx d.2.2.2 b.2.2) λa=>agu (agu (M.cB N a.1 j) λn=>(if(!n)then
aa af
else
aa (ah ((if c<a.2.2.1 then c else a.2.2.1)<=(if a.2.1<0 then 0 else a.2.1)))):Option Bool) λo=>(if o then
aa (.inl (b.1,b.2.1))
else
agu (M.gr N (agw.wrap ((if c<a.2.2.1 then c else a.2.2.1)-(if a.2.1<0 then 0 else a.2.1))) a.2.2.2) λf=>(if(!f.2.2)then
aa (.inr (.inr (.inr (0,3))))
else
aa (.inl (agw.wrap (b.1+f.1),agw.wrap (b.2.1+f.2.1)))))) λg=>aa (.inl (g.1,g.2,agw.wrap (b.2.2+1)))
else
aa (.inr (.inl (b.1,b.2.1))))) N (0,0,0)) λh=>agu (M.iE N h.1 h.2 e) λi=>aa (i.1,i.2))))
def Ya:Fo 200 (.i1 [.g bn, .l az, .l az, .l az]) (.i1 [.l az, .l az]) (u4 (M.kl N)):=fz N [X4 N,X8 N,X9 N] [O,T,B 24 48,T,B 34 48,T,B 40 48,O,J ⟨[(10, .l az),(11, .l az)],[],[],80⟩,O,T,P ⟨[(10, .l az),(11, .l az),(44, .l az)],[],[],144⟩,O,O,T,J ⟨[(10, .l az),(11, .l az)],[],[],160⟩,O,O,T,B 64 368] Tryz.func200
def M.ef(N:Nat)(a:Bool):Option (aA.den):=
(if a then
aa (1,(0,1))
else
aa (1,(0,0)))
def TV:Fo 267 (.i1 [.l .bool]) (.i1 [.g aA]) (M.ef N):=fz N [] [] Tryz.func267
def M.jM(N:Nat)(a:Int):Option Bool:=
agu (if(ah (0<=a))then
aa (ah (a<=109572))
else
aa ag) λb=>aa b
def QG:Fo 307 (.i1 [.l az]) (.i1 [.l .bool]) (M.jM N):=fz N [] [O,B 2 16] Tryz.func307
def M.km(N:Nat)(a:Int):Option Int:=
aa (agw.wrap ((agw.wrap ((agw.wrap (agN a 4))-(agw.wrap (agN a 100))))+(agw.wrap (agN a 400))))
def Yb:Fo 339 (.i1 [.l az]) (.i1 [.l az]) (M.km N):=fz N [] [] Tryz.func339
def M.eV(a:Int):Option Int:=
agu (M.km N (agw.wrap (a-1))) λb=>agu (M.km N 1899) λc=>aa (agw.wrap ((agw.wrap ((agw.wrap ((agw.wrap (a-1900))*365))+b))-c))
def TW:Fo 308 (.i1 [.l az]) (.i1 [.l az]) (M.eV N):=fz N [Yb N] [] Tryz.func308
def M.pg(N:Nat)(a:Int):Option Bool:=
agu (if(ah ((aha a 4)=0))then(if(!ah ((aha a 100)=0))then
aa af
else
aa (ah ((aha a 400)=0)))
else
aa ag) λb=>aa b
def Yc:Fo 340 (.i1 [.l az]) (.i1 [.l .bool]) (M.pg N):=fz N [] [O,B 2 16] Tryz.func340
def M.dF(b:Int)(a:Int):Option Int:=
agu (if(ah (a<1))then
aa af
else
aa (ah (12<a))) λc=>(if c then
aa 0
else
agu (if(ah (a=2))then
agu (M.pg N b) λd=>aa d
else
aa ag) λe=>(if e then
aa 29
else
agu (idx ([31,28,31,30,31,30,31,31,30,31,30,31]:List Int) (agw.wrap (a-1))) λf=>aa f))
def QH:Fo 309 (.i1 [.l az, .l az]) (.i1 [.l az]) (u2 (M.dF N)):=fz N [Yc N] [O,T,B 10 16,T,B 16 16] Tryz.func309
def M.jN(b:Int):Option (Int×Int×Int):=
agu (M.jM N b) λf=>(if(!f)then
aa (0,0,0)
else
agu (Loop (S:=Int) (X:=Int) (λc=>agu (M.eV N (agw.wrap (c+1))) λg=>(if(ah (g<=b))then
aa (.inl (agw.wrap (c+1)))
else
aa (.inr c))) N (agw.wrap (1900+(agw.wrap (agN b 366)))):Option Int) λd=>agu (M.eV N d) λh=>Loop (S:=Int×Int) (X:=Int×Int×Int) (λa=>(if(ah (a.2<12))then
agu (M.dF N d (agw.wrap (a.2+1))) λe=>(if(ah (a.1<e))then
aa (.inr (d,agw.wrap (a.2+1),agw.wrap (a.1+1)))
else
aa (.inl (agw.wrap (a.1-e),agw.wrap (a.2+1))))
else
aa (.inr (0,0,0)))) N (agw.wrap (b-h),0))
def QI:Fo 268 (.i1 [.l az]) (.i1 [.l az, .l az, .l az]) (M.jN N):=fz N [QG N,TW N,QH N] [O,O,O,R ⟨[(5, .l az)],[],[],160⟩,T,L 5 160,X,X,O,T,O,T,P ⟨[(6, .l az),(26, .l az)],[],[],256⟩] Tryz.func268
def M.oj(b:Int)(a:aA.den):Option (aA.den):=
(if(ah (b=10))then
aa (a.1,(0,agw.wrap (0-a.2.2)))
else(if(ah (b=25))then
agu (M.ef N (ah (a.2.2=0))) λd=>aa d
else
agu (M.jN N a.2.2) λc=>(if(ah (b=31))then
aa (2,(0,c.1))
else
aa (2,(0,c.2.1)))))
def Yd:Fo 201 (.i1 [.l az, .g aA]) (.i1 [.g aA]) (u2 (M.oj N)):=fz N [TV N,QI N] [] Tryz.func201
def M.lW(a:Int)(b:Int):Option (Int×Int):=
agu (M.ee N (agy.wrap (if a<(agw.wrap (0-a))then(agw.wrap (0-a))else a)) (agy.wrap (if b<(agw.wrap (0-b))then(agw.wrap (0-b))else b))) λc=>agu (if(!ah (c.1=0))then
aa af
else
aa (ah (1000000000000000<c.2))) λd=>(if d then
aa (0,3)
else(if(!ah ((ah (a<0))=(ah (b<0))))then
aa (agw.wrap (0-(agw.wrap c.2)),0)
else
aa (agw.wrap c.2,0)))
def Ye:Fo 310 (.i1 [.l az, .l az]) (.i1 [.l az, .l az]) (u2 (M.lW N)):=fz N [NL N] [O,O,T,B 27 288] Tryz.func310
def M.lX(b:Int)(c:Int)(a:Int)(g:Int):Option (Int×Int):=
agu (M.fm N g) λi=>(if(!i)then
aa (0,1)
else(if(ah (a=0))then
aa (0,12)
else
agu (agu (M.dM N b 1000000000000000) λj=>(if j then
aa af
else
agu (M.dM N c 1000000000) λk=>(if k then
aa af
else
agu (M.dM N a 1000000000) λl=>aa l)):Option Bool) λm=>(if m then
aa (0,3)
else
agu (M.dz N b) λn=>agu (M.dz N c) λo=>agu (M.ee N n o) λd=>agu (M.dz N a) λe=>(if(ah (e<=d.1))then
aa (0,3)
else
agu (M.dy N d.1 d.2 e) λf=>(if(ah (1000000000000000<f.1))then
aa (0,3)
else
agu (M.dO N f.1 f.2 e (!ah ((!ah ((ah (b<0))=(ah (c<0))))=(ah (a<0)))) g) λh=>(if(ah (1000000000000000<h))then
aa (0,3)
else
agu (M.kj N h (!ah ((!ah ((ah (b<0))=(ah (c<0))))=(ah (a<0))))) λp=>aa (p,0)))))))
def Yf:Fo 341 (.i1 [.l az, .l az, .l az, .l az]) (.i1 [.l az, .l az]) (u4 (M.lX N)):=fz N [NL N,QD N,QE N,QF N,TS N,TT N,TU N] [O,O,O,T,B 30 112] Tryz.func341
def M.ol(b:Int)(c:Int)(d:Int):Option (Int×Int):=
agu (M.lX N b c 1000000 d) λa=>aa (a.1,a.2)
def Yg:Fo 311 (.i1 [.l az, .l az, .l az]) (.i1 [.l az, .l az]) (u3 (M.ol N)):=fz N [Yf N] [] Tryz.func311
def M.ko(N:Nat)(a:Int):Option Bool:=
agu (if(ah (0<=a))then
aa (ah (a<=5))
else
aa ag) λb=>aa b
def TX:Fo 342 (.i1 [.l az]) (.i1 [.l .bool]) (M.ko N):=fz N [] [O,B 2 16] Tryz.func342
def M.iF(N:Nat)(a:Int)(b:Int):Option Bool:=
agu (if(ah (b<a))then
aa af
else
aa (ah (a<(agw.wrap (0-b))))) λc=>aa c
def TY:Fo 343 (.i1 [.l az, .l az]) (.i1 [.l .bool]) (u2 (M.iF N)):=fz N [] [O,B 4 16] Tryz.func343
def M.rV(b:Int)(c:Int)(d:Int):Option (Int×Int):=
agu (M.ko N d) λe=>(if(!e)then
aa (0,1)
else
agu (agu (M.iF N b 1000000000) λf=>(if f then
aa af
else
agu (M.iF N c 1000000000) λg=>aa g):Option Bool) λh=>(if h then
aa (0,3)
else
agu (M.eU N (agw.wrap (b*c)) 1000000 d) λa=>(if(!ah (a.2=0))then
aa (0,a.2)
else
agu (M.iF N a.1 1000000000) λi=>(if i then
aa (0,3)
else
aa (a.1,0)))))
def Yh:Fo 312 (.i1 [.l az, .l az, .l az]) (.i1 [.l az, .l az]) (u3 (M.rV N)):=fz N [NM N,TX N,TY N] [O,O,T,B 18 80] Tryz.func312
def M.lk(c:Int)(a:Int)(d:Int):Option (Int×Int):=
agu (M.fm N d) λe=>(if(!e)then
aa (0,1)
else(if(ah (a<1))then
aa (0,12)
else
agu (agu (M.dM N c 1000000000000000) λf=>(if f then
aa af
else
aa (ah (1000000000000000<a))):Option Bool) λg=>(if g then
aa (0,3)
else
agu (M.eU N c a d) λb=>(if(!ah (b.2=0))then
aa (0,b.2)
else
agu (M.dM N (agw.wrap (b.1*a)) 1000000000000000) λh=>(if h then
aa (0,3)
else
aa (agw.wrap (b.1*a),0))))))
def Yi:Fo 313 (.i1 [.l az, .l az, .l az]) (.i1 [.l az, .l az]) (u3 (M.lk N)):=fz N [NM N,QE N,QF N] [O,O,O,T,B 20 112] Tryz.func313
def M.ll(N:Nat)(e:Int)(a:Int)(c:Int)(d:Bool)(b:Int):Option Bool:=
(if(ah (a=0))then
aa ag
else(if(ah (b=0))then
aa d
else(if(ah (b=1))then
aa (!d)
else(if(ah (b=3))then
aa af
else(if(ah (b=4))then
aa (ah ((agy.wrap (c-a))<=a))
else(if(ah (b=5))then
agu (if(ah ((agy.wrap (c-a))<a))then
aa af
else(if(ah (a=(agy.wrap (c-a))))then
aa (ah ((aha e 2)=1))
else
aa ag)) λf=>aa f
else
aa ag))))))
def Yj:Fo 344 (.i1 [.l (.int .u64), .l (.int .u64), .l (.int .u64), .l .bool, .l az]) (.i1 [.l .bool]) (u5 (M.ll N)):=fz N [] [O,O,T,O,T,O,O,O,O,O,O,O,O,O,T,B 10 224] Tryz.func344
def M.kq(b:Int)(a:Int)(f:Int):Option (Int×Int):=
agu (M.ko N f) λg=>(if(!g)then
aa (0,1)
else(if(ah (a=0))then
aa (0,12)
else
agu (agu (M.iF N b 1000000000000000) λh=>(if h then
aa af
else
agu (M.iF N a 1000000000000000) λi=>aa i):Option Bool) λj=>(if j then
aa (0,3)
else
agu (M.ee N (agy.wrap (if b<(agw.wrap (0-b))then(agw.wrap (0-b))else b)) 1000000) λd=>(if(ah ((agy.wrap (if a<(agw.wrap (0-a))then(agw.wrap (0-a))else a))<=d.1))then
aa (0,3)
else
agu (M.dy N d.1 d.2 (agy.wrap (if a<(agw.wrap (0-a))then(agw.wrap (0-a))else a))) λc=>(if(ah (1000000000<c.1))then
aa (0,3)
else
agu (agu (M.ll N c.1 c.2 (agy.wrap (if a<(agw.wrap (0-a))then(agw.wrap (0-a))else a)) (!ah ((ah (b<0))=(ah (a<0)))) f) λk=>(if k then
aa (agw.wrap ((agw.wrap c.1)+1))
else
aa (agw.wrap c.1)):Option Int) λe=>(if(ah (1000000000<e))then
aa (0,3)
else
agu ((if(!ah ((ah (b<0))=(ah (a<0))))then
aa (agw.wrap (0-e))
else
aa e):Option Int) λl=>aa (l,0)))))))
def Yk:Fo 314 (.i1 [.l az, .l az, .l az]) (.i1 [.l az, .l az]) (u3 (M.kq N)):=fz N [NL N,QD N,TX N,TY N,Yj N] [O,O,O,T,B 25 112,O,O,O,O,O,O,O,R ⟨[(14, .l az)],[],[],752⟩,X,O,R ⟨[(14, .l az)],[],[],784⟩] Tryz.func314
def M.mP(b:ay.den)(a:aA.den)(c:aA.den):Option (aA.den×Int):=
agu ((if(ah (b.1=13))then
agu (M.lW N a.2.2 c.2.2) λd=>aa (d.2,(a.1,(0,d.1)))
else
agu (if(ah (b.1=14))then
aa (ah (a.1=3))
else
aa ag) λk=>(if k then
agu (M.ol N a.2.2 c.2.2 b.2) λe=>aa (e.2,(a.1,(0,e.1)))
else(if(ah (b.1=14))then
agu (M.rV N a.2.2 c.2.2 b.2) λf=>aa (f.2,(a.1,(0,f.1)))
else(if(ah (b.1=16))then
agu (M.lk N a.2.2 c.2.2 b.2) λg=>aa (g.2,(a.1,(0,g.1)))
else(if(ah (c.1=2))then
agu (M.eU N a.2.2 c.2.2 b.2) λh=>aa (h.2,(a.1,(0,h.1)))
else
agu (M.kq N a.2.2 c.2.2 b.2) λi=>aa (i.2,(4,(0,i.1)))))))):Option (Int×aA.den)) λj=>aa (j.2,j.1)
def Yl:Fo 269 (.i1 [.g ay, .g aA, .g aA]) (.i1 [.g aA, .l az]) (u3 (M.mP N)):=fz N [NM N,Ye N,Yg N,Yh N,Yi N,Yk N] [O,O,T,R ⟨[(9, .l az)],[(128, .box 40 (.leaf aA))],[],177⟩,O,O,B 38 240] Tryz.func269
def M.lY(a:Int)(c:Int)(d:Int):Option (Int×Int):=
agu (if(ah (a<1900))then
aa af
else(if(ah (2199<a))then
aa af
else(if(ah (c<1))then
aa af
else(if(ah (12<c))then
aa af
else(if(ah (d<1))then
aa af
else
agu (M.dF N a c) λe=>aa (ah (e<d))))))) λf=>(if f then
aa (0,3)
else
agu (M.eV N a) λg=>agu (Loop (S:=Int×Int) (X:=Int) (λb=>(if(ah (b.2<(agw.wrap (c-1))))then
agu (M.dF N a (agw.wrap (b.2+1))) λh=>aa (.inl (agw.wrap (b.1+h),agw.wrap (b.2+1)))
else
aa (.inr b.1))) N (g,0):Option Int) λi=>aa (agw.wrap ((agw.wrap (i+d))-1),0))
def Ym:Fo 315 (.i1 [.l az, .l az, .l az]) (.i1 [.l az, .l az]) (u3 (M.lY N)):=fz N [TW N,QH N] [O,T,B 34 32,O,R ⟨[(8, .l az)],[],[],80⟩,O,T,P ⟨[(8, .l az),(39, .l az)],[],[],128⟩] Tryz.func315
def M.iG(c:Int)(b:Int):Option (Int×Int):=
agu (agu (M.jM N c) λf=>(if(!f)then
aa af
else(if(ah (b<(-3600)))then
aa af
else
aa (ah (3600<b)))):Option Bool) λg=>(if g then
aa (0,3)
else
agu (M.jN N c) λa=>agu (if(ah ((agw.wrap ((agw.wrap ((agw.wrap ((agw.wrap ((agw.wrap (a.1-1900))*12))+a.2.1))-1))+b))<0))then
aa af
else
aa (ah (3599<(agw.wrap ((agw.wrap ((agw.wrap ((agw.wrap ((agw.wrap (a.1-1900))*12))+a.2.1))-1))+b))))) λh=>(if h then
aa (0,3)
else
agu (M.dF N (agw.wrap (1900+(agw.wrap (agN (agw.wrap ((agw.wrap ((agw.wrap ((agw.wrap ((agw.wrap (a.1-1900))*12))+a.2.1))-1))+b)) 12)))) (agw.wrap ((aha (agw.wrap ((agw.wrap ((agw.wrap ((agw.wrap ((agw.wrap (a.1-1900))*12))+a.2.1))-1))+b)) 12)+1))) λd=>agu (M.lY N (agw.wrap (1900+(agw.wrap (agN (agw.wrap ((agw.wrap ((agw.wrap ((agw.wrap ((agw.wrap (a.1-1900))*12))+a.2.1))-1))+b)) 12)))) (agw.wrap ((aha (agw.wrap ((agw.wrap ((agw.wrap ((agw.wrap ((agw.wrap (a.1-1900))*12))+a.2.1))-1))+b)) 12)+1)) (if d<a.2.2 then d else a.2.2)) λe=>aa (e.1,e.2)))
def TZ:Fo 270 (.i1 [.l az, .l az]) (.i1 [.l az, .l az]) (u2 (M.iG N)):=fz N [QI N,QG N,QH N,Ym N] [O,T,B 20 32,O,O,T,B 40 320] Tryz.func270
def M.gV(a:Int)(b:Int):Option Int:=
agu (agu (M.jM N a) λg=>(if(!g)then
aa af
else
agu (M.jM N b) λh=>(if(!h)then
aa af
else
aa (ah (b<a)))):Option Bool) λi=>(if i then
aa 0
else
agu (M.jN N a) λc=>agu (M.jN N b) λd=>agu (agu (M.iG N a (agw.wrap (12*(agw.wrap (d.1-c.1))))) λe=>agu (if(!ah (e.2=0))then
aa af
else
aa (ah (b<e.1))) λj=>(if j then
aa (agw.wrap ((agw.wrap (d.1-c.1))-1))
else
aa (agw.wrap (d.1-c.1))):Option Int) λf=>aa (if f<0 then 0 else f))
def Yn:Fo 271 (.i1 [.l az, .l az]) (.i1 [.l az]) (u2 (M.gV N)):=fz N [QI N,TZ N,QG N] [O,T,B 26 16,O,O,O,R ⟨[(11, .l az)],[],[],368⟩,O,B 55 512] Tryz.func271
def M.mQ(a:ay.den)(b:aA.den)(c:aA.den):Option (aA.den×Int):=
agu (if(ah (a.1=11))then
aa (ah (a.1=11))
else
aa (ah (a.1=27))) λh=>(if h then
aa ((b.1,(0,agw.wrap (b.2.2+c.2.2))),0)
else(if(ah (a.1=12))then
aa ((b.1,(0,agw.wrap (b.2.2-c.2.2))),0)
else
agu (if(ah (a.1=13))then
aa (ah (a.1=13))
else(if(ah (a.1=14))then
aa (ah (a.1=14))
else(if(ah (a.1=15))then
aa (ah (a.1=15))
else
aa (ah (a.1=16))))) λi=>(if i then
agu (M.mP N a b c) λd=>aa (d.1,d.2)
else
agu (if(ah (a.1=17))then
aa (ah (a.1=17))
else
aa (ah (a.1=18))) λj=>(if j then(if(ah ((ah (a.1=17))=(ah (c.2.2<b.2.2))))then
aa (c,0)
else
aa (b,0))
else(if(ah (a.1=19))then
agu (M.ef N (ah (b.2.2=c.2.2))) λk=>aa (k,0)
else(if(ah (a.1=20))then
agu (M.ef N (!ah (b.2.2=c.2.2))) λl=>aa (l,0)
else(if(ah (a.1=21))then
agu (M.ef N (ah (b.2.2<c.2.2))) λm=>aa (m,0)
else(if(ah (a.1=22))then
agu (M.ef N (ah (b.2.2<=c.2.2))) λn=>aa (n,0)
else(if(ah (a.1=23))then
agu ((if(ah (b.2.2=1))then
agu (M.ef N (ah (c.2.2=1))) λo=>aa (0,o)
else
agu (M.ef N ag) λp=>aa (0,p)):Option (Int×aA.den)) λe=>aa (e.2,e.1)
else(if(ah (a.1=24))then
agu ((if(ah (b.2.2=1))then
agu (M.ef N af) λq=>aa (0,q)
else
agu (M.ef N (ah (c.2.2=1))) λr=>aa (0,r)):Option (Int×aA.den)) λf=>aa (f.2,f.1)
else(if(ah (a.1=28))then
agu (M.iG N b.2.2 c.2.2) λg=>aa ((5,(0,g.1)),g.2)
else(if(ah (a.1=29))then
aa ((2,(0,agw.wrap (c.2.2-b.2.2))),0)
else
agu (M.gV N b.2.2 c.2.2) λs=>aa ((2,(0,s)),0)))))))))))))
def Yo:Fo 202 (.i1 [.g ay, .g aA, .g aA]) (.i1 [.g aA, .l az]) (u3 (M.mQ N)):=fz N [TV N,Yl N,TZ N,Yn N] [O,T,O,T,R ⟨[(12, .l .bool)],[],[],112⟩,X,O,O,O,R ⟨[(33, .l .bool)],[],[],144⟩,X,O,R ⟨[(44, .l .bool)],[],[],144⟩,X,O,O,O,O,O,O,O,O,O,O,T,R ⟨[(7, .l az)],[(48, .box 40 (.leaf aA))],[],305⟩,X,X,O,T,R ⟨[(7, .l az)],[(48, .box 40 (.leaf aA))],[],337⟩] Tryz.func202
def M.iW(a:ay.den)(b:List aA.den)(c:ik.den):Option (aA.den×Int):=
agu (if(ah (a.1=1))then
aa (ah (a.1=1))
else(if(ah (a.1=2))then
aa (ah (a.1=2))
else(if(ah (a.1=3))then
aa (ah (a.1=3))
else(if(ah (a.1=4))then
aa (ah (a.1=4))
else
aa (ah (a.1=5)))))) λi=>(if i then
aa ((a.1,(0,a.2)),0)
else(if(ah (a.1=6))then
aa ((6,(agw.wrap (agN a.2 16),aha a.2 16)),0)
else(if(ah (a.1=7))then
agu (idx c.2.1 a.2) λj=>aa (j,0)
else(if(ah (a.1=8))then
agu (idx c.2.2.1 a.2) λk=>aa (k,0)
else(if(ah (a.1=9))then
aa ((5,(0,c.1)),0)
else(if(ah (a.1=35))then
aa ((2,(0,(c.2.2.2.1.length:Int))),0)
else
agu (if(ah (a.1=36))then
aa (ah (a.1=36))
else(if(ah (a.1=37))then
aa (ah (a.1=37))
else(if(ah (a.1=38))then
aa (ah (a.1=38))
else
aa (ah (a.1=39))))) λl=>(if l then
agu (M.eN N a c) λe=>aa (e.1,e.2)
else(if(ah (a.1=33))then
agu (idx c.2.2.2.2.2 a.2) λd=>agu (idx b 0) λm=>agu (M.lV N d c.1 m.2.2) λf=>(if(!f.2)then
aa ((0,(0,0)),6)
else
agu (idx d.2.2.2 f.1) λn=>aa ((d.2.2.1.1,(d.2.2.1.2,n.2.2.2)),0))
else(if(ah (a.1=34))then
agu (idx c.2.2.2.2.2 (agw.wrap (agN a.2 8))) λo=>agu (idx b 0) λp=>agu (M.kl N o c.1 p.2.2 (aha a.2 8)) λg=>aa ((3,(0,g.1)),g.2)
else(if(ah ((b.length:Int)=1))then
agu (idx b 0) λq=>agu (M.oj N a.1 q) λr=>aa (r,0)
else(if(ah ((b.length:Int)=2))then
agu (idx b 0) λs=>agu (idx b 1) λt=>agu (M.mQ N a s t) λh=>aa (h.1,h.2)
else
agu (idx b 0) λu=>(if(ah (u.2.2=1))then
agu (idx b 1) λv=>aa (v,0)
else
agu (idx b 2) λw=>aa (w,0)))))))))))))
def Yp:Fo 126 (.i1 [.g ay, .l (.slice aA), .g ik]) (.i1 [.g aA, .l az]) (u3 (M.iW N)):=fz N [X3 N,X5 N,Ya N,Yd N,Yo N] [O,T,O,T,R ⟨[(15, .l .bool)],[],[],96⟩,X,O,O,O,O,O,O,O,O,O,O,O,B 62 256] Tryz.func126
def M.dG(a:ay.den)(b:List aA.den)(d:ik.den):Option (aA.den×Int):=
agu (agu (M.jz N a) λe=>(if(!e)then
aa af
else
agu (M.fJ N a.1) λf=>aa (!ah ((b.length:Int)=f))):Option Bool) λg=>(if g then
aa ((0,(0,0)),2)
else
agu (M.gj N a d) λh=>(if(!h)then
aa ((0,(0,0)),6)
else
agu (agu (M.gT N b) λi=>(if(!i)then
aa af
else
agu (M.iV N a b d) λj=>aa (!j)):Option Bool) λk=>(if k then
aa ((0,(0,0)),8)
else
agu (M.iW N a b d) λc=>(if(!ah (c.2=0))then
aa ((0,(0,0)),c.2)
else
agu (M.cY N c.1) λl=>(if(!l)then
aa ((0,(0,0)),3)
else
aa (c.1,0))))))
def W79:Fo 79 (.i1 [.g ay, .l (.slice aA), .g ik]) (.i1 [.g aA, .l az]) (u3 (M.dG N)):=fz N [K0 N,XW N,XX N,XY N,X2 N,Yp N,Il N] [O,T,B 20 64,O,T,B 36 128] Tryz.func79
mutual
def M.bN(B:Nat):Nat->bE.den->Int->Option (aA.den×Int)
 |0,_,_=>ae
 |N+1,c,f=>
  agu (idx c.1 f) λb=>
  agu (M.dS B c f) λd=>
  agu (if(ah (b.1=23))then
  aa (ah (b.1=23))
  else
  (if(ah (b.1=24))then
  aa (ah (b.1=24))
  else
  aa (ah (b.1=26)))) λi=>
  (if i then
  agu (M.gR B N c b d) λg=>
  aa (g.1,g.2)
  else
  agu (oM (d.length:Int) (0,(0,0))) λj=>
  cd (J:=List aA.den) (R:=aA.den×Int) (Loop (S:=Int×List aA.den) (X:=(List aA.den)⊕(aA.den×Int)) (λa=>
  (if(ah (a.1<(d.length:Int)))then
  agu (idx d a.1) λk=>
  agu (M.bN B N c k) λe=>
  (if(!ah (e.2=0))then
  aa (.inr (.inr ((0,(0,0)),e.2)))
  else
  agu (idx a.2 a.1) λm=>
  aa (.inl (agw.wrap (a.1+1),bm a.2 a.1 e.1)))
  else
  aa (.inr (.inl a.2)))) B (0,j)) λl=>
  agu (M.dG B b l c.2.2) λh=>
  aa (h.1,h.2))
def M.gR(B:Nat):Nat->bE.den->ay.den->(List Int)->Option (aA.den×Int)
 |0,_,_,_=>ae
 |N+1,b,c,d=>
  (if(!ah (c.2=0))then
  aa ((0,(0,0)),2)
  else
  agu (idx d 0) λh=>
  agu (M.cZ B N b h) λa=>
  (if(!ah (a.2=0))then
  aa ((0,(0,0)),a.2)
  else
  agu (if(ah (c.1=26))then
  aa (ah (a.1.2.2=1))
  else
  aa ag) λi=>
  (if i then
  agu (idx d 1) λj=>
  agu (M.bN B N b j) λe=>
  aa (e.1,e.2)
  else
  (if(ah (c.1=26))then
  agu (idx d 2) λk=>
  agu (M.bN B N b k) λf=>
  aa (f.1,f.2)
  else
  (if(ah ((ah (c.1=23))=(ah (a.1.2.2=0))))then
  aa (a.1,0)
  else
  agu (idx d 1) λl=>
  agu (M.cZ B N b l) λg=>
  aa (g.1,g.2))))))
def M.cZ(B:Nat):Nat->bE.den->Int->Option (aA.den×Int)
 |0,_,_=>ae
 |N+1,b,c=>
  agu (M.bN B N b c) λa=>
  (if(!ah (a.2=0))then
  aa ((0,(0,0)),a.2)
  else
  agu (if(!ah (a.1.1=1))then
  aa af
  else
  agu (M.cY B a.1) λd=>
  aa (!d)) λe=>
  (if e then
  aa ((0,(0,0)),8)
  else
  aa (a.1,0)))
end
def M.ji(a:bE.den)(b:Int):Option (aA.den×Int):=M.bN N N a b
def S50:oH:=⟨.i1 [.g bE, .l az], .i1 [.g aA, .l az],u2 (M.ji N)⟩
def R50(B N:Nat):oH:={inn:=⟨[(0, .g bE),(1, .l az)],[],[],0⟩,out:=⟨[(0, .g aA),(1, .l az)],[],[],0⟩,fn:=λ(x:bE.den×Int)=>M.bN B N x.1 x.2}
def R78(B N:Nat):oH:={inn:=⟨[(0, .g bE),(1, .g ay),(2, .l (.slice az))],[],[],0⟩,out:=⟨[(0, .g aA),(1, .l az)],[],[],0⟩,fn:=λ(x:bE.den×ay.den×List Int)=>M.gR B N x.1 x.2.1 x.2.2}
def Yq(B N:Nat):oH:={inn:=⟨[(0, .g bE),(1, .l az)],[],[],0⟩,out:=⟨[(0, .g aA),(1, .l az)],[],[],0⟩,fn:=λ(x:bE.den×Int)=>M.cZ B N x.1 x.2}
def Im(B:Nat):∀N,gD Tryz.prog 50 (R50 B N)/\gD Tryz.prog 78 (R78 B N)/\gD Tryz.prog 121 (Yq B N)
 |0=>⟨zS Tryz.func50 (by kernel_rfl) (by kernel_rfl) λ_=>rfl,zS Tryz.func78 (by kernel_rfl) (by kernel_rfl) λ_=>rfl,zS Tryz.func121 (by kernel_rfl) (by kernel_rfl) λ_=>rfl⟩
 |N+1=>⟨fw (en [ck ((Im B N).1),ck (W77 B),ck ((Im B N).2.1),ck (W79 B)] ag ag) (N:=B) (.o (.o (.o (.two (.o (.two (.meet ⟨[(23, .l .bool)],[],[],256⟩ .nil .nil) .nil)) (.o (.join ⟨[],[(288, .own 40 aA)],[],321⟩ (.o (.two (.loop ⟨[(38, .l az)],[(288, .own 40 aA)],[],369⟩ .nil) .nil)) .nil)))))) Tryz.func50 (by kernel_rfl) λx=>by kernel_rfl,
  fw (en [ck ((Im B N).1),ck ((Im B N).2.2)] ag ag) (N:=B) (.o (.o (.o (.o (.two (.two (.meet ⟨[(26, .l .bool)],[],[],320⟩ .nil .nil) .nil) .nil))))) Tryz.func78 (by kernel_rfl) λx=>by kernel_rfl,
  fw (en [ck ((Im B N).1),ck (Il B)] ag ag) (N:=B) (.o (.o (.o (.two (.meet ⟨[(25, .l .bool)],[],[],224⟩ .nil .nil) .nil)))) Tryz.func121 (by kernel_rfl) λx=>by kernel_rfl⟩
def W50(N:Nat):gD Tryz.prog 50 (S50 N):=(Im N N).1
def M.gJ(a:List ay.den)(d:ik.den):Option (aA.den×Int):=
agu (M.mO N a) λb=>(if(!ah (b.1=0))then
aa ((0,(0,0)),b.1)
else
agu (M.ji N (a,(b.2,d)) (agw.wrap ((a.length:Int)-1))) λc=>aa (c.1,c.2))
def W24:Fo 24 (.i1 [.l (.slice ay), .g ik]) (.i1 [.g aA, .l az]) (u2 (M.gJ N)):=fz N [W49 N,W50 N] [] Tryz.func24
def M.bS(c:bA.den)(d:ik.den):Option (Int×Int×Int):=
(if(ah (8<(c.2.1.length:Int)))then
aa (0,8,4)
else
Loop (S:=Int×Int) (X:=Int×Int×Int) (λa=>(if(ah (a.2<(c.2.1.length:Int)))then
cd (J:=Int) (R:=(Int×Int)⊕(Int×Int×Int)) (agu (idx c.2.1 a.2) λe=>agu (M.gJ N e d) λb=>(if(!ah (b.2=0))then
aa (.inr (.inr (0,a.2,b.2)))
else(if(!ah (b.1.1=1))then
aa (.inr (.inr (0,a.2,8)))
else(if(ah (b.1.2.2=1))then
agu (qK .i64 1 a.2) λf=>aa (.inl (aG .or .i64 a.1 f))
else
aa (.inl a.1))))) λg=>aa (.inl (g,agw.wrap (a.2+1)))
else
aa (.inr (a.1,(-1),0)))) N (0,0))
def Yr:Fo 10 (.i1 [.g bA, .g ik]) (.i1 [.l az, .l az, .l az]) (u2 (M.bS N)):=fz N [W24 N] [O,O,O,T,O,T,P ⟨[(7, .l az),(19, .l az)],[],[],224⟩,O,O,T,J ⟨[(7, .l az)],[],[],240⟩] Tryz.func10
def M.jt(N:Nat)(a:Int):Option Bool:=
agu (if(ah (97<=a))then
aa (ah (a<=122))
else
aa ag) λb=>aa b
def T4:Fo 148 (.i1 [.l (.int .u8)]) (.i1 [.l .bool]) (M.jt N):=fz N [] [O,B 2 16] Tryz.func148
def M.lm(N:Nat)(a:Int):Option Bool:=
agu (if(ah (48<=a))then
aa (ah (a<=57))
else
aa ag) λb=>aa b
def Ys:Fo 222 (.i1 [.l (.int .u8)]) (.i1 [.l .bool]) (M.lm N):=fz N [] [O,B 2 16] Tryz.func222
def M.iX(b:ByteArray):Option Int:=
Loop (S:=Int) (X:=Int) (λa=>agu (if(ah (a<(b.size:Int)))then
agu (kS b a) λc=>agu (M.jt N c) λd=>(if d then
aa af
else
agu (kS b a) λe=>agu (M.lm N e) λf=>(if f then
aa af
else
agu (kS b a) λg=>aa (ah (g=95))))
else
aa ag) λh=>(if h then
aa (.inl (agw.wrap (a+1)))
else
aa (.inr a))) N 0
def Yt:Fo 149 (.i1 [.l .str]) (.i1 [.l az]) (M.iX N):=fz N [T4 N,Ys N] [O,O,T,T,L 3 32,T,B 25 32] Tryz.func149
def M.kr(N:Nat)(a:ByteArray):Option Bool:=
agu (if(ah (a=⟨#[105,102]⟩))then
aa (ah (a=⟨#[105,102]⟩))
else(if(ah (a=⟨#[116,104,101,110]⟩))then
aa (ah (a=⟨#[116,104,101,110]⟩))
else(if(ah (a=⟨#[101,108,115,101]⟩))then
aa (ah (a=⟨#[101,108,115,101]⟩))
else(if(ah (a=⟨#[111,114]⟩))then
aa (ah (a=⟨#[111,114]⟩))
else(if(ah (a=⟨#[97,110,100]⟩))then
aa (ah (a=⟨#[97,110,100]⟩))
else(if(ah (a=⟨#[110,111,116]⟩))then
aa (ah (a=⟨#[110,111,116]⟩))
else(if(ah (a=⟨#[116,114,117,101]⟩))then
aa (ah (a=⟨#[116,114,117,101]⟩))
else(if(ah (a=⟨#[102,97,108,115,101]⟩))then
aa (ah (a=⟨#[102,97,108,115,101]⟩))
else(if(ah (a=⟨#[116,111,100,97,121]⟩))then
aa (ah (a=⟨#[116,111,100,97,121]⟩))
else(if(ah (a=⟨#[115,104,97,114,101]⟩))then
aa (ah (a=⟨#[115,104,97,114,101]⟩))
else(if(ah (a=⟨#[100,105,118]⟩))then
aa (ah (a=⟨#[100,105,118]⟩))
else(if(ah (a=⟨#[114,111,117,110,100]⟩))then
aa (ah (a=⟨#[114,111,117,110,100]⟩))
else(if(ah (a=⟨#[109,105,110]⟩))then
aa (ah (a=⟨#[109,105,110]⟩))
else(if(ah (a=⟨#[109,97,120]⟩))then
aa (ah (a=⟨#[109,97,120]⟩))
else(if(ah (a=⟨#[112,108,117,115]⟩))then
aa (ah (a=⟨#[112,108,117,115]⟩))
else(if(ah (a=⟨#[109,111,110,116,104,115]⟩))then
aa (ah (a=⟨#[109,111,110,116,104,115]⟩))
else(if(ah (a=⟨#[100,97,121,115]⟩))then
aa (ah (a=⟨#[100,97,121,115]⟩))
else(if(ah (a=⟨#[121,101,97,114,115]⟩))then
aa (ah (a=⟨#[121,101,97,114,115]⟩))
else(if(ah (a=⟨#[121,101,97,114]⟩))then
aa (ah (a=⟨#[121,101,97,114]⟩))
else(if(ah (a=⟨#[109,111,110,116,104]⟩))then
aa (ah (a=⟨#[109,111,110,116,104]⟩))
else(if(ah (a=⟨#[116,97,98]⟩))then
aa (ah (a=⟨#[116,97,98]⟩))
else(if(ah (a=⟨#[98,97,110,100]⟩))then
aa (ah (a=⟨#[98,97,110,100]⟩))
else(if(ah (a=⟨#[99,111,117,110,116]⟩))then
aa (ah (a=⟨#[99,111,117,110,116]⟩))
else(if(ah (a=⟨#[115,117,109]⟩))then
aa (ah (a=⟨#[115,117,109]⟩))
else(if(ah (a=⟨#[97,108,108]⟩))then
aa (ah (a=⟨#[97,108,108]⟩))
else(if(ah (a=⟨#[97,110,121]⟩))then
aa (ah (a=⟨#[97,110,121]⟩))
else(if(ah (a=⟨#[109,111,115,116]⟩))then
aa (ah (a=⟨#[109,111,115,116]⟩))
else(if(ah (a=⟨#[101,110,117,109]⟩))then
aa (ah (a=⟨#[101,110,117,109]⟩))
else(if(ah (a=⟨#[116,97,98,108,101]⟩))then
aa (ah (a=⟨#[116,97,98,108,101]⟩))
else(if(ah (a=⟨#[114,111,119]⟩))then
aa (ah (a=⟨#[114,111,119]⟩))
else(if(ah (a=⟨#[115,99,111,112,101]⟩))then
aa (ah (a=⟨#[115,99,111,112,101]⟩))
else(if(ah (a=⟨#[109,101,109,98,101,114,115]⟩))then
aa (ah (a=⟨#[109,101,109,98,101,114,115]⟩))
else(if(ah (a=⟨#[105,110,112,117,116]⟩))then
aa (ah (a=⟨#[105,110,112,117,116]⟩))
else(if(ah (a=⟨#[100,101,102]⟩))then
aa (ah (a=⟨#[100,101,102]⟩))
else(if(ah (a=⟨#[114,117,108,101]⟩))then
aa (ah (a=⟨#[114,117,108,101]⟩))
else(if(ah (a=⟨#[111,102]⟩))then
aa (ah (a=⟨#[111,102]⟩))
else(if(ah (a=⟨#[111,118,101,114]⟩))then
aa (ah (a=⟨#[111,118,101,114]⟩))
else(if(ah (a=⟨#[112,114,105,111]⟩))then
aa (ah (a=⟨#[112,114,105,111]⟩))
else(if(ah (a=⟨#[102,114,111,109]⟩))then
aa (ah (a=⟨#[102,114,111,109]⟩))
else(if(ah (a=⟨#[116,111]⟩))then
aa (ah (a=⟨#[116,111]⟩))
else(if(ah (a=⟨#[101,110,100]⟩))then
aa (ah (a=⟨#[101,110,100]⟩))
else(if(ah (a=⟨#[119,104,101,110]⟩))then
aa (ah (a=⟨#[119,104,101,110]⟩))
else(if(ah (a=⟨#[105,115]⟩))then
aa (ah (a=⟨#[105,115]⟩))
else(if(ah (a=⟨#[115,114,99]⟩))then
aa (ah (a=⟨#[115,114,99]⟩))
else(if(ah (a=⟨#[98,111,111,108]⟩))then
aa (ah (a=⟨#[98,111,111,108]⟩))
else(if(ah (a=⟨#[105,110,116]⟩))then
aa (ah (a=⟨#[105,110,116]⟩))
else(if(ah (a=⟨#[109,111,110,101,121]⟩))then
aa (ah (a=⟨#[109,111,110,101,121]⟩))
else(if(ah (a=⟨#[114,97,116,101]⟩))then
aa (ah (a=⟨#[114,97,116,101]⟩))
else(if(ah (a=⟨#[100,97,116,101]⟩))then
aa (ah (a=⟨#[100,97,116,101]⟩))
else(if(ah (a=⟨#[100,111,119,110]⟩))then
aa (ah (a=⟨#[100,111,119,110]⟩))
else(if(ah (a=⟨#[117,112]⟩))then
aa (ah (a=⟨#[117,112]⟩))
else(if(ah (a=⟨#[122,101,114,111]⟩))then
aa (ah (a=⟨#[122,101,114,111]⟩))
else(if(ah (a=⟨#[97,119,97,121]⟩))then
aa (ah (a=⟨#[97,119,97,121]⟩))
else(if(ah (a=⟨#[104,97,108,102]⟩))then
aa (ah (a=⟨#[104,97,108,102]⟩))
else
aa (ah (a=⟨#[101,118,101,110]⟩)))))))))))))))))))))))))))))))))))))))))))))))))))))))) λb=>(if b then
aa af
else
aa ag)
def Yu:Fo 150 (.i1 [.l .str]) (.i1 [.l .bool]) (M.kr N):=fz N [] [O,T,O,T,B 4 32] Tryz.func150
def M.bY(a:ByteArray):Option Bool:=
agu (if(!ah (a=⟨#[]⟩))then
agu (kS a 0) λb=>agu (M.jt N b) λc=>(if c then
agu (M.iX N a) λd=>(if(ah (d=(a.size:Int)))then(if(ah ((a.size:Int)<=16))then
agu (M.kr N a) λe=>aa (!e)
else
aa ag)
else
aa ag)
else
aa ag)
else
aa ag) λf=>aa f
def T5:Fo 90 (.i1 [.l .str]) (.i1 [.l .bool]) (M.bY N):=fz N [T4 N,Yt N,Yu N] [O,B 2 16] Tryz.func90
def M.ku(N:Nat)(b:dD.den)(a:ByteArray):Option (Bool×ByteArray):=
aa (ah (b.1=a),a)
def QJ:Fo 152 (.j1 [.g dD, .ptr 0 [] 0] [.box 9 (.leaf .str)] 1) (.j1 [.l .bool] [.box 9 (.leaf .str)] 2) (u2 (M.ku N)):=fz N [] [] Tryz.func152
def M.bu(c:List dD.den)(d:ByteArray):Option (Int×ByteArray):=
Loop (S:=Int×ByteArray) (X:=Int×ByteArray) (λa=>(if(ah (a.1<(c.length:Int)))then
agu (idx c a.1) λe=>agu (M.ku N e a.2) λb=>(if b.1 then
aa (.inr (a.1,b.2))
else
aa (.inl (agw.wrap (a.1+1),b.2)))
else
aa (.inr ((-1),a.2)))) N (0,d)
def QK:Fo 223 (.j1 [.l (.slice dD), .fn 152 [(0,[],0)]] [.box 9 (.leaf .str)] 1) (.j1 [.l az] [.box 9 (.leaf .str)] 2) (u2 (M.bu N)):=fz N [QJ N] [O,T,O,T,P ⟨[(8, .l az)],[(0, .box 9 (.leaf .str))],[],66⟩] Tryz.func223
def M.bK(b:List dD.den)(c:ByteArray):Option (Bool×ByteArray):=
agu (M.bu N b c) λa=>aa (ah (0<=a.1),a.2)
def QL:Fo 151 (.j1 [.l (.slice dD), .fn 152 [(0,[],0)]] [.box 9 (.leaf .str)] 1) (.j1 [.l .bool] [.box 9 (.leaf .str)] 2) (u2 (M.bK N)):=fz N [QK N] [] Tryz.func151
def M.iH(a:List dD.den)(b:ByteArray):Option Bool:=
agu (M.bK N a b) λc=>aa c.1
def Yv:Fo 91 (.i1 [.l (.slice dD), .l .str]) (.i1 [.l .bool]) (u2 (M.iH N)):=fz N [QL N] [] Tryz.func91
def M.dj(b:List ByteArray)(c:ByteArray):Option Int:=
Loop (S:=Int) (X:=Int) (λa=>(if(ah (a<(b.length:Int)))then
agu (idx b a) λd=>(if(ah (c=d))then
aa (.inr a)
else
aa (.inl (agw.wrap (a+1))))
else
aa (.inr (-1)))) N 0
def Yw:Fo 220 (.i1 [.l (.slice .str), .l .str]) (.i1 [.l az]) (u2 (M.dj N)):=fz N [] [O,T,O,T,L 8 64] Tryz.func220
def M.cP(a:List ByteArray)(b:ByteArray):Option Bool:=
agu (M.dj N a b) λc=>aa (ah (0<=c))
def Yx:Fo 143 (.i1 [.l (.slice .str), .l .str]) (.i1 [.l .bool]) (u2 (M.cP N)):=fz N [Yw N] [] Tryz.func143
def M.ln(d:dv.den)(e:Int)(a:dD.den):Option (Int×Int):=
agu (M.bY N a.1) λf=>(if(!f)then
aa (2,0)
else
agu (ga d.1 0 e) λg=>agu (M.iH N g a.1) λh=>(if h then
aa (7,0)
else(if(ah ((a.2.length:Int)=0))then
aa (5,0)
else(if(ah (16<(a.2.length:Int)))then
aa (4,116)
else
Loop (S:=Int) (X:=Int×Int) (λb=>(if(ah (b<(a.2.length:Int)))then
agu (idx a.2 b) λc=>agu (M.bY N c) λi=>(if(!i)then
aa (.inr (2,agw.wrap (100+b)))
else
agu (ga a.2 0 b) λj=>agu (M.cP N j c) λk=>(if k then
aa (.inr (7,agw.wrap (100+b)))
else
aa (.inl (agw.wrap (b+1)))))
else
aa (.inr (0,0)))) N 0))))
def W88:Fo 88 (.i1 [.g dv, .l az, .g dD]) (.i1 [.l az, .l az]) (u3 (M.ln N)):=fz N [T5 N,Yv N,Yx N] [O,O,T,O,T,L 36 496] Tryz.func88
def M.kw(b:dv.den):Option (aR.den):=
(if(ah (8<(b.1.length:Int)))then
aa (4,(1,(8,0)))
else
cd (J:=Unit) (R:=aR.den) (Loop (S:=Int) (X:=Unit⊕(aR.den)) (λa=>(if(ah (a<(b.1.length:Int)))then
agu (idx b.1 a) λd=>agu (M.ln N b a d) λc=>(if(!ah (c.1=0))then
aa (.inr (.inr (c.1,(1,(a,c.2)))))
else
aa (.inl (agw.wrap (a+1))))
else
aa (.inr (.inl ())))) N 0) λe=>aa (0,(0,(0,0))))
def W55:Fo 55 (.i1 [.g dv]) (.i1 [.g aR]) (M.kw N):=fz N [W88 N] [O,O,E 96,O,T,L 15 160] Tryz.func55
def M.cE(N:Nat)(a:ay.den)(b:List dD.den):Option Bool:=
agu (if(ah (a.1=1))then
aa (ah (a.1=1))
else(if(ah (a.1=2))then
aa (ah (a.1=2))
else(if(ah (a.1=3))then
aa (ah (a.1=3))
else(if(ah (a.1=4))then
aa (ah (a.1=4))
else
aa (ah (a.1=5)))))) λc=>(if c then
aa (ah (a.2=0))
else(if(ah (a.1=6))then
agu (if(ah (0<=a.2))then
aa (ah (a.2<(b.length:Int)))
else
aa ag) λd=>aa d
else
aa ag))
def K2:Fo 144 (.i1 [.g ay, .l (.slice dD)]) (.i1 [.l .bool]) (u2 (M.cE N)):=fz N [] [O,T,O,T,R ⟨[(7, .l .bool)],[],[],64⟩,X,O,O,T,B 4 96] Tryz.func144
def M.gu(a:ay.den)(b:List dD.den):Option (Int×Int):=
agu (M.cE N a b) λc=>(if(!c)then
aa (0,(-1))
else(if(ah (a.1=1))then
aa (0,1)
else(if(ah (a.1=2))then
aa ((-1000000000000),1000000000000)
else(if(ah (a.1=3))then
aa ((-1000000000000000),1000000000000000)
else(if(ah (a.1=4))then
aa ((-1000000000),1000000000)
else(if(ah (a.1=5))then
aa (0,109572)
else
agu (idx b a.2) λd=>aa (0,agw.wrap ((d.2.length:Int)-1))))))))
def Yy:Fo 94 (.i1 [.g ay, .l (.slice dD)]) (.i1 [.l az, .l az]) (u2 (M.gu N)):=fz N [K2 N] [] Tryz.func94
def M.gW(a:ay.den):Option Bool:=
agu (agu (M.ed N a) λb=>(if b then
aa (ah (a.1<a.2))
else
aa ag):Option Bool) λc=>aa c
def Yz:Fo 281 (.i1 [.g ay]) (.i1 [.l .bool]) (M.gW N):=fz N [QA N] [O,B 2 32] Tryz.func281
def M.jk(a:ay.den)(b:ay.den):Option (ay.den×Bool):=
agu (agu (M.gW N a) λc=>(if(!c)then
aa af
else
agu (M.gW N b) λd=>aa (!d)):Option Bool) λe=>(if e then
aa ((0,0),ag)
else(if(ah ((if b.2<a.2 then b.2 else a.2)<=(if a.1<b.1 then b.1 else a.1)))then
aa ((0,0),ag)
else
aa ((if a.1<b.1 then b.1 else a.1,if b.2<a.2 then b.2 else a.2),af)))
def YA:Fo 221 (.i1 [.g ay, .g ay]) (.i1 [.g ay, .l .bool]) (u2 (M.jk N)):=fz N [Yz N] [O,T,B 14 64] Tryz.func221
def M.kz(a:jr.den)(b:jr.den):Option Bool:=
agu (M.jk N a.1 b.1) λc=>agu (if c.2 then
aa (ah ((if a.2.1<b.2.1 then b.2.1 else a.2.1)<(if b.2.2.1<a.2.2.1 then b.2.2.1 else a.2.2.1)))
else
aa ag) λd=>aa d
def YB:Fo 147 (.i1 [.g jr, .g jr]) (.i1 [.l .bool]) (u2 (M.kz N)):=fz N [YA N] [O,O,B 4 224] Tryz.func147
def M.iI(b:jr.den)(a:jr.den):Option (Bool×jr.den):=
agu (M.kz N b a) λc=>aa (c,a)
def QM:Fo 146 (.j1 [.g jr, .ptr 0 [] 0] [.box 224 (.leaf jr)] 1) (.j1 [.l .bool] [.box 224 (.leaf jr)] 2) (u2 (M.iI N)):=fz N [YB N] [] Tryz.func146
def M.b7(c:List jr.den)(d:jr.den):Option (Int×Bool×jr.den):=
Loop (S:=Int×jr.den) (X:=Int×Bool×jr.den) (λa=>(if(ah (a.1<(c.length:Int)))then
agu (idx c a.1) λe=>agu (M.iI N e a.2) λb=>(if b.1 then
aa (.inr (a.1,af,b.2))
else
aa (.inl (agw.wrap (a.1+1),b.2)))
else
aa (.inr (0,ag,a.2)))) N (0,d)
def QN:Fo 145 (.j1 [.l (.slice jr), .fn 146 [(0,[],0)]] [.box 224 (.leaf jr)] 1) (.j1 [.l az, .l .bool] [.box 224 (.leaf jr)] 2) (u2 (M.b7 N)):=fz N [QM N] [O,T,O,T,P ⟨[(10, .l az)],[(0, .box 224 (.leaf jr))],[],82⟩] Tryz.func145
def M.kA(b:bn.den)(d:List dD.den):Option (Int×Int):=
(if(ah (64<(b.2.2.2.length:Int)))then
aa (64,4)
else
agu (agu (M.cE N b.2.1 d) λg=>(if(!g)then
aa af
else
agu (M.cE N b.2.2.1 d) λh=>aa (!h)):Option Bool) λi=>(if i then
aa ((-1),8)
else
agu (M.gu N b.2.1 d) λe=>agu (M.gu N b.2.2.1 d) λf=>Loop (S:=Int) (X:=Int×Int) (λc=>(if(ah (c<(b.2.2.2.length:Int)))then
agu (idx b.2.2.2 c) λa=>agu (agu (M.ed N a.1) λj=>(if(!j)then
aa af
else(if(ah (a.1.1=a.1.2))then
aa af
else
aa (ah (a.2.2.1<=a.2.1)))):Option Bool) λk=>(if k then
aa (.inr (c,3))
else
agu (if(ah (a.2.1<e.1))then
aa af
else(if(ah (e.2<a.2.1))then
aa af
else(if(ah ((agw.wrap (a.2.2.1-1))<e.1))then
aa af
else
aa (ah (e.2<(agw.wrap (a.2.2.1-1))))))) λl=>(if l then
aa (.inr (c,3))
else
agu (if(ah (a.2.2.2<f.1))then
aa af
else
aa (ah (f.2<a.2.2.2))) λm=>(if m then
aa (.inr (c,3))
else
agu (ga b.2.2.2 0 c) λn=>agu (M.b7 N n a) λo=>(if o.2.1 then
aa (.inr (c,11))
else
aa (.inl (agw.wrap (c+1)))))))
else
aa (.inr (0,0)))) N 0))
def W89:Fo 89 (.i1 [.g bn, .l (.slice dD)]) (.i1 [.l az, .l az]) (u2 (M.kA N)):=fz N [Yy N,QA N,K2 N,QN N] [O,O,T,B 29 112,O,O,T,O,T,L 47 464,O,O,T,T,O,T,B 71 576,T,B 96 576,T,B 107 576] Tryz.func89
def M.jO(N:Nat)(b:bn.den)(a:ByteArray):Option (Bool×ByteArray):=
aa (ah (b.1=a),a)
def QO:Fo 154 (.j1 [.g bn, .ptr 0 [] 0] [.box 9 (.leaf .str)] 1) (.j1 [.l .bool] [.box 9 (.leaf .str)] 2) (u2 (M.jO N)):=fz N [] [] Tryz.func154
def M.bj(c:List bn.den)(d:ByteArray):Option (Int×ByteArray):=
Loop (S:=Int×ByteArray) (X:=Int×ByteArray) (λa=>(if(ah (a.1<(c.length:Int)))then
agu (idx c a.1) λe=>agu (M.jO N e a.2) λb=>(if b.1 then
aa (.inr (a.1,b.2))
else
aa (.inl (agw.wrap (a.1+1),b.2)))
else
aa (.inr ((-1),a.2)))) N (0,d)
def QP:Fo 224 (.j1 [.l (.slice bn), .fn 154 [(0,[],0)]] [.box 9 (.leaf .str)] 1) (.j1 [.l az] [.box 9 (.leaf .str)] 2) (u2 (M.bj N)):=fz N [QO N] [O,T,O,T,P ⟨[(8, .l az)],[(0, .box 9 (.leaf .str))],[],66⟩] Tryz.func224
def M.bD(b:List bn.den)(c:ByteArray):Option (Bool×ByteArray):=
agu (M.bj N b c) λa=>aa (ah (0<=a.1),a.2)
def QR:Fo 153 (.j1 [.l (.slice bn), .fn 154 [(0,[],0)]] [.box 9 (.leaf .str)] 1) (.j1 [.l .bool] [.box 9 (.leaf .str)] 2) (u2 (M.bD N)):=fz N [QP N] [] Tryz.func153
def M.iY(a:List bn.den)(b:ByteArray):Option Bool:=
agu (M.bD N a b) λc=>aa c.1
def W92:Fo 92 (.i1 [.l (.slice bn), .l .str]) (.i1 [.l .bool]) (u2 (M.iY N)):=fz N [QR N] [] Tryz.func92
def M.jB(b:dv.den):Option (aR.den):=
(if(ah (8<(b.2.1.length:Int)))then
aa (4,(2,(8,0)))
else
cd (J:=Unit) (R:=aR.den) (Loop (S:=Int) (X:=Unit⊕(aR.den)) (λa=>(if(ah (a<(b.2.1.length:Int)))then
agu (idx b.2.1 a) λd=>agu (M.kA N d b.1) λc=>agu (agu (M.bY N d.1) λf=>(if(!f)then
aa (2,(2,(a,0)))
else
agu (agu (M.iH N b.1 d.1) λg=>(if g then
aa af
else
agu (ga b.2.1 0 a) λh=>agu (M.iY N h d.1) λi=>aa i):Option Bool) λj=>(if j then
aa (7,(2,(a,0)))
else(if(!ah (c.2=0))then(if(!ah (c.1=(-1)))then
aa (c.2,(2,(a,agw.wrap (100+c.1))))
else
aa (c.2,(2,(a,0))))
else
aa (0,(2,(a,0)))))):Option (aR.den)) λe=>(if(!ah (e.1=0))then
aa (.inr (.inr e))
else
aa (.inl (agw.wrap (a+1))))
else
aa (.inr (.inl ())))) N 0) λk=>aa (0,(0,(0,0))))
def W56:Fo 56 (.i1 [.g dv]) (.i1 [.g aR]) (M.jB N):=fz N [W89 N,T5 N,Yv N,W92 N] [O,O,E 96,O,T,L 16 160,O,O,T,T,O,O,O,T,R ⟨[],[(304, .box 90 (.leaf aR))],[],481⟩,O,O,B 36 560] Tryz.func56
def M.iJ(N:Nat)(b:bB.den)(a:bB.den):Option (Bool×bB.den):=
aa (ah (b.1=a.1),a)
def QS:Fo 226 (.j1 [.g bB, .ptr 0 [] 0] [.box 94 (.leaf bB)] 1) (.j1 [.l .bool] [.box 94 (.leaf bB)] 2) (u2 (M.iJ N)):=fz N [] [] Tryz.func226
def M.bk(c:List bB.den)(d:bB.den):Option (Int×bB.den):=
Loop (S:=Int×bB.den) (X:=Int×bB.den) (λa=>(if(ah (a.1<(c.length:Int)))then
agu (idx c a.1) λe=>agu (M.iJ N e a.2) λb=>(if b.1 then
aa (.inr (a.1,b.2))
else
aa (.inl (agw.wrap (a.1+1),b.2)))
else
aa (.inr ((-1),a.2)))) N (0,d)
def QT:Fo 282 (.j1 [.l (.slice bB), .fn 226 [(0,[],0)]] [.box 94 (.leaf bB)] 1) (.j1 [.l az] [.box 94 (.leaf bB)] 2) (u2 (M.bk N)):=fz N [QS N] [O,T,O,T,P ⟨[(8, .l az)],[(0, .box 94 (.leaf bB))],[],66⟩] Tryz.func282
def M.aS(b:List bB.den)(c:bB.den):Option (Bool×bB.den):=
agu (M.bk N b c) λa=>aa (ah (0<=a.1),a.2)
def QU:Fo 227 (.j1 [.l (.slice bB), .fn 226 [(0,[],0)]] [.box 94 (.leaf bB)] 1) (.j1 [.l .bool] [.box 94 (.leaf bB)] 2) (u2 (M.aS N)):=fz N [QT N] [] Tryz.func227
def M.iK(e:dv.den)(b:bB.den)(f:List bB.den)(g:List bB.den):Option Int:=
agu (M.bY N b.1) λh=>(if(!h)then
aa 2
else
agu (agu (M.aS N f b) λa=>(if a.1 then
aa (af,a.2)
else
agu (M.aS N g a.2) λc=>aa (c.1,c.2)):Option (Bool×bB.den)) λd=>(if d.1 then
aa 7
else
agu (M.cE N d.2.2 e.1) λi=>(if(!i)then
aa 8
else
aa 0)))
def YC:Fo 157 (.i1 [.g dv, .g bB, .l (.slice bB), .l (.slice bB)]) (.i1 [.l az]) (u4 (M.iK N)):=fz N [T5 N,K2 N,QU N] [O,O,T,T,O,O,R ⟨[(16, .l .bool)],[(16, .box 94 (.leaf bB))],[],161⟩] Tryz.func157
def M.kB(b:List bB.den):Option (List ay.den):=
Loop (S:=Int×List ay.den) (X:=List ay.den) (λa=>(if(ah (a.1<(b.length:Int)))then
agu (idx b a.1) λc=>agu (cm a.2 ([c.2]:List ay.den)) λd=>aa (.inl (agw.wrap (a.1+1),d))
else
aa (.inr a.2))) N (0,([]:List ay.den))
def YD:Fo 228 (.i1 [.l (.slice bB)]) (.w1 74 ay) (M.kB N):=fz N [] [O,O,T,O,T,P ⟨[(3, .val ag (.own 80)),(8, .l az)],[(80, .own 74 ay)],[],81⟩] Tryz.func228
def M.jm(a:dv.den)(f:Int):Option ((List dD.den)×(List bn.den)×Bool×(List ay.den)×(List ay.den)×List ay.den):=
agu (idx a.2.2 f) λc=>agu (M.kB N c.2.2.1) λd=>agu (M.kB N c.2.2.2.1) λe=>agu (agu (if(ah (0<=c.2.1))then
aa (ah (c.2.1<(a.2.2.length:Int)))
else
aa ag) λg=>(if g then
agu (idx a.2.2 c.2.1) λh=>agu (M.kB N h.2.2.2.1) λi=>aa (d,e,a.1,a.2.1,af,i)
else
aa (d,e,a.1,a.2.1,ag,([]:List ay.den))):Option ((List ay.den)×(List ay.den)×(List dD.den)×(List bn.den)×Bool×List ay.den)) λb=>aa (b.2.2.1,b.2.2.2.1,b.2.2.2.2.1,b.1,b.2.1,b.2.2.2.2.2)
def YE:Fo 158 (.i1 [.g dv, .l az]) (.j1 [.val af (.pair (.leaf (.slice dD)) (.pair (.leaf (.slice bn)) (.pair (.own 0) (.pair (.own 1) (.pair (.own 2) (.leaf .bool))))))] [.own 74 ay, .own 74 ay, .own 74 ay] 3) (u2 (M.jm N)):=fz N [YD N] [O,O,O,R ⟨[],[(240, .own 74 ay),(288, .own 74 ay),(320, .box 237 (.pair (.leaf (.slice dD)) (.pair (.leaf (.slice bn)) (.pair (.own 240) (.pair (.own 288) (.pair (.own 352) (.leaf .bool))))))),(352, .own 74 ay)],[],356⟩,B 33 352] Tryz.func158
def M.strings_Contains(N:Nat)(a:ByteArray)(b:ByteArray):Option Bool:=qb (a,b)
def YF:oH:=⟨.i1 [.l .str, .l .str], .i1 [.l .bool],u2 (M.strings_Contains N)⟩
def YG(N:Nat):gD Tryz.prog 284 (YF N):=B6 ⟨_,Tryz.func284,by kernel_rfl,by kernel_rfl⟩ Tryz.strings_Contains_one
def M.jC(a:ByteArray):Option Bool:=
agu (if(ah (64<(a.size:Int)))then
aa af
else
agu (M.strings_Contains N a (⟨#[34]⟩:ByteArray)) λc=>aa c) λd=>(if d then
aa ag
else
Loop (S:=Int) (X:=Bool) (λb=>(if(ah (b<(a.size:Int)))then
agu (agu (kS a b) λe=>(if(ah (e<32))then
aa af
else
agu (kS a b) λf=>aa (ah (126<f))):Option Bool) λg=>(if g then
aa (.inr ag)
else
aa (.inl (agw.wrap (b+1))))
else
aa (.inr af))) N 0)
def YH:Fo 231 (.i1 [.l .str]) (.i1 [.l .bool]) (M.jC N):=fz N [YG N] [O,T,B 10 16,T,O,T,L 13 64,O,O,T,T,O,B 25 112] Tryz.func231
def M.dg(a:Int)(b:Int)(d:bJ.den):Option (ay.den×Int):=
agu (M.gu N (b,0) d.1) λc=>agu (if(ah (a<c.1))then
aa af
else
aa (ah (c.2<a))) λe=>(if e then
aa ((0,0),3)
else
aa ((b,0),0))
def YI:Fo 346 (.i1 [.l az, .l az, .g bJ]) (.i1 [.g ay, .l az]) (u3 (M.dg N)):=fz N [Yy N] [O,O,T,O,B 27 256] Tryz.func346
def M.bV(N:Nat)(a:Int)(b:bJ.den):Option (ay.den×Int):=
(if(ah (a<0))then
aa ((0,0),3)
else
agu (if(ah ((b.1.length:Int)<=(agw.wrap (agN a 16))))then
aa af
else
agu (idx b.1 (agw.wrap (agN a 16))) λc=>aa (ah ((c.2.length:Int)<=(aha a 16)))) λd=>(if d then
aa ((0,0),6)
else
aa ((6,agw.wrap (agN a 16)),0)))
def YJ:Fo 347 (.i1 [.l az, .g bJ]) (.i1 [.g ay, .l az]) (u2 (M.bV N)):=fz N [] [O,O,O,T,B 30 176] Tryz.func347
def M.fo(a:Int)(b:List ay.den)(c:bJ.den):Option (ay.den×Int):=
agu (if(ah (a<0))then
aa af
else
aa (ah ((b.length:Int)<=a))) λd=>(if d then
aa ((0,0),6)
else
agu (idx b a) λe=>agu (M.cE N e c.1) λf=>(if(!f)then
aa ((0,0),8)
else
agu (idx b a) λg=>aa (g,0)))
def T6:Fo 348 (.i1 [.l az, .l (.slice ay), .g bJ]) (.i1 [.g ay, .l az]) (u3 (M.fo N)):=fz N [K2 N] [O,T,B 15 48] Tryz.func348
def M.iL(N:Nat)(a:Int):Option Bool:=
agu (if(ah (0<=a))then
aa (ah (a<=5))
else
aa ag) λb=>aa b
def T7:Fo 351 (.i1 [.l az]) (.i1 [.l .bool]) (M.iL N):=fz N [] [O,B 2 16] Tryz.func351
def M.kC(a:ay.den)(f:ay.den)(b:bJ.den):Option (ay.den×Int):=
cd (J:=Int) (R:=ay.den×Int) ((if(ah (a.1=34))then
agu (if(ah (a.2<0))then
aa af
else
agu (M.iL N (aha a.2 8)) λg=>aa (!g)) λh=>(if h then
aa (.inr ((0,0),3))
else
aa (.inl (agw.wrap (agN a.2 8))))
else
aa (.inl a.2))) λc=>agu (if(ah (c<0))then
aa af
else
aa (ah ((b.2.1.length:Int)<=c))) λi=>(if i then
aa ((0,0),6)
else
agu (idx b.2.1 c) λd=>agu (idx b.2.1 c) λe=>agu (agu (M.cE N d.2.1 b.1) λj=>(if(!j)then
aa af
else
agu (M.cE N e.2.2.1 b.1) λk=>(if(!k)then
aa af
else
aa (!(lH ay f d.2.1)))):Option Bool) λl=>(if l then
aa ((0,0),8)
else(if(ah (a.1=34))then
agu (if(!ah (d.2.1.1=3))then
aa af
else
aa (!ah (e.2.2.1.1=4))) λm=>(if m then
aa ((0,0),8)
else
aa (d.2.1,0))
else
aa (e.2.2.1,0))))
def YK:Fo 349 (.i1 [.g ay, .g ay, .g bJ]) (.i1 [.g ay, .l az]) (u3 (M.kC N)):=fz N [K2 N,T7 N] [O,O,J ⟨[(8, .l az)],[],[],128⟩,O,T,T,B 25 176,X,X,T,B 38 128,O,T,B 68 384,T,O,T,T,B 80 432] Tryz.func349
def M.eL(N:Nat)(a:Int):Option Bool:=
agu (if(ah (a=2))then
aa af
else(if(ah (a=3))then
aa af
else
aa (ah (a=4)))) λb=>aa b
def T8:Fo 367 (.i1 [.l az]) (.i1 [.l .bool]) (M.eL N):=fz N [] [O,B 2 16] Tryz.func367
def M.bF(b:ay.den)(c:bJ.den):Option (ay.den×Int):=
(if(!c.2.2.2.2.2)then
aa ((0,0),6)
else(if(ah (b.1=35))then
aa ((2,0),0)
else
agu (M.fo N b.2 c.2.2.2.2.1 c) λa=>(if(!ah (a.2=0))then
aa ((0,0),a.2)
else
agu (if(ah (b.1=36))then(if(ah (a.1.1=2))then
aa af
else
aa (ah (a.1.1=3)))
else
agu (if(ah (b.1=37))then
aa (ah (b.1=37))
else
aa (ah (b.1=38))) λd=>(if d then
aa (ah (a.1.1=1))
else(if(ah (b.1=39))then
agu (M.eL N a.1.1) λe=>(if e then
aa af
else
aa (ah (a.1.1=5)))
else
aa ag))) λf=>(if(!f)then
aa ((0,0),8)
else
aa (a.1,0)))))
def YL:Fo 350 (.i1 [.g ay, .g bJ]) (.i1 [.g ay, .l az]) (u2 (M.bF N)):=fz N [T6 N,T8 N] [O,O,O,O,O,O,T,O,R ⟨[(8, .l .bool)],[],[],432⟩,O,O,B 42 464] Tryz.func350
def M.k7(N:Nat)(c:Int)(a:Int)(b:Int):Option (ay.den×Bool):=
(if(ah (c=14))then
agu ((if(ah (b=4))then(if(ah (a=3))then
aa (af,(a,0))
else
aa (ah (a=4),(a,0)))
else
aa (ag,(a,0))):Option (Bool×ay.den)) λd=>aa (d.2,d.1)
else(if(ah (b=2))then
agu ((if(ah (a=2))then
aa (af,(a,0))
else
aa (ah (a=3),(a,0))):Option (Bool×ay.den)) λe=>aa (e.2,e.1)
else
agu (if(ah (c=15))then(if(ah (a=3))then
aa (ah (b=3))
else
aa ag)
else
aa ag) λf=>(if f then
aa ((4,0),af)
else
aa ((0,0),ag))))
def YM:Fo 368 (.i1 [.l az, .l az, .l az]) (.i1 [.g ay, .l .bool]) (u3 (M.k7 N)):=fz N [] [O,T,T,O,T,R ⟨[(7, .l .bool)],[(0, .box 74 (.leaf ay))],[],81⟩,X,X,O,T,R ⟨[(7, .l .bool)],[(0, .box 74 (.leaf ay))],[],129⟩,X,X,B 34 128] Tryz.func368
def M.dA(b:Int)(a:List ay.den):Option (ay.den×Bool):=
(if(ah (b=10))then
agu (idx a 0) λq=>agu (idx a 0) λr=>agu (M.eL N r.1) λs=>aa (q,s)
else(if(ah (b=25))then
agu (idx a 0) λt=>aa ((1,0),ah (t.1=1))
else
agu (if(ah (b=11))then
aa (ah (b=11))
else
aa (ah (b=12))) λu=>(if u then
agu (agu (idx a 0) λd=>agu (idx a 0) λv=>agu (idx a 1) λw=>(if(lH ay v w)then
agu (idx a 0) λx=>agu (M.eL N x.1) λy=>aa (y,d)
else
aa (ag,d)):Option (Bool×ay.den)) λe=>aa (e.2,e.1)
else
agu (if(ah (b=13))then
aa (ah (b=13))
else(if(ah (b=14))then
aa (ah (b=14))
else
aa (ah (b=15)))) λz=>(if z then
agu (idx a 0) λA=>agu (idx a 1) λC=>agu (M.k7 N b A.1 C.1) λf=>aa (f.1,f.2)
else(if(ah (b=16))then
agu (agu (idx a 0) λg=>agu (idx a 0) λD=>(if(ah (D.1=3))then
agu (idx a 1) λF=>aa (ah (F.1=3),g)
else
aa (ag,g)):Option (Bool×ay.den)) λh=>aa (h.2,h.1)
else
agu (if(ah (b=17))then
aa (ah (b=17))
else
aa (ah (b=18))) λG=>(if G then
agu (agu (idx a 0) λc=>agu (idx a 0) λH=>agu (idx a 1) λI=>(if(lH ay H I)then
agu (idx a 0) λQ=>agu (M.eL N Q.1) λU=>(if U then
aa (af,c)
else
agu (idx a 0) λV=>aa (ah (V.1=5),c))
else
aa (ag,c)):Option (Bool×ay.den)) λi=>aa (i.2,i.1)
else
agu (if(ah (b=19))then
aa (ah (b=19))
else
aa (ah (b=20))) λW=>(if W then
agu (idx a 0) λY=>agu (idx a 1) λZ=>aa ((1,0),(lH ay Y Z))
else
agu (if(ah (b=21))then
aa (ah (b=21))
else
aa (ah (b=22))) λj31=>(if j31 then
agu (agu (idx a 0) λPe=>agu (idx a 1) λT9=>(if(lH ay Pe T9)then
agu (idx a 0) λx35=>agu (M.eL N x35.1) λy36=>(if y36 then
aa (af,(1,0))
else
agu (idx a 0) λx37=>aa (ah (x37.1=5),(1,0)))
else
aa (ag,(1,0))):Option (Bool×ay.den)) λj=>aa (j.2,j.1)
else
agu (if(ah (b=23))then
aa (ah (b=23))
else
aa (ah (b=24))) λj38=>(if j38 then
agu (agu (idx a 0) λx40=>(if(ah (x40.1=1))then
agu (idx a 1) λx41=>aa (ah (x41.1=1),(1,0))
else
aa (ag,(1,0))):Option (Bool×ay.den)) λk=>aa (k.2,k.1)
else(if(ah (b=26))then
agu (agu (idx a 1) λl=>agu (idx a 0) λx44=>(if(ah (x44.1=1))then
agu (idx a 1) λx45=>agu (idx a 2) λx46=>aa ((lH ay x45 x46),l)
else
aa (ag,l)):Option (Bool×ay.den)) λm=>aa (m.2,m.1)
else
agu (if(ah (b=27))then
aa (ah (b=27))
else
aa (ah (b=28))) λj47=>(if j47 then
agu (agu (idx a 0) λn=>agu (idx a 0) λx50=>(if(ah (x50.1=5))then
agu (idx a 1) λx51=>aa (ah (x51.1=2),n)
else
aa (ag,n)):Option (Bool×ay.den)) λo=>aa (o.2,o.1)
else
agu (if(ah (b=29))then
aa (ah (b=29))
else
aa (ah (b=30))) λj52=>(if j52 then
agu (agu (idx a 0) λx54=>(if(ah (x54.1=5))then
agu (idx a 1) λx55=>aa (ah (x55.1=5),(2,0))
else
aa (ag,(2,0))):Option (Bool×ay.den)) λp=>aa (p.2,p.1)
else
agu (if(ah (b=31))then
aa (ah (b=31))
else
aa (ah (b=32))) λj56=>(if j56 then
agu (idx a 0) λx57=>aa ((2,0),ah (x57.1=5))
else
aa ((0,0),ag))))))))))))))
def YN:Fo 352 (.i1 [.l az, .l (.slice ay)]) (.i1 [.g ay, .l .bool]) (u2 (M.dA N)):=fz N [T8 N,YM N] [O,O,T,O,T,O,O,O,O,R ⟨[(27, .l .bool)],[],[],160⟩,X,T,R ⟨[(5, .l .bool)],[(0, .box 74 (.leaf ay))],[],161⟩,X,X,R ⟨[(47, .l .bool)],[],[],160⟩,X,O,O,T,R ⟨[(5, .l .bool)],[(0, .box 74 (.leaf ay))],[],193⟩,X,X,R ⟨[(80, .l .bool)],[],[],192⟩,X,T,R ⟨[(5, .l .bool)],[(0, .box 74 (.leaf ay))],[],193⟩,X,X,R ⟨[(107, .l .bool)],[],[],192⟩,X,O,R ⟨[(118, .l .bool)],[],[],192⟩,X,T,R ⟨[(5, .l .bool)],[(0, .box 74 (.leaf ay))],[],193⟩,X,X,R ⟨[(143, .l .bool)],[],[],192⟩,X,T,R ⟨[(5, .l .bool)],[(0, .box 74 (.leaf ay))],[],193⟩,X,X,O,T,R ⟨[(5, .l .bool)],[(0, .box 74 (.leaf ay))],[],225⟩,X,X,R ⟨[(178, .l .bool)],[],[],224⟩,X,T,R ⟨[(5, .l .bool)],[(0, .box 74 (.leaf ay))],[],225⟩,X,X,R ⟨[(196, .l .bool)],[],[],224⟩,X,T,R ⟨[(5, .l .bool)],[(0, .box 74 (.leaf ay))],[],225⟩,X,X,B 212 224] Tryz.func352
def M.ba(a:ay.den)(c:List ay.den)(b:bJ.den):Option (ay.den×Int):=
cd (J:=Unit) (R:=ay.den×Int) ((if(ah (a.1=1))then
agu (M.dg N a.2 1 b) λd=>aa (.inr (d.1,d.2))
else(if(ah (a.1=2))then
agu (M.dg N a.2 2 b) λe=>aa (.inr (e.1,e.2))
else(if(ah (a.1=3))then
agu (M.dg N a.2 3 b) λf=>aa (.inr (f.1,f.2))
else(if(ah (a.1=4))then
agu (M.dg N a.2 4 b) λg=>aa (.inr (g.1,g.2))
else(if(ah (a.1=5))then
agu (M.dg N a.2 5 b) λh=>aa (.inr (h.1,h.2))
else(if(ah (a.1=6))then
agu (M.bV N a.2 b) λi=>aa (.inr (i.1,i.2))
else(if(ah (a.1=7))then
agu (M.fo N a.2 b.2.2.1 b) λj=>aa (.inr (j.1,j.2))
else(if(ah (a.1=8))then
agu (M.fo N a.2 b.2.2.2.1 b) λk=>aa (.inr (k.1,k.2))
else(if(ah (a.1=9))then
aa (.inr ((5,0),0))
else
agu (if(ah (a.1=33))then
aa (ah (a.1=33))
else
aa (ah (a.1=34))) λo=>(if o then
agu (idx c 0) λp=>agu (M.kC N a p b) λl=>aa (.inr (l.1,l.2))
else
agu (if(ah (a.1=35))then
aa (ah (a.1=35))
else(if(ah (a.1=36))then
aa (ah (a.1=36))
else(if(ah (a.1=37))then
aa (ah (a.1=37))
else(if(ah (a.1=38))then
aa (ah (a.1=38))
else
aa (ah (a.1=39)))))) λq=>(if q then
agu (M.bF N a b) λm=>aa (.inr (m.1,m.2))
else
agu (if(ah (a.1=14))then
aa (ah (a.1=14))
else(if(ah (a.1=15))then
aa (ah (a.1=15))
else
aa (ah (a.1=16)))) λr=>(if r then
agu (M.iL N a.2) λs=>(if(!s)then
aa (.inr ((0,0),3))
else
aa (.inl ()))
else
aa (.inl ())))))))))))))) λt=>agu (M.dA N a.1 c) λn=>(if(!n.2)then
aa ((0,0),8)
else
aa (n.1,0))
def YO:Fo 317 (.i1 [.g ay, .l (.slice ay), .g bJ]) (.i1 [.g ay, .l az]) (u3 (M.ba N)):=fz N [YI N,YJ N,T6 N,YK N,YL N,T7 N,YN N] [O,T,O,E 96,O,O,O,O,O,O,O,O,O,O,O,O,O,O,O,O,O,O,R ⟨[(83, .l .bool)],[],[],384⟩,X,O,R ⟨[(94, .l .bool)],[],[],384⟩,X,O,B 105 384] Tryz.func317
def M.mR(c:List ay.den)(g:bJ.den):Option (ay.den×Int×Int):=
agu (M.eT N c) λd=>(if(!ah (d.2.1=0))then
aa ((0,0),d.1,d.2.1)
else
cd (J:=List ay.den) (R:=ay.den×Int×Int) (Loop (S:=Int×List ay.den) (X:=(List ay.den)⊕(ay.den×Int×Int)) (λa=>(if(ah (a.1<(c.length:Int)))then
agu (idx c a.1) λb=>agu (if(!ah (b.2=0))then
agu (M.jK N b.1) λh=>aa (!h)
else
aa ag) λi=>(if i then
aa (.inr (.inr ((0,0),a.1,2)))
else
agu (M.fJ N b.1) λf=>agu (ga a.2 (agw.wrap ((a.2.length:Int)-f)) (a.2.length:Int)) λj=>agu (M.ba N b j g) λe=>(if(!ah (e.2=0))then
aa (.inr (.inr ((0,0),a.1,e.2)))
else
agu (ga a.2 0 (agw.wrap ((a.2.length:Int)-f))) λk=>agu (cm k ([e.1]:List ay.den)) λl=>aa (.inl (agw.wrap (a.1+1),l))))
else
aa (.inr (.inl a.2)))) N (0,([]:List ay.den))) λm=>agu (idx m 0) λn=>aa (n,0,0))
def YP:Fo 285 (.i1 [.l (.slice ay), .g bJ]) (.i1 [.g ay, .l az, .l az]) (u2 (M.mR N)):=fz N [W76 N,K0 N,TP N,YO N] [O,O,O,O,J ⟨[(10, .val ag (.own 256))],[(256, .own 74 ay)],[],257⟩,O,T,P ⟨[(10, .val ag (.own 304)),(29, .l az)],[(304, .own 74 ay)],[],305⟩,O,O,T,T,O,T,B 42 417] Tryz.func285
def M.fM(b:List ay.den)(c:bJ.den)(d:ay.den):Option Int:=
agu (M.mR N b c) λa=>(if(!ah (a.2.2=0))then
aa a.2.2
else(if(!(lH ay a.1 d))then
aa 8
else
aa 0))
def YQ:Fo 232 (.i1 [.l (.slice ay), .g bJ, .g ay]) (.i1 [.l az]) (u3 (M.fM N)):=fz N [YP N] [] Tryz.func232
def M.jn(N:Nat)(b:cX.den)(a:cX.den):Option (Bool×cX.den):=
aa (ah (b.1=a.1),a)
def QV:Fo 230 (.j1 [.g cX, .ptr 0 [] 0] [.box 113 (.leaf cX)] 1) (.j1 [.l .bool] [.box 113 (.leaf cX)] 2) (u2 (M.jn N)):=fz N [] [] Tryz.func230
def M.bw(c:List cX.den)(d:cX.den):Option (Int×cX.den):=
Loop (S:=Int×cX.den) (X:=Int×cX.den) (λa=>(if(ah (a.1<(c.length:Int)))then
agu (idx c a.1) λe=>agu (M.jn N e a.2) λb=>(if b.1 then
aa (.inr (a.1,b.2))
else
aa (.inl (agw.wrap (a.1+1),b.2)))
else
aa (.inr ((-1),a.2)))) N (0,d)
def QW:Fo 283 (.j1 [.l (.slice cX), .fn 230 [(0,[],0)]] [.box 113 (.leaf cX)] 1) (.j1 [.l az] [.box 113 (.leaf cX)] 2) (u2 (M.bw N)):=fz N [QV N] [O,T,O,T,P ⟨[(8, .l az)],[(0, .box 113 (.leaf cX))],[],66⟩] Tryz.func283
def M.bh(b:List cX.den)(c:cX.den):Option (Bool×cX.den):=
agu (M.bw N b c) λa=>aa (ah (0<=a.1),a.2)
def QX:Fo 229 (.j1 [.l (.slice cX), .fn 230 [(0,[],0)]] [.box 113 (.leaf cX)] 1) (.j1 [.l .bool] [.box 113 (.leaf cX)] 2) (u2 (M.bh N)):=fz N [QW N] [] Tryz.func229
def M.ju(b:br.den)(d:Int)(f:bJ.den):Option Int:=
agu (idx b.2.2.2.2 d) λe=>agu (agu (ga b.2.2.2.2 0 d) λg=>Loop (S:=Int×Int) (X:=Int) (λc=>(if(ah (c.2<(g.length:Int)))then
agu (agu (idx g c.2) λi=>(if(ah (i.2.1=e.2.1))then
aa (agw.wrap (c.1+1))
else
aa c.1):Option Int) λj=>aa (.inl (j,agw.wrap (c.2+1)))
else
aa (.inr c.1))) N (0,0):Option Int) λk=>agu (M.bY N e.1) λl=>(if(!l)then
aa 2
else
agu (ga b.2.2.2.2 0 d) λm=>agu (M.bh N m e) λa=>(if a.1 then
aa 7
else
agu (if(ah (a.2.2.1<0))then
aa af
else
aa (ah ((b.2.2.2.1.length:Int)<=a.2.2.1))) λn=>(if n then
aa 6
else
agu (if(!ah (a.2.2.2.1=(-1)))then(if(ah (a.2.2.2.1<0))then
aa af
else(if(ah (d<=a.2.2.2.1))then
aa af
else
agu (idx b.2.2.2.2 a.2.2.2.1) λo=>aa (!ah (o.2.1=a.2.2.1))))
else
aa ag) λp=>(if p then
aa 9
else
agu (if(ah (a.2.2.2.2.1<0))then
aa af
else
aa (ah (9<a.2.2.2.2.1))) λq=>(if q then
aa 3
else
agu (if(ah (a.2.2.2.2.2.1.1<0))then
aa af
else(if(ah (a.2.2.2.2.2.1.2<=a.2.2.2.2.2.1.1))then
aa af
else
aa (ah (109573<a.2.2.2.2.2.1.2)))) λr=>(if r then
aa 3
else(if(ah (8<=k))then
aa 4
else
agu (M.jC N a.2.2.2.2.2.2.2.2) λs=>(if(!s)then
aa 2
else
cd (J:=Unit) (R:=Int) ((if(ah (0<(a.2.2.2.2.2.2.1.length:Int)))then
agu (M.fM N a.2.2.2.2.2.2.1 f (1,0)) λh=>(if(!ah (h=0))then
aa (.inr h)
else
aa (.inl ()))
else
aa (.inl ()))) λv=>agu (idx b.2.2.2.1 a.2.2.1) λt=>agu (M.fM N a.2.2.2.2.2.2.2.1 f t.2) λu=>aa u))))))))
def YR:Fo 159 (.i1 [.g br, .l az, .g bJ]) (.i1 [.l az]) (u3 (M.ju N)):=fz N [T5 N,QX N,YH N,YQ N] [O,O,O,R ⟨[(8, .l az)],[],[],176⟩,O,T,P ⟨[(8, .l az),(22, .l az)],[],[],272⟩,O,O,T,R ⟨[(8, .l az)],[],[],288⟩,X,X,X,X,T,T,O,O,O,O,R ⟨[(46, .l .bool)],[],[],368⟩,X,O,R ⟨[(58, .l .bool)],[],[],368⟩,X,O,R ⟨[(85, .l .bool)],[],[],368⟩,X,O,B 94 368,X,E 496] Tryz.func159
def M.fA(b:List Int)(c:Int):Option Int:=
Loop (S:=Int) (X:=Int) (λa=>(if(ah (a<(b.length:Int)))then
agu (idx b a) λd=>(if(ah (c=d))then
aa (.inr a)
else
aa (.inl (agw.wrap (a+1))))
else
aa (.inr (-1)))) N 0
def YS:Fo 233 (.i1 [.l (.slice az), .l az]) (.i1 [.l az]) (u2 (M.fA N)):=fz N [] [O,T,O,T,L 8 64] Tryz.func233
def M.dT(a:List Int)(b:Int):Option Bool:=
agu (M.fA N a b) λc=>aa (ah (0<=c))
def YT:Fo 160 (.i1 [.l (.slice az), .l az]) (.i1 [.l .bool]) (u2 (M.dT N)):=fz N [YS N] [] Tryz.func160
def M.dq(N:Nat)(a:List Int):Option (List Int):=B5 a
def YU:oH:=⟨.w1 3 az, .j1 [] [.own 3 az] 2,M.dq N⟩
def Ua(N:Nat):gD Tryz.prog 236 (YU N):=NJ ⟨_,Tryz.func236,by kernel_rfl,by kernel_rfl⟩ Tryz.slices_Sort_int Tryz.slices_Sort_int_none
def M.cJ(N:Nat)(a:List Int):Option (List Int):=pf a
def YV:oH:=⟨.w1 3 az,⟨[(0, .val ag (.own 1))],[(1, .own 3 az)],[],2⟩,M.cJ N⟩
def Ub(N:Nat):gD Tryz.prog 237 (YV N):=EG ⟨_,Tryz.func237,by kernel_rfl,by kernel_rfl⟩ Tryz.slices_Compact_int Tryz.slices_Compact_int_empty
def M.fV(a:List Int):Option (List Int):=
agu (M.dq N a) λb=>agu (M.cJ N b) λc=>aa c
def QY:Fo 286 (.w1 3 az) ⟨[(0, .val ag (.own 1))],[(1, .own 3 az)],[],2⟩ (M.fV N):=fz N [Ua N,Ub N] [] Tryz.func286
def M.gF(e:List ay.den):Option ((List Int)×(List Int)×List Int):=
agu (Loop (S:=Int×(List Int)×(List Int)×List Int) (X:=(List Int)×(List Int)×List Int) (λa=>(if(ah (a.1<(e.length:Int)))then
agu (idx e a.1) λb=>agu ((if(ah (b.1=7))then
agu (cm a.2.1 ([b.2]:List Int)) λf=>aa (f,a.2.2.1,a.2.2.2)
else(if(ah (b.1=8))then
agu (cm a.2.2.1 ([b.2]:List Int)) λg=>aa (a.2.1,g,a.2.2.2)
else
agu (if(ah (b.1=36))then
aa (ah (b.1=36))
else(if(ah (b.1=37))then
aa (ah (b.1=37))
else(if(ah (b.1=38))then
aa (ah (b.1=38))
else
aa (ah (b.1=39))))) λh=>(if h then
agu (cm a.2.2.2 ([b.2]:List Int)) λi=>aa (a.2.1,a.2.2.1,i)
else
aa (a.2.1,a.2.2.1,a.2.2.2)))):Option ((List Int)×(List Int)×List Int)) λc=>aa (.inl (agw.wrap (a.1+1),c.1,c.2.1,c.2.2))
else
aa (.inr (a.2.1,a.2.2.1,a.2.2.2)))) N (0,([]:List Int),([]:List Int),([]:List Int)):Option ((List Int)×(List Int)×List Int)) λd=>agu (M.fV N d.1) λj=>agu (M.fV N d.2.1) λk=>agu (M.fV N d.2.2) λl=>aa (j,k,l)
def YW:Fo 235 (.i1 [.l (.slice ay)]) (.j1 [.val ag (.own 0), .val ag (.own 1), .val ag (.own 2)] [.own 3 az, .own 3 az, .own 3 az] 3) (M.gF N):=fz N [QY N] [O,O,R ⟨[(5, .val ag (.own 96)),(6, .val ag (.own 97)),(7, .val ag (.own 98))],[(96, .own 3 az),(97, .own 3 az),(98, .own 3 az)],[],99⟩,O,T,P ⟨[(5, .val ag (.own 144)),(6, .val ag (.own 145)),(7, .val ag (.own 146)),(12, .l az)],[(144, .own 3 az),(145, .own 3 az),(146, .own 3 az)],[],147⟩,O,O,T,T,O,O,R ⟨[(5, .val ag (.own 259)),(6, .val ag (.own 260)),(7, .val ag (.own 261))],[(259, .own 3 az),(260, .own 3 az),(261, .own 3 az)],[144,145,146],262⟩,O,O,O,O,B 32 323] Tryz.func235
def M.eW(e:cX.den)(f:Int):Option (List Int):=
agu (M.gF N e.2.2.2.2.2.1) λg=>agu (M.gF N e.2.2.2.2.2.2.1) λh=>agu (Loop (S:=Int×List Int) (X:=List Int) (λa=>(if(ah (a.1<(g.2.1.length:Int)))then
agu (agu (idx g.2.1 a.1) λc=>agu (if(ah (0<=c))then
aa (ah (c<f))
else
aa ag) λi=>(if i then
agu (cm a.2 ([c]:List Int)) λj=>aa j
else
aa a.2):Option (List Int)) λk=>aa (.inl (agw.wrap (a.1+1),k))
else
aa (.inr a.2))) N (0,([]:List Int)):Option (List Int)) λl=>Loop (S:=Int×List Int) (X:=List Int) (λb=>(if(ah (b.1<(h.2.1.length:Int)))then
agu (agu (idx h.2.1 b.1) λd=>agu (if(ah (0<=d))then
aa (ah (d<f))
else
aa ag) λm=>(if m then
agu (cm b.2 ([d]:List Int)) λn=>aa n
else
aa b.2):Option (List Int)) λo=>aa (.inl (agw.wrap (b.1+1),o))
else
aa (.inr b.2))) N (0,l)
def Uc:Fo 162 (.i1 [.g cX, .l az]) (.w1 3 az) (u2 (M.eW N)):=fz N [YW N] [O,O,O,O,R ⟨[(5, .val ag (.own 368))],[(368, .own 3 az)],[],369⟩,O,T,P ⟨[(5, .val ag (.own 416)),(32, .l az)],[(416, .own 3 az)],[],417⟩,O,O,T,R ⟨[(5, .val ag (.own 433))],[(433, .own 3 az)],[416],434⟩,O,B 42 481,X,X,X,T,O,T,P ⟨[(5, .val ag (.own 417)),(50, .l az)],[(417, .own 3 az)],[368],418⟩,O,O,T,R ⟨[(5, .val ag (.own 434))],[(434, .own 3 az)],[417],435⟩,O,B 60 482] Tryz.func162
def M.gX(a:List Int):Option (List Int):=
agu (M.dq N a) λb=>agu (M.cJ N b) λc=>aa c
def K3:Fo 163 (.w1 3 az) ⟨[(0, .val ag (.own 1))],[(1, .own 3 az)],[],2⟩ (M.gX N):=fz N [Ua N,Ub N] [] Tryz.func163
def M.iM(d:br.den):Option (List (List Int)):=
agu (oM (d.2.2.2.1.length:Int) ([]:List Int)) λf=>agu (Loop (S:=Int×List (List Int)) (X:=List (List Int)) (λb=>(if(ah (b.1<(d.2.2.2.2.length:Int)))then
agu (agu (idx d.2.2.2.2 b.1) λc=>agu (if(ah (0<=c.2.1))then
aa (ah (c.2.1<(b.2.length:Int)))
else
aa ag) λg=>(if g then
agu (idx b.2 c.2.1) λn=>agu (idx b.2 c.2.1) λh=>agu (M.eW N c (b.2.length:Int)) λi=>agu (cm h i) λj=>agu (idx b.2 c.2.1) λo=>(if ah (c.2.1=c.2.1)then
agu (idx b.2 c.2.1) λp=>aa (rK b.2 c.2.1 (λq=>j))
else ae)
else
aa b.2):Option (List (List Int))) λk=>aa (.inl (agw.wrap (b.1+1),k))
else
aa (.inr b.2))) N (0,f):Option (List (List Int))) λe=>Loop (S:=Int×List (List Int)) (X:=List (List Int)) (λa=>(if(ah (a.1<(e.length:Int)))then
agu (idx a.2 a.1) λr=>agu (idx a.2 a.1) λl=>agu (M.gX N l) λm=>agu (idx a.2 a.1) λs=>(if ah (a.1=a.1)then
agu (idx a.2 a.1) λt=>aa (.inl (agw.wrap (a.1+1),rK a.2 a.1 (λu=>m)))
else ae)
else
aa (.inr a.2))) N (0,e)
def S95:oH:=⟨.i1 [.g br], .j1 [.val ag (.own 0)] [.deep 23 (.sl 3 (.leaf az))] 1,M.iM N⟩
def W95(N:Nat):gD Tryz.prog 95 (S95 N):=fw (en [ck (Uc N),ck (K3 N)] af ag) (N:=N) (.o (.o (.meet ⟨[],[(80, .deep 23 (.sl 3 (.leaf az)))],[],113⟩ (.o (.two (.loop ⟨[(15, .l az)],[(80, .deep 23 (.sl 3 (.leaf az)))],[],177⟩ (.o (.o (.two (.meet ⟨[],[(80, .deep 23 (.sl 3 (.leaf az)))],[],194⟩ (.o (.meet ⟨[(28, .l .bool)],[],[],257⟩ .nil .nil)) .nil) .nil)))) .nil)) (.two (.o (.two (.loop ⟨[(46, .l az)],[(80, .deep 23 (.sl 3 (.leaf az)))],[],162⟩ .nil) .nil)) .nil)))) Tryz.func95 (by kernel_rfl) λx=>by kernel_rfl
def M.lZ(e:List (List Int))(i:Int):Option (List Int):=
agu (oM (e.length:Int) ag) λj=>agu (Loop (S:=(List Bool)×List Int) (X:=List Bool) (λc=>(if(ah (0<(c.2.length:Int)))then
agu (idx c.2 0) λk=>agu (ga c.2 1 (c.2.length:Int)) λl=>agu (idx e k) λf=>Loop (S:=Int×(List Bool)×List Int) (X:=((List Bool)×List Int)⊕(List Bool)) (λa=>(if(ah (a.1<(f.length:Int)))then
agu (agu (idx f a.1) λd=>agu (idx a.2.1 d) λm=>(if(!m)then
agu (idx a.2.1 d) λr=>agu (cm a.2.2 ([d]:List Int)) λn=>aa (bm a.2.1 d af,n)
else
aa (a.2.1,a.2.2)):Option ((List Bool)×List Int)) λg=>aa (.inl (agw.wrap (a.1+1),g.1,g.2))
else
aa (.inr (.inl (a.2.1,a.2.2))))) N (0,c.1,l)
else
aa (.inr c.1))) N (j,([i]:List Int)):Option (List Bool)) λh=>Loop (S:=Int×List Int) (X:=List Int) (λb=>(if(ah (b.1<(h.length:Int)))then
agu (agu (idx h b.1) λo=>(if o then
agu (cm b.2 ([b.1]:List Int)) λp=>aa p
else
aa b.2):Option (List Int)) λq=>aa (.inl (agw.wrap (b.1+1),q))
else
aa (.inr b.2))) N (0,([]:List Int))
def YX:oH:=⟨.i1 [.l (.slice (.slice az)), .l az], .w1 3 az,u2 (M.lZ N)⟩
def YY(N:Nat):gD Tryz.prog 234 (YX N):=fw (en [] ag af) (N:=N) (.o (.o (.o (.meet ⟨[],[(48, .own 4 .bool)],[96],129⟩ (.two (.loop ⟨[(6, .val ag (.own 128))],[(48, .own 4 .bool),(128, .own 3 az)],[96],130⟩ (.o (.two (.o (.o (.o (.two (.loop ⟨[(6, .val ag (.own 386)),(31, .l az)],[(48, .own 4 .bool),(386, .own 3 az)],[258],388⟩ (.o (.o (.two (.meet ⟨[(6, .val ag (.own 404))],[(48, .own 4 .bool),(404, .own 3 az)],[386],406⟩ .nil .nil) .nil)))) .nil)))) .nil))) .nil) (.o (.two (.o (.two (.loop ⟨[(10, .val ag (.own 193)),(50, .l az)],[(193, .own 3 az)],[],194⟩ (.o (.o (.two (.meet ⟨[(10, .val ag (.own 210))],[(210, .own 3 az)],[193],211⟩ .nil .nil) .nil)))) .nil)) .nil)))))) Tryz.func234 (by kernel_rfl) λx=>by kernel_rfl
def M.gG(b:br.den)(a:Int):Option (List Int):=
agu (if(ah (a<0))then
aa af
else
aa (ah ((b.2.2.2.1.length:Int)<=a))) λc=>(if c then
aa ([]:List Int)
else
agu (M.iM N b) λd=>agu (M.lZ N d a) λe=>aa e)
def YZ:Fo 161 (.i1 [.g br, .l az]) (.w1 3 az) (u2 (M.gG N)):=fz N [W95 N,YY N] [O,T,B 13 32] Tryz.func161
def M.iN(N:Nat)(b:br.den)(a:br.den):Option (Bool×br.den):=
aa (ah (b.1=a.1),a)
def QZ:Fo 156 (.j1 [.g br, .ptr 0 [] 0] [.box 68 (.leaf br)] 1) (.j1 [.l .bool] [.box 68 (.leaf br)] 2) (u2 (M.iN N)):=fz N [] [] Tryz.func156
def M.bl(c:List br.den)(d:br.den):Option (Int×br.den):=
Loop (S:=Int×br.den) (X:=Int×br.den) (λa=>(if(ah (a.1<(c.length:Int)))then
agu (idx c a.1) λe=>agu (M.iN N e a.2) λb=>(if b.1 then
aa (.inr (a.1,b.2))
else
aa (.inl (agw.wrap (a.1+1),b.2)))
else
aa (.inr ((-1),a.2)))) N (0,d)
def Q0:Fo 225 (.j1 [.l (.slice br), .fn 156 [(0,[],0)]] [.box 68 (.leaf br)] 1) (.j1 [.l az] [.box 68 (.leaf br)] 2) (u2 (M.bl N)):=fz N [QZ N] [O,T,O,T,P ⟨[(8, .l az)],[(0, .box 68 (.leaf br))],[],66⟩] Tryz.func225
def M.aT(b:List br.den)(c:br.den):Option (Bool×br.den):=
agu (M.bl N b c) λa=>aa (ah (0<=a.1),a.2)
def Q1:Fo 155 (.j1 [.l (.slice br), .fn 156 [(0,[],0)]] [.box 68 (.leaf br)] 1) (.j1 [.l .bool] [.box 68 (.leaf br)] 2) (u2 (M.aT N)):=fz N [Q0 N] [] Tryz.func155
def M.kD(b:dv.den)(h:Int):Option (Int×Int):=
agu (idx b.2.2 h) λd=>agu (ga b.2.2 0 h) λj=>agu (agu (M.iH N b.1 d.1) λo=>(if o then
aa (af,d)
else
agu (M.iY N b.2.1 d.1) λp=>(if p then
aa (af,d)
else
agu (M.aT N j d) λk=>aa (k.1,k.2))):Option (Bool×br.den)) λa=>agu (M.bY N a.2.1) λq=>(if(!q)then
aa (2,0)
else(if a.1 then
aa (7,0)
else
agu (if(!ah (a.2.2.1=(-1)))then(if(ah (a.2.2.1<0))then
aa af
else(if(ah (h<=a.2.2.1))then
aa af
else
agu (idx j a.2.2.1) λr=>aa (!ah (r.2.1=(-1)))))
else
aa ag) λs=>(if s then
aa (6,0)
else(if(ah (12<(a.2.2.2.1.length:Int)))then
aa (4,112)
else(if(ah (12<(a.2.2.2.2.1.length:Int)))then
aa (4,212)
else
cd (J:=Unit) (R:=Int×Int) (Loop (S:=Int) (X:=Unit⊕(Int×Int)) (λe=>(if(ah (e<(a.2.2.2.1.length:Int)))then
agu (idx a.2.2.2.1 e) λt=>agu (ga a.2.2.2.1 0 e) λu=>agu (M.iK N b t u ([]:List bB.den)) λl=>(if(!ah (l=0))then
aa (.inr (.inr (l,agw.wrap (100+e))))
else
aa (.inl (agw.wrap (e+1))))
else
aa (.inr (.inl ())))) N 0) λz=>cd (J:=Unit) (R:=Int×Int) (Loop (S:=Int) (X:=Unit⊕(Int×Int)) (λf=>(if(ah (f<(a.2.2.2.2.1.length:Int)))then
agu (idx a.2.2.2.2.1 f) λv=>agu (ga a.2.2.2.2.1 0 f) λw=>agu (M.iK N b v a.2.2.2.1 w) λm=>(if(!ah (m=0))then
aa (.inr (.inr (m,agw.wrap (200+f))))
else
aa (.inl (agw.wrap (f+1))))
else
aa (.inr (.inl ())))) N 0) λA=>agu (M.jm N b h) λc=>cd (J:=Unit) (R:=Int×Int) (Loop (S:=Int) (X:=Unit⊕(Int×Int)) (λi=>(if(ah (i<(a.2.2.2.2.2.length:Int)))then
agu (M.ju N a.2 i (c.1,(c.2.1,(c.2.2.2.1,(c.2.2.2.2.1,(c.2.2.2.2.2,c.2.2.1)))))) λn=>(if(!ah (n=0))then
aa (.inr (.inr (n,agw.wrap (300+i))))
else
aa (.inl (agw.wrap (i+1))))
else
aa (.inr (.inl ())))) N 0) λC=>Loop (S:=Int) (X:=Int×Int) (λg=>(if(ah (g<(a.2.2.2.2.1.length:Int)))then
agu (M.gG N a.2 g) λx=>agu (M.dT N x g) λy=>(if y then
aa (.inr (9,agw.wrap (200+g)))
else
aa (.inl (agw.wrap (g+1))))
else
aa (.inr (0,0)))) N 0)))))
def W93:Fo 93 (.i1 [.g dv, .l az]) (.i1 [.l az, .l az]) (u2 (M.kD N)):=fz N [T5 N,Yv N,W92 N,Q1 N,YC N,YE N,YR N,YT N,YZ N] [O,O,O,R ⟨[(8, .l .bool)],[(128, .box 68 (.leaf br))],[],241⟩,X,T,T,O,O,O,O,B 52 353,X,E 513,O,T,L 89 577,X,X,E 513,O,T,L 110 577,X,X,O,E 593,O,T,L 136 657,X,X,T,O,T,L 152 657] Tryz.func93
def M.jD(b:dv.den):Option (aR.den):=
(if(ah (4<(b.2.2.length:Int)))then
aa (4,(3,(4,0)))
else
cd (J:=Unit) (R:=aR.den) (Loop (S:=Int) (X:=Unit⊕(aR.den)) (λa=>(if(ah (a<(b.2.2.length:Int)))then
agu (M.kD N b a) λc=>(if(!ah (c.1=0))then
aa (.inr (.inr (c.1,(3,(a,c.2)))))
else
aa (.inl (agw.wrap (a+1))))
else
aa (.inr (.inl ())))) N 0) λd=>aa (0,(0,(0,0))))
def W57:Fo 57 (.i1 [.g dv]) (.i1 [.g aR]) (M.jD N):=fz N [W93 N] [O,O,E 96,O,T,L 14 160] Tryz.func57
def M.fB(a:dv.den):Option (aR.den):=
agu (M.kw N a) λb=>(if(!ah (b.1=0))then
aa b
else
agu (M.jB N a) λc=>(if(!ah (c.1=0))then
aa c
else
agu (M.jD N a) λd=>aa d))
def W28:Fo 28 (.i1 [.g dv]) (.i1 [.g aR]) (M.fB N):=fz N [W55 N,W56 N,W57 N] [] Tryz.func28
def M.dP(g:dv.den)(b:List aA.den)(c:List bB.den):Option (Int×Int):=
(if(ah ((b.length:Int)<(c.length:Int)))then
aa ((b.length:Int),5)
else(if(ah ((c.length:Int)<(b.length:Int)))then
aa ((c.length:Int),4)
else
Loop (S:=Int) (X:=Int×Int) (λa=>(if(ah (a<(b.length:Int)))then
agu (idx b a) λd=>agu (idx c a) λe=>agu (if(!ah (d.1=e.2.1))then
aa af
else
aa (!ah (d.2.1=e.2.2))) λh=>(if h then
aa (.inr (a,8))
else
agu (M.gu N e.2 g.1) λf=>agu (if(ah (d.2.2<f.1))then
aa af
else
aa (ah (f.2<d.2.2))) λi=>(if i then
aa (.inr (a,3))
else
aa (.inl (agw.wrap (a+1)))))
else
aa (.inr (0,0)))) N 0))
def W58:Fo 58 (.i1 [.g dv, .l (.slice aA), .l (.slice bB)]) (.i1 [.l az, .l az]) (u3 (M.dP N)):=fz N [Yy N] [O,O,O,T,O,T,L 29 256,O,O,T,T,O,O,T,B 50 480,O,B 68 624] Tryz.func58
def M.ff(N:Nat)(a:dv.den)(c:Int):Option ((List bB.den)×Int):=
agu (idx a.2.2 c) λb=>agu (if(ah (b.2.1<0))then
aa af
else
aa (ah ((a.2.2.length:Int)<=b.2.1))) λd=>(if d then
aa (([]:List bB.den),0)
else
agu (idx a.2.2 b.2.1) λe=>aa (e.2.2.1,8))
def W59:Fo 59 (.i1 [.g dv, .l az]) (.i1 [.l (.slice bB), .l az]) (u2 (M.ff N)):=fz N [] [O,O,T,B 21 160] Tryz.func59
def M.cQ(b:dv.den)(c:Int)(a:fi.den):Option (Int×Int×Int):=
agu (if(ah (c<0))then
aa af
else
aa (ah ((b.2.2.length:Int)<=c))) λh=>(if h then
aa ((-1),(-1),6)
else
agu (if(ah (a.1<0))then
aa af
else
aa (ah (109572<a.1))) λi=>(if i then
aa ((-1),(-1),3)
else
agu (idx b.2.2 c) λj=>agu (M.dP N b a.2.1 j.2.2.1) λe=>(if(!ah (e.2=0))then
aa ((-1),e.1,e.2)
else
agu (M.ff N b c) λf=>(if(ah (f.2<(a.2.2.length:Int)))then
aa (f.2,(-1),4)
else
Loop (S:=Int) (X:=Int×Int×Int) (λd=>(if(ah (d<(a.2.2.length:Int)))then
agu (idx a.2.2 d) λk=>agu (M.dP N b k f.1) λg=>(if(!ah (g.2=0))then
aa (.inr (d,g.1,g.2))
else
aa (.inl (agw.wrap (d+1))))
else
aa (.inr (0,0,0)))) N 0))))
def W29:Fo 29 (.i1 [.g dv, .l az, .g fi]) (.i1 [.l az, .l az, .l az]) (u3 (M.cQ N)):=fz N [W58 N,W59 N] [O,T,B 25 80,T,B 33 80,O,O,O,T,O,T,L 66 624] Tryz.func29
def M.eE(a:cX.den)(b:Int)(c:Int):Option (Bool×Int×Int):=
agu (if(ah (a.2.1=b))then
agu (M.cB N a.2.2.2.2.1 c) λd=>aa d
else
aa ag) λe=>aa (e,b,c)
def Ud:Fo 70 (.j1 [.g cX, .ptr 0 [] 0, .ptr 1 [] 0] [.box 3 (.leaf az), .box 3 (.leaf az)] 2) (.j1 [.l .bool] [.box 3 (.leaf az), .box 3 (.leaf az)] 4) (u3 (M.eE N)):=fz N [X4 N] [O,B 4 34] Tryz.func70
def M.eF(f:List cX.den)(g:Int)(h:Int):Option (Int×Int×(List Int)×List Int):=
agu (oM (f.length:Int) 0) λi=>Loop (S:=Int×Int×Int×(List Int)×(List Int)×List Int) (X:=Int×Int×(List Int)×List Int) (λa=>(if(ah (a.1<(f.length:Int)))then
agu (agu (idx f a.1) λd=>agu (agu (if(ah (0<=d.2.2.1))then
aa (ah (d.2.2.1<a.1))
else
aa ag) λj=>(if j then
agu (idx a.2.2.2.1 d.2.2.1) λk=>aa k
else
aa (-1)):Option Int) λe=>agu (idx a.2.2.2.1 a.1) λn=>agu (M.eE N d a.2.1 a.2.2.1) λb=>(if b.1 then
agu (idx (bm a.2.2.2.1 a.1 e) a.1) λo=>agu (cm a.2.2.2.2.1 ([a.1]:List Int)) λl=>agu (cm a.2.2.2.2.2 ([e]:List Int)) λm=>aa (b.2.1,b.2.2,bm (bm a.2.2.2.1 a.1 e) a.1 (a.2.2.2.2.1.length:Int),l,m)
else
aa (b.2.1,b.2.2,bm a.2.2.2.1 a.1 e,a.2.2.2.2.1,a.2.2.2.2.2)):Option (Int×Int×(List Int)×(List Int)×List Int)) λc=>aa (.inl (agw.wrap (a.1+1),c.1,c.2.1,c.2.2.1,c.2.2.2.1,c.2.2.2.2))
else
aa (.inr (a.2.1,a.2.2.1,a.2.2.2.2.1,a.2.2.2.2.2)))) N (0,g,h,i,([]:List Int),([]:List Int))
def Ue:Fo 69 (.j1 [.l (.slice cX), .fn 70 [(0,[],0),(1,[],0)]] [.box 3 (.leaf az), .box 3 (.leaf az)] 2) (.j1 [.val ag (.own 2), .val ag (.own 3)] [.box 3 (.leaf az), .box 3 (.leaf az), .own 3 az, .own 3 az] 6) (u3 (M.eF N)):=fz N [Ud N] [O,O,O,T,O,T,P ⟨[(6, .val ag (.own 178)),(7, .val ag (.own 179)),(17, .l az)],[(0, .box 3 (.leaf az)),(1, .box 3 (.leaf az)),(98, .own 3 az),(178, .own 3 az),(179, .own 3 az)],[],183⟩,O,O,T,R ⟨[(6, .val ag (.own 199)),(7, .val ag (.own 200))],[(0, .box 3 (.leaf az)),(1, .box 3 (.leaf az)),(98, .own 3 az),(199, .own 3 az),(200, .own 3 az)],[178,179],204⟩,O,O,R ⟨[(11, .l az)],[],[],311⟩,B 30 311] Tryz.func69
def M.iZ(c:br.den)(d:Int)(e:Int):Option ((List Int)×(List Int)×List Int):=
agu (M.eF N c.2.2.2.2 d e) λb=>agu (Loop (S:=Int×List Int) (X:=List Int) (λa=>(if(ah (a.1<(b.2.2.1.length:Int)))then
agu (idx b.2.2.1 a.1) λf=>agu (idx c.2.2.2.2 f) λg=>agu (cm a.2 ([g.2.2.2.1]:List Int)) λh=>aa (.inl (agw.wrap (a.1+1),h))
else
aa (.inr a.2))) N (0,([]:List Int)):Option (List Int)) λi=>aa (b.2.2.1,b.2.2.2,i)
def W40:Fo 40 (.i1 [.g br, .l az, .l az]) (.j1 [.val ag (.own 0), .val ag (.own 1), .val ag (.own 2)] [.own 3 az, .own 3 az, .own 3 az] 3) (u3 (M.iZ N)):=fz N [Ue N] [O,O,O,R ⟨[(11, .val ag (.own 256))],[(256, .own 3 az)],[],257⟩,O,T,P ⟨[(11, .val ag (.own 304)),(23, .l az)],[(304, .own 3 az)],[],305⟩] Tryz.func40
def M.bG(b:List ay.den)(c:List ay.den):Option Bool:=
(if(!ah ((b.length:Int)=(c.length:Int)))then
aa ag
else
Loop (S:=Int) (X:=Bool) (λa=>(if(ah (a<(b.length:Int)))then
agu (idx b a) λd=>agu (idx c a) λe=>(if(!(lH ay d e))then
aa (.inr ag)
else
aa (.inl (agw.wrap (a+1))))
else
aa (.inr af))) N 0)
def W72:Fo 72 (.i1 [.l (.slice ay), .l (.slice ay)]) (.i1 [.l .bool]) (u2 (M.bG N)):=fz N [] [O,O,T,O,T,L 13 144] Tryz.func72
def M.dU(b:List (List ay.den))(c:List ay.den):Option Int:=
Loop (S:=Int) (X:=Int) (λa=>(if(ah (a<(b.length:Int)))then
agu (idx b a) λd=>agu (M.bG N d c) λe=>(if e then
aa (.inr a)
else
aa (.inl (agw.wrap (a+1))))
else
aa (.inr (-1)))) N 0
def W41:Fo 41 (.i1 [.l (.slice (.slice ay)), .l (.slice ay)]) (.i1 [.l az]) (u2 (M.dU N)):=fz N [W72 N] [O,T,O,T,L 9 64] Tryz.func41
def M.bH(N:Nat)(a:List ay.den):Option (List ay.den):=
(if agC (a).length 0 then
El (aa ([]:List ay.den))
(agu (cm ([]:List ay.den) a) λb=>aa b)
else
agu (cm ([]:List ay.den) a) λc=>aa c)
def W42:Fo 42 (.i1 [.l (.slice ay)]) (.w1 79 ay) (M.bH N):=fz N [] [] Tryz.func42
def M.cR(b:List Int)(c:List Int):Option Int:=
(if(!ah ((b.length:Int)=(c.length:Int)))then
aa 2
else(if(ah (8<(b.length:Int)))then
aa 4
else
Loop (S:=Int) (X:=Int) (λa=>(if(ah (a<(b.length:Int)))then
agu (idx b a) λd=>agu (if(ah (d<(-1)))then
aa af
else
aa (ah (a<=d))) λe=>(if e then
aa (.inr 9)
else
agu (agu (idx c a) λf=>(if(ah (f<0))then
aa af
else
agu (idx c a) λg=>aa (ah (9<g))):Option Bool) λh=>(if h then
aa (.inr 3)
else
aa (.inl (agw.wrap (a+1)))))
else
aa (.inr 0))) N 0))
def Y0:Fo 113 (.i1 [.l (.slice az), .l (.slice az)]) (.i1 [.l az]) (u2 (M.cR N)):=fz N [] [O,O,O,T,O,T,L 17 192,O,O,T,T,O,T,B 28 288,B 40 288] Tryz.func113
def M.dl(b:List Int)(c:Int):Option (List Int):=
Loop (S:=Int×List Int) (X:=List Int) (λa=>(if(ah (a.1<(b.length:Int)))then
agu (agu (idx b a.1) λd=>(if(ah (d=c))then
agu (cm a.2 ([a.1]:List Int)) λe=>aa e
else
aa a.2):Option (List Int)) λf=>aa (.inl (agw.wrap (a.1+1),f))
else
aa (.inr a.2))) N (0,([]:List Int))
def Y1:Fo 257 (.i1 [.l (.slice az), .l az]) (.w1 3 az) (u2 (M.dl N)):=fz N [] [O,O,T,O,T,P ⟨[(5, .val ag (.own 80)),(10, .l az)],[(80, .own 3 az)],[],81⟩,O,O,T,R ⟨[(5, .val ag (.own 97))],[(97, .own 3 az)],[80],98⟩] Tryz.func257
def M.dH(b:fU.den)(f:Int):Option (List Int):=
agu (M.dl N b.1 f) λe=>Loop (S:=Int×List Int) (X:=List Int) (λa=>(if(ah (a.1<(e.length:Int)))then
agu (agu (idx e a.1) λc=>agu (idx b.2.2 c) λg=>(if(ah (g=(-1)))then
aa a.2
else
agu (agu (if(ah (0<(a.2.length:Int)))then
agu (idx b.2.1 c) λh=>agu (idx a.2 0) λi=>agu (idx b.2.1 i) λj=>aa (ah (j<h))
else
aa ag) λk=>(if k then
agu (ga a.2 0 0) λl=>aa l
else
aa a.2):Option (List Int)) λd=>agu (if(ah ((d.length:Int)=0))then
aa af
else
agu (idx b.2.1 c) λm=>agu (idx d 0) λn=>agu (idx b.2.1 n) λo=>aa (ah (m=o))) λp=>(if p then
agu (cm d ([c]:List Int)) λq=>aa q
else
aa d)):Option (List Int)) λr=>aa (.inl (agw.wrap (a.1+1),r))
else
aa (.inr a.2))) N (0,([]:List Int))
def Y2:Fo 185 (.i1 [.g fU, .l az]) (.w1 3 az) (u2 (M.dH N)):=fz N [Y1 N] [O,O,T,O,T,P ⟨[(5, .val ag (.own 144)),(13, .l az)],[(144, .own 3 az)],[],145⟩,O,O,T,R ⟨[(5, .val ag (.own 161))],[(161, .own 3 az)],[144],162⟩,O,O,R ⟨[(5, .val ag (.own 305))],[(305, .own 3 az)],[144],306⟩,B 40 305,B 60 306] Tryz.func185
def M.bZ(b:fU.den)(c:Int):Option Int:=
agu (M.dH N b c) λa=>(if(ah ((a.length:Int)=0))then
aa (-1)
else(if(ah ((a.length:Int)=1))then
agu (idx a 0) λd=>agu (idx b.2.2 d) λe=>aa e
else
aa (-2)))
def Uf:Fo 115 (.i1 [.g fU, .l az]) (.i1 [.l az]) (u2 (M.bZ N)):=fz N [Y2 N] [] Tryz.func115
def M.dV(c:List Int)(d:List Int)(e:List Bool):Option (List Int):=
agu (oM (c.length:Int) 0) λf=>Loop (S:=Int×List Int) (X:=List Int) (λa=>(if(ah (0<=a.1))then
agu (agu (M.bZ N (c,(d,a.2)) a.1) λb=>agu (idx a.2 a.1) λk=>agu (agu (idx (bm a.2 a.1 b) a.1) λg=>(if(ah (g=(-1)))then
agu (idx e a.1) λh=>aa h
else
aa ag):Option Bool) λi=>(if i then
agu (idx (bm a.2 a.1 b) a.1) λl=>aa (bm (bm a.2 a.1 b) a.1 a.1)
else
aa (bm a.2 a.1 b)):Option (List Int)) λj=>aa (.inl (agw.wrap (a.1-1),j))
else
aa (.inr a.2))) N (agw.wrap ((c.length:Int)-1),f)
def Y3:Fo 114 (.i1 [.l (.slice az), .l (.slice az), .l (.slice .bool)]) (.w1 3 az) (u3 (M.dV N)):=fz N [Uf N] [O,O,T,O,T,P ⟨[(8, .l az)],[(80, .own 3 az)],[],209⟩,O,T,R ⟨[],[(80, .own 3 az)],[],242⟩,O,B 40 369] Tryz.func114
def M.cF(a:List Int)(b:List Int)(c:List Bool):Option Int:=
agu (agu (M.cR N a b) λd=>(if(!ah (d=0))then
aa af
else
aa (!ah ((c.length:Int)=(a.length:Int)))):Option Bool) λe=>(if e then
aa (-1)
else
agu (M.dV N a b c) λf=>agu (M.bZ N (a,(b,f)) (-1)) λg=>aa g)
def W73:Fo 73 (.i1 [.l (.slice az), .l (.slice az), .l (.slice .bool)]) (.i1 [.l az]) (u3 (M.cF N)):=fz N [Y0 N,Y3 N,Uf N] [O,T,B 17 16] Tryz.func73
def M.cq(d:List Int)(k:List Int)(l:List Int)(f:List Int)(m:Int):Option (List Int):=
agu (qK .i64 1 m) λn=>agu (oM n 0) λg=>agu (oM (d.length:Int) ag) λo=>Loop (S:=Int×(List Int)×List Bool) (X:=List Int) (λa=>(if(ah (a.1<(g.length:Int)))then
agu (agu (agu (Loop (S:=Int×List Bool) (X:=List Bool) (λb=>(if(ah (b.1<(f.length:Int)))then
agu (agu (idx f b.1) λh=>(if(ah (h<0))then
agu (idx b.2 b.1) λt=>aa (bm b.2 b.1 af)
else
agu (w8 .i64 a.1 h) λp=>agu (idx b.2 b.1) λu=>aa (bm b.2 b.1 (ah ((aG .and .i64 p 1)=1)))):Option (List Bool)) λq=>aa (.inl (agw.wrap (b.1+1),q))
else
aa (.inr b.2))) N (0,a.2.2):Option (List Bool)) λe=>agu (M.cF N k l e) λc=>agu (if(ah (0<=c))then
aa (ah (c<(d.length:Int)))
else
aa ag) λr=>(if r then
agu (idx d c) λs=>agu (idx a.2.1 a.1) λv=>aa (bm a.2.1 a.1 s,e)
else
agu (idx a.2.1 a.1) λw=>aa (bm a.2.1 a.1 c,e)):Option ((List Int)×List Bool)) λi=>aa (i.1,i.2):Option ((List Int)×List Bool)) λj=>aa (.inl (agw.wrap (a.1+1),j.1,j.2))
else
aa (.inr a.2.1))) N (0,g,o)
def W43:Fo 43 (.i1 [.l (.slice az), .l (.slice az), .l (.slice az), .l (.slice az), .l az]) (.w1 3 az) (u5 (M.cq N)):=fz N [W73 N] [O,O,O,T,O,T,P ⟨[(25, .l az)],[(48, .own 3 az),(112, .own 4 .bool)],[],194⟩,O,O,R ⟨[],[(48, .own 3 az),(112, .own 4 .bool)],[],212⟩,R ⟨[],[(48, .own 3 az),(112, .own 4 .bool)],[],212⟩,O,R ⟨[],[(112, .own 4 .bool)],[],243⟩,O,T,P ⟨[(30, .l az)],[(112, .own 4 .bool)],[],291⟩,O,O,T,R ⟨[],[(112, .own 4 .bool)],[],308⟩,X,X,X,X,O,B 59 323] Tryz.func43
def M.fq(N:Nat)(a:ay.den)(b:Int):Option Bool:=
aa (ah ((aG .and .i64 b a.1)=a.2))
def W45:Fo 45 (.i1 [.g ay, .l az]) (.i1 [.l .bool]) (u2 (M.fq N)):=fz N [] [] Tryz.func45
def M.gY(N:Nat)(a:Int):Option Int:=
aa (if 8<(if a<0 then 0 else a)then 8 else(if a<0 then 0 else a))
def Y4:Fo 116 (.i1 [.l az]) (.i1 [.l az]) (M.gY N):=fz N [] [] Tryz.func116
def M.gS(N:Nat)(a:Int):Option Int:=
aa (aG .and .i64 (agw.wrap (agy.wrap ((agy.wrap ((agy.wrap ((aG .and .u64 (agy.wrap ((bQ .u64 (agy.wrap ((aG .and .u64 (bQ .u64 (agy.wrap ((aG .and .u64 (bQ .u64 a 1) 6148914691236517205)+(aG .and .u64 a 6148914691236517205))) 2) 3689348814741910323)+(aG .and .u64 (agy.wrap ((aG .and .u64 (bQ .u64 a 1) 6148914691236517205)+(aG .and .u64 a 6148914691236517205))) 3689348814741910323))) 4)+(agy.wrap ((aG .and .u64 (bQ .u64 (agy.wrap ((aG .and .u64 (bQ .u64 a 1) 6148914691236517205)+(aG .and .u64 a 6148914691236517205))) 2) 3689348814741910323)+(aG .and .u64 (agy.wrap ((aG .and .u64 (bQ .u64 a 1) 6148914691236517205)+(aG .and .u64 a 6148914691236517205))) 3689348814741910323))))) 1085102592571150095)+(bQ .u64 (aG .and .u64 (agy.wrap ((bQ .u64 (agy.wrap ((aG .and .u64 (bQ .u64 (agy.wrap ((aG .and .u64 (bQ .u64 a 1) 6148914691236517205)+(aG .and .u64 a 6148914691236517205))) 2) 3689348814741910323)+(aG .and .u64 (agy.wrap ((aG .and .u64 (bQ .u64 a 1) 6148914691236517205)+(aG .and .u64 a 6148914691236517205))) 3689348814741910323))) 4)+(agy.wrap ((aG .and .u64 (bQ .u64 (agy.wrap ((aG .and .u64 (bQ .u64 a 1) 6148914691236517205)+(aG .and .u64 a 6148914691236517205))) 2) 3689348814741910323)+(aG .and .u64 (agy.wrap ((aG .and .u64 (bQ .u64 a 1) 6148914691236517205)+(aG .and .u64 a 6148914691236517205))) 3689348814741910323))))) 1085102592571150095) 8)))+(bQ .u64 (agy.wrap ((aG .and .u64 (agy.wrap ((bQ .u64 (agy.wrap ((aG .and .u64 (bQ .u64 (agy.wrap ((aG .and .u64 (bQ .u64 a 1) 6148914691236517205)+(aG .and .u64 a 6148914691236517205))) 2) 3689348814741910323)+(aG .and .u64 (agy.wrap ((aG .and .u64 (bQ .u64 a 1) 6148914691236517205)+(aG .and .u64 a 6148914691236517205))) 3689348814741910323))) 4)+(agy.wrap ((aG .and .u64 (bQ .u64 (agy.wrap ((aG .and .u64 (bQ .u64 a 1) 6148914691236517205)+(aG .and .u64 a 6148914691236517205))) 2) 3689348814741910323)+(aG .and .u64 (agy.wrap ((aG .and .u64 (bQ .u64 a 1) 6148914691236517205)+(aG .and .u64 a 6148914691236517205))) 3689348814741910323))))) 1085102592571150095)+(bQ .u64 (aG .and .u64 (agy.wrap ((bQ .u64 (agy.wrap ((aG .and .u64 (bQ .u64 (agy.wrap ((aG .and .u64 (bQ .u64 a 1) 6148914691236517205)+(aG .and .u64 a 6148914691236517205))) 2) 3689348814741910323)+(aG .and .u64 (agy.wrap ((aG .and .u64 (bQ .u64 a 1) 6148914691236517205)+(aG .and .u64 a 6148914691236517205))) 3689348814741910323))) 4)+(agy.wrap ((aG .and .u64 (bQ .u64 (agy.wrap ((aG .and .u64 (bQ .u64 a 1) 6148914691236517205)+(aG .and .u64 a 6148914691236517205))) 2) 3689348814741910323)+(aG .and .u64 (agy.wrap ((aG .and .u64 (bQ .u64 a 1) 6148914691236517205)+(aG .and .u64 a 6148914691236517205))) 3689348814741910323))))) 1085102592571150095) 8))) 16)))+(bQ .u64 (agy.wrap ((agy.wrap ((aG .and .u64 (agy.wrap ((bQ .u64 (agy.wrap ((aG .and .u64 (bQ .u64 (agy.wrap ((aG .and .u64 (bQ .u64 a 1) 6148914691236517205)+(aG .and .u64 a 6148914691236517205))) 2) 3689348814741910323)+(aG .and .u64 (agy.wrap ((aG .and .u64 (bQ .u64 a 1) 6148914691236517205)+(aG .and .u64 a 6148914691236517205))) 3689348814741910323))) 4)+(agy.wrap ((aG .and .u64 (bQ .u64 (agy.wrap ((aG .and .u64 (bQ .u64 a 1) 6148914691236517205)+(aG .and .u64 a 6148914691236517205))) 2) 3689348814741910323)+(aG .and .u64 (agy.wrap ((aG .and .u64 (bQ .u64 a 1) 6148914691236517205)+(aG .and .u64 a 6148914691236517205))) 3689348814741910323))))) 1085102592571150095)+(bQ .u64 (aG .and .u64 (agy.wrap ((bQ .u64 (agy.wrap ((aG .and .u64 (bQ .u64 (agy.wrap ((aG .and .u64 (bQ .u64 a 1) 6148914691236517205)+(aG .and .u64 a 6148914691236517205))) 2) 3689348814741910323)+(aG .and .u64 (agy.wrap ((aG .and .u64 (bQ .u64 a 1) 6148914691236517205)+(aG .and .u64 a 6148914691236517205))) 3689348814741910323))) 4)+(agy.wrap ((aG .and .u64 (bQ .u64 (agy.wrap ((aG .and .u64 (bQ .u64 a 1) 6148914691236517205)+(aG .and .u64 a 6148914691236517205))) 2) 3689348814741910323)+(aG .and .u64 (agy.wrap ((aG .and .u64 (bQ .u64 a 1) 6148914691236517205)+(aG .and .u64 a 6148914691236517205))) 3689348814741910323))))) 1085102592571150095) 8)))+(bQ .u64 (agy.wrap ((aG .and .u64 (agy.wrap ((bQ .u64 (agy.wrap ((aG .and .u64 (bQ .u64 (agy.wrap ((aG .and .u64 (bQ .u64 a 1) 6148914691236517205)+(aG .and .u64 a 6148914691236517205))) 2) 3689348814741910323)+(aG .and .u64 (agy.wrap ((aG .and .u64 (bQ .u64 a 1) 6148914691236517205)+(aG .and .u64 a 6148914691236517205))) 3689348814741910323))) 4)+(agy.wrap ((aG .and .u64 (bQ .u64 (agy.wrap ((aG .and .u64 (bQ .u64 a 1) 6148914691236517205)+(aG .and .u64 a 6148914691236517205))) 2) 3689348814741910323)+(aG .and .u64 (agy.wrap ((aG .and .u64 (bQ .u64 a 1) 6148914691236517205)+(aG .and .u64 a 6148914691236517205))) 3689348814741910323))))) 1085102592571150095)+(bQ .u64 (aG .and .u64 (agy.wrap ((bQ .u64 (agy.wrap ((aG .and .u64 (bQ .u64 (agy.wrap ((aG .and .u64 (bQ .u64 a 1) 6148914691236517205)+(aG .and .u64 a 6148914691236517205))) 2) 3689348814741910323)+(aG .and .u64 (agy.wrap ((aG .and .u64 (bQ .u64 a 1) 6148914691236517205)+(aG .and .u64 a 6148914691236517205))) 3689348814741910323))) 4)+(agy.wrap ((aG .and .u64 (bQ .u64 (agy.wrap ((aG .and .u64 (bQ .u64 a 1) 6148914691236517205)+(aG .and .u64 a 6148914691236517205))) 2) 3689348814741910323)+(aG .and .u64 (agy.wrap ((aG .and .u64 (bQ .u64 a 1) 6148914691236517205)+(aG .and .u64 a 6148914691236517205))) 3689348814741910323))))) 1085102592571150095) 8))) 16))) 32)))) 127)
def Y5:Fo 262 (.i1 [.l (.int .u64)]) (.i1 [.l az]) (M.gS N):=fz N [] [] Tryz.func262
def M.cM(a:Int):Option Int:=
agu (M.gS N a) λb=>aa b
def Ug:Fo 191 (.i1 [.l (.int .u64)]) (.i1 [.l az]) (M.cM N):=fz N [Y5 N] [] Tryz.func191
def M.lp(a:ay.den)(b:ay.den):Option (ay.den×Bool):=
agu (if(!ah (a.1=b.1))then
aa af
else
agu (M.cM N (agy.wrap (aG .xor .i64 a.2 b.2))) λc=>(if(!ah (c=1))then
aa af
else
aa (ah ((aG .and .i64 (aG .xor .i64 a.2 b.2) a.1)=0)))) λd=>(if d then
aa ((0,0),ag)
else
aa ((aG .andNot .i64 a.1 (aG .xor .i64 a.2 b.2),aG .andNot .i64 a.2 (aG .xor .i64 a.2 b.2)),af))
def Y6:Fo 186 (.i1 [.g ay, .g ay]) (.i1 [.g ay, .l .bool]) (u2 (M.lp N)):=fz N [Ug N] [O,O,T,B 29 160] Tryz.func186
end
end
end Go.Proofs.YtfeahmiobbjklaaGreatDoor
