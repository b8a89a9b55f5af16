/- Joined texts: SL Model. -/
import Derived.Test.YtfeahmiobbjklaaGreatDoorU6
import Derived.Test.YtfeahmiobbjklaaGreatDoorProg
import Derived.Test.YtfeahmiobbjklaaGreatDoorU4
import Derived.Test.YtfeahmiobbjklaaGreatDoorU5
set_option linter.defProp false
open _root_.Bool renaming false->ag,true->af
open _root_.Option renaming none->ae,some->aa,bind->agn
open _root_.Decidable renaming decide->ah
open _root_.Int renaming tdiv->agC,tmod->agD
open _root_.Go.IntKind renaming i64->agp,u64->agr
open _root_.List renaming forall_mem_cons->ahx
open _root_.Nat renaming beq->agu
namespace Go.Proofs.YtfeahmiobbjklaaGreatDoor
open Go Go.RowKit
set_option maxRecDepth 100000
set_option linter.unusedSimpArgs false
set_option linter.unusedVariables false
set_option linter.defProp false
section
open Go Go.RowKit Go.Shelf Go.Lib Go.Sort
def Eb{g:Int->Int->Int->Int->Option Int}(Wm:fL Tryz.prog 188 ⟨⟨[(0, .val af (.leaf mw)),(1, .val af (.leaf mw))],[],[],0⟩,⟨[(0, .val ag (.leaf ay))],[],[],0⟩,λ(x:mw.den×mw.den)=>g x.1.1 x.1.2 x.2.1 x.2.2⟩):
 fL Tryz.prog 187 ⟨⟨[(0, .val ag (.own 0)),(1, .fn 188 [])],[(0, .own 119 mw)],[],1⟩,⟨[],[(0, .own 119 mw)],[],2⟩,λx=>xY g x⟩:=by
 have eg:∀args w,(callFunc 188 args).run Tryz.prog w= .ok (.enter 188 args) w:=enters_of Tryz.func188 (by kernel_rfl) rfl;refine Ks ⟨_,Tryz.func187,by kernel_rfl,by kernel_rfl⟩ Wm (λcf hO nA off cap d w hC hH hb hs hT=>?_) (λw=>?_)
 .exact AnyQ.slices_SortFunc_total Tryz.FD 2 Tryz.isAgg119 Tryz.sizeOf119 la Kq (λx v hv=>by simp[la]at hv;rcases hv with rfl|rfl<;>rfl) cf hO 188 #[] nA off cap d w eg hC hH hb hs hT
 .exact AnyF.slices_SortFunc_none Tryz.FD ae 0 _ w
end
section
noncomputable section
open Tk
variable (N:Nat)
set_option maxRecDepth 100000
set_option linter.unusedVariables false
@[reducible] def az:Row:= .pair ay ay
@[reducible] def aA:Row:= .pair ay az
@[reducible] def iE:Row:= .pair az aA
@[reducible] def bD:Row:= .pair .str (.pair az (.pair az (.slice iE)))
@[reducible] def bl:Row:= .pair ay (.pair (.slice aA) (.pair (.slice aA) (.pair (.slice (.slice aA)) (.pair (.slice az) (.slice bD)))))
@[reducible] def bn:Row:= .pair (.slice az) (.pair (.slice ay) bl)
@[reducible] def aH:Row:= .pair az ay
@[reducible] def aU:Row:= .pair ay (.pair (.slice (.slice az)) (.pair (.slice ay) (.slice aH)))
@[reducible] def fF:Row:= .pair .str (.slice .str)
@[reducible] def bI:Row:= .pair .str az
@[reducible] def dD:Row:= .pair .str (.pair ay (.pair ay (.pair ay (.pair az (.pair (.slice az) (.pair (.slice az) .str))))))
@[reducible] def bo:Row:= .pair .str (.pair ay (.pair (.slice bI) (.pair (.slice bI) (.slice dD))))
@[reducible] def jc:Row:= .pair (.slice fF) (.pair (.slice bD) (.slice bo))
@[reducible] def bg:Row:= .pair ay aA
@[reducible] def bO:Row:= .pair (.slice fF) (.pair (.slice bD) (.pair (.slice az) (.pair (.slice az) (.pair (.slice az) .bool))))
@[reducible] def xZ:Row:= .pair ay (.pair (.slice aA) (.slice (.slice aA)))
@[reducible] def fM:Row:= .pair (.slice ay) (.pair (.slice ay) (.slice ay))
@[reducible] def eZ:Row:= .pair bo (.pair (.slice ay) (.pair (.slice aU) (.slice ay)))
@[reducible] def bf:Row:= .pair (.slice aA) (.slice ay)
@[reducible] def FE:Row:= .pair (.slice aA) (.pair (.slice ay) (.slice bf))
@[reducible] def qJ:Row:= .pair bo (.pair bo (.pair (.slice .bool) (.slice .bool)))
def CX:TI Tryz.prog 3 ay:=TI.mk (k:=1) (by kernel_rfl) rfl
def Ti4:TI Tryz.prog 4 .bool:=TI.mk (k:=1) (by kernel_rfl) rfl
def Ti9:TI Tryz.prog 9 .str:=TI.mk (k:=1) (by kernel_rfl) rfl
def Wn:TI Tryz.prog 22 (.slice (.slice az)):=TI.mk (k:=1) (by kernel_rfl) rfl
def Wo:TI Tryz.prog 23 (.slice ay):=TI.mk (k:=1) (by kernel_rfl) rfl
def Wq:TI Tryz.prog 24 (.slice aH):=TI.mk (k:=1) (by kernel_rfl) rfl
def Wr:TI Tryz.prog 26 aU:=TI.mk (k:=4) (by kernel_rfl) rfl
def Ws:TI Tryz.prog 27 (.slice aA):=TI.mk (k:=1) (by kernel_rfl) rfl
def Wt:TI Tryz.prog 28 (.slice (.slice aA)):=TI.mk (k:=1) (by kernel_rfl) rfl
def Wu:TI Tryz.prog 29 (.slice az):=TI.mk (k:=1) (by kernel_rfl) rfl
def Wv:TI Tryz.prog 30 (.slice bD):=TI.mk (k:=1) (by kernel_rfl) rfl
def Ww:TI Tryz.prog 32 bl:=TI.mk (k:=6) (by kernel_rfl) rfl
def PA:TI Tryz.prog 36 ay:=TI.mk (k:=1) (by kernel_rfl) rfl
def Wx:TI Tryz.prog 40 aA:=TI.mk (k:=3) (by kernel_rfl) rfl
def Wy:TI Tryz.prog 43 (.slice az):=TI.mk (k:=1) (by kernel_rfl) rfl
def Wz:TI Tryz.prog 45 (.slice fF):=TI.mk (k:=1) (by kernel_rfl) rfl
def WA:TI Tryz.prog 46 (.slice bo):=TI.mk (k:=1) (by kernel_rfl) rfl
def WB:TI Tryz.prog 48 jc:=TI.mk (k:=3) (by kernel_rfl) rfl
def WC:TI Tryz.prog 50 xZ:=TI.mk (k:=3) (by kernel_rfl) rfl
def WD:TI Tryz.prog 53 (.slice bf):=TI.mk (k:=1) (by kernel_rfl) rfl
def WE:TI Tryz.prog 55 FE:=TI.mk (k:=3) (by kernel_rfl) rfl
def WG:TI Tryz.prog 57 bg:=TI.mk (k:=4) (by kernel_rfl) rfl
def WH:TI Tryz.prog 63 bf:=TI.mk (k:=2) (by kernel_rfl) rfl
def WI:TI Tryz.prog 65 (.slice bI):=TI.mk (k:=1) (by kernel_rfl) rfl
def WJ:TI Tryz.prog 66 (.slice dD):=TI.mk (k:=1) (by kernel_rfl) rfl
def WK:TI Tryz.prog 68 bo:=TI.mk (k:=5) (by kernel_rfl) rfl
def WL:TI Tryz.prog 74 az:=TI.mk (k:=2) (by kernel_rfl) rfl
def WM:TI Tryz.prog 75 (.slice iE):=TI.mk (k:=1) (by kernel_rfl) rfl
def WN:TI Tryz.prog 77 bD:=TI.mk (k:=6) (by kernel_rfl) rfl
def WO:TI Tryz.prog 79 az:=TI.mk (k:=2) (by kernel_rfl) rfl
def WQ:TI Tryz.prog 85 (.slice .str):=TI.mk (k:=1) (by kernel_rfl) rfl
def WR:TI Tryz.prog 87 fF:=TI.mk (k:=2) (by kernel_rfl) rfl
def WS:TI Tryz.prog 90 bg:=TI.mk (k:=4) (by kernel_rfl) rfl
def WT:TI Tryz.prog 94 bI:=TI.mk (k:=3) (by kernel_rfl) rfl
def WU:TI Tryz.prog 95 (.slice aU):=TI.mk (k:=1) (by kernel_rfl) rfl
def WV:TI Tryz.prog 96 (.slice ay):=TI.mk (k:=1) (by kernel_rfl) rfl
def WW:TI Tryz.prog 98 eZ:=TI.mk (k:=8) (by kernel_rfl) rfl
def Sp:TI Tryz.prog 111 az:=TI.mk (k:=2) (by kernel_rfl) rfl
def Sq:TI Tryz.prog 113 dD:=TI.mk (k:=9) (by kernel_rfl) rfl
def Sr:TI Tryz.prog 119 az:=TI.mk (k:=2) (by kernel_rfl) rfl
def St:TI Tryz.prog 121 aH:=TI.mk (k:=3) (by kernel_rfl) rfl
def Su:TI Tryz.prog 126 (.slice .bool):=TI.mk (k:=1) (by kernel_rfl) rfl
def Sv:TI Tryz.prog 128 qJ:=TI.mk (k:=12) (by kernel_rfl) rfl
def Sw:TI Tryz.prog 132 bn:=TI.mk (k:=8) (by kernel_rfl) rfl
def Sz:TI Tryz.prog 184 (.slice ay):=TI.mk (k:=1) (by kernel_rfl) rfl
def SA:TI Tryz.prog 198 fM:=TI.mk (k:=3) (by kernel_rfl) rfl
def SB:TI Tryz.prog 224 iE:=TI.mk (k:=5) (by kernel_rfl) rfl
def SC:TI Tryz.prog 237 bO:=TI.mk (k:=6) (by kernel_rfl) rfl
def SD:TI Tryz.prog 333 (.int .u64):=TI.mk (k:=1) (by kernel_rfl) rfl
def Ec:qB Tryz.prog 3 ay 1:=EP Tryz.underlying3
def WX:qB Tryz.prog 74 az 2:=kG Tryz.underlying74 (by kernel_rfl) (gU rfl rfl Tryz.underlying3 (by simp[gJ]) CX Ec (nB rfl rfl Tryz.underlying3 (by simp[gJ]) CX Ec))
def WY:qB Tryz.prog 79 az 2:=kG Tryz.underlying79 (by kernel_rfl) (gU rfl rfl Tryz.underlying3 (by simp[gJ]) CX Ec (nB rfl rfl Tryz.underlying3 (by simp[gJ]) CX Ec))
def SE:qB Tryz.prog 119 az 2:=kG Tryz.underlying119 (by kernel_rfl) (gU rfl rfl Tryz.underlying3 (by simp[gJ]) CX Ec (nB rfl rfl Tryz.underlying3 (by simp[gJ]) CX Ec))
def SF:qB Tryz.prog 36 ay 1:=EP Tryz.underlying36
def WZ:qB Tryz.prog 90 bg 2:=kG Tryz.underlying90 (by kernel_rfl) (gU rfl rfl Tryz.underlying36 (by simp[gJ]) PA SF (gU rfl rfl Tryz.underlying3 (by simp[gJ]) CX Ec (gU rfl rfl Tryz.underlying3 (by simp[gJ]) CX Ec (nB rfl rfl Tryz.underlying3 (by simp[gJ]) CX Ec))))
def W0:qB Tryz.prog 57 bg 2:=kG Tryz.underlying57 (by kernel_rfl) (gU rfl rfl Tryz.underlying36 (by simp[gJ]) PA SF (gU rfl rfl Tryz.underlying3 (by simp[gJ]) CX Ec (gU rfl rfl Tryz.underlying3 (by simp[gJ]) CX Ec (nB rfl rfl Tryz.underlying3 (by simp[gJ]) CX Ec))))
def W1:qB Tryz.prog 40 aA 2:=kG Tryz.underlying40 (by kernel_rfl) (gU rfl rfl Tryz.underlying3 (by simp[gJ]) CX Ec (gU rfl rfl Tryz.underlying3 (by simp[gJ]) CX Ec (nB rfl rfl Tryz.underlying3 (by simp[gJ]) CX Ec)))
def tu:∀p∈([(3, .int .i64),(4, .bool),(5, .int .u8),(9, .str),(20, .other),(22, .slice 43),(23, .slice 3),(24, .slice 121),(26, .struct [(3,0),(22,1),(23,2),(24,3)]),(27, .slice 40),(28, .slice 27),(29, .slice 74),(30, .slice 77),(32, .struct [(3,0),(27,1),(27,2),(28,3),(29,4),(30,5)]),(36, .int .i64),(40, .struct [(3,0),(3,1),(3,2)]),(43, .slice 79),(45, .slice 87),(46, .slice 68),(48, .struct [(45,0),(30,1),(46,2)]),(50, .struct [(3,0),(27,1),(28,2)]),(53, .slice 63),(55, .struct [(27,0),(23,1),(53,2)]),(57, .struct [(36,0),(3,1),(3,2),(3,3)]),(63, .struct [(27,0),(23,1)]),(65, .slice 94),(66, .slice 113),(68, .struct [(9,0),(3,1),(65,2),(65,3),(66,4)]),(74, .struct [(3,0),(3,1)]),(75, .slice 224),(77, .struct [(9,0),(74,1),(74,3),(75,5)]),(79, .struct [(3,0),(3,1)]),(85, .slice 9),(87, .struct [(9,0),(85,1)]),(88, .other),(90, .struct [(36,0),(3,1),(3,2),(3,3)]),(94, .struct [(9,0),(74,1)]),(95, .slice 26),(96, .slice 36),(98, .struct [(68,0),(23,5),(95,6),(96,7)]),(111, .struct [(3,0),(3,1)]),(113, .struct [(9,0),(3,1),(3,2),(3,3),(111,4),(43,6),(43,7),(9,8)]),(119, .struct [(3,0),(3,1)]),(121, .struct [(119,0),(3,2)]),(124, .ptr 128),(126, .slice 4),(128, .struct [(68,0),(68,5),(126,10),(126,11)]),(132, .struct [(43,0),(23,1),(32,2)]),(156, .other),(159, .slice 119),(163, .ptr 32),(181, .slice 23),(183, .ptr 184),(184, .slice 3),(198, .struct [(23,0),(23,1),(23,2)]),(199, .map 3 4),(200, .map 119 4),(224, .struct [(111,0),(3,2),(3,3),(3,4)]),(227, .other),(231, .other),(233, .other),(237, .struct [(45,0),(30,1),(29,2),(29,3),(29,4),(4,5)]),(244, .other),(264, .int .u64),(265, .other),(283, .other),(300, .int .u32),(302, .int .u64),(333, .int .u64),(337, .ptr 3),(344, .array 12 3),(359, .ptr 333)]:List (Nat×IE)),xm Tryz.prog p.1 p.2:=by
 simp only[ahx];exact⟨Tryz.underlying3,Tryz.underlying4,Tryz.underlying5,Tryz.underlying9,⟨_,Tryz.underlying20,rfl⟩,Tryz.underlying22,Tryz.underlying23,Tryz.underlying24,⟨_,Tryz.underlying26,rfl⟩,Tryz.underlying27,Tryz.underlying28,Tryz.underlying29,Tryz.underlying30,⟨_,Tryz.underlying32,rfl⟩,Tryz.underlying36,⟨_,Tryz.underlying40,rfl⟩,Tryz.underlying43,Tryz.underlying45,Tryz.underlying46,⟨_,Tryz.underlying48,rfl⟩,⟨_,Tryz.underlying50,rfl⟩,Tryz.underlying53,⟨_,Tryz.underlying55,rfl⟩,⟨_,Tryz.underlying57,rfl⟩,⟨_,Tryz.underlying63,rfl⟩,Tryz.underlying65,Tryz.underlying66,⟨_,Tryz.underlying68,rfl⟩,⟨_,Tryz.underlying74,rfl⟩,Tryz.underlying75,⟨_,Tryz.underlying77,rfl⟩,⟨_,Tryz.underlying79,rfl⟩,Tryz.underlying85,⟨_,Tryz.underlying87,rfl⟩,⟨_,Tryz.underlying88,rfl⟩,⟨_,Tryz.underlying90,rfl⟩,⟨_,Tryz.underlying94,rfl⟩,Tryz.underlying95,Tryz.underlying96,⟨_,Tryz.underlying98,rfl⟩,⟨_,Tryz.underlying111,rfl⟩,⟨_,Tryz.underlying113,rfl⟩,⟨_,Tryz.underlying119,rfl⟩,⟨_,Tryz.underlying121,rfl⟩,Tryz.underlying124,Tryz.underlying126,⟨_,Tryz.underlying128,rfl⟩,⟨_,Tryz.underlying132,rfl⟩,⟨_,Tryz.underlying156,rfl⟩,Tryz.underlying159,Tryz.underlying163,Tryz.underlying181,Tryz.underlying183,Tryz.underlying184,⟨_,Tryz.underlying198,rfl⟩,Tryz.underlying199,Tryz.underlying200,⟨_,Tryz.underlying224,rfl⟩,⟨_,Tryz.underlying227,rfl⟩,⟨_,Tryz.underlying231,rfl⟩,⟨_,Tryz.underlying233,rfl⟩,⟨_,Tryz.underlying237,rfl⟩,⟨_,Tryz.underlying244,rfl⟩,Tryz.underlying264,⟨_,Tryz.underlying265,rfl⟩,⟨_,Tryz.underlying283,rfl⟩,Tryz.underlying300,Tryz.underlying302,Tryz.underlying333,Tryz.underlying337,Tryz.underlying344,Tryz.underlying359,λ_ h=>absurd h (by simp)⟩
def tr:∀p∈([(3,ay),(4, .bool),(9, .str),(22,(.slice (.slice az))),(23,(.slice ay)),(24,(.slice aH)),(26,aU),(27,(.slice aA)),(28,(.slice (.slice aA))),(29,(.slice az)),(30,(.slice bD)),(32,bl),(36,ay),(40,aA),(43,(.slice az)),(45,(.slice fF)),(46,(.slice bo)),(48,jc),(50,xZ),(53,(.slice bf)),(55,FE),(57,bg),(63,bf),(65,(.slice bI)),(66,(.slice dD)),(68,bo),(74,az),(75,(.slice iE)),(77,bD),(79,az),(85,(.slice .str)),(87,fF),(90,bg),(94,bI),(95,(.slice aU)),(96,(.slice ay)),(98,eZ),(111,az),(113,dD),(119,az),(121,aH),(126,(.slice .bool)),(128,qJ),(132,bn),(184,(.slice ay)),(198,fM),(224,iE),(237,bO),(333,(.int .u64))]:List (Nat×Row)),TI Tryz.prog p.1 p.2:=by
 simp only[ahx];exact⟨CX,Ti4,Ti9,Wn,Wo,Wq,Wr,Ws,Wt,Wu,Wv,Ww,PA,Wx,Wy,Wz,WA,WB,WC,WD,WE,WG,WH,WI,WJ,WK,WL,WM,WN,WO,WQ,WR,WS,WT,WU,WV,WW,Sp,Sq,Sr,St,Su,Sv,Sw,Sz,SA,SB,SC,SD,λ_ h=>absurd h (by simp)⟩
def te:∀p∈([(40,aA),(57,bg),(74,az),(79,az),(90,bg),(119,az)]:List (Nat×Row)),∃K d,qB Tryz.prog p.1 p.2 K/\d+K=10000/\Tryz.prog.eqGuardType Tryz.prog.depth p.1=ag/\(Tryz.prog.underlying p.1).any gJ=af:=by
 simp only[ahx];exact⟨⟨2,9998,W1,rfl,by kernel_rfl,by kernel_rfl⟩,⟨2,9998,W0,rfl,by kernel_rfl,by kernel_rfl⟩,⟨2,9998,WX,rfl,by kernel_rfl,by kernel_rfl⟩,⟨2,9998,WY,rfl,by kernel_rfl,by kernel_rfl⟩,⟨2,9998,WZ,rfl,by kernel_rfl,by kernel_rfl⟩,⟨2,9998,SE,rfl,by kernel_rfl,by kernel_rfl⟩,λ_ h=>absurd h (by simp)⟩
def tz:∀p∈([(4,(ag, .bool))]:List (Nat×(Bool×Row))),yG Tryz.prog p.1 p.2.1 p.2.2:=by
 simp only[ahx];exact⟨⟨_,by kernel_rfl,rfl⟩,λ_ h=>absurd h (by simp)⟩
def tm:∀p∈([(183,("Len",(97,ag))),(183,("Less",(393,ag))),(183,("Pop",(394,af))),(183,("Push",(395,af))),(183,("Swap",(396,ag)))]:List (TypeId×(String×(FuncId×Bool)))),qG Tryz.prog p.1 p.2.1 p.2.2.1 p.2.2.2:=by
 simp only[ahx];exact⟨(by unfold qG;kernel_rfl),(by unfold qG;kernel_rfl),(by unfold qG;kernel_rfl),(by unfold qG;kernel_rfl),(by unfold qG;kernel_rfl),λ_ h=>absurd h (by simp)⟩
def tk:∀t∈([119]:List TypeId),∀(em:Bool)(a b:Value)(w:World),(Instr.checkKey em 10000 t (.agg #[a,b])).run Tryz.prog w= .ok () w:=by
 simp only[ahx];exact⟨λem a b w=>by kernel_rfl,λ_ h=>absurd h (by simp)⟩
def W2:aX Tryz.prog:=⟨_,_,_,_,mF tu,mF tr,mF te,λt a r h=>mF (Q:=λt p=>yG Tryz.prog t p.1 p.2) tz t (a,r) h,_,tk,_,tm⟩
def mixed:Tryz.prog.follows .mixedOrders=af:=by kernel_rfl
def en(l:List (CT Tryz.prog))(d p:Bool):Env Tryz.prog:=⟨W2,CT.tab l,CT.zw,mixed,d,p⟩
abbrev Fo(f:Nat)(a b:JS)(g:cV a.rows->Option (cV b.rows)):Prop:=fL Tryz.prog f ⟨a,b,g⟩
def fz{f:FuncId}{fn:Func}{sg:nP}(N:Nat)(l:List (CT Tryz.prog))(a:List Tk)(hf:Tryz.prog.funcs[f]? =aa fn)(hc:Wk fn sg=af:=by kernel_rfl)(Ac:∀x,sg.fn x=Pv (en l ag ag) fn.ntmps N (fn.body.getD .skip) fn.results.toList (ak a) sg.inn sg.out x:=by intro x;kernel_rfl):fL Tryz.prog f sg:=fw (en l ag ag) (N:=N) (ak a) hf hc Ac
def M.jP(a:List (List az.den)):Option Bool:=
(if(ah (20<(a.length:Int)))then
aa ag
else
Loop (S:=Int) (X:=Bool) (λb=>(if(ah (b<(a.length:Int)))then
agn (idx a b) λc=>(if(ah (60<(c.length:Int)))then
aa (.inr ag)
else
aa (.inl (agp.wrap (b+1))))
else
aa (.inr af))) N 0)
def W7:Fo 7 (.i1 [.l (.slice (.slice az))]) (.i1 [.l .bool]) (M.jP N):=fz N [] [O,O,T,O,T,L 3 80] Tryz.func7
def M.lS(a:bl.den):Option Bool:=
agn (if(ah (20<(a.2.1.length:Int)))then
aa af
else(if(ah (20<(a.2.2.1.length:Int)))then
aa af
else(if(ah (12<(a.2.2.2.1.length:Int)))then
aa af
else(if(ah (20<(a.2.2.2.2.1.length:Int)))then
aa af
else
aa (ah (10<(a.2.2.2.2.2.length:Int))))))) λd=>(if d then
aa ag
else
gm (J:=Unit) (R:=Bool) (Loop (S:=Int) (X:=Unit⊕Bool) (λb=>(if(ah (b<(a.2.2.2.2.2.length:Int)))then
agn (idx a.2.2.2.2.2 b) λe=>(if(ah (64<(e.2.2.2.length:Int)))then
aa (.inr (.inr ag))
else
aa (.inl (agp.wrap (b+1))))
else
aa (.inr (.inl ())))) N 0) λg=>Loop (S:=Int) (X:=Bool) (λc=>(if(ah (c<(a.2.2.2.1.length:Int)))then
agn (idx a.2.2.2.1 c) λf=>(if(ah (20<(f.length:Int)))then
aa (.inr ag)
else
aa (.inl (agp.wrap (c+1))))
else
aa (.inr af))) N 0)
def W8:Fo 8 (.i1 [.g bl]) (.i1 [.l .bool]) (M.lS N):=fz N [] [O,T,B 32 32,E 32,O,T,L 3 48,X,X,T,O,T,L 4 48] Tryz.func8
def M.dV(N:Nat)(a:Int):Option Int:=
agn (if(ah (a=1))then
aa (ah (a=1))
else(if(ah (a=2))then
aa (ah (a=2))
else(if(ah (a=3))then
aa (ah (a=3))
else(if(ah (a=4))then
aa (ah (a=4))
else(if(ah (a=5))then
aa (ah (a=5))
else(if(ah (a=6))then
aa (ah (a=6))
else(if(ah (a=7))then
aa (ah (a=7))
else(if(ah (a=8))then
aa (ah (a=8))
else(if(ah (a=9))then
aa (ah (a=9))
else(if(ah (a=35))then
aa (ah (a=35))
else(if(ah (a=36))then
aa (ah (a=36))
else(if(ah (a=37))then
aa (ah (a=37))
else(if(ah (a=38))then
aa (ah (a=38))
else
aa (ah (a=39))))))))))))))) λb=>(if b then
aa 0
else
agn (if(ah (a=10))then
aa (ah (a=10))
else(if(ah (a=25))then
aa (ah (a=25))
else(if(ah (a=31))then
aa (ah (a=31))
else(if(ah (a=32))then
aa (ah (a=32))
else(if(ah (a=33))then
aa (ah (a=33))
else
aa (ah (a=34))))))) λc=>(if c then
aa 1
else
agn (if(ah (a=11))then
aa (ah (a=11))
else(if(ah (a=12))then
aa (ah (a=12))
else(if(ah (a=13))then
aa (ah (a=13))
else(if(ah (a=14))then
aa (ah (a=14))
else(if(ah (a=15))then
aa (ah (a=15))
else(if(ah (a=16))then
aa (ah (a=16))
else(if(ah (a=17))then
aa (ah (a=17))
else(if(ah (a=18))then
aa (ah (a=18))
else(if(ah (a=19))then
aa (ah (a=19))
else(if(ah (a=20))then
aa (ah (a=20))
else(if(ah (a=21))then
aa (ah (a=21))
else(if(ah (a=22))then
aa (ah (a=22))
else(if(ah (a=23))then
aa (ah (a=23))
else(if(ah (a=24))then
aa (ah (a=24))
else(if(ah (a=27))then
aa (ah (a=27))
else(if(ah (a=28))then
aa (ah (a=28))
else(if(ah (a=29))then
aa (ah (a=29))
else
aa (ah (a=30))))))))))))))))))) λd=>(if d then
aa 2
else(if(ah (a=26))then
aa 3
else
aa (-1)))))
def Kt:Fo 120 (.i1 [.l ay]) (.i1 [.l ay]) (M.dV N):=fz N [] [O,T,O,T,R ⟨[(4, .l .bool)],[],[],32⟩,X,O,R ⟨[(19, .l .bool)],[],[],32⟩,X,O,B 26 32] Tryz.func120
def M.eG(b:List az.den):Option (Int×Int×List Int):=
(if(ah (48<(b.length:Int)))then
aa (0,4,([]:List Int))
else(if(ah ((b.length:Int)=0))then
aa (0,5,([]:List Int))
else
agn (og (b.length:Int) 0) λg=>gm (J:=(List Int)×List Int) (R:=Int×Int×List Int) (Loop (S:=Int×(List Int)×List Int) (X:=((List Int)×List Int)⊕(Int×Int×List Int)) (λa=>(if(ah (a.1<(b.length:Int)))then
agn (idx b a.1) λh=>agn (M.dV N h.1) λc=>(if(ah (c<0))then
aa (.inr (.inr (a.1,2,([]:List Int))))
else(if(ah ((a.2.2.length:Int)<c))then
aa (.inr (.inr (a.1,5,([]:List Int))))
else
agn (idx a.2.1 a.1) λl=>agn ((if(ah (0<c))then
agn (idx a.2.2 (agp.wrap ((a.2.2.length:Int)-c))) λi=>agn (idx (bG a.2.1 a.1 a.1) a.1) λm=>aa (bG (bG a.2.1 a.1 a.1) a.1 i)
else
aa (bG a.2.1 a.1 a.1)):Option (List Int)) λd=>agn (gK a.2.2 0 (agp.wrap ((a.2.2.length:Int)-c))) λj=>agn (idx d a.1) λk=>agn (cr j ([k]:List Int)) λe=>(if(ah (12<(e.length:Int)))then
aa (.inr (.inr (a.1,16,([]:List Int))))
else
aa (.inl (agp.wrap (a.1+1),d,e)))))
else
aa (.inr (.inl (a.2.1,a.2.2))))) N (0,g,([]:List Int))) λf=>(if(ah (1<(f.2.length:Int)))then
aa ((b.length:Int),4,([]:List Int))
else
aa (0,0,f.1))))
def W76:Fo 76 (.i1 [.l (.slice az)]) (.j1 [.val ag (.own 0), .l ay, .l ay] [.own 3 ay] 1) (M.eG N):=fz N [Kt N] [O,O,O,O,O,J ⟨[(6, .val ag (.own 224))],[(176, .own 3 ay),(224, .own 3 ay)],[],226⟩,O,T,P ⟨[(6, .val ag (.own 272)),(21, .l ay)],[(176, .own 3 ay),(272, .own 3 ay)],[],274⟩,O,O,T,T,O,O,O,O,O,R ⟨[],[(176, .own 3 ay)],[],627⟩] Tryz.func76
def M.mL(b:List az.den):Option (Int×List Int):=
agn (M.eG N b) λa=>aa (a.2.1,a.2.2)
def W49:Fo 49 (.i1 [.l (.slice az)]) (.j1 [.val ag (.own 0), .l ay] [.own 3 ay] 1) (M.mL N):=fz N [W76 N] [] Tryz.func49
def M.dO(b:bn.den)(c:Int):Option (List Int):=
agn (idx b.1 c) λe=>agn (M.dV N e.1) λf=>agn (og f 0) λd=>Loop (S:=Int×Int×List Int) (X:=List Int) (λa=>(if(ah (0<=a.2.1))then
agn (idx a.2.2 a.2.1) λh=>agn (idx b.2.1 a.1) λg=>aa (.inl (agp.wrap (g-1),agp.wrap (a.2.1-1),bG a.2.2 a.2.1 a.1))
else
aa (.inr a.2.2))) N (agp.wrap (c-1),agp.wrap ((d.length:Int)-1),d)
def W77:Fo 77 (.i1 [.g bn, .l ay]) (.w1 3 ay) (u2 (M.dO N)):=fz N [Kt N] [O,O,O,T,O,T,P ⟨[(6, .l ay),(7, .l ay)],[(144, .own 3 ay)],[],289⟩] Tryz.func77
def M.ie(N:Nat)(a:Int):Option Bool:=
agn (if(ah (a=1))then
aa (ah (a=1))
else(if(ah (a=2))then
aa (ah (a=2))
else(if(ah (a=3))then
aa (ah (a=3))
else(if(ah (a=4))then
aa (ah (a=4))
else(if(ah (a=5))then
aa (ah (a=5))
else(if(ah (a=6))then
aa (ah (a=6))
else(if(ah (a=7))then
aa (ah (a=7))
else(if(ah (a=8))then
aa (ah (a=8))
else(if(ah (a=14))then
aa (ah (a=14))
else(if(ah (a=15))then
aa (ah (a=15))
else(if(ah (a=16))then
aa (ah (a=16))
else(if(ah (a=33))then
aa (ah (a=33))
else(if(ah (a=34))then
aa (ah (a=34))
else(if(ah (a=36))then
aa (ah (a=36))
else(if(ah (a=37))then
aa (ah (a=37))
else(if(ah (a=38))then
aa (ah (a=38))
else
aa (ah (a=39)))))))))))))))))) λb=>(if b then
aa af
else
aa ag)
def SG:Fo 192 (.i1 [.l ay]) (.i1 [.l .bool]) (M.ie N):=fz N [] [O,T,O,T,B 4 32] Tryz.func192
def M.dp(a:az.den):Option Bool:=
agn (agn (M.dV N a.1) λb=>(if(ah (b<0))then
aa af
else(if(!ah (a.2=0))then
agn (M.ie N a.1) λc=>aa (!c)
else
aa ag)):Option Bool) λd=>(if d then
aa ag
else
agn (if(ah (a.1=14))then
aa (ah (a.1=14))
else(if(ah (a.1=15))then
aa (ah (a.1=15))
else
aa (ah (a.1=16)))) λe=>(if e then
agn (if(ah (0<=a.2))then
aa (ah (a.2<=5))
else
aa ag) λf=>aa f
else(if(ah (a.1=34))then
agn (if(ah (0<=a.2))then
aa (ah ((agD a.2 8)<=5))
else
aa ag) λg=>aa g
else(if(ah (a.1=6))then
aa (ah (0<=a.2))
else
aa af))))
def W4:Fo 122 (.i1 [.g az]) (.i1 [.l .bool]) (M.dp N):=fz N [Kt N,SG N] [O,T,B 17 32,T,O,T,R ⟨[(20, .l .bool)],[],[],64⟩,X,T,B 2 64,O,T,B 2 96] Tryz.func122
def M.ig(N:Nat)(a:az.den)(b:bl.den):Option Bool:=
(if(ah (a.1=7))then
agn (if(ah (0<=a.2))then
aa (ah (a.2<(b.2.1.length:Int)))
else
aa ag) λc=>aa c
else(if(ah (a.1=8))then
agn (if(ah (0<=a.2))then(if(ah (a.2<(b.2.2.1.length:Int)))then
agn (idx b.2.2.1 a.2) λd=>aa (!ah (d.1=0))
else
aa ag)
else
aa ag) λe=>aa e
else(if(ah (a.1=33))then
agn (if(ah (0<=a.2))then
aa (ah (a.2<(b.2.2.2.2.2.length:Int)))
else
aa ag) λf=>aa f
else(if(ah (a.1=34))then
aa (ah ((agp.wrap (agC a.2 8))<(b.2.2.2.2.2.length:Int)))
else
agn (if(ah (a.1=36))then
aa (ah (a.1=36))
else(if(ah (a.1=37))then
aa (ah (a.1=37))
else(if(ah (a.1=38))then
aa (ah (a.1=38))
else
aa (ah (a.1=39))))) λg=>(if g then
agn (if(ah (0<=a.2))then
aa (ah (a.2<(b.2.2.2.2.1.length:Int)))
else
aa ag) λh=>aa h
else
aa af)))))
def W5:Fo 123 (.i1 [.g az, .g bl]) (.i1 [.l .bool]) (u2 (M.ig N)):=fz N [] [O,T,O,T,O,T,B 4 112,O,T,B 4 144,O,T,B 4 176,O,O,R ⟨[(65, .l .bool)],[],[],208⟩,X,T,B 4 208] Tryz.func123
def M.cC(N:Nat)(a:aA.den):Option Bool:=
agn (if(!ah (a.1=6))then
aa (!ah (a.2.1=0))
else
aa ag) λb=>(if b then
aa ag
else(if(ah (a.1=1))then
agn (if(ah (a.2.2=0))then
aa af
else
aa (ah (a.2.2=1))) λc=>aa c
else(if(ah (a.1=2))then
agn (if(ah ((-1000000000000)<=a.2.2))then
aa (ah (a.2.2<=1000000000000))
else
aa ag) λd=>aa d
else(if(ah (a.1=3))then
agn (if(ah ((-1000000000000000)<=a.2.2))then
aa (ah (a.2.2<=1000000000000000))
else
aa ag) λe=>aa e
else(if(ah (a.1=4))then
agn (if(ah ((-1000000000)<=a.2.2))then
aa (ah (a.2.2<=1000000000))
else
aa ag) λf=>aa f
else(if(ah (a.1=5))then
agn (if(ah (0<=a.2.2))then
aa (ah (a.2.2<=109572))
else
aa ag) λg=>aa g
else(if(ah (a.1=6))then
agn (if(ah (0<=a.2.1))then(if(ah (a.2.1<8))then(if(ah (0<=a.2.2))then
aa (ah (a.2.2<16))
else
aa ag)
else
aa ag)
else
aa ag) λh=>aa h
else
aa ag)))))))
def HL:Fo 127 (.i1 [.g aA]) (.i1 [.l .bool]) (M.cC N):=fz N [] [O,T,B 10 32,T,O,T,O,T,B 2 96,O,T,B 2 128,O,T,B 2 160,O,T,B 2 192,O,T,B 2 224,O,T,B 2 256] Tryz.func127
def M.cO(b:List aA.den):Option Bool:=
Loop (S:=Int) (X:=Bool) (λa=>(if(ah (a<(b.length:Int)))then
agn (idx b a) λc=>agn (M.cC N c) λd=>(if(!d)then
aa (.inr ag)
else
aa (.inl (agp.wrap (a+1))))
else
aa (.inr af))) N 0
def W6:Fo 124 (.i1 [.l (.slice aA)]) (.i1 [.l .bool]) (M.cO N):=fz N [HL N] [O,T,O,T,L 7 64] Tryz.func124
def M.jQ(a:aA.den)(b:az.den):Option Bool:=
agn (agn (M.cC N a) λc=>(if c then(if(ah (a.1=b.1))then
aa (ah (a.2.1=b.2))
else
aa ag)
else
aa ag):Option Bool) λd=>aa d
def SH:Fo 193 (.i1 [.g aA, .g az]) (.i1 [.l .bool]) (u2 (M.jQ N)):=fz N [HL N] [O,B 4 48] Tryz.func193
def M.fB(N:Nat)(a:Int):Option Bool:=
agn (if(ah (a=2))then
aa af
else(if(ah (a=3))then
aa af
else
aa (ah (a=4)))) λb=>aa b
def PB:Fo 263 (.i1 [.l ay]) (.i1 [.l .bool]) (M.fB N):=fz N [] [O,B 2 16] Tryz.func263
def M.eH(b:Int)(a:az.den):Option Bool:=
(if(!ah (a.2=0))then
aa ag
else(if(ah (b=36))then
agn (if(ah (a.1=2))then
aa af
else
aa (ah (a.1=3))) λc=>aa c
else(if(ah (b=39))then
agn (agn (M.fB N a.1) λd=>(if d then
aa af
else
aa (ah (a.1=5))):Option Bool) λe=>aa e
else
aa (ah (a.1=1)))))
def Xa:Fo 194 (.i1 [.l ay, .g az]) (.i1 [.l .bool]) (u2 (M.eH N)):=fz N [PB N] [O,O,T,O,T,O,T,B 4 128,O,T,B 4 160] Tryz.func194
def M.cu(b:Int)(a:Int):Option Bool:=
(if(ah (b=10))then
agn (M.fB N a) λc=>aa c
else(if(ah (b=25))then
aa (ah (a=1))
else
aa (ah (a=5))))
def Xb:Fo 195 (.i1 [.l ay, .l ay]) (.i1 [.l .bool]) (u2 (M.cu N)):=fz N [PB N] [] Tryz.func195
def M.da(N:Nat)(a:aA.den)(b:aA.den):Option Bool:=
agn (if(ah (a.1=b.1))then
aa (ah (a.2.1=b.2.1))
else
aa ag) λc=>aa c
def SI:Fo 197 (.i1 [.g aA, .g aA]) (.i1 [.l .bool]) (u2 (M.da N)):=fz N [] [O,B 4 48] Tryz.func197
def M.aN(a:Int)(b:aA.den)(c:aA.den):Option Bool:=
agn (if(ah (a=11))then
aa (ah (a=11))
else
aa (ah (a=12))) λd=>(if d then
agn (agn (M.da N b c) λe=>(if e then
agn (M.fB N b.1) λf=>aa f
else
aa ag):Option Bool) λg=>aa g
else(if(ah (a=13))then
agn (if(ah (c.1=2))then(if(ah (b.1=2))then
aa af
else
aa (ah (b.1=3)))
else
aa ag) λh=>aa h
else(if(ah (a=14))then
agn (if(ah (c.1=4))then(if(ah (b.1=3))then
aa af
else
aa (ah (b.1=4)))
else
aa ag) λi=>aa i
else(if(ah (a=15))then(if(ah (c.1=2))then
agn (if(ah (b.1=2))then
aa af
else
aa (ah (b.1=3))) λj=>aa j
else
agn (if(ah (b.1=3))then
aa (ah (c.1=3))
else
aa ag) λk=>aa k)
else(if(ah (a=16))then
agn (if(ah (b.1=3))then
aa (ah (c.1=3))
else
aa ag) λl=>aa l
else
agn (if(ah (a=17))then
aa (ah (a=17))
else(if(ah (a=18))then
aa (ah (a=18))
else(if(ah (a=21))then
aa (ah (a=21))
else
aa (ah (a=22))))) λm=>(if m then
agn (agn (M.da N b c) λn=>(if n then
agn (M.fB N b.1) λo=>(if o then
aa af
else
aa (ah (b.1=5)))
else
aa ag):Option Bool) λp=>aa p
else
agn (if(ah (a=19))then
aa (ah (a=19))
else
aa (ah (a=20))) λq=>(if q then
agn (M.da N b c) λr=>aa r
else
agn (if(ah (a=23))then
aa (ah (a=23))
else
aa (ah (a=24))) λs=>(if s then
agn (if(ah (b.1=1))then
aa (ah (c.1=1))
else
aa ag) λt=>aa t
else
agn (if(ah (a=27))then
aa (ah (a=27))
else
aa (ah (a=28))) λu=>(if u then
agn (if(ah (b.1=5))then
aa (ah (c.1=2))
else
aa ag) λv=>aa v
else
agn (if(ah (b.1=5))then
aa (ah (c.1=5))
else
aa ag) λw=>aa w)))))))))
def Xc:Fo 196 (.i1 [.l ay, .g aA, .g aA]) (.i1 [.l .bool]) (u3 (M.aN N)):=fz N [SI N,PB N] [O,T,O,T,R ⟨[(8, .l .bool)],[],[],64⟩,X,T,B 6 64,O,T,B 6 96,O,T,B 6 128,O,T,T,O,T,B 6 208,X,B 6 208,O,T,B 6 192,R ⟨[(80, .l .bool)],[],[],192⟩,X,T,B 6 192,R ⟨[(98, .l .bool)],[],[],192⟩,X,O,R ⟨[(104, .l .bool)],[],[],192⟩,X,T,B 6 192,R ⟨[(115, .l .bool)],[],[],192⟩,X,T,B 6 192,X,X,B 6 192] Tryz.func196
def M.bp(a:az.den)(b:List aA.den)(c:bl.den):Option Bool:=
(if(ah (a.1=7))then
agn (idx c.2.1 a.2) λf=>agn (M.cC N f) λg=>aa g
else(if(ah (a.1=8))then
agn (idx c.2.2.1 a.2) λh=>agn (M.cC N h) λi=>aa i
else(if(ah (a.1=33))then
agn (idx c.2.2.2.2.2 a.2) λd=>agn (agn (idx b 0) λj=>agn (M.jQ N j d.2.1) λk=>(if k then(if(ah (1<=d.2.2.1.1))then
aa (ah (d.2.2.1.1<=6))
else
aa ag)
else
aa ag):Option Bool) λl=>aa l
else(if(ah (a.1=34))then
agn (idx c.2.2.2.2.2 (agp.wrap (agC a.2 8))) λe=>agn (agn (idx b 0) λm=>(if(ah (m.1=3))then(if(nz az e.2.1 (3,0))then
aa (nz az e.2.2.1 (4,0))
else
aa ag)
else
aa ag):Option Bool) λn=>aa n
else
agn (if(ah (a.1=36))then
aa (ah (a.1=36))
else(if(ah (a.1=37))then
aa (ah (a.1=37))
else(if(ah (a.1=38))then
aa (ah (a.1=38))
else
aa (ah (a.1=39))))) λo=>(if o then
agn (idx c.2.2.2.2.1 a.2) λp=>agn (M.eH N a.1 p) λq=>aa q
else(if(ah ((b.length:Int)=1))then
agn (idx b 0) λr=>agn (M.cu N a.1 r.1) λs=>aa s
else(if(ah ((b.length:Int)=2))then
agn (idx b 0) λt=>agn (idx b 1) λu=>agn (M.aN N a.1 t u) λv=>aa v
else(if(ah ((b.length:Int)=3))then
agn (agn (idx b 0) λw=>(if(ah (w.1=1))then
agn (idx b 1) λx=>agn (idx b 2) λy=>agn (M.da N x y) λz=>aa z
else
aa ag):Option Bool) λA=>aa A
else
aa af))))))))
def Xd:Fo 125 (.i1 [.g az, .l (.slice aA), .g bl]) (.i1 [.l .bool]) (u3 (M.bp N)):=fz N [HL N,SH N,Xa N,Xb N,Xc N,SI N] [O,T,O,T,O,O,O,O,O,T,O,B 6 304,O,T,O,B 6 352,B 81 208,X,T,O,T,O,O,O,O,O,T,B 6 336] Tryz.func125
def M.ew(b:az.den)(e:bl.den):Option (aA.den×Int):=
agn (idx e.2.2.2.2.1 b.2) λd=>agn ((if(ah (b.1=37))then
aa (d.1,(d.2,1))
else
aa (d.1,(d.2,0))):Option (aA.den)) λg=>agn (if(ah (b.1=39))then
aa (ah ((e.2.2.2.1.length:Int)=0))
else
aa ag) λh=>(if h then
aa ((0,(0,0)),6)
else
gm (J:=aA.den) (R:=aA.den×Int) (Loop (S:=Int×aA.den) (X:=(aA.den)⊕(aA.den×Int)) (λa=>(if(ah (a.1<(e.2.2.2.1.length:Int)))then
agn (idx e.2.2.2.1 a.1) λf=>agn (if(ah ((f.length:Int)<=b.2))then
aa af
else
agn (idx f b.2) λi=>aa (ah (i.1=0))) λj=>(if j then
aa (.inr (.inr ((0,(0,0)),6)))
else
agn (idx f b.2) λc=>agn (M.jQ N c d) λk=>(if(!k)then
aa (.inr (.inr ((0,(0,0)),8)))
else
gm (J:=aA.den) (R:=(Int×aA.den)⊕((aA.den)⊕(aA.den×Int))) ((if(ah (b.1=36))then
agn (M.cC N (a.2.1,(a.2.2.1,agp.wrap (a.2.2.2+c.2.2)))) λl=>(if(!l)then
aa (.inr (.inr (.inr ((0,(0,0)),3))))
else
aa (.inl (a.2.1,(a.2.2.1,agp.wrap (a.2.2.2+c.2.2)))))
else(if(ah (b.1=37))then
aa (.inl (a.2.1,(a.2.2.1,if c.2.2<a.2.2.2 then c.2.2 else a.2.2.2)))
else(if(ah (b.1=38))then
aa (.inl (a.2.1,(a.2.2.1,if a.2.2.2<c.2.2 then c.2.2 else a.2.2.2)))
else(if(ah (b.1=39))then
agn (if(ah (a.1=0))then
aa af
else
aa (ah (a.2.2.2<c.2.2))) λm=>(if m then
aa (.inl c)
else
aa (.inl a.2))
else
aa (.inl a.2)))))) λn=>aa (.inl (agp.wrap (a.1+1),n))))
else
aa (.inr (.inl a.2)))) N (0,g)) λo=>aa (o,0))
def Xe:Fo 198 (.i1 [.g az, .g bl]) (.i1 [.g aA, .l ay]) (u2 (M.ew N)):=fz N [HL N,SH N] [O,O,O,R ⟨[],[(272, .box 40 (.leaf aA))],[],305⟩,X,T,B 34 305,J ⟨[],[(272, .box 40 (.leaf aA))],[],306⟩,O,T,P ⟨[(39, .l ay)],[(272, .box 40 (.leaf aA))],[],370⟩,O,O,T,T,O,T,B 57 466,O,O,O,J ⟨[],[(272, .box 40 (.leaf aA))],[],675⟩,O,O,O,O,O,O,O,T,B 109 802] Tryz.func198
def M.dq(N:Nat)(a:az.den):Option Bool:=
agn (if(ah (0<=a.1))then(if(ah (a.1<=a.2))then
aa (ah (a.2<=109573))
else
aa ag)
else
aa ag) λb=>aa b
def PC:Fo 112 (.i1 [.g az]) (.i1 [.l .bool]) (M.dq N):=fz N [] [O,B 2 32] Tryz.func112
def M.bM(a:az.den)(b:Int):Option Bool:=
agn (agn (M.dq N a) λc=>(if c then(if(ah (a.1<=b))then
aa (ah (b<a.2))
else
aa ag)
else
aa ag):Option Bool) λd=>aa d
def Xf:Fo 71 (.i1 [.g az, .l ay]) (.i1 [.l .bool]) (u2 (M.bM N)):=fz N [PC N] [O,B 4 32] Tryz.func71
def M.eI(a:iE.den)(c:Int)(b:Int):Option (Bool×Int×Int):=
agn (agn (M.bM N a.1 c) λd=>(if d then(if(ah (a.2.1<=b))then
aa (ah (b<a.2.2.1))
else
aa ag)
else
aa ag):Option Bool) λe=>aa (e,c,b)
def PD:Fo 264 (.j1 [.g iE, .ptr 0 [] 0, .ptr 1 [] 0] [.box 3 (.leaf ay), .box 3 (.leaf ay)] 2) (.j1 [.l .bool] [.box 3 (.leaf ay), .box 3 (.leaf ay)] 4) (u3 (M.eI N)):=fz N [Xf N] [O,B 4 34] Tryz.func264
def M.bP(c:List iE.den)(d:Int)(e:Int):Option (Int×Bool×Int×Int):=
Loop (S:=Int×Int×Int) (X:=Int×Bool×Int×Int) (λa=>(if(ah (a.1<(c.length:Int)))then
agn (idx c a.1) λf=>agn (M.eI N f a.2.1 a.2.2) λb=>(if b.1 then
aa (.inr (a.1,af,b.2.1,b.2.2))
else
aa (.inl (agp.wrap (a.1+1),b.2.1,b.2.2)))
else
aa (.inr (0,ag,a.2.1,a.2.2)))) N (0,d,e)
def PE:Fo 145 (.j1 [.l (.slice iE), .fn 264 [(0,[],0),(1,[],0)]] [.box 3 (.leaf ay), .box 3 (.leaf ay)] 2) (.j1 [.l ay, .l .bool] [.box 3 (.leaf ay), .box 3 (.leaf ay)] 4) (u3 (M.bP N)):=fz N [PD N] [O,T,O,T,P ⟨[(10, .l ay)],[(0, .box 3 (.leaf ay)),(1, .box 3 (.leaf ay))],[],84⟩] Tryz.func145
def M.iF(b:bD.den)(c:Int)(d:Int):Option (Int×Bool):=
agn (M.bP N b.2.2.2 c d) λa=>aa (a.1,a.2.1)
def Xg:Fo 199 (.i1 [.g bD, .l ay, .l ay]) (.i1 [.l ay, .l .bool]) (u3 (M.iF N)):=fz N [PE N] [] Tryz.func199
def M.cX(N:Nat)(a:Int)(b:Int):Option (Int×Int):=
aa (agr.wrap ((agr.wrap ((agr.wrap ((bx .u64 a 32)*(bx .u64 b 32)))+(bx .u64 (agr.wrap ((agr.wrap ((bx .u64 a 32)*(aF .and .u64 b 4294967295)))+(bx .u64 (agr.wrap ((aF .and .u64 a 4294967295)*(aF .and .u64 b 4294967295))) 32))) 32)))+(bx .u64 (agr.wrap ((aF .and .u64 (agr.wrap ((agr.wrap ((bx .u64 a 32)*(aF .and .u64 b 4294967295)))+(bx .u64 (agr.wrap ((aF .and .u64 a 4294967295)*(aF .and .u64 b 4294967295))) 32))) 4294967295)+(agr.wrap ((aF .and .u64 a 4294967295)*(bx .u64 b 32))))) 32)),agr.wrap (a*b))
def M2:Fo 304 (.i1 [.l (.int .u64), .l (.int .u64)]) (.i1 [.l (.int .u64), .l (.int .u64)]) (u2 (M.cX N)):=fz N [] [] Tryz.func304
def M.jm(N:Nat)(c:Int):Option Int:=
agn ((if(ah (4294967296<=c))then
aa (bx .u64 c 32,32)
else
aa (c,0)):Option (Int×Int)) λa=>agn ((if(ah (65536<=a.1))then
aa (bx .u64 a.1 16,agp.wrap (a.2+16))
else
aa (a.1,a.2)):Option (Int×Int)) λb=>agn ((if(ah (256<=b.1))then
aa (bx .u64 b.1 8,agp.wrap (b.2+8))
else
aa (b.1,b.2)):Option (Int×Int)) λd=>agn (oQ (⟨#[0,1,2,2,3,3,3,3,4,4,4,4,4,4,4,4,5,5,5,5,5,5,5,5,5,5,5,5,5,5,5,5,6,6,6,6,6,6,6,6,6,6,6,6,6,6,6,6,6,6,6,6,6,6,6,6,6,6,6,6,6,6,6,6,7,7,7,7,7,7,7,7,7,7,7,7,7,7,7,7,7,7,7,7,7,7,7,7,7,7,7,7,7,7,7,7,7,7,7,7,7,7,7,7,7,7,7,7,7,7,7,7,7,7,7,7,7,7,7,7,7,7,7,7,7,7,7,7,8,8,8,8,8,8,8,8,8,8,8,8,8,8,8,8,8,8,8,8,8,8,8,8,8,8,8,8,8,8,8,8,8,8,8,8,8,8,8,8,8,8,8,8,8,8,8,8,8,8,8,8,8,8,8,8,8,8,8,8,8,8,8,8,8,8,8,8,8,8,8,8,8,8,8,8,8,8,8,8,8,8,8,8,8,8,8,8,8,8,8,8,8,8,8,8,8,8,8,8,8,8,8,8,8,8,8,8,8,8,8,8,8,8,8,8,8,8,8,8,8,8,8,8,8,8,8,8]⟩:ByteArray) (IntKind.u8.wrap d.1)) λe=>aa (agp.wrap (d.2+(agp.wrap e)))
def Xh:Fo 303 (.i1 [.l (.int .u64)]) (.i1 [.l ay]) (M.jm N):=fz N [] [O,R ⟨[(0, .l (.int .u64)),(2, .l ay)],[],[],16⟩,X,R ⟨[(0, .l (.int .u64)),(2, .l ay)],[],[],16⟩,X,R ⟨[(0, .l (.int .u64)),(2, .l ay)],[],[],16⟩] Tryz.func303
def M.dG(a:Int):Option Int:=
agn (M.jm N a) λb=>aa (agp.wrap (64-b))
def Xi:Fo 333 (.i1 [.l (.int .u64)]) (.i1 [.l ay]) (M.dG N):=fz N [Xh N] [] Tryz.func333
def M.cG(k:Int)(i:Int)(d:Int):Option (Int×Int):=
(if(ah (d=0))then
ae
else(if(ah (d<=k))then
ae
else(if(ah (k=0))then
agn (kB i d) λo=>agn (ph i d) λp=>aa (agr.wrap o,p)
else
agn (M.dG N d) λf=>agn (qC .u64 d (agr.wrap f)) λa=>agn (qC .u64 k (agr.wrap f)) λg=>agn (ur .u64 i (agr.wrap (64-(agr.wrap f)))) λh=>agn (qC .u64 i (agr.wrap f)) λe=>agn (kB (aF .or .u64 g h) (bx .u64 a 32)) λl=>agn (agn (Loop (S:=Int×Int) (X:=Int) (λb=>agn (if(ah (4294967296<=b.1))then
aa af
else
aa (ah ((agr.wrap ((agr.wrap (4294967296*b.2))+(bx .u64 e 32)))<(agr.wrap (b.1*(aF .and .u64 a 4294967295)))))) λq=>(if q then(if(ah (4294967296<=(agr.wrap (b.2+(bx .u64 a 32)))))then
aa (.inr (agr.wrap (b.1-1)))
else
aa (.inl (agr.wrap (b.1-1),agr.wrap (b.2+(bx .u64 a 32)))))
else
aa (.inr b.1))) N (agr.wrap l,agr.wrap ((aF .or .u64 g h)-(agr.wrap ((agr.wrap l)*(bx .u64 a 32))))):Option Int) λr=>aa r:Option Int) λj=>agn (kB (agr.wrap ((agr.wrap ((agr.wrap ((aF .or .u64 g h)*4294967296))+(bx .u64 e 32)))-(agr.wrap (j*a)))) (bx .u64 a 32)) λm=>agn (agn (Loop (S:=Int×Int) (X:=Int) (λc=>agn (if(ah (4294967296<=c.2))then
aa af
else
aa (ah ((agr.wrap ((agr.wrap (4294967296*c.1))+(aF .and .u64 e 4294967295)))<(agr.wrap (c.2*(aF .and .u64 a 4294967295)))))) λs=>(if s then(if(ah (4294967296<=(agr.wrap (c.1+(bx .u64 a 32)))))then
aa (.inr (agr.wrap (c.2-1)))
else
aa (.inl (agr.wrap (c.1+(bx .u64 a 32)),agr.wrap (c.2-1))))
else
aa (.inr c.2))) N (agr.wrap ((agr.wrap ((agr.wrap ((agr.wrap ((aF .or .u64 g h)*4294967296))+(bx .u64 e 32)))-(agr.wrap (j*a))))-(agr.wrap ((agr.wrap m)*(bx .u64 a 32)))),agr.wrap m):Option Int) λt=>aa t:Option Int) λn=>agn (ur .u64 (agr.wrap ((agr.wrap ((agr.wrap ((agr.wrap ((agr.wrap ((agr.wrap ((aF .or .u64 g h)*4294967296))+(bx .u64 e 32)))-(agr.wrap (j*a))))*4294967296))+(aF .and .u64 e 4294967295)))-(agr.wrap (n*a)))) (agr.wrap f)) λu=>aa (agr.wrap ((agr.wrap (j*4294967296))+n),u))))
def PF:Fo 305 (.i1 [.l (.int .u64), .l (.int .u64), .l (.int .u64)]) (.i1 [.l (.int .u64), .l (.int .u64)]) (u3 (M.cG N)):=fz N [Xi N] [O,O,O,O,O,O,O,O,O,O,O,O,O,O,R ⟨[(15, .l (.int .u64))],[],[],832⟩,R ⟨[(15, .l (.int .u64))],[],[],832⟩,P ⟨[(15, .l (.int .u64)),(16, .l (.int .u64))],[],[],832⟩,T,B 78 832,X,X,O,O,O,R ⟨[(18, .l (.int .u64))],[],[],1136⟩,R ⟨[(18, .l (.int .u64))],[],[],1136⟩,P ⟨[(16, .l (.int .u64)),(18, .l (.int .u64))],[],[],1136⟩,T,B 113 1136] Tryz.func305
def M.dz(d:Int)(b:Int):Option (Int×Int×Bool):=
agn ((if(ah (b<0))then
aa (agr.wrap (0-(agr.wrap b)))
else
aa (agr.wrap b)):Option Int) λe=>agn (M.cX N (agr.wrap d) e) λc=>(if(ah (1000000<=c.1))then
aa (0,0,ag)
else
agn (M.cG N c.1 c.2 1000000) λa=>(if(ah (1000000000000000<a.1))then
aa (0,0,ag)
else(if(ah (b<0))then
aa (agp.wrap (0-(agp.wrap a.1)),agp.wrap (0-(agp.wrap a.2)),af)
else
aa (agp.wrap a.1,agp.wrap a.2,af))))
def Xj:Fo 265 (.i1 [.l ay, .l ay]) (.i1 [.l ay, .l ay, .l .bool]) (u2 (M.dz N)):=fz N [M2 N,PF N] [O,O,R ⟨[(7, .l (.int .u64))],[],[],96⟩] Tryz.func265
def M.dW(N:Nat)(a:Int):Option Bool:=
agn (if(ah (0<=a))then
aa (ah (a<=5))
else
aa ag) λb=>aa b
def PG:Fo 334 (.i1 [.l ay]) (.i1 [.l .bool]) (M.dW N):=fz N [] [O,B 2 16] Tryz.func334
def M.dc(N:Nat)(a:Int)(b:Int):Option Bool:=
agn (if(ah (b<a))then
aa af
else
aa (ah (a<(agp.wrap (0-b))))) λc=>aa c
def PH:Fo 335 (.i1 [.l ay, .l ay]) (.i1 [.l .bool]) (u2 (M.dc N)):=fz N [] [O,B 4 16] Tryz.func335
def M.cY(N:Nat)(a:Int):Option Int:=
(if(ah (a<0))then
aa (agr.wrap (0-(agr.wrap a)))
else
aa (agr.wrap a))
def SJ:Fo 336 (.i1 [.l ay]) (.i1 [.l (.int .u64)]) (M.cY N):=fz N [] [] Tryz.func336
def M.cD(N:Nat)(c:Int)(a:Int)(d:Int)(e:Bool)(b:Int):Option Int:=
(if(ah (a=0))then
aa c
else
agn (if(ah (b=0))then
aa e
else(if(ah (b=1))then
aa (!e)
else(if(ah (b=3))then
aa af
else(if(ah (b=4))then
aa (ah ((agr.wrap (d-a))<=a))
else(if(ah (b=5))then(if(ah ((agr.wrap (d-a))<a))then
aa af
else(if(ah (a=(agr.wrap (d-a))))then
aa (ah ((agD c 2)=1))
else
aa ag))
else
aa ag))))) λf=>agn ((if f then
aa (agr.wrap (c+1))
else
aa c):Option Int) λg=>aa g)
def SK:Fo 337 (.i1 [.l (.int .u64), .l (.int .u64), .l (.int .u64), .l .bool, .l ay]) (.i1 [.l (.int .u64)]) (u5 (M.cD N)):=fz N [] [O,O,O,T,O,B 11 80,R ⟨[(0, .l (.int .u64))],[],[],80⟩] Tryz.func337
def M.gn(N:Nat)(a:Int)(b:Bool):Option Int:=
(if b then
aa (agp.wrap (0-(agp.wrap a)))
else
aa (agp.wrap a))
def SL:Fo 338 (.i1 [.l (.int .u64), .l .bool]) (.i1 [.l ay]) (u2 (M.gn N)):=fz N [] [] Tryz.func338
def M.de(b:Int)(a:Int)(d:Int):Option (Int×Int):=
agn (M.dW N d) λf=>(if(!f)then
aa (0,1)
else(if(ah (a=0))then
aa (0,12)
else
agn (agn (M.dc N b 4611686018427387904) λg=>(if g then
aa af
else
agn (M.dc N a 4611686018427387904) λh=>aa h):Option Bool) λi=>(if i then
aa (0,3)
else
agn (M.cY N b) λe=>agn (M.cY N a) λc=>agn (kB e c) λj=>agn (ph e c) λk=>agn (M.cD N (agr.wrap j) k c (!ah ((ah (b<0))=(ah (a<0)))) d) λl=>agn (M.gn N l (!ah ((ah (b<0))=(ah (a<0))))) λm=>aa (m,0))))
def M3:Fo 306 (.i1 [.l ay, .l ay, .l ay]) (.i1 [.l ay, .l ay]) (u3 (M.de N)):=fz N [PG N,PH N,SJ N,SK N,SL N] [O,O,O,T,B 22 112] Tryz.func306
def M.eJ(b:Int)(a:Int)(e:Int):Option (Int×Int):=
agn (if(ah ((agp.wrap (b+(agp.wrap (agC a 1000000))))<(-2000000000000000)))then
aa af
else
aa (ah (2000000000000000<(agp.wrap (b+(agp.wrap (agC a 1000000))))))) λf=>(if f then
aa (0,3)
else
agn ((if(ah (1<(agp.wrap (b+(agp.wrap (agC a 1000000))))))then
aa (agp.wrap ((agD (agp.wrap (b+(agp.wrap (agC a 1000000)))) 2)+2))
else(if(ah ((agp.wrap (b+(agp.wrap (agC a 1000000))))<(-1)))then
aa (agp.wrap ((agD (agp.wrap (b+(agp.wrap (agC a 1000000)))) 2)-2))
else
aa (agD (agp.wrap (b+(agp.wrap (agC a 1000000)))) 2))):Option Int) λd=>agn (M.de N (agp.wrap ((agp.wrap (d*1000000))+(agD a 1000000))) 1000000 e) λc=>(if(!ah (c.2=0))then
aa (0,c.2)
else
agn (if(ah ((agp.wrap ((agp.wrap ((agp.wrap (b+(agp.wrap (agC a 1000000))))-d))+c.1))<(-1000000000000000)))then
aa af
else
aa (ah (1000000000000000<(agp.wrap ((agp.wrap ((agp.wrap (b+(agp.wrap (agC a 1000000))))-d))+c.1))))) λg=>(if g then
aa (0,3)
else
aa (agp.wrap ((agp.wrap ((agp.wrap (b+(agp.wrap (agC a 1000000))))-d))+c.1),0))))
def Xk:Fo 266 (.i1 [.l ay, .l ay, .l ay]) (.i1 [.l ay, .l ay]) (u3 (M.eJ N)):=fz N [M3 N] [O,O,O,T,B 23 160,O,T,R ⟨[(8, .l ay)],[],[],208⟩,X,X,O,O,O,T,B 58 512] Tryz.func266
def M.eK(d:bD.den)(j:Int)(c:Int)(e:Int):Option (Int×Int):=
agn (if(ah (e<0))then
aa af
else
aa (ah (5<e))) λk=>(if k then
aa (0,1)
else
agn (if(!(nz az d.2.1 (3,0)))then
aa af
else
aa (!(nz az d.2.2.1 (4,0)))) λl=>(if l then
aa (0,8)
else
agn (if(ah (c<(-1000000000000000)))then
aa af
else
aa (ah (1000000000000000<c))) λm=>(if m then
aa (0,3)
else
gm (J:=Int×Int) (R:=Int×Int) (Loop (S:=Int×Int×Int) (X:=(Int×Int)⊕(Int×Int)) (λb=>(if(ah (b.2.2<(d.2.2.2.length:Int)))then
gm (J:=Int×Int) (R:=(Int×Int×Int)⊕((Int×Int)⊕(Int×Int))) (agn (idx d.2.2.2 b.2.2) λa=>agn (agn (M.bM N a.1 j) λn=>(if(!n)then
aa af
else
aa (ah ((if c<a.2.2.1 then c else a.2.2.1)<=(if a.2.1<0 then 0 else a.2.1)))):Option Bool) λo=>(if o then
aa (.inl (b.1,b.2.1))
else
agn (M.dz N (agp.wrap ((if c<a.2.2.1 then c else a.2.2.1)-(if a.2.1<0 then 0 else a.2.1))) a.2.2.2) λf=>(if(!f.2.2)then
aa (.inr (.inr (.inr (0,3))))
else
aa (.inl (agp.wrap (b.1+f.1),agp.wrap (b.2.1+f.2.1)))))) λg=>aa (.inl (g.1,g.2,agp.wrap (b.2.2+1)))
else
aa (.inr (.inl (b.1,b.2.1))))) N (0,0,0)) λh=>agn (M.eJ N h.1 h.2 e) λi=>aa (i.1,i.2))))
def Xl:Fo 200 (.i1 [.g bD, .l ay, .l ay, .l ay]) (.i1 [.l ay, .l ay]) (u4 (M.eK N)):=fz N [Xf N,Xj N,Xk N] [O,T,B 24 48,T,B 34 48,T,B 40 48,O,J ⟨[(10, .l ay),(11, .l ay)],[],[],80⟩,O,T,P ⟨[(10, .l ay),(11, .l ay),(44, .l ay)],[],[],144⟩,O,O,T,J ⟨[(10, .l ay),(11, .l ay)],[],[],160⟩,O,O,T,B 64 368] Tryz.func200
def M.dh(N:Nat)(a:Bool):Option (aA.den):=
(if a then
aa (1,(0,1))
else
aa (1,(0,0)))
def SM:Fo 267 (.i1 [.l .bool]) (.i1 [.g aA]) (M.dh N):=fz N [] [] Tryz.func267
def M.gp(N:Nat)(a:Int):Option Bool:=
agn (if(ah (0<=a))then
aa (ah (a<=109572))
else
aa ag) λb=>aa b
def PI:Fo 307 (.i1 [.l ay]) (.i1 [.l .bool]) (M.gp N):=fz N [] [O,B 2 16] Tryz.func307
def M.ij(N:Nat)(a:Int):Option Int:=
aa (agp.wrap ((agp.wrap ((agp.wrap (agC a 4))-(agp.wrap (agC a 100))))+(agp.wrap (agC a 400))))
def Xm:Fo 339 (.i1 [.l ay]) (.i1 [.l ay]) (M.ij N):=fz N [] [] Tryz.func339
def M.di(a:Int):Option Int:=
agn (M.ij N (agp.wrap (a-1))) λb=>agn (M.ij N 1899) λc=>aa (agp.wrap ((agp.wrap ((agp.wrap ((agp.wrap (a-1900))*365))+b))-c))
def SN:Fo 308 (.i1 [.l ay]) (.i1 [.l ay]) (M.di N):=fz N [Xm N] [] Tryz.func308
def M.lb(N:Nat)(a:Int):Option Bool:=
agn (if(ah ((agD a 4)=0))then(if(!ah ((agD a 100)=0))then
aa af
else
aa (ah ((agD a 400)=0)))
else
aa ag) λb=>aa b
def Xn:Fo 340 (.i1 [.l ay]) (.i1 [.l .bool]) (M.lb N):=fz N [] [O,B 2 16] Tryz.func340
def M.cJ(b:Int)(a:Int):Option Int:=
agn (if(ah (a<1))then
aa af
else
aa (ah (12<a))) λc=>(if c then
aa 0
else
agn (if(ah (a=2))then
agn (M.lb N b) λd=>aa d
else
aa ag) λe=>(if e then
aa 29
else
agn (idx ([31,28,31,30,31,30,31,31,30,31,30,31]:List Int) (agp.wrap (a-1))) λf=>aa f))
def PJ:Fo 309 (.i1 [.l ay, .l ay]) (.i1 [.l ay]) (u2 (M.cJ N)):=fz N [Xn N] [O,T,B 10 16,T,B 16 16] Tryz.func309
def M.dj(b:Int):Option (Int×Int×Int):=
agn (M.gp N b) λf=>(if(!f)then
aa (0,0,0)
else
agn (Loop (S:=Int) (X:=Int) (λc=>agn (M.di N (agp.wrap (c+1))) λg=>(if(ah (g<=b))then
aa (.inl (agp.wrap (c+1)))
else
aa (.inr c))) N (agp.wrap (1900+(agp.wrap (agC b 366)))):Option Int) λd=>agn (M.di N d) λh=>Loop (S:=Int×Int) (X:=Int×Int×Int) (λa=>(if(ah (a.2<12))then
agn (M.cJ N d (agp.wrap (a.2+1))) λe=>(if(ah (a.1<e))then
aa (.inr (d,agp.wrap (a.2+1),agp.wrap (a.1+1)))
else
aa (.inl (agp.wrap (a.1-e),agp.wrap (a.2+1))))
else
aa (.inr (0,0,0)))) N (agp.wrap (b-h),0))
def PK:Fo 268 (.i1 [.l ay]) (.i1 [.l ay, .l ay, .l ay]) (M.dj N):=fz N [PI N,SN N,PJ N] [O,O,O,R ⟨[(5, .l ay)],[],[],160⟩,T,L 5 160,X,X,O,T,O,T,P ⟨[(6, .l ay),(26, .l ay)],[],[],256⟩] Tryz.func268
def M.gq(b:Int)(a:aA.den):Option (aA.den):=
(if(ah (b=10))then
aa (a.1,(0,agp.wrap (0-a.2.2)))
else(if(ah (b=25))then
agn (M.dh N (ah (a.2.2=0))) λd=>aa d
else
agn (M.dj N a.2.2) λc=>(if(ah (b=31))then
aa (2,(0,c.1))
else
aa (2,(0,c.2.1)))))
def Xo:Fo 201 (.i1 [.l ay, .g aA]) (.i1 [.g aA]) (u2 (M.gq N)):=fz N [SM N,PK N] [] Tryz.func201
def M.iG(a:Int)(b:Int):Option (Int×Int):=
agn (M.cX N (agr.wrap (if a<(agp.wrap (0-a))then(agp.wrap (0-a))else a)) (agr.wrap (if b<(agp.wrap (0-b))then(agp.wrap (0-b))else b))) λc=>agn (if(!ah (c.1=0))then
aa af
else
aa (ah (1000000000000000<c.2))) λd=>(if d then
aa (0,3)
else(if(!ah ((ah (a<0))=(ah (b<0))))then
aa (agp.wrap (0-(agp.wrap c.2)),0)
else
aa (agp.wrap c.2,0)))
def Xp:Fo 310 (.i1 [.l ay, .l ay]) (.i1 [.l ay, .l ay]) (u2 (M.iG N)):=fz N [M2 N] [O,O,T,B 27 288] Tryz.func310
def M.jR(b:Int)(c:Int)(a:Int)(g:Int):Option (Int×Int):=
agn (M.dW N g) λi=>(if(!i)then
aa (0,1)
else(if(ah (a=0))then
aa (0,12)
else
agn (agn (M.dc N b 1000000000000000) λj=>(if j then
aa af
else
agn (M.dc N c 1000000000) λk=>(if k then
aa af
else
agn (M.dc N a 1000000000) λl=>aa l)):Option Bool) λm=>(if m then
aa (0,3)
else
agn (M.cY N b) λn=>agn (M.cY N c) λo=>agn (M.cX N n o) λd=>agn (M.cY N a) λe=>(if(ah (e<=d.1))then
aa (0,3)
else
agn (M.cG N d.1 d.2 e) λf=>(if(ah (1000000000000000<f.1))then
aa (0,3)
else
agn (M.cD N f.1 f.2 e (!ah ((!ah ((ah (b<0))=(ah (c<0))))=(ah (a<0)))) g) λh=>(if(ah (1000000000000000<h))then
aa (0,3)
else
agn (M.gn N h (!ah ((!ah ((ah (b<0))=(ah (c<0))))=(ah (a<0))))) λp=>aa (p,0)))))))
def Xq:Fo 341 (.i1 [.l ay, .l ay, .l ay, .l ay]) (.i1 [.l ay, .l ay]) (u4 (M.jR N)):=fz N [M2 N,PF N,PG N,PH N,SJ N,SK N,SL N] [O,O,O,T,B 30 112] Tryz.func341
def M.kL(b:Int)(c:Int)(d:Int):Option (Int×Int):=
agn (M.jR N b c 1000000 d) λa=>aa (a.1,a.2)
def Xr:Fo 311 (.i1 [.l ay, .l ay, .l ay]) (.i1 [.l ay, .l ay]) (u3 (M.kL N)):=fz N [Xq N] [] Tryz.func311
def M.ik(N:Nat)(a:Int):Option Bool:=
agn (if(ah (0<=a))then
aa (ah (a<=5))
else
aa ag) λb=>aa b
def SO:Fo 342 (.i1 [.l ay]) (.i1 [.l .bool]) (M.ik N):=fz N [] [O,B 2 16] Tryz.func342
def M.fW(N:Nat)(a:Int)(b:Int):Option Bool:=
agn (if(ah (b<a))then
aa af
else
aa (ah (a<(agp.wrap (0-b))))) λc=>aa c
def SP:Fo 343 (.i1 [.l ay, .l ay]) (.i1 [.l .bool]) (u2 (M.fW N)):=fz N [] [O,B 4 16] Tryz.func343
def M.jS(b:Int)(c:Int)(d:Int):Option (Int×Int):=
agn (M.ik N d) λe=>(if(!e)then
aa (0,1)
else
agn (agn (M.fW N b 1000000000) λf=>(if f then
aa af
else
agn (M.fW N c 1000000000) λg=>aa g):Option Bool) λh=>(if h then
aa (0,3)
else
agn (M.de N (agp.wrap (b*c)) 1000000 d) λa=>(if(!ah (a.2=0))then
aa (0,a.2)
else
agn (M.fW N a.1 1000000000) λi=>(if i then
aa (0,3)
else
aa (a.1,0)))))
def Xs:Fo 312 (.i1 [.l ay, .l ay, .l ay]) (.i1 [.l ay, .l ay]) (u3 (M.jS N)):=fz N [M3 N,SO N,SP N] [O,O,T,B 18 80] Tryz.func312
def M.dH(c:Int)(a:Int)(d:Int):Option (Int×Int):=
agn (M.dW N d) λe=>(if(!e)then
aa (0,1)
else(if(ah (a<1))then
aa (0,12)
else
agn (agn (M.dc N c 1000000000000000) λf=>(if f then
aa af
else
aa (ah (1000000000000000<a))):Option Bool) λg=>(if g then
aa (0,3)
else
agn (M.de N c a d) λb=>(if(!ah (b.2=0))then
aa (0,b.2)
else
agn (M.dc N (agp.wrap (b.1*a)) 1000000000000000) λh=>(if h then
aa (0,3)
else
aa (agp.wrap (b.1*a),0))))))
def Xt:Fo 313 (.i1 [.l ay, .l ay, .l ay]) (.i1 [.l ay, .l ay]) (u3 (M.dH N)):=fz N [M3 N,PG N,PH N] [O,O,O,T,B 20 112] Tryz.func313
def M.gG(N:Nat)(e:Int)(a:Int)(c:Int)(d:Bool)(b:Int):Option Bool:=
(if(ah (a=0))then
aa ag
else(if(ah (b=0))then
aa d
else(if(ah (b=1))then
aa (!d)
else(if(ah (b=3))then
aa af
else(if(ah (b=4))then
aa (ah ((agr.wrap (c-a))<=a))
else(if(ah (b=5))then
agn (if(ah ((agr.wrap (c-a))<a))then
aa af
else(if(ah (a=(agr.wrap (c-a))))then
aa (ah ((agD e 2)=1))
else
aa ag)) λf=>aa f
else
aa ag))))))
def Xu:Fo 344 (.i1 [.l (.int .u64), .l (.int .u64), .l (.int .u64), .l .bool, .l ay]) (.i1 [.l .bool]) (u5 (M.gG N)):=fz N [] [O,O,T,O,T,O,O,O,O,O,O,O,O,O,T,B 10 224] Tryz.func344
def M.fN(b:Int)(a:Int)(f:Int):Option (Int×Int):=
agn (M.ik N f) λg=>(if(!g)then
aa (0,1)
else(if(ah (a=0))then
aa (0,12)
else
agn (agn (M.fW N b 1000000000000000) λh=>(if h then
aa af
else
agn (M.fW N a 1000000000000000) λi=>aa i):Option Bool) λj=>(if j then
aa (0,3)
else
agn (M.cX N (agr.wrap (if b<(agp.wrap (0-b))then(agp.wrap (0-b))else b)) 1000000) λd=>(if(ah ((agr.wrap (if a<(agp.wrap (0-a))then(agp.wrap (0-a))else a))<=d.1))then
aa (0,3)
else
agn (M.cG N d.1 d.2 (agr.wrap (if a<(agp.wrap (0-a))then(agp.wrap (0-a))else a))) λc=>(if(ah (1000000000<c.1))then
aa (0,3)
else
agn (agn (M.gG N c.1 c.2 (agr.wrap (if a<(agp.wrap (0-a))then(agp.wrap (0-a))else a)) (!ah ((ah (b<0))=(ah (a<0)))) f) λk=>(if k then
aa (agp.wrap ((agp.wrap c.1)+1))
else
aa (agp.wrap c.1)):Option Int) λe=>(if(ah (1000000000<e))then
aa (0,3)
else
agn ((if(!ah ((ah (b<0))=(ah (a<0))))then
aa (agp.wrap (0-e))
else
aa e):Option Int) λl=>aa (l,0)))))))
def Xv:Fo 314 (.i1 [.l ay, .l ay, .l ay]) (.i1 [.l ay, .l ay]) (u3 (M.fN N)):=fz N [M2 N,PF N,SO N,SP N,Xu N] [O,O,O,T,B 25 112,O,O,O,O,O,O,O,R ⟨[(14, .l ay)],[],[],752⟩,X,O,R ⟨[(14, .l ay)],[],[],784⟩] Tryz.func314
def M.fX(b:az.den)(a:aA.den)(c:aA.den):Option (aA.den×Int):=
agn ((if(ah (b.1=13))then
agn (M.iG N a.2.2 c.2.2) λd=>aa (d.2,(a.1,(0,d.1)))
else
agn (if(ah (b.1=14))then
aa (ah (a.1=3))
else
aa ag) λk=>(if k then
agn (M.kL N a.2.2 c.2.2 b.2) λe=>aa (e.2,(a.1,(0,e.1)))
else(if(ah (b.1=14))then
agn (M.jS N a.2.2 c.2.2 b.2) λf=>aa (f.2,(a.1,(0,f.1)))
else(if(ah (b.1=16))then
agn (M.dH N a.2.2 c.2.2 b.2) λg=>aa (g.2,(a.1,(0,g.1)))
else(if(ah (c.1=2))then
agn (M.de N a.2.2 c.2.2 b.2) λh=>aa (h.2,(a.1,(0,h.1)))
else
agn (M.fN N a.2.2 c.2.2 b.2) λi=>aa (i.2,(4,(0,i.1)))))))):Option (Int×aA.den)) λj=>aa (j.2,j.1)
def Xw:Fo 269 (.i1 [.g az, .g aA, .g aA]) (.i1 [.g aA, .l ay]) (u3 (M.fX N)):=fz N [M3 N,Xp N,Xr N,Xs N,Xt N,Xv N] [O,O,T,R ⟨[(9, .l ay)],[(128, .box 40 (.leaf aA))],[],177⟩,O,O,B 38 240] Tryz.func269
def M.iH(a:Int)(c:Int)(d:Int):Option (Int×Int):=
agn (if(ah (a<1900))then
aa af
else(if(ah (2199<a))then
aa af
else(if(ah (c<1))then
aa af
else(if(ah (12<c))then
aa af
else(if(ah (d<1))then
aa af
else
agn (M.cJ N a c) λe=>aa (ah (e<d))))))) λf=>(if f then
aa (0,3)
else
agn (M.di N a) λg=>agn (Loop (S:=Int×Int) (X:=Int) (λb=>(if(ah (b.2<(agp.wrap (c-1))))then
agn (M.cJ N a (agp.wrap (b.2+1))) λh=>aa (.inl (agp.wrap (b.1+h),agp.wrap (b.2+1)))
else
aa (.inr b.1))) N (g,0):Option Int) λi=>aa (agp.wrap ((agp.wrap (i+d))-1),0))
def Xx:Fo 315 (.i1 [.l ay, .l ay, .l ay]) (.i1 [.l ay, .l ay]) (u3 (M.iH N)):=fz N [SN N,PJ N] [O,T,B 34 32,O,R ⟨[(8, .l ay)],[],[],80⟩,O,T,P ⟨[(8, .l ay),(39, .l ay)],[],[],128⟩] Tryz.func315
def M.cE(c:Int)(b:Int):Option (Int×Int):=
agn (agn (M.gp N c) λf=>(if(!f)then
aa af
else(if(ah (b<(-3600)))then
aa af
else
aa (ah (3600<b)))):Option Bool) λg=>(if g then
aa (0,3)
else
agn (M.dj N c) λa=>agn (if(ah ((agp.wrap ((agp.wrap ((agp.wrap ((agp.wrap ((agp.wrap (a.1-1900))*12))+a.2.1))-1))+b))<0))then
aa af
else
aa (ah (3599<(agp.wrap ((agp.wrap ((agp.wrap ((agp.wrap ((agp.wrap (a.1-1900))*12))+a.2.1))-1))+b))))) λh=>(if h then
aa (0,3)
else
agn (M.cJ N (agp.wrap (1900+(agp.wrap (agC (agp.wrap ((agp.wrap ((agp.wrap ((agp.wrap ((agp.wrap (a.1-1900))*12))+a.2.1))-1))+b)) 12)))) (agp.wrap ((agD (agp.wrap ((agp.wrap ((agp.wrap ((agp.wrap ((agp.wrap (a.1-1900))*12))+a.2.1))-1))+b)) 12)+1))) λd=>agn (M.iH N (agp.wrap (1900+(agp.wrap (agC (agp.wrap ((agp.wrap ((agp.wrap ((agp.wrap ((agp.wrap (a.1-1900))*12))+a.2.1))-1))+b)) 12)))) (agp.wrap ((agD (agp.wrap ((agp.wrap ((agp.wrap ((agp.wrap ((agp.wrap (a.1-1900))*12))+a.2.1))-1))+b)) 12)+1)) (if d<a.2.2 then d else a.2.2)) λe=>aa (e.1,e.2)))
def SQ:Fo 270 (.i1 [.l ay, .l ay]) (.i1 [.l ay, .l ay]) (u2 (M.cE N)):=fz N [PK N,PI N,PJ N,Xx N] [O,T,B 20 32,O,O,T,B 40 320] Tryz.func270
def M.dl(a:Int)(b:Int):Option Int:=
agn (agn (M.gp N a) λg=>(if(!g)then
aa af
else
agn (M.gp N b) λh=>(if(!h)then
aa af
else
aa (ah (b<a)))):Option Bool) λi=>(if i then
aa 0
else
agn (M.dj N a) λc=>agn (M.dj N b) λd=>agn (agn (M.cE N a (agp.wrap (12*(agp.wrap (d.1-c.1))))) λe=>agn (if(!ah (e.2=0))then
aa af
else
aa (ah (b<e.1))) λj=>(if j then
aa (agp.wrap ((agp.wrap (d.1-c.1))-1))
else
aa (agp.wrap (d.1-c.1))):Option Int) λf=>aa (if f<0 then 0 else f))
def Xy:Fo 271 (.i1 [.l ay, .l ay]) (.i1 [.l ay]) (u2 (M.dl N)):=fz N [PK N,SQ N,PI N] [O,T,B 26 16,O,O,O,R ⟨[(11, .l ay)],[],[],368⟩,O,B 55 512] Tryz.func271
def M.bu(a:az.den)(b:aA.den)(c:aA.den):Option (aA.den×Int):=
agn (if(ah (a.1=11))then
aa (ah (a.1=11))
else
aa (ah (a.1=27))) λh=>(if h then
aa ((b.1,(0,agp.wrap (b.2.2+c.2.2))),0)
else(if(ah (a.1=12))then
aa ((b.1,(0,agp.wrap (b.2.2-c.2.2))),0)
else
agn (if(ah (a.1=13))then
aa (ah (a.1=13))
else(if(ah (a.1=14))then
aa (ah (a.1=14))
else(if(ah (a.1=15))then
aa (ah (a.1=15))
else
aa (ah (a.1=16))))) λi=>(if i then
agn (M.fX N a b c) λd=>aa (d.1,d.2)
else
agn (if(ah (a.1=17))then
aa (ah (a.1=17))
else
aa (ah (a.1=18))) λj=>(if j then(if(ah ((ah (a.1=17))=(ah (c.2.2<b.2.2))))then
aa (c,0)
else
aa (b,0))
else(if(ah (a.1=19))then
agn (M.dh N (ah (b.2.2=c.2.2))) λk=>aa (k,0)
else(if(ah (a.1=20))then
agn (M.dh N (!ah (b.2.2=c.2.2))) λl=>aa (l,0)
else(if(ah (a.1=21))then
agn (M.dh N (ah (b.2.2<c.2.2))) λm=>aa (m,0)
else(if(ah (a.1=22))then
agn (M.dh N (ah (b.2.2<=c.2.2))) λn=>aa (n,0)
else(if(ah (a.1=23))then
agn ((if(ah (b.2.2=1))then
agn (M.dh N (ah (c.2.2=1))) λo=>aa (0,o)
else
agn (M.dh N ag) λp=>aa (0,p)):Option (Int×aA.den)) λe=>aa (e.2,e.1)
else(if(ah (a.1=24))then
agn ((if(ah (b.2.2=1))then
agn (M.dh N af) λq=>aa (0,q)
else
agn (M.dh N (ah (c.2.2=1))) λr=>aa (0,r)):Option (Int×aA.den)) λf=>aa (f.2,f.1)
else(if(ah (a.1=28))then
agn (M.cE N b.2.2 c.2.2) λg=>aa ((5,(0,g.1)),g.2)
else(if(ah (a.1=29))then
aa ((2,(0,agp.wrap (c.2.2-b.2.2))),0)
else
agn (M.dl N b.2.2 c.2.2) λs=>aa ((2,(0,s)),0)))))))))))))
def Xz:Fo 202 (.i1 [.g az, .g aA, .g aA]) (.i1 [.g aA, .l ay]) (u3 (M.bu N)):=fz N [SM N,Xw N,SQ N,Xy N] [O,T,O,T,R ⟨[(12, .l .bool)],[],[],112⟩,X,O,O,O,R ⟨[(33, .l .bool)],[],[],144⟩,X,O,R ⟨[(44, .l .bool)],[],[],144⟩,X,O,O,O,O,O,O,O,O,O,O,T,R ⟨[(7, .l ay)],[(48, .box 40 (.leaf aA))],[],305⟩,X,X,O,T,R ⟨[(7, .l ay)],[(48, .box 40 (.leaf aA))],[],337⟩] Tryz.func202
def M.bA(a:az.den)(b:List aA.den)(c:bl.den):Option (aA.den×Int):=
agn (if(ah (a.1=1))then
aa (ah (a.1=1))
else(if(ah (a.1=2))then
aa (ah (a.1=2))
else(if(ah (a.1=3))then
aa (ah (a.1=3))
else(if(ah (a.1=4))then
aa (ah (a.1=4))
else
aa (ah (a.1=5)))))) λi=>(if i then
aa ((a.1,(0,a.2)),0)
else(if(ah (a.1=6))then
aa ((6,(agp.wrap (agC a.2 16),agD a.2 16)),0)
else(if(ah (a.1=7))then
agn (idx c.2.1 a.2) λj=>aa (j,0)
else(if(ah (a.1=8))then
agn (idx c.2.2.1 a.2) λk=>aa (k,0)
else(if(ah (a.1=9))then
aa ((5,(0,c.1)),0)
else(if(ah (a.1=35))then
aa ((2,(0,(c.2.2.2.1.length:Int))),0)
else
agn (if(ah (a.1=36))then
aa (ah (a.1=36))
else(if(ah (a.1=37))then
aa (ah (a.1=37))
else(if(ah (a.1=38))then
aa (ah (a.1=38))
else
aa (ah (a.1=39))))) λl=>(if l then
agn (M.ew N a c) λe=>aa (e.1,e.2)
else(if(ah (a.1=33))then
agn (idx c.2.2.2.2.2 a.2) λd=>agn (idx b 0) λm=>agn (M.iF N d c.1 m.2.2) λf=>(if(!f.2)then
aa ((0,(0,0)),6)
else
agn (idx d.2.2.2 f.1) λn=>aa ((d.2.2.1.1,(d.2.2.1.2,n.2.2.2)),0))
else(if(ah (a.1=34))then
agn (idx c.2.2.2.2.2 (agp.wrap (agC a.2 8))) λo=>agn (idx b 0) λp=>agn (M.eK N o c.1 p.2.2 (agD a.2 8)) λg=>aa ((3,(0,g.1)),g.2)
else(if(ah ((b.length:Int)=1))then
agn (idx b 0) λq=>agn (M.gq N a.1 q) λr=>aa (r,0)
else(if(ah ((b.length:Int)=2))then
agn (idx b 0) λs=>agn (idx b 1) λt=>agn (M.bu N a s t) λh=>aa (h.1,h.2)
else
agn (idx b 0) λu=>(if(ah (u.2.2=1))then
agn (idx b 1) λv=>aa (v,0)
else
agn (idx b 2) λw=>aa (w,0)))))))))))))
def XA:Fo 126 (.i1 [.g az, .l (.slice aA), .g bl]) (.i1 [.g aA, .l ay]) (u3 (M.bA N)):=fz N [Xe N,Xg N,Xl N,Xo N,Xz N] [O,T,O,T,R ⟨[(15, .l .bool)],[],[],96⟩,X,O,O,O,O,O,O,O,O,O,O,O,B 62 256] Tryz.func126
def M.eL(a:az.den)(b:List aA.den)(d:bl.den):Option (aA.den×Int):=
agn (agn (M.dp N a) λe=>(if(!e)then
aa af
else
agn (M.dV N a.1) λf=>aa (!ah ((b.length:Int)=f))):Option Bool) λg=>(if g then
aa ((0,(0,0)),2)
else
agn (M.ig N a d) λh=>(if(!h)then
aa ((0,(0,0)),6)
else
agn (agn (M.cO N b) λi=>(if(!i)then
aa af
else
agn (M.bp N a b d) λj=>aa (!j)):Option Bool) λk=>(if k then
aa ((0,(0,0)),8)
else
agn (M.bA N a b d) λc=>(if(!ah (c.2=0))then
aa ((0,(0,0)),c.2)
else
agn (M.cC N c.1) λl=>(if(!l)then
aa ((0,(0,0)),3)
else
aa (c.1,0))))))
def W79:Fo 79 (.i1 [.g az, .l (.slice aA), .g bl]) (.i1 [.g aA, .l ay]) (u3 (M.eL N)):=fz N [Kt N,W4 N,W5 N,W6 N,Xd N,XA N,HL N] [O,T,B 20 64,O,T,B 36 128] Tryz.func79
mutual
def M.bB(B:Nat):Nat->bn.den->Int->Option (aA.den×Int)
 |0,_,_=>ae
 |N+1,c,f=>
  agn (idx c.1 f) λb=>
  agn (M.dO B c f) λd=>
  agn (if(ah (b.1=23))then
  aa (ah (b.1=23))
  else
  (if(ah (b.1=24))then
  aa (ah (b.1=24))
  else
  aa (ah (b.1=26)))) λi=>
  (if i then
  agn (M.gO B N c b d) λg=>
  aa (g.1,g.2)
  else
  agn (og (d.length:Int) (0,(0,0))) λj=>
  gm (J:=List aA.den) (R:=aA.den×Int) (Loop (S:=Int×List aA.den) (X:=(List aA.den)⊕(aA.den×Int)) (λa=>
  (if(ah (a.1<(d.length:Int)))then
  agn (idx d a.1) λk=>
  agn (M.bB B N c k) λe=>
  (if(!ah (e.2=0))then
  aa (.inr (.inr ((0,(0,0)),e.2)))
  else
  agn (idx a.2 a.1) λm=>
  aa (.inl (agp.wrap (a.1+1),bG a.2 a.1 e.1)))
  else
  aa (.inr (.inl a.2)))) B (0,j)) λl=>
  agn (M.eL B b l c.2.2) λh=>
  aa (h.1,h.2))
def M.gO(B:Nat):Nat->bn.den->az.den->(List Int)->Option (aA.den×Int)
 |0,_,_,_=>ae
 |N+1,b,c,d=>
  (if(!ah (c.2=0))then
  aa ((0,(0,0)),2)
  else
  agn (idx d 0) λh=>
  agn (M.cW B N b h) λa=>
  (if(!ah (a.2=0))then
  aa ((0,(0,0)),a.2)
  else
  agn (if(ah (c.1=26))then
  aa (ah (a.1.2.2=1))
  else
  aa ag) λi=>
  (if i then
  agn (idx d 1) λj=>
  agn (M.bB B N b j) λe=>
  aa (e.1,e.2)
  else
  (if(ah (c.1=26))then
  agn (idx d 2) λk=>
  agn (M.bB B N b k) λf=>
  aa (f.1,f.2)
  else
  (if(ah ((ah (c.1=23))=(ah (a.1.2.2=0))))then
  aa (a.1,0)
  else
  agn (idx d 1) λl=>
  agn (M.cW B N b l) λg=>
  aa (g.1,g.2))))))
def M.cW(B:Nat):Nat->bn.den->Int->Option (aA.den×Int)
 |0,_,_=>ae
 |N+1,b,c=>
  agn (M.bB B N b c) λa=>
  (if(!ah (a.2=0))then
  aa ((0,(0,0)),a.2)
  else
  agn (if(!ah (a.1.1=1))then
  aa af
  else
  agn (M.cC B a.1) λd=>
  aa (!d)) λe=>
  (if e then
  aa ((0,(0,0)),8)
  else
  aa (a.1,0)))
end
def M.iW(a:bn.den)(b:Int):Option (aA.den×Int):=M.bB N N a b
def S50:nP:=⟨.i1 [.g bn, .l ay], .i1 [.g aA, .l ay],u2 (M.iW N)⟩
def R50(B N:Nat):nP:={inn:=⟨[(0, .g bn),(1, .l ay)],[],[],0⟩,out:=⟨[(0, .g aA),(1, .l ay)],[],[],0⟩,fn:=λ(x:bn.den×Int)=>M.bB B N x.1 x.2}
def R78(B N:Nat):nP:={inn:=⟨[(0, .g bn),(1, .g az),(2, .l (.slice ay))],[],[],0⟩,out:=⟨[(0, .g aA),(1, .l ay)],[],[],0⟩,fn:=λ(x:bn.den×az.den×List Int)=>M.gO B N x.1 x.2.1 x.2.2}
def XB(B N:Nat):nP:={inn:=⟨[(0, .g bn),(1, .l ay)],[],[],0⟩,out:=⟨[(0, .g aA),(1, .l ay)],[],[],0⟩,fn:=λ(x:bn.den×Int)=>M.cW B N x.1 x.2}
def HM(B:Nat):∀N,fL Tryz.prog 50 (R50 B N)/\fL Tryz.prog 78 (R78 B N)/\fL Tryz.prog 121 (XB B N)
 |0=>⟨rZ Tryz.func50 (by kernel_rfl) (by kernel_rfl) λ_=>rfl,rZ Tryz.func78 (by kernel_rfl) (by kernel_rfl) λ_=>rfl,rZ Tryz.func121 (by kernel_rfl) (by kernel_rfl) λ_=>rfl⟩
 |N+1=>⟨fw (en [ck ((HM B N).1),ck (W77 B),ck ((HM B N).2.1),ck (W79 B)] ag ag) (N:=B) (.o (.o (.o (.two (.o (.two (.meet ⟨[(23, .l .bool)],[],[],256⟩ .nil .nil) .nil)) (.o (.join ⟨[],[(288, .own 40 aA)],[],321⟩ (.o (.two (.loop ⟨[(38, .l ay)],[(288, .own 40 aA)],[],369⟩ .nil) .nil)) .nil)))))) Tryz.func50 (by kernel_rfl) λx=>by kernel_rfl,
  fw (en [ck ((HM B N).1),ck ((HM B N).2.2)] ag ag) (N:=B) (.o (.o (.o (.o (.two (.two (.meet ⟨[(26, .l .bool)],[],[],320⟩ .nil .nil) .nil) .nil))))) Tryz.func78 (by kernel_rfl) λx=>by kernel_rfl,
  fw (en [ck ((HM B N).1),ck (HL B)] ag ag) (N:=B) (.o (.o (.o (.two (.meet ⟨[(25, .l .bool)],[],[],224⟩ .nil .nil) .nil)))) Tryz.func121 (by kernel_rfl) λx=>by kernel_rfl⟩
def W50(N:Nat):fL Tryz.prog 50 (S50 N):=(HM N N).1
def M.gH(a:List az.den)(d:bl.den):Option (aA.den×Int):=
agn (M.mL N a) λb=>(if(!ah (b.1=0))then
aa ((0,(0,0)),b.1)
else
agn (M.iW N (a,(b.2,d)) (agp.wrap ((a.length:Int)-1))) λc=>aa (c.1,c.2))
def W24:Fo 24 (.i1 [.l (.slice az), .g bl]) (.i1 [.g aA, .l ay]) (u2 (M.gH N)):=fz N [W49 N,W50 N] [] Tryz.func24
def M.bL(c:aU.den)(d:bl.den):Option (Int×Int×Int):=
(if(ah (8<(c.2.1.length:Int)))then
aa (0,8,4)
else
Loop (S:=Int×Int) (X:=Int×Int×Int) (λa=>(if(ah (a.2<(c.2.1.length:Int)))then
gm (J:=Int) (R:=(Int×Int)⊕(Int×Int×Int)) (agn (idx c.2.1 a.2) λe=>agn (M.gH N e d) λb=>(if(!ah (b.2=0))then
aa (.inr (.inr (0,a.2,b.2)))
else(if(!ah (b.1.1=1))then
aa (.inr (.inr (0,a.2,8)))
else(if(ah (b.1.2.2=1))then
agn (qC .i64 1 a.2) λf=>aa (.inl (aF .or .i64 a.1 f))
else
aa (.inl a.1))))) λg=>aa (.inl (g,agp.wrap (a.2+1)))
else
aa (.inr (a.1,(-1),0)))) N (0,0))
def XC:Fo 10 (.i1 [.g aU, .g bl]) (.i1 [.l ay, .l ay, .l ay]) (u2 (M.bL N)):=fz N [W24 N] [O,O,O,T,O,T,P ⟨[(7, .l ay),(19, .l ay)],[],[],224⟩,O,O,T,J ⟨[(7, .l ay)],[],[],240⟩] Tryz.func10
def M.ni(N:Nat)(a:Int):Option Bool:=
agn (if(ah (97<=a))then
aa (ah (a<=122))
else
aa ag) λb=>aa b
def SR:Fo 148 (.i1 [.l (.int .u8)]) (.i1 [.l .bool]) (M.ni N):=fz N [] [O,B 2 16] Tryz.func148
def M.qK(N:Nat)(a:Int):Option Bool:=
agn (if(ah (48<=a))then
aa (ah (a<=57))
else
aa ag) λb=>aa b
def XD:Fo 222 (.i1 [.l (.int .u8)]) (.i1 [.l .bool]) (M.qK N):=fz N [] [O,B 2 16] Tryz.func222
def M.nV(b:ByteArray):Option Int:=
Loop (S:=Int) (X:=Int) (λa=>agn (if(ah (a<(b.size:Int)))then
agn (oQ b a) λc=>agn (M.ni N c) λd=>(if d then
aa af
else
agn (oQ b a) λe=>agn (M.qK N e) λf=>(if f then
aa af
else
agn (oQ b a) λg=>aa (ah (g=95))))
else
aa ag) λh=>(if h then
aa (.inl (agp.wrap (a+1)))
else
aa (.inr a))) N 0
def XE:Fo 149 (.i1 [.l .str]) (.i1 [.l ay]) (M.nV N):=fz N [SR N,XD N] [O,O,T,T,L 3 32,T,B 25 32] Tryz.func149
def M.pC(N:Nat)(a:ByteArray):Option Bool:=
agn (if(ah (a=⟨#[105,102]⟩))then
aa (ah (a=⟨#[105,102]⟩))
else(if(ah (a=⟨#[116,104,101,110]⟩))then
aa (ah (a=⟨#[116,104,101,110]⟩))
else(if(ah (a=⟨#[101,108,115,101]⟩))then
aa (ah (a=⟨#[101,108,115,101]⟩))
else(if(ah (a=⟨#[111,114]⟩))then
aa (ah (a=⟨#[111,114]⟩))
else(if(ah (a=⟨#[97,110,100]⟩))then
aa (ah (a=⟨#[97,110,100]⟩))
else(if(ah (a=⟨#[110,111,116]⟩))then
aa (ah (a=⟨#[110,111,116]⟩))
else(if(ah (a=⟨#[116,114,117,101]⟩))then
aa (ah (a=⟨#[116,114,117,101]⟩))
else(if(ah (a=⟨#[102,97,108,115,101]⟩))then
aa (ah (a=⟨#[102,97,108,115,101]⟩))
else(if(ah (a=⟨#[116,111,100,97,121]⟩))then
aa (ah (a=⟨#[116,111,100,97,121]⟩))
else(if(ah (a=⟨#[115,104,97,114,101]⟩))then
aa (ah (a=⟨#[115,104,97,114,101]⟩))
else(if(ah (a=⟨#[100,105,118]⟩))then
aa (ah (a=⟨#[100,105,118]⟩))
else(if(ah (a=⟨#[114,111,117,110,100]⟩))then
aa (ah (a=⟨#[114,111,117,110,100]⟩))
else(if(ah (a=⟨#[109,105,110]⟩))then
aa (ah (a=⟨#[109,105,110]⟩))
else(if(ah (a=⟨#[109,97,120]⟩))then
aa (ah (a=⟨#[109,97,120]⟩))
else(if(ah (a=⟨#[112,108,117,115]⟩))then
aa (ah (a=⟨#[112,108,117,115]⟩))
else(if(ah (a=⟨#[109,111,110,116,104,115]⟩))then
aa (ah (a=⟨#[109,111,110,116,104,115]⟩))
else(if(ah (a=⟨#[100,97,121,115]⟩))then
aa (ah (a=⟨#[100,97,121,115]⟩))
else(if(ah (a=⟨#[121,101,97,114,115]⟩))then
aa (ah (a=⟨#[121,101,97,114,115]⟩))
else(if(ah (a=⟨#[121,101,97,114]⟩))then
aa (ah (a=⟨#[121,101,97,114]⟩))
else(if(ah (a=⟨#[109,111,110,116,104]⟩))then
aa (ah (a=⟨#[109,111,110,116,104]⟩))
else(if(ah (a=⟨#[116,97,98]⟩))then
aa (ah (a=⟨#[116,97,98]⟩))
else(if(ah (a=⟨#[98,97,110,100]⟩))then
aa (ah (a=⟨#[98,97,110,100]⟩))
else(if(ah (a=⟨#[99,111,117,110,116]⟩))then
aa (ah (a=⟨#[99,111,117,110,116]⟩))
else(if(ah (a=⟨#[115,117,109]⟩))then
aa (ah (a=⟨#[115,117,109]⟩))
else(if(ah (a=⟨#[97,108,108]⟩))then
aa (ah (a=⟨#[97,108,108]⟩))
else(if(ah (a=⟨#[97,110,121]⟩))then
aa (ah (a=⟨#[97,110,121]⟩))
else(if(ah (a=⟨#[109,111,115,116]⟩))then
aa (ah (a=⟨#[109,111,115,116]⟩))
else(if(ah (a=⟨#[101,110,117,109]⟩))then
aa (ah (a=⟨#[101,110,117,109]⟩))
else(if(ah (a=⟨#[116,97,98,108,101]⟩))then
aa (ah (a=⟨#[116,97,98,108,101]⟩))
else(if(ah (a=⟨#[114,111,119]⟩))then
aa (ah (a=⟨#[114,111,119]⟩))
else(if(ah (a=⟨#[115,99,111,112,101]⟩))then
aa (ah (a=⟨#[115,99,111,112,101]⟩))
else(if(ah (a=⟨#[109,101,109,98,101,114,115]⟩))then
aa (ah (a=⟨#[109,101,109,98,101,114,115]⟩))
else(if(ah (a=⟨#[105,110,112,117,116]⟩))then
aa (ah (a=⟨#[105,110,112,117,116]⟩))
else(if(ah (a=⟨#[100,101,102]⟩))then
aa (ah (a=⟨#[100,101,102]⟩))
else(if(ah (a=⟨#[114,117,108,101]⟩))then
aa (ah (a=⟨#[114,117,108,101]⟩))
else(if(ah (a=⟨#[111,102]⟩))then
aa (ah (a=⟨#[111,102]⟩))
else(if(ah (a=⟨#[111,118,101,114]⟩))then
aa (ah (a=⟨#[111,118,101,114]⟩))
else(if(ah (a=⟨#[112,114,105,111]⟩))then
aa (ah (a=⟨#[112,114,105,111]⟩))
else(if(ah (a=⟨#[102,114,111,109]⟩))then
aa (ah (a=⟨#[102,114,111,109]⟩))
else(if(ah (a=⟨#[116,111]⟩))then
aa (ah (a=⟨#[116,111]⟩))
else(if(ah (a=⟨#[101,110,100]⟩))then
aa (ah (a=⟨#[101,110,100]⟩))
else(if(ah (a=⟨#[119,104,101,110]⟩))then
aa (ah (a=⟨#[119,104,101,110]⟩))
else(if(ah (a=⟨#[105,115]⟩))then
aa (ah (a=⟨#[105,115]⟩))
else(if(ah (a=⟨#[115,114,99]⟩))then
aa (ah (a=⟨#[115,114,99]⟩))
else(if(ah (a=⟨#[98,111,111,108]⟩))then
aa (ah (a=⟨#[98,111,111,108]⟩))
else(if(ah (a=⟨#[105,110,116]⟩))then
aa (ah (a=⟨#[105,110,116]⟩))
else(if(ah (a=⟨#[109,111,110,101,121]⟩))then
aa (ah (a=⟨#[109,111,110,101,121]⟩))
else(if(ah (a=⟨#[114,97,116,101]⟩))then
aa (ah (a=⟨#[114,97,116,101]⟩))
else(if(ah (a=⟨#[100,97,116,101]⟩))then
aa (ah (a=⟨#[100,97,116,101]⟩))
else(if(ah (a=⟨#[100,111,119,110]⟩))then
aa (ah (a=⟨#[100,111,119,110]⟩))
else(if(ah (a=⟨#[117,112]⟩))then
aa (ah (a=⟨#[117,112]⟩))
else(if(ah (a=⟨#[122,101,114,111]⟩))then
aa (ah (a=⟨#[122,101,114,111]⟩))
else(if(ah (a=⟨#[97,119,97,121]⟩))then
aa (ah (a=⟨#[97,119,97,121]⟩))
else(if(ah (a=⟨#[104,97,108,102]⟩))then
aa (ah (a=⟨#[104,97,108,102]⟩))
else
aa (ah (a=⟨#[101,118,101,110]⟩)))))))))))))))))))))))))))))))))))))))))))))))))))))))) λb=>(if b then
aa af
else
aa ag)
def XF:Fo 150 (.i1 [.l .str]) (.i1 [.l .bool]) (M.pC N):=fz N [] [O,T,O,T,B 4 32] Tryz.func150
def M.c4(a:ByteArray):Option Bool:=
agn (if(!ah (a=⟨#[]⟩))then
agn (oQ a 0) λb=>agn (M.ni N b) λc=>(if c then
agn (M.nV N a) λd=>(if(ah (d=(a.size:Int)))then(if(ah ((a.size:Int)<=16))then
agn (M.pC N a) λe=>aa (!e)
else
aa ag)
else
aa ag)
else
aa ag)
else
aa ag) λf=>aa f
def SU:Fo 90 (.i1 [.l .str]) (.i1 [.l .bool]) (M.c4 N):=fz N [SR N,XE N,XF N] [O,B 2 16] Tryz.func90
def M.mM(N:Nat)(b:fF.den)(a:ByteArray):Option (Bool×ByteArray):=
aa (ah (b.1=a),a)
def PL:Fo 152 (.j1 [.g fF, .ptr 0 [] 0] [.box 9 (.leaf .str)] 1) (.j1 [.l .bool] [.box 9 (.leaf .str)] 2) (u2 (M.mM N)):=fz N [] [] Tryz.func152
def M.cm(c:List fF.den)(d:ByteArray):Option (Int×ByteArray):=
Loop (S:=Int×ByteArray) (X:=Int×ByteArray) (λa=>(if(ah (a.1<(c.length:Int)))then
agn (idx c a.1) λe=>agn (M.mM N e a.2) λb=>(if b.1 then
aa (.inr (a.1,b.2))
else
aa (.inl (agp.wrap (a.1+1),b.2)))
else
aa (.inr ((-1),a.2)))) N (0,d)
def PM:Fo 223 (.j1 [.l (.slice fF), .fn 152 [(0,[],0)]] [.box 9 (.leaf .str)] 1) (.j1 [.l ay] [.box 9 (.leaf .str)] 2) (u2 (M.cm N)):=fz N [PL N] [O,T,O,T,P ⟨[(8, .l ay)],[(0, .box 9 (.leaf .str))],[],66⟩] Tryz.func223
def M.bU(b:List fF.den)(c:ByteArray):Option (Bool×ByteArray):=
agn (M.cm N b c) λa=>aa (ah (0<=a.1),a.2)
def PN:Fo 151 (.j1 [.l (.slice fF), .fn 152 [(0,[],0)]] [.box 9 (.leaf .str)] 1) (.j1 [.l .bool] [.box 9 (.leaf .str)] 2) (u2 (M.bU N)):=fz N [PM N] [] Tryz.func151
def M.mN(a:List fF.den)(b:ByteArray):Option Bool:=
agn (M.bU N a b) λc=>aa c.1
def XG:Fo 91 (.i1 [.l (.slice fF), .l .str]) (.i1 [.l .bool]) (u2 (M.mN N)):=fz N [PN N] [] Tryz.func91
def M.il(b:List ByteArray)(c:ByteArray):Option Int:=
Loop (S:=Int) (X:=Int) (λa=>(if(ah (a<(b.length:Int)))then
agn (idx b a) λd=>(if(ah (c=d))then
aa (.inr a)
else
aa (.inl (agp.wrap (a+1))))
else
aa (.inr (-1)))) N 0
def XH:Fo 220 (.i1 [.l (.slice .str), .l .str]) (.i1 [.l ay]) (u2 (M.il N)):=fz N [] [O,T,O,T,L 8 64] Tryz.func220
def M.fY(a:List ByteArray)(b:ByteArray):Option Bool:=
agn (M.il N a b) λc=>aa (ah (0<=c))
def XI:Fo 143 (.i1 [.l (.slice .str), .l .str]) (.i1 [.l .bool]) (u2 (M.fY N)):=fz N [XH N] [] Tryz.func143
def M.qL(d:jc.den)(e:Int)(a:fF.den):Option (Int×Int):=
agn (M.c4 N a.1) λf=>(if(!f)then
aa (2,0)
else
agn (gK d.1 0 e) λg=>agn (M.mN N g a.1) λh=>(if h then
aa (7,0)
else(if(ah ((a.2.length:Int)=0))then
aa (5,0)
else(if(ah (16<(a.2.length:Int)))then
aa (4,116)
else
Loop (S:=Int) (X:=Int×Int) (λb=>(if(ah (b<(a.2.length:Int)))then
agn (idx a.2 b) λc=>agn (M.c4 N c) λi=>(if(!i)then
aa (.inr (2,agp.wrap (100+b)))
else
agn (gK a.2 0 b) λj=>agn (M.fY N j c) λk=>(if k then
aa (.inr (7,agp.wrap (100+b)))
else
aa (.inl (agp.wrap (b+1)))))
else
aa (.inr (0,0)))) N 0))))
def W88:Fo 88 (.i1 [.g jc, .l ay, .g fF]) (.i1 [.l ay, .l ay]) (u3 (M.qL N)):=fz N [SU N,XG N,XI N] [O,O,T,O,T,L 36 496] Tryz.func88
def M.pD(b:jc.den):Option (bg.den):=
(if(ah (8<(b.1.length:Int)))then
aa (4,(1,(8,0)))
else
gm (J:=Unit) (R:=bg.den) (Loop (S:=Int) (X:=Unit⊕(bg.den)) (λa=>(if(ah (a<(b.1.length:Int)))then
agn (idx b.1 a) λd=>agn (M.qL N b a d) λc=>(if(!ah (c.1=0))then
aa (.inr (.inr (c.1,(1,(a,c.2)))))
else
aa (.inl (agp.wrap (a+1))))
else
aa (.inr (.inl ())))) N 0) λe=>aa (0,(0,(0,0))))
def W55:Fo 55 (.i1 [.g jc]) (.i1 [.g bg]) (M.pD N):=fz N [W88 N] [O,O,E 96,O,T,L 15 160] Tryz.func55
def M.dt(N:Nat)(a:az.den)(b:List fF.den):Option Bool:=
agn (if(ah (a.1=1))then
aa (ah (a.1=1))
else(if(ah (a.1=2))then
aa (ah (a.1=2))
else(if(ah (a.1=3))then
aa (ah (a.1=3))
else(if(ah (a.1=4))then
aa (ah (a.1=4))
else
aa (ah (a.1=5)))))) λc=>(if c then
aa (ah (a.2=0))
else(if(ah (a.1=6))then
agn (if(ah (0<=a.2))then
aa (ah (a.2<(b.length:Int)))
else
aa ag) λd=>aa d
else
aa ag))
def Ku:Fo 144 (.i1 [.g az, .l (.slice fF)]) (.i1 [.l .bool]) (u2 (M.dt N)):=fz N [] [O,T,O,T,R ⟨[(7, .l .bool)],[],[],64⟩,X,O,O,T,B 4 96] Tryz.func144
def M.jT(a:az.den)(b:List fF.den):Option (Int×Int):=
agn (M.dt N a b) λc=>(if(!c)then
aa (0,(-1))
else(if(ah (a.1=1))then
aa (0,1)
else(if(ah (a.1=2))then
aa ((-1000000000000),1000000000000)
else(if(ah (a.1=3))then
aa ((-1000000000000000),1000000000000000)
else(if(ah (a.1=4))then
aa ((-1000000000),1000000000)
else(if(ah (a.1=5))then
aa (0,109572)
else
agn (idx b a.2) λd=>aa (0,agp.wrap ((d.2.length:Int)-1))))))))
def XJ:Fo 94 (.i1 [.g az, .l (.slice fF)]) (.i1 [.l ay, .l ay]) (u2 (M.jT N)):=fz N [Ku N] [] Tryz.func94
def M.jU(a:az.den):Option Bool:=
agn (agn (M.dq N a) λb=>(if b then
aa (ah (a.1<a.2))
else
aa ag):Option Bool) λc=>aa c
def XK:Fo 281 (.i1 [.g az]) (.i1 [.l .bool]) (M.jU N):=fz N [PC N] [O,B 2 32] Tryz.func281
def M.lN(a:az.den)(b:az.den):Option (az.den×Bool):=
agn (agn (M.jU N a) λc=>(if(!c)then
aa af
else
agn (M.jU N b) λd=>aa (!d)):Option Bool) λe=>(if e then
aa ((0,0),ag)
else(if(ah ((if b.2<a.2 then b.2 else a.2)<=(if a.1<b.1 then b.1 else a.1)))then
aa ((0,0),ag)
else
aa ((if a.1<b.1 then b.1 else a.1,if b.2<a.2 then b.2 else a.2),af)))
def XL:Fo 221 (.i1 [.g az, .g az]) (.i1 [.g az, .l .bool]) (u2 (M.lN N)):=fz N [XK N] [O,T,B 14 64] Tryz.func221
def M.pE(a:iE.den)(b:iE.den):Option Bool:=
agn (M.lN N a.1 b.1) λc=>agn (if c.2 then
aa (ah ((if a.2.1<b.2.1 then b.2.1 else a.2.1)<(if b.2.2.1<a.2.2.1 then b.2.2.1 else a.2.2.1)))
else
aa ag) λd=>aa d
def XM:Fo 147 (.i1 [.g iE, .g iE]) (.i1 [.l .bool]) (u2 (M.pE N)):=fz N [XL N] [O,O,B 4 224] Tryz.func147
def M.lc(b:iE.den)(a:iE.den):Option (Bool×iE.den):=
agn (M.pE N b a) λc=>aa (c,a)
def PO:Fo 146 (.j1 [.g iE, .ptr 0 [] 0] [.box 224 (.leaf iE)] 1) (.j1 [.l .bool] [.box 224 (.leaf iE)] 2) (u2 (M.lc N)):=fz N [XM N] [] Tryz.func146
def M.fO(c:List iE.den)(d:iE.den):Option (Int×Bool×iE.den):=
Loop (S:=Int×iE.den) (X:=Int×Bool×iE.den) (λa=>(if(ah (a.1<(c.length:Int)))then
agn (idx c a.1) λe=>agn (M.lc N e a.2) λb=>(if b.1 then
aa (.inr (a.1,af,b.2))
else
aa (.inl (agp.wrap (a.1+1),b.2)))
else
aa (.inr (0,ag,a.2)))) N (0,d)
def PP:Fo 145 (.j1 [.l (.slice iE), .fn 146 [(0,[],0)]] [.box 224 (.leaf iE)] 1) (.j1 [.l ay, .l .bool] [.box 224 (.leaf iE)] 2) (u2 (M.fO N)):=fz N [PO N] [O,T,O,T,P ⟨[(10, .l ay)],[(0, .box 224 (.leaf iE))],[],82⟩] Tryz.func145
def M.pF(b:bD.den)(d:List fF.den):Option (Int×Int):=
(if(ah (64<(b.2.2.2.length:Int)))then
aa (64,4)
else
agn (agn (M.dt N b.2.1 d) λg=>(if(!g)then
aa af
else
agn (M.dt N b.2.2.1 d) λh=>aa (!h)):Option Bool) λi=>(if i then
aa ((-1),8)
else
agn (M.jT N b.2.1 d) λe=>agn (M.jT N b.2.2.1 d) λf=>Loop (S:=Int) (X:=Int×Int) (λc=>(if(ah (c<(b.2.2.2.length:Int)))then
agn (idx b.2.2.2 c) λa=>agn (agn (M.dq N a.1) λj=>(if(!j)then
aa af
else(if(ah (a.1.1=a.1.2))then
aa af
else
aa (ah (a.2.2.1<=a.2.1)))):Option Bool) λk=>(if k then
aa (.inr (c,3))
else
agn (if(ah (a.2.1<e.1))then
aa af
else(if(ah (e.2<a.2.1))then
aa af
else(if(ah ((agp.wrap (a.2.2.1-1))<e.1))then
aa af
else
aa (ah (e.2<(agp.wrap (a.2.2.1-1))))))) λl=>(if l then
aa (.inr (c,3))
else
agn (if(ah (a.2.2.2<f.1))then
aa af
else
aa (ah (f.2<a.2.2.2))) λm=>(if m then
aa (.inr (c,3))
else
agn (gK b.2.2.2 0 c) λn=>agn (M.fO N n a) λo=>(if o.2.1 then
aa (.inr (c,11))
else
aa (.inl (agp.wrap (c+1)))))))
else
aa (.inr (0,0)))) N 0))
def W89:Fo 89 (.i1 [.g bD, .l (.slice fF)]) (.i1 [.l ay, .l ay]) (u2 (M.pF N)):=fz N [XJ N,PC N,Ku N,PP N] [O,O,T,B 29 112,O,O,T,O,T,L 47 464,O,O,T,T,O,T,B 71 576,T,B 96 576,T,B 107 576] Tryz.func89
def M.me(N:Nat)(b:bD.den)(a:ByteArray):Option (Bool×ByteArray):=
aa (ah (b.1=a),a)
def PQ:Fo 154 (.j1 [.g bD, .ptr 0 [] 0] [.box 9 (.leaf .str)] 1) (.j1 [.l .bool] [.box 9 (.leaf .str)] 2) (u2 (M.me N)):=fz N [] [] Tryz.func154
def M.bY(c:List bD.den)(d:ByteArray):Option (Int×ByteArray):=
Loop (S:=Int×ByteArray) (X:=Int×ByteArray) (λa=>(if(ah (a.1<(c.length:Int)))then
agn (idx c a.1) λe=>agn (M.me N e a.2) λb=>(if b.1 then
aa (.inr (a.1,b.2))
else
aa (.inl (agp.wrap (a.1+1),b.2)))
else
aa (.inr ((-1),a.2)))) N (0,d)
def PR:Fo 224 (.j1 [.l (.slice bD), .fn 154 [(0,[],0)]] [.box 9 (.leaf .str)] 1) (.j1 [.l ay] [.box 9 (.leaf .str)] 2) (u2 (M.bY N)):=fz N [PQ N] [O,T,O,T,P ⟨[(8, .l ay)],[(0, .box 9 (.leaf .str))],[],66⟩] Tryz.func224
def M.bQ(b:List bD.den)(c:ByteArray):Option (Bool×ByteArray):=
agn (M.bY N b c) λa=>aa (ah (0<=a.1),a.2)
def PT:Fo 153 (.j1 [.l (.slice bD), .fn 154 [(0,[],0)]] [.box 9 (.leaf .str)] 1) (.j1 [.l .bool] [.box 9 (.leaf .str)] 2) (u2 (M.bQ N)):=fz N [PR N] [] Tryz.func153
def M.ow(a:List bD.den)(b:ByteArray):Option Bool:=
agn (M.bQ N a b) λc=>aa c.1
def W92:Fo 92 (.i1 [.l (.slice bD), .l .str]) (.i1 [.l .bool]) (u2 (M.ow N)):=fz N [PT N] [] Tryz.func92
def M.oU(b:jc.den):Option (bg.den):=
(if(ah (8<(b.2.1.length:Int)))then
aa (4,(2,(8,0)))
else
gm (J:=Unit) (R:=bg.den) (Loop (S:=Int) (X:=Unit⊕(bg.den)) (λa=>(if(ah (a<(b.2.1.length:Int)))then
agn (idx b.2.1 a) λd=>agn (M.pF N d b.1) λc=>agn (agn (M.c4 N d.1) λf=>(if(!f)then
aa (2,(2,(a,0)))
else
agn (agn (M.mN N b.1 d.1) λg=>(if g then
aa af
else
agn (gK b.2.1 0 a) λh=>agn (M.ow N h d.1) λi=>aa i):Option Bool) λj=>(if j then
aa (7,(2,(a,0)))
else(if(!ah (c.2=0))then(if(!ah (c.1=(-1)))then
aa (c.2,(2,(a,agp.wrap (100+c.1))))
else
aa (c.2,(2,(a,0))))
else
aa (0,(2,(a,0)))))):Option (bg.den)) λe=>(if(!ah (e.1=0))then
aa (.inr (.inr e))
else
aa (.inl (agp.wrap (a+1))))
else
aa (.inr (.inl ())))) N 0) λk=>aa (0,(0,(0,0))))
def W56:Fo 56 (.i1 [.g jc]) (.i1 [.g bg]) (M.oU N):=fz N [W89 N,SU N,XG N,W92 N] [O,O,E 96,O,T,L 16 160,O,O,T,T,O,O,O,T,R ⟨[],[(304, .box 90 (.leaf bg))],[],481⟩,O,O,B 36 560] Tryz.func56
def M.lf(N:Nat)(b:bI.den)(a:bI.den):Option (Bool×bI.den):=
aa (ah (b.1=a.1),a)
def PU:Fo 226 (.j1 [.g bI, .ptr 0 [] 0] [.box 94 (.leaf bI)] 1) (.j1 [.l .bool] [.box 94 (.leaf bI)] 2) (u2 (M.lf N)):=fz N [] [] Tryz.func226
def M.bZ(c:List bI.den)(d:bI.den):Option (Int×bI.den):=
Loop (S:=Int×bI.den) (X:=Int×bI.den) (λa=>(if(ah (a.1<(c.length:Int)))then
agn (idx c a.1) λe=>agn (M.lf N e a.2) λb=>(if b.1 then
aa (.inr (a.1,b.2))
else
aa (.inl (agp.wrap (a.1+1),b.2)))
else
aa (.inr ((-1),a.2)))) N (0,d)
def PV:Fo 282 (.j1 [.l (.slice bI), .fn 226 [(0,[],0)]] [.box 94 (.leaf bI)] 1) (.j1 [.l ay] [.box 94 (.leaf bI)] 2) (u2 (M.bZ N)):=fz N [PU N] [O,T,O,T,P ⟨[(8, .l ay)],[(0, .box 94 (.leaf bI))],[],66⟩] Tryz.func282
def M.bm(b:List bI.den)(c:bI.den):Option (Bool×bI.den):=
agn (M.bZ N b c) λa=>aa (ah (0<=a.1),a.2)
def PW:Fo 227 (.j1 [.l (.slice bI), .fn 226 [(0,[],0)]] [.box 94 (.leaf bI)] 1) (.j1 [.l .bool] [.box 94 (.leaf bI)] 2) (u2 (M.bm N)):=fz N [PV N] [] Tryz.func227
def M.mf(e:jc.den)(b:bI.den)(f:List bI.den)(g:List bI.den):Option Int:=
agn (M.c4 N b.1) λh=>(if(!h)then
aa 2
else
agn (agn (M.bm N f b) λa=>(if a.1 then
aa (af,a.2)
else
agn (M.bm N g a.2) λc=>aa (c.1,c.2)):Option (Bool×bI.den)) λd=>(if d.1 then
aa 7
else
agn (M.dt N d.2.2 e.1) λi=>(if(!i)then
aa 8
else
aa 0)))
def XN:Fo 157 (.i1 [.g jc, .g bI, .l (.slice bI), .l (.slice bI)]) (.i1 [.l ay]) (u4 (M.mf N)):=fz N [SU N,Ku N,PW N] [O,O,T,T,O,O,R ⟨[(16, .l .bool)],[(16, .box 94 (.leaf bI))],[],161⟩] Tryz.func157
def M.jV(b:List bI.den):Option (List az.den):=
Loop (S:=Int×List az.den) (X:=List az.den) (λa=>(if(ah (a.1<(b.length:Int)))then
agn (idx b a.1) λc=>agn (cr a.2 ([c.2]:List az.den)) λd=>aa (.inl (agp.wrap (a.1+1),d))
else
aa (.inr a.2))) N (0,([]:List az.den))
def XO:Fo 228 (.i1 [.l (.slice bI)]) (.w1 74 az) (M.jV N):=fz N [] [O,O,T,O,T,P ⟨[(3, .val ag (.own 80)),(8, .l ay)],[(80, .own 74 az)],[],81⟩] Tryz.func228
def M.lO(a:jc.den)(f:Int):Option ((List fF.den)×(List bD.den)×Bool×(List az.den)×(List az.den)×List az.den):=
agn (idx a.2.2 f) λc=>agn (M.jV N c.2.2.1) λd=>agn (M.jV N c.2.2.2.1) λe=>agn (agn (if(ah (0<=c.2.1))then
aa (ah (c.2.1<(a.2.2.length:Int)))
else
aa ag) λg=>(if g then
agn (idx a.2.2 c.2.1) λh=>agn (M.jV N h.2.2.2.1) λi=>aa (d,e,a.1,a.2.1,af,i)
else
aa (d,e,a.1,a.2.1,ag,([]:List az.den))):Option ((List az.den)×(List az.den)×(List fF.den)×(List bD.den)×Bool×List az.den)) λb=>aa (b.2.2.1,b.2.2.2.1,b.2.2.2.2.1,b.1,b.2.1,b.2.2.2.2.2)
def XP:Fo 158 (.i1 [.g jc, .l ay]) (.j1 [.val af (.pair (.leaf (.slice fF)) (.pair (.leaf (.slice bD)) (.pair (.own 0) (.pair (.own 1) (.pair (.own 2) (.leaf .bool))))))] [.own 74 az, .own 74 az, .own 74 az] 3) (u2 (M.lO N)):=fz N [XO N] [O,O,O,R ⟨[],[(240, .own 74 az),(288, .own 74 az),(320, .box 237 (.pair (.leaf (.slice fF)) (.pair (.leaf (.slice bD)) (.pair (.own 240) (.pair (.own 288) (.pair (.own 352) (.leaf .bool))))))),(352, .own 74 az)],[],356⟩,B 33 352] Tryz.func158
def M.strings_Contains(N:Nat)(a:ByteArray)(b:ByteArray):Option Bool:=qn (a,b)
def XQ:nP:=⟨.i1 [.l .str, .l .str], .i1 [.l .bool],u2 (M.strings_Contains N)⟩
def XR(N:Nat):fL Tryz.prog 284 (XQ N):=Bx ⟨_,Tryz.func284,by kernel_rfl,by kernel_rfl⟩ Tryz.strings_Contains_one
def M.oV(a:ByteArray):Option Bool:=
agn (if(ah (64<(a.size:Int)))then
aa af
else
agn (M.strings_Contains N a (⟨#[34]⟩:ByteArray)) λc=>aa c) λd=>(if d then
aa ag
else
Loop (S:=Int) (X:=Bool) (λb=>(if(ah (b<(a.size:Int)))then
agn (agn (oQ a b) λe=>(if(ah (e<32))then
aa af
else
agn (oQ a b) λf=>aa (ah (126<f))):Option Bool) λg=>(if g then
aa (.inr ag)
else
aa (.inl (agp.wrap (b+1))))
else
aa (.inr af))) N 0)
def XS:Fo 231 (.i1 [.l .str]) (.i1 [.l .bool]) (M.oV N):=fz N [XR N] [O,T,B 10 16,T,O,T,L 13 64,O,O,T,T,O,B 25 112] Tryz.func231
def M.eA(a:Int)(b:Int)(d:bO.den):Option (az.den×Int):=
agn (M.jT N (b,0) d.1) λc=>agn (if(ah (a<c.1))then
aa af
else
aa (ah (c.2<a))) λe=>(if e then
aa ((0,0),3)
else
aa ((b,0),0))
def XT:Fo 346 (.i1 [.l ay, .l ay, .g bO]) (.i1 [.g az, .l ay]) (u3 (M.eA N)):=fz N [XJ N] [O,O,T,O,B 27 256] Tryz.func346
def M.qM(N:Nat)(a:Int)(b:bO.den):Option (az.den×Int):=
(if(ah (a<0))then
aa ((0,0),3)
else
agn (if(ah ((b.1.length:Int)<=(agp.wrap (agC a 16))))then
aa af
else
agn (idx b.1 (agp.wrap (agC a 16))) λc=>aa (ah ((c.2.length:Int)<=(agD a 16)))) λd=>(if d then
aa ((0,0),6)
else
aa ((6,agp.wrap (agC a 16)),0)))
def XU:Fo 347 (.i1 [.l ay, .g bO]) (.i1 [.g az, .l ay]) (u2 (M.qM N)):=fz N [] [O,O,O,T,B 30 176] Tryz.func347
def M.jn(a:Int)(b:List az.den)(c:bO.den):Option (az.den×Int):=
agn (if(ah (a<0))then
aa af
else
aa (ah ((b.length:Int)<=a))) λd=>(if d then
aa ((0,0),6)
else
agn (idx b a) λe=>agn (M.dt N e c.1) λf=>(if(!f)then
aa ((0,0),8)
else
agn (idx b a) λg=>aa (g,0)))
def SV:Fo 348 (.i1 [.l ay, .l (.slice az), .g bO]) (.i1 [.g az, .l ay]) (u3 (M.jn N)):=fz N [Ku N] [O,T,B 15 48] Tryz.func348
def M.mg(N:Nat)(a:Int):Option Bool:=
agn (if(ah (0<=a))then
aa (ah (a<=5))
else
aa ag) λb=>aa b
def SX:Fo 351 (.i1 [.l ay]) (.i1 [.l .bool]) (M.mg N):=fz N [] [O,B 2 16] Tryz.func351
def M.pG(a:az.den)(f:az.den)(b:bO.den):Option (az.den×Int):=
gm (J:=Int) (R:=az.den×Int) ((if(ah (a.1=34))then
agn (if(ah (a.2<0))then
aa af
else
agn (M.mg N (agD a.2 8)) λg=>aa (!g)) λh=>(if h then
aa (.inr ((0,0),3))
else
aa (.inl (agp.wrap (agC a.2 8))))
else
aa (.inl a.2))) λc=>agn (if(ah (c<0))then
aa af
else
aa (ah ((b.2.1.length:Int)<=c))) λi=>(if i then
aa ((0,0),6)
else
agn (idx b.2.1 c) λd=>agn (idx b.2.1 c) λe=>agn (agn (M.dt N d.2.1 b.1) λj=>(if(!j)then
aa af
else
agn (M.dt N e.2.2.1 b.1) λk=>(if(!k)then
aa af
else
aa (!(nz az f d.2.1)))):Option Bool) λl=>(if l then
aa ((0,0),8)
else(if(ah (a.1=34))then
agn (if(!ah (d.2.1.1=3))then
aa af
else
aa (!ah (e.2.2.1.1=4))) λm=>(if m then
aa ((0,0),8)
else
aa (d.2.1,0))
else
aa (e.2.2.1,0))))
def XV:Fo 349 (.i1 [.g az, .g az, .g bO]) (.i1 [.g az, .l ay]) (u3 (M.pG N)):=fz N [Ku N,SX N] [O,O,J ⟨[(8, .l ay)],[],[],128⟩,O,T,T,B 25 176,X,X,T,B 38 128,O,T,B 68 384,T,O,T,T,B 80 432] Tryz.func349
def M.gI(N:Nat)(a:Int):Option Bool:=
agn (if(ah (a=2))then
aa af
else(if(ah (a=3))then
aa af
else
aa (ah (a=4)))) λb=>aa b
def SY:Fo 367 (.i1 [.l ay]) (.i1 [.l .bool]) (M.gI N):=fz N [] [O,B 2 16] Tryz.func367
def M.oW(b:az.den)(c:bO.den):Option (az.den×Int):=
(if(!c.2.2.2.2.2)then
aa ((0,0),6)
else(if(ah (b.1=35))then
aa ((2,0),0)
else
agn (M.jn N b.2 c.2.2.2.2.1 c) λa=>(if(!ah (a.2=0))then
aa ((0,0),a.2)
else
agn (if(ah (b.1=36))then(if(ah (a.1.1=2))then
aa af
else
aa (ah (a.1.1=3)))
else
agn (if(ah (b.1=37))then
aa (ah (b.1=37))
else
aa (ah (b.1=38))) λd=>(if d then
aa (ah (a.1.1=1))
else(if(ah (b.1=39))then
agn (M.gI N a.1.1) λe=>(if e then
aa af
else
aa (ah (a.1.1=5)))
else
aa ag))) λf=>(if(!f)then
aa ((0,0),8)
else
aa (a.1,0)))))
def XW:Fo 350 (.i1 [.g az, .g bO]) (.i1 [.g az, .l ay]) (u2 (M.oW N)):=fz N [SV N,SY N] [O,O,O,O,O,O,T,O,R ⟨[(8, .l .bool)],[],[],432⟩,O,O,B 42 464] Tryz.func350
def M.nW(N:Nat)(c:Int)(a:Int)(b:Int):Option (az.den×Bool):=
(if(ah (c=14))then
agn ((if(ah (b=4))then(if(ah (a=3))then
aa (af,(a,0))
else
aa (ah (a=4),(a,0)))
else
aa (ag,(a,0))):Option (Bool×az.den)) λd=>aa (d.2,d.1)
else(if(ah (b=2))then
agn ((if(ah (a=2))then
aa (af,(a,0))
else
aa (ah (a=3),(a,0))):Option (Bool×az.den)) λe=>aa (e.2,e.1)
else
agn (if(ah (c=15))then(if(ah (a=3))then
aa (ah (b=3))
else
aa ag)
else
aa ag) λf=>(if f then
aa ((4,0),af)
else
aa ((0,0),ag))))
def XX:Fo 368 (.i1 [.l ay, .l ay, .l ay]) (.i1 [.g az, .l .bool]) (u3 (M.nW N)):=fz N [] [O,T,T,O,T,R ⟨[(7, .l .bool)],[(0, .box 74 (.leaf az))],[],81⟩,X,X,O,T,R ⟨[(7, .l .bool)],[(0, .box 74 (.leaf az))],[],129⟩,X,X,B 34 128] Tryz.func368
def M.oX(b:Int)(a:List az.den):Option (az.den×Bool):=
(if(ah (b=10))then
agn (idx a 0) λq=>agn (idx a 0) λr=>agn (M.gI N r.1) λs=>aa (q,s)
else(if(ah (b=25))then
agn (idx a 0) λt=>aa ((1,0),ah (t.1=1))
else
agn (if(ah (b=11))then
aa (ah (b=11))
else
aa (ah (b=12))) λu=>(if u then
agn (agn (idx a 0) λd=>agn (idx a 0) λv=>agn (idx a 1) λw=>(if(nz az v w)then
agn (idx a 0) λx=>agn (M.gI N x.1) λy=>aa (y,d)
else
aa (ag,d)):Option (Bool×az.den)) λe=>aa (e.2,e.1)
else
agn (if(ah (b=13))then
aa (ah (b=13))
else(if(ah (b=14))then
aa (ah (b=14))
else
aa (ah (b=15)))) λz=>(if z then
agn (idx a 0) λA=>agn (idx a 1) λC=>agn (M.nW N b A.1 C.1) λf=>aa (f.1,f.2)
else(if(ah (b=16))then
agn (agn (idx a 0) λg=>agn (idx a 0) λD=>(if(ah (D.1=3))then
agn (idx a 1) λF=>aa (ah (F.1=3),g)
else
aa (ag,g)):Option (Bool×az.den)) λh=>aa (h.2,h.1)
else
agn (if(ah (b=17))then
aa (ah (b=17))
else
aa (ah (b=18))) λG=>(if G then
agn (agn (idx a 0) λc=>agn (idx a 0) λH=>agn (idx a 1) λI=>(if(nz az H I)then
agn (idx a 0) λQ=>agn (M.gI N Q.1) λU=>(if U then
aa (af,c)
else
agn (idx a 0) λV=>aa (ah (V.1=5),c))
else
aa (ag,c)):Option (Bool×az.den)) λi=>aa (i.2,i.1)
else
agn (if(ah (b=19))then
aa (ah (b=19))
else
aa (ah (b=20))) λW=>(if W then
agn (idx a 0) λY=>agn (idx a 1) λZ=>aa ((1,0),(nz az Y Z))
else
agn (if(ah (b=21))then
aa (ah (b=21))
else
aa (ah (b=22))) λj31=>(if j31 then
agn (agn (idx a 0) λRc=>agn (idx a 1) λSZ=>(if(nz az Rc SZ)then
agn (idx a 0) λx35=>agn (M.gI N x35.1) λy36=>(if y36 then
aa (af,(1,0))
else
agn (idx a 0) λx37=>aa (ah (x37.1=5),(1,0)))
else
aa (ag,(1,0))):Option (Bool×az.den)) λj=>aa (j.2,j.1)
else
agn (if(ah (b=23))then
aa (ah (b=23))
else
aa (ah (b=24))) λj38=>(if j38 then
agn (agn (idx a 0) λx40=>(if(ah (x40.1=1))then
agn (idx a 1) λx41=>aa (ah (x41.1=1),(1,0))
else
aa (ag,(1,0))):Option (Bool×az.den)) λk=>aa (k.2,k.1)
else(if(ah (b=26))then
agn (agn (idx a 1) λl=>agn (idx a 0) λx44=>(if(ah (x44.1=1))then
agn (idx a 1) λx45=>agn (idx a 2) λx46=>aa ((nz az x45 x46),l)
else
aa (ag,l)):Option (Bool×az.den)) λm=>aa (m.2,m.1)
else
agn (if(ah (b=27))then
aa (ah (b=27))
else
aa (ah (b=28))) λj47=>(if j47 then
agn (agn (idx a 0) λn=>agn (idx a 0) λx50=>(if(ah (x50.1=5))then
agn (idx a 1) λx51=>aa (ah (x51.1=2),n)
else
aa (ag,n)):Option (Bool×az.den)) λo=>aa (o.2,o.1)
else
agn (if(ah (b=29))then
aa (ah (b=29))
else
aa (ah (b=30))) λj52=>(if j52 then
agn (agn (idx a 0) λx54=>(if(ah (x54.1=5))then
agn (idx a 1) λx55=>aa (ah (x55.1=5),(2,0))
else
aa (ag,(2,0))):Option (Bool×az.den)) λp=>aa (p.2,p.1)
else
agn (if(ah (b=31))then
aa (ah (b=31))
else
aa (ah (b=32))) λj56=>(if j56 then
agn (idx a 0) λx57=>aa ((2,0),ah (x57.1=5))
else
aa ((0,0),ag))))))))))))))
def XY:Fo 352 (.i1 [.l ay, .l (.slice az)]) (.i1 [.g az, .l .bool]) (u2 (M.oX N)):=fz N [SY N,XX N] [O,O,T,O,T,O,O,O,O,R ⟨[(27, .l .bool)],[],[],160⟩,X,T,R ⟨[(5, .l .bool)],[(0, .box 74 (.leaf az))],[],161⟩,X,X,R ⟨[(47, .l .bool)],[],[],160⟩,X,O,O,T,R ⟨[(5, .l .bool)],[(0, .box 74 (.leaf az))],[],193⟩,X,X,R ⟨[(80, .l .bool)],[],[],192⟩,X,T,R ⟨[(5, .l .bool)],[(0, .box 74 (.leaf az))],[],193⟩,X,X,R ⟨[(107, .l .bool)],[],[],192⟩,X,O,R ⟨[(118, .l .bool)],[],[],192⟩,X,T,R ⟨[(5, .l .bool)],[(0, .box 74 (.leaf az))],[],193⟩,X,X,R ⟨[(143, .l .bool)],[],[],192⟩,X,T,R ⟨[(5, .l .bool)],[(0, .box 74 (.leaf az))],[],193⟩,X,X,O,T,R ⟨[(5, .l .bool)],[(0, .box 74 (.leaf az))],[],225⟩,X,X,R ⟨[(178, .l .bool)],[],[],224⟩,X,T,R ⟨[(5, .l .bool)],[(0, .box 74 (.leaf az))],[],225⟩,X,X,R ⟨[(196, .l .bool)],[],[],224⟩,X,T,R ⟨[(5, .l .bool)],[(0, .box 74 (.leaf az))],[],225⟩,X,X,B 212 224] Tryz.func352
def M.qN(a:az.den)(c:List az.den)(b:bO.den):Option (az.den×Int):=
gm (J:=Unit) (R:=az.den×Int) ((if(ah (a.1=1))then
agn (M.eA N a.2 1 b) λd=>aa (.inr (d.1,d.2))
else(if(ah (a.1=2))then
agn (M.eA N a.2 2 b) λe=>aa (.inr (e.1,e.2))
else(if(ah (a.1=3))then
agn (M.eA N a.2 3 b) λf=>aa (.inr (f.1,f.2))
else(if(ah (a.1=4))then
agn (M.eA N a.2 4 b) λg=>aa (.inr (g.1,g.2))
else(if(ah (a.1=5))then
agn (M.eA N a.2 5 b) λh=>aa (.inr (h.1,h.2))
else(if(ah (a.1=6))then
agn (M.qM N a.2 b) λi=>aa (.inr (i.1,i.2))
else(if(ah (a.1=7))then
agn (M.jn N a.2 b.2.2.1 b) λj=>aa (.inr (j.1,j.2))
else(if(ah (a.1=8))then
agn (M.jn N a.2 b.2.2.2.1 b) λk=>aa (.inr (k.1,k.2))
else(if(ah (a.1=9))then
aa (.inr ((5,0),0))
else
agn (if(ah (a.1=33))then
aa (ah (a.1=33))
else
aa (ah (a.1=34))) λo=>(if o then
agn (idx c 0) λp=>agn (M.pG N a p b) λl=>aa (.inr (l.1,l.2))
else
agn (if(ah (a.1=35))then
aa (ah (a.1=35))
else(if(ah (a.1=36))then
aa (ah (a.1=36))
else(if(ah (a.1=37))then
aa (ah (a.1=37))
else(if(ah (a.1=38))then
aa (ah (a.1=38))
else
aa (ah (a.1=39)))))) λq=>(if q then
agn (M.oW N a b) λm=>aa (.inr (m.1,m.2))
else
agn (if(ah (a.1=14))then
aa (ah (a.1=14))
else(if(ah (a.1=15))then
aa (ah (a.1=15))
else
aa (ah (a.1=16)))) λr=>(if r then
agn (M.mg N a.2) λs=>(if(!s)then
aa (.inr ((0,0),3))
else
aa (.inl ()))
else
aa (.inl ())))))))))))))) λt=>agn (M.oX N a.1 c) λn=>(if(!n.2)then
aa ((0,0),8)
else
aa (n.1,0))
def XZ:Fo 317 (.i1 [.g az, .l (.slice az), .g bO]) (.i1 [.g az, .l ay]) (u3 (M.qN N)):=fz N [XT N,XU N,SV N,XV N,XW N,SX N,XY N] [O,T,O,E 96,O,O,O,O,O,O,O,O,O,O,O,O,O,O,O,O,O,O,R ⟨[(83, .l .bool)],[],[],384⟩,X,O,R ⟨[(94, .l .bool)],[],[],384⟩,X,O,B 105 384] Tryz.func317
def M.tW(c:List az.den)(g:bO.den):Option (az.den×Int×Int):=
agn (M.eG N c) λd=>(if(!ah (d.2.1=0))then
aa ((0,0),d.1,d.2.1)
else
gm (J:=List az.den) (R:=az.den×Int×Int) (Loop (S:=Int×List az.den) (X:=(List az.den)⊕(az.den×Int×Int)) (λa=>(if(ah (a.1<(c.length:Int)))then
agn (idx c a.1) λb=>agn (if(!ah (b.2=0))then
agn (M.ie N b.1) λh=>aa (!h)
else
aa ag) λi=>(if i then
aa (.inr (.inr ((0,0),a.1,2)))
else
agn (M.dV N b.1) λf=>agn (gK a.2 (agp.wrap ((a.2.length:Int)-f)) (a.2.length:Int)) λj=>agn (M.qN N b j g) λe=>(if(!ah (e.2=0))then
aa (.inr (.inr ((0,0),a.1,e.2)))
else
agn (gK a.2 0 (agp.wrap ((a.2.length:Int)-f))) λk=>agn (cr k ([e.1]:List az.den)) λl=>aa (.inl (agp.wrap (a.1+1),l))))
else
aa (.inr (.inl a.2)))) N (0,([]:List az.den))) λm=>agn (idx m 0) λn=>aa (n,0,0))
def X0:Fo 285 (.i1 [.l (.slice az), .g bO]) (.i1 [.g az, .l ay, .l ay]) (u2 (M.tW N)):=fz N [W76 N,Kt N,SG N,XZ N] [O,O,O,O,J ⟨[(10, .val ag (.own 256))],[(256, .own 74 az)],[],257⟩,O,T,P ⟨[(10, .val ag (.own 304)),(29, .l ay)],[(304, .own 74 az)],[],305⟩,O,O,T,T,O,T,B 42 417] Tryz.func285
def M.nk(b:List az.den)(c:bO.den)(d:az.den):Option Int:=
agn (M.tW N b c) λa=>(if(!ah (a.2.2=0))then
aa a.2.2
else(if(!(nz az a.1 d))then
aa 8
else
aa 0))
def X1:Fo 232 (.i1 [.l (.slice az), .g bO, .g az]) (.i1 [.l ay]) (u3 (M.nk N)):=fz N [X0 N] [] Tryz.func232
def M.lP(N:Nat)(b:dD.den)(a:dD.den):Option (Bool×dD.den):=
aa (ah (b.1=a.1),a)
def PX:Fo 230 (.j1 [.g dD, .ptr 0 [] 0] [.box 113 (.leaf dD)] 1) (.j1 [.l .bool] [.box 113 (.leaf dD)] 2) (u2 (M.lP N)):=fz N [] [] Tryz.func230
def M.cn(c:List dD.den)(d:dD.den):Option (Int×dD.den):=
Loop (S:=Int×dD.den) (X:=Int×dD.den) (λa=>(if(ah (a.1<(c.length:Int)))then
agn (idx c a.1) λe=>agn (M.lP N e a.2) λb=>(if b.1 then
aa (.inr (a.1,b.2))
else
aa (.inl (agp.wrap (a.1+1),b.2)))
else
aa (.inr ((-1),a.2)))) N (0,d)
def PY:Fo 283 (.j1 [.l (.slice dD), .fn 230 [(0,[],0)]] [.box 113 (.leaf dD)] 1) (.j1 [.l ay] [.box 113 (.leaf dD)] 2) (u2 (M.cn N)):=fz N [PX N] [O,T,O,T,P ⟨[(8, .l ay)],[(0, .box 113 (.leaf dD))],[],66⟩] Tryz.func283
def M.bV(b:List dD.den)(c:dD.den):Option (Bool×dD.den):=
agn (M.cn N b c) λa=>aa (ah (0<=a.1),a.2)
def PZ:Fo 229 (.j1 [.l (.slice dD), .fn 230 [(0,[],0)]] [.box 113 (.leaf dD)] 1) (.j1 [.l .bool] [.box 113 (.leaf dD)] 2) (u2 (M.bV N)):=fz N [PY N] [] Tryz.func229
def M.qO(b:bo.den)(d:Int)(f:bO.den):Option Int:=
agn (idx b.2.2.2.2 d) λe=>agn (agn (gK b.2.2.2.2 0 d) λg=>Loop (S:=Int×Int) (X:=Int) (λc=>(if(ah (c.2<(g.length:Int)))then
agn (agn (idx g c.2) λi=>(if(ah (i.2.1=e.2.1))then
aa (agp.wrap (c.1+1))
else
aa c.1):Option Int) λj=>aa (.inl (j,agp.wrap (c.2+1)))
else
aa (.inr c.1))) N (0,0):Option Int) λk=>agn (M.c4 N e.1) λl=>(if(!l)then
aa 2
else
agn (gK b.2.2.2.2 0 d) λm=>agn (M.bV N m e) λa=>(if a.1 then
aa 7
else
agn (if(ah (a.2.2.1<0))then
aa af
else
aa (ah ((b.2.2.2.1.length:Int)<=a.2.2.1))) λn=>(if n then
aa 6
else
agn (if(!ah (a.2.2.2.1=(-1)))then(if(ah (a.2.2.2.1<0))then
aa af
else(if(ah (d<=a.2.2.2.1))then
aa af
else
agn (idx b.2.2.2.2 a.2.2.2.1) λo=>aa (!ah (o.2.1=a.2.2.1))))
else
aa ag) λp=>(if p then
aa 9
else
agn (if(ah (a.2.2.2.2.1<0))then
aa af
else
aa (ah (9<a.2.2.2.2.1))) λq=>(if q then
aa 3
else
agn (if(ah (a.2.2.2.2.2.1.1<0))then
aa af
else(if(ah (a.2.2.2.2.2.1.2<=a.2.2.2.2.2.1.1))then
aa af
else
aa (ah (109573<a.2.2.2.2.2.1.2)))) λr=>(if r then
aa 3
else(if(ah (8<=k))then
aa 4
else
agn (M.oV N a.2.2.2.2.2.2.2.2) λs=>(if(!s)then
aa 2
else
gm (J:=Unit) (R:=Int) ((if(ah (0<(a.2.2.2.2.2.2.1.length:Int)))then
agn (M.nk N a.2.2.2.2.2.2.1 f (1,0)) λh=>(if(!ah (h=0))then
aa (.inr h)
else
aa (.inl ()))
else
aa (.inl ()))) λv=>agn (idx b.2.2.2.1 a.2.2.1) λt=>agn (M.nk N a.2.2.2.2.2.2.2.1 f t.2) λu=>aa u))))))))
def X2:Fo 159 (.i1 [.g bo, .l ay, .g bO]) (.i1 [.l ay]) (u3 (M.qO N)):=fz N [SU N,PZ N,XS N,X1 N] [O,O,O,R ⟨[(8, .l ay)],[],[],176⟩,O,T,P ⟨[(8, .l ay),(22, .l ay)],[],[],272⟩,O,O,T,R ⟨[(8, .l ay)],[],[],288⟩,X,X,X,X,T,T,O,O,O,O,R ⟨[(46, .l .bool)],[],[],368⟩,X,O,R ⟨[(58, .l .bool)],[],[],368⟩,X,O,R ⟨[(85, .l .bool)],[],[],368⟩,X,O,B 94 368,X,E 496] Tryz.func159
def M.lg(b:List Int)(c:Int):Option Int:=
Loop (S:=Int) (X:=Int) (λa=>(if(ah (a<(b.length:Int)))then
agn (idx b a) λd=>(if(ah (c=d))then
aa (.inr a)
else
aa (.inl (agp.wrap (a+1))))
else
aa (.inr (-1)))) N 0
def X3:Fo 233 (.i1 [.l (.slice ay), .l ay]) (.i1 [.l ay]) (u2 (M.lg N)):=fz N [] [O,T,O,T,L 8 64] Tryz.func233
def M.jG(a:List Int)(b:Int):Option Bool:=
agn (M.lg N a b) λc=>aa (ah (0<=c))
def X4:Fo 160 (.i1 [.l (.slice ay), .l ay]) (.i1 [.l .bool]) (u2 (M.jG N)):=fz N [X3 N] [] Tryz.func160
def M.iX(N:Nat)(a:List Int):Option (List Int):=FB a
def X5:nP:=⟨.w1 3 ay, .j1 [] [.own 3 ay] 2,M.iX N⟩
def S0(N:Nat):fL Tryz.prog 236 (X5 N):=M0 ⟨_,Tryz.func236,by kernel_rfl,by kernel_rfl⟩ Tryz.slices_Sort_int Tryz.slices_Sort_int_none
def M.gr(N:Nat)(a:List Int):Option (List Int):=r3 a
def X6:nP:=⟨.w1 3 ay,⟨[(0, .val ag (.own 1))],[(1, .own 3 ay)],[],2⟩,M.gr N⟩
def S3(N:Nat):fL Tryz.prog 237 (X6 N):=D9 ⟨_,Tryz.func237,by kernel_rfl,by kernel_rfl⟩ Tryz.slices_Compact_int Tryz.slices_Compact_int_empty
def M.iI(a:List Int):Option (List Int):=
agn (M.iX N a) λb=>agn (M.gr N b) λc=>aa c
def P0:Fo 286 (.w1 3 ay) ⟨[(0, .val ag (.own 1))],[(1, .own 3 ay)],[],2⟩ (M.iI N):=fz N [S0 N,S3 N] [] Tryz.func286
def M.lI(e:List az.den):Option ((List Int)×(List Int)×List Int):=
agn (Loop (S:=Int×(List Int)×(List Int)×List Int) (X:=(List Int)×(List Int)×List Int) (λa=>(if(ah (a.1<(e.length:Int)))then
agn (idx e a.1) λb=>agn ((if(ah (b.1=7))then
agn (cr a.2.1 ([b.2]:List Int)) λf=>aa (f,a.2.2.1,a.2.2.2)
else(if(ah (b.1=8))then
agn (cr a.2.2.1 ([b.2]:List Int)) λg=>aa (a.2.1,g,a.2.2.2)
else
agn (if(ah (b.1=36))then
aa (ah (b.1=36))
else(if(ah (b.1=37))then
aa (ah (b.1=37))
else(if(ah (b.1=38))then
aa (ah (b.1=38))
else
aa (ah (b.1=39))))) λh=>(if h then
agn (cr a.2.2.2 ([b.2]:List Int)) λi=>aa (a.2.1,a.2.2.1,i)
else
aa (a.2.1,a.2.2.1,a.2.2.2)))):Option ((List Int)×(List Int)×List Int)) λc=>aa (.inl (agp.wrap (a.1+1),c.1,c.2.1,c.2.2))
else
aa (.inr (a.2.1,a.2.2.1,a.2.2.2)))) N (0,([]:List Int),([]:List Int),([]:List Int)):Option ((List Int)×(List Int)×List Int)) λd=>agn (M.iI N d.1) λj=>agn (M.iI N d.2.1) λk=>agn (M.iI N d.2.2) λl=>aa (j,k,l)
def X7:Fo 235 (.i1 [.l (.slice az)]) (.j1 [.val ag (.own 0), .val ag (.own 1), .val ag (.own 2)] [.own 3 ay, .own 3 ay, .own 3 ay] 3) (M.lI N):=fz N [P0 N] [O,O,R ⟨[(5, .val ag (.own 96)),(6, .val ag (.own 97)),(7, .val ag (.own 98))],[(96, .own 3 ay),(97, .own 3 ay),(98, .own 3 ay)],[],99⟩,O,T,P ⟨[(5, .val ag (.own 144)),(6, .val ag (.own 145)),(7, .val ag (.own 146)),(12, .l ay)],[(144, .own 3 ay),(145, .own 3 ay),(146, .own 3 ay)],[],147⟩,O,O,T,T,O,O,R ⟨[(5, .val ag (.own 259)),(6, .val ag (.own 260)),(7, .val ag (.own 261))],[(259, .own 3 ay),(260, .own 3 ay),(261, .own 3 ay)],[144,145,146],262⟩,O,O,O,O,B 32 323] Tryz.func235
def M.ju(e:dD.den)(f:Int):Option (List Int):=
agn (M.lI N e.2.2.2.2.2.1) λg=>agn (M.lI N e.2.2.2.2.2.2.1) λh=>agn (Loop (S:=Int×List Int) (X:=List Int) (λa=>(if(ah (a.1<(g.2.1.length:Int)))then
agn (agn (idx g.2.1 a.1) λc=>agn (if(ah (0<=c))then
aa (ah (c<f))
else
aa ag) λi=>(if i then
agn (cr a.2 ([c]:List Int)) λj=>aa j
else
aa a.2):Option (List Int)) λk=>aa (.inl (agp.wrap (a.1+1),k))
else
aa (.inr a.2))) N (0,([]:List Int)):Option (List Int)) λl=>Loop (S:=Int×List Int) (X:=List Int) (λb=>(if(ah (b.1<(h.2.1.length:Int)))then
agn (agn (idx h.2.1 b.1) λd=>agn (if(ah (0<=d))then
aa (ah (d<f))
else
aa ag) λm=>(if m then
agn (cr b.2 ([d]:List Int)) λn=>aa n
else
aa b.2):Option (List Int)) λo=>aa (.inl (agp.wrap (b.1+1),o))
else
aa (.inr b.2))) N (0,l)
def S4:Fo 162 (.i1 [.g dD, .l ay]) (.w1 3 ay) (u2 (M.ju N)):=fz N [X7 N] [O,O,O,O,R ⟨[(5, .val ag (.own 368))],[(368, .own 3 ay)],[],369⟩,O,T,P ⟨[(5, .val ag (.own 416)),(32, .l ay)],[(416, .own 3 ay)],[],417⟩,O,O,T,R ⟨[(5, .val ag (.own 433))],[(433, .own 3 ay)],[416],434⟩,O,B 42 481,X,X,X,T,O,T,P ⟨[(5, .val ag (.own 417)),(50, .l ay)],[(417, .own 3 ay)],[368],418⟩,O,O,T,R ⟨[(5, .val ag (.own 434))],[(434, .own 3 ay)],[417],435⟩,O,B 60 482] Tryz.func162
def M.jW(a:List Int):Option (List Int):=
agn (M.iX N a) λb=>agn (M.gr N b) λc=>aa c
def Kv:Fo 163 (.w1 3 ay) ⟨[(0, .val ag (.own 1))],[(1, .own 3 ay)],[],2⟩ (M.jW N):=fz N [S0 N,S3 N] [] Tryz.func163
def M.pH(d:bo.den):Option (List (List Int)):=
agn (og (d.2.2.2.1.length:Int) ([]:List Int)) λf=>agn (Loop (S:=Int×List (List Int)) (X:=List (List Int)) (λb=>(if(ah (b.1<(d.2.2.2.2.length:Int)))then
agn (agn (idx d.2.2.2.2 b.1) λc=>agn (if(ah (0<=c.2.1))then
aa (ah (c.2.1<(b.2.length:Int)))
else
aa ag) λg=>(if g then
agn (idx b.2 c.2.1) λn=>agn (idx b.2 c.2.1) λh=>agn (M.ju N c (b.2.length:Int)) λi=>agn (cr h i) λj=>agn (idx b.2 c.2.1) λo=>(if ah (c.2.1=c.2.1)then
agn (idx b.2 c.2.1) λp=>aa (sU b.2 c.2.1 (λq=>j))
else ae)
else
aa b.2):Option (List (List Int))) λk=>aa (.inl (agp.wrap (b.1+1),k))
else
aa (.inr b.2))) N (0,f):Option (List (List Int))) λe=>Loop (S:=Int×List (List Int)) (X:=List (List Int)) (λa=>(if(ah (a.1<(e.length:Int)))then
agn (idx a.2 a.1) λr=>agn (idx a.2 a.1) λl=>agn (M.jW N l) λm=>agn (idx a.2 a.1) λs=>(if ah (a.1=a.1)then
agn (idx a.2 a.1) λt=>aa (.inl (agp.wrap (a.1+1),sU a.2 a.1 (λu=>m)))
else ae)
else
aa (.inr a.2))) N (0,e)
def S95:nP:=⟨.i1 [.g bo], .j1 [.val ag (.own 0)] [.deep 23 (.sl 3 (.leaf ay))] 1,M.pH N⟩
def W95(N:Nat):fL Tryz.prog 95 (S95 N):=fw (en [ck (S4 N),ck (Kv N)] af ag) (N:=N) (.o (.o (.meet ⟨[],[(80, .deep 23 (.sl 3 (.leaf ay)))],[],113⟩ (.o (.two (.loop ⟨[(15, .l ay)],[(80, .deep 23 (.sl 3 (.leaf ay)))],[],177⟩ (.o (.o (.two (.meet ⟨[],[(80, .deep 23 (.sl 3 (.leaf ay)))],[],194⟩ (.o (.meet ⟨[(28, .l .bool)],[],[],257⟩ .nil .nil)) .nil) .nil)))) .nil)) (.two (.o (.two (.loop ⟨[(46, .l ay)],[(80, .deep 23 (.sl 3 (.leaf ay)))],[],162⟩ .nil) .nil)) .nil)))) Tryz.func95 (by kernel_rfl) λx=>by kernel_rfl
def M.r4(e:List (List Int))(i:Int):Option (List Int):=
agn (og (e.length:Int) ag) λj=>agn (Loop (S:=(List Bool)×List Int) (X:=List Bool) (λc=>(if(ah (0<(c.2.length:Int)))then
agn (idx c.2 0) λk=>agn (gK c.2 1 (c.2.length:Int)) λl=>agn (idx e k) λf=>Loop (S:=Int×(List Bool)×List Int) (X:=((List Bool)×List Int)⊕(List Bool)) (λa=>(if(ah (a.1<(f.length:Int)))then
agn (agn (idx f a.1) λd=>agn (idx a.2.1 d) λm=>(if(!m)then
agn (idx a.2.1 d) λr=>agn (cr a.2.2 ([d]:List Int)) λn=>aa (bG a.2.1 d af,n)
else
aa (a.2.1,a.2.2)):Option ((List Bool)×List Int)) λg=>aa (.inl (agp.wrap (a.1+1),g.1,g.2))
else
aa (.inr (.inl (a.2.1,a.2.2))))) N (0,c.1,l)
else
aa (.inr c.1))) N (j,([i]:List Int)):Option (List Bool)) λh=>Loop (S:=Int×List Int) (X:=List Int) (λb=>(if(ah (b.1<(h.length:Int)))then
agn (agn (idx h b.1) λo=>(if o then
agn (cr b.2 ([b.1]:List Int)) λp=>aa p
else
aa b.2):Option (List Int)) λq=>aa (.inl (agp.wrap (b.1+1),q))
else
aa (.inr b.2))) N (0,([]:List Int))
def X8:nP:=⟨.i1 [.l (.slice (.slice ay)), .l ay], .w1 3 ay,u2 (M.r4 N)⟩
def X9(N:Nat):fL Tryz.prog 234 (X8 N):=fw (en [] ag af) (N:=N) (.o (.o (.o (.meet ⟨[],[(48, .own 4 .bool)],[96],129⟩ (.two (.loop ⟨[(6, .val ag (.own 128))],[(48, .own 4 .bool),(128, .own 3 ay)],[96],130⟩ (.o (.two (.o (.o (.o (.two (.loop ⟨[(6, .val ag (.own 386)),(31, .l ay)],[(48, .own 4 .bool),(386, .own 3 ay)],[258],388⟩ (.o (.o (.two (.meet ⟨[(6, .val ag (.own 404))],[(48, .own 4 .bool),(404, .own 3 ay)],[386],406⟩ .nil .nil) .nil)))) .nil)))) .nil))) .nil) (.o (.two (.o (.two (.loop ⟨[(10, .val ag (.own 193)),(50, .l ay)],[(193, .own 3 ay)],[],194⟩ (.o (.o (.two (.meet ⟨[(10, .val ag (.own 210))],[(210, .own 3 ay)],[193],211⟩ .nil .nil) .nil)))) .nil)) .nil)))))) Tryz.func234 (by kernel_rfl) λx=>by kernel_rfl
def M.oY(b:bo.den)(a:Int):Option (List Int):=
agn (if(ah (a<0))then
aa af
else
aa (ah ((b.2.2.2.1.length:Int)<=a))) λc=>(if c then
aa ([]:List Int)
else
agn (M.pH N b) λd=>agn (M.r4 N d a) λe=>aa e)
def Ya:Fo 161 (.i1 [.g bo, .l ay]) (.w1 3 ay) (u2 (M.oY N)):=fz N [W95 N,X9 N] [O,T,B 13 32] Tryz.func161
def M.lj(N:Nat)(b:bo.den)(a:bo.den):Option (Bool×bo.den):=
aa (ah (b.1=a.1),a)
def P1:Fo 156 (.j1 [.g bo, .ptr 0 [] 0] [.box 68 (.leaf bo)] 1) (.j1 [.l .bool] [.box 68 (.leaf bo)] 2) (u2 (M.lj N)):=fz N [] [] Tryz.func156
def M.b7(c:List bo.den)(d:bo.den):Option (Int×bo.den):=
Loop (S:=Int×bo.den) (X:=Int×bo.den) (λa=>(if(ah (a.1<(c.length:Int)))then
agn (idx c a.1) λe=>agn (M.lj N e a.2) λb=>(if b.1 then
aa (.inr (a.1,b.2))
else
aa (.inl (agp.wrap (a.1+1),b.2)))
else
aa (.inr ((-1),a.2)))) N (0,d)
def P2:Fo 225 (.j1 [.l (.slice bo), .fn 156 [(0,[],0)]] [.box 68 (.leaf bo)] 1) (.j1 [.l ay] [.box 68 (.leaf bo)] 2) (u2 (M.b7 N)):=fz N [P1 N] [O,T,O,T,P ⟨[(8, .l ay)],[(0, .box 68 (.leaf bo))],[],66⟩] Tryz.func225
def M.bR(b:List bo.den)(c:bo.den):Option (Bool×bo.den):=
agn (M.b7 N b c) λa=>aa (ah (0<=a.1),a.2)
def P3:Fo 155 (.j1 [.l (.slice bo), .fn 156 [(0,[],0)]] [.box 68 (.leaf bo)] 1) (.j1 [.l .bool] [.box 68 (.leaf bo)] 2) (u2 (M.bR N)):=fz N [P2 N] [] Tryz.func155
def M.pJ(b:jc.den)(h:Int):Option (Int×Int):=
agn (idx b.2.2 h) λd=>agn (gK b.2.2 0 h) λj=>agn (agn (M.mN N b.1 d.1) λo=>(if o then
aa (af,d)
else
agn (M.ow N b.2.1 d.1) λp=>(if p then
aa (af,d)
else
agn (M.bR N j d) λk=>aa (k.1,k.2))):Option (Bool×bo.den)) λa=>agn (M.c4 N a.2.1) λq=>(if(!q)then
aa (2,0)
else(if a.1 then
aa (7,0)
else
agn (if(!ah (a.2.2.1=(-1)))then(if(ah (a.2.2.1<0))then
aa af
else(if(ah (h<=a.2.2.1))then
aa af
else
agn (idx j a.2.2.1) λr=>aa (!ah (r.2.1=(-1)))))
else
aa ag) λs=>(if s then
aa (6,0)
else(if(ah (12<(a.2.2.2.1.length:Int)))then
aa (4,112)
else(if(ah (12<(a.2.2.2.2.1.length:Int)))then
aa (4,212)
else
gm (J:=Unit) (R:=Int×Int) (Loop (S:=Int) (X:=Unit⊕(Int×Int)) (λe=>(if(ah (e<(a.2.2.2.1.length:Int)))then
agn (idx a.2.2.2.1 e) λt=>agn (gK a.2.2.2.1 0 e) λu=>agn (M.mf N b t u ([]:List bI.den)) λl=>(if(!ah (l=0))then
aa (.inr (.inr (l,agp.wrap (100+e))))
else
aa (.inl (agp.wrap (e+1))))
else
aa (.inr (.inl ())))) N 0) λz=>gm (J:=Unit) (R:=Int×Int) (Loop (S:=Int) (X:=Unit⊕(Int×Int)) (λf=>(if(ah (f<(a.2.2.2.2.1.length:Int)))then
agn (idx a.2.2.2.2.1 f) λv=>agn (gK a.2.2.2.2.1 0 f) λw=>agn (M.mf N b v a.2.2.2.1 w) λm=>(if(!ah (m=0))then
aa (.inr (.inr (m,agp.wrap (200+f))))
else
aa (.inl (agp.wrap (f+1))))
else
aa (.inr (.inl ())))) N 0) λA=>agn (M.lO N b h) λc=>gm (J:=Unit) (R:=Int×Int) (Loop (S:=Int) (X:=Unit⊕(Int×Int)) (λi=>(if(ah (i<(a.2.2.2.2.2.length:Int)))then
agn (M.qO N a.2 i (c.1,(c.2.1,(c.2.2.2.1,(c.2.2.2.2.1,(c.2.2.2.2.2,c.2.2.1)))))) λn=>(if(!ah (n=0))then
aa (.inr (.inr (n,agp.wrap (300+i))))
else
aa (.inl (agp.wrap (i+1))))
else
aa (.inr (.inl ())))) N 0) λC=>Loop (S:=Int) (X:=Int×Int) (λg=>(if(ah (g<(a.2.2.2.2.1.length:Int)))then
agn (M.oY N a.2 g) λx=>agn (M.jG N x g) λy=>(if y then
aa (.inr (9,agp.wrap (200+g)))
else
aa (.inl (agp.wrap (g+1))))
else
aa (.inr (0,0)))) N 0)))))
def W93:Fo 93 (.i1 [.g jc, .l ay]) (.i1 [.l ay, .l ay]) (u2 (M.pJ N)):=fz N [SU N,XG N,W92 N,P3 N,XN N,XP N,X2 N,X4 N,Ya N] [O,O,O,R ⟨[(8, .l .bool)],[(128, .box 68 (.leaf bo))],[],241⟩,X,T,T,O,O,O,O,B 52 353,X,E 513,O,T,L 89 577,X,X,E 513,O,T,L 110 577,X,X,O,E 593,O,T,L 136 657,X,X,T,O,T,L 152 657] Tryz.func93
def M.oZ(b:jc.den):Option (bg.den):=
(if(ah (4<(b.2.2.length:Int)))then
aa (4,(3,(4,0)))
else
gm (J:=Unit) (R:=bg.den) (Loop (S:=Int) (X:=Unit⊕(bg.den)) (λa=>(if(ah (a<(b.2.2.length:Int)))then
agn (M.pJ N b a) λc=>(if(!ah (c.1=0))then
aa (.inr (.inr (c.1,(3,(a,c.2)))))
else
aa (.inl (agp.wrap (a+1))))
else
aa (.inr (.inl ())))) N 0) λd=>aa (0,(0,(0,0))))
def W57:Fo 57 (.i1 [.g jc]) (.i1 [.g bg]) (M.oZ N):=fz N [W93 N] [O,O,E 96,O,T,L 14 160] Tryz.func57
def M.jX(a:jc.den):Option (bg.den):=
agn (M.pD N a) λb=>(if(!ah (b.1=0))then
aa b
else
agn (M.oU N a) λc=>(if(!ah (c.1=0))then
aa c
else
agn (M.oZ N a) λd=>aa d))
def W28:Fo 28 (.i1 [.g jc]) (.i1 [.g bg]) (M.jX N):=fz N [W55 N,W56 N,W57 N] [] Tryz.func28
def M.iq(g:jc.den)(b:List aA.den)(c:List bI.den):Option (Int×Int):=
(if(ah ((b.length:Int)<(c.length:Int)))then
aa ((b.length:Int),5)
else(if(ah ((c.length:Int)<(b.length:Int)))then
aa ((c.length:Int),4)
else
Loop (S:=Int) (X:=Int×Int) (λa=>(if(ah (a<(b.length:Int)))then
agn (idx b a) λd=>agn (idx c a) λe=>agn (if(!ah (d.1=e.2.1))then
aa af
else
aa (!ah (d.2.1=e.2.2))) λh=>(if h then
aa (.inr (a,8))
else
agn (M.jT N e.2 g.1) λf=>agn (if(ah (d.2.2<f.1))then
aa af
else
aa (ah (f.2<d.2.2))) λi=>(if i then
aa (.inr (a,3))
else
aa (.inl (agp.wrap (a+1)))))
else
aa (.inr (0,0)))) N 0))
def W58:Fo 58 (.i1 [.g jc, .l (.slice aA), .l (.slice bI)]) (.i1 [.l ay, .l ay]) (u3 (M.iq N)):=fz N [XJ N] [O,O,O,T,O,T,L 29 256,O,O,T,T,O,O,T,B 50 480,O,B 68 624] Tryz.func58
def M.kC(N:Nat)(a:jc.den)(c:Int):Option ((List bI.den)×Int):=
agn (idx a.2.2 c) λb=>agn (if(ah (b.2.1<0))then
aa af
else
aa (ah ((a.2.2.length:Int)<=b.2.1))) λd=>(if d then
aa (([]:List bI.den),0)
else
agn (idx a.2.2 b.2.1) λe=>aa (e.2.2.1,8))
def W59:Fo 59 (.i1 [.g jc, .l ay]) (.i1 [.l (.slice bI), .l ay]) (u2 (M.kC N)):=fz N [] [O,O,T,B 21 160] Tryz.func59
def M.mO(b:jc.den)(c:Int)(a:xZ.den):Option (Int×Int×Int):=
agn (if(ah (c<0))then
aa af
else
aa (ah ((b.2.2.length:Int)<=c))) λh=>(if h then
aa ((-1),(-1),6)
else
agn (if(ah (a.1<0))then
aa af
else
aa (ah (109572<a.1))) λi=>(if i then
aa ((-1),(-1),3)
else
agn (idx b.2.2 c) λj=>agn (M.iq N b a.2.1 j.2.2.1) λe=>(if(!ah (e.2=0))then
aa ((-1),e.1,e.2)
else
agn (M.kC N b c) λf=>(if(ah (f.2<(a.2.2.length:Int)))then
aa (f.2,(-1),4)
else
Loop (S:=Int) (X:=Int×Int×Int) (λd=>(if(ah (d<(a.2.2.length:Int)))then
agn (idx a.2.2 d) λk=>agn (M.iq N b k f.1) λg=>(if(!ah (g.2=0))then
aa (.inr (d,g.1,g.2))
else
aa (.inl (agp.wrap (d+1))))
else
aa (.inr (0,0,0)))) N 0))))
def W29:Fo 29 (.i1 [.g jc, .l ay, .g xZ]) (.i1 [.l ay, .l ay, .l ay]) (u3 (M.mO N)):=fz N [W58 N,W59 N] [O,T,B 25 80,T,B 33 80,O,O,O,T,O,T,L 66 624] Tryz.func29
def M.ee(a:dD.den)(b:Int)(c:Int):Option (Bool×Int×Int):=
agn (if(ah (a.2.1=b))then
agn (M.bM N a.2.2.2.2.1 c) λd=>aa d
else
aa ag) λe=>aa (e,b,c)
def S5:Fo 70 (.j1 [.g dD, .ptr 0 [] 0, .ptr 1 [] 0] [.box 3 (.leaf ay), .box 3 (.leaf ay)] 2) (.j1 [.l .bool] [.box 3 (.leaf ay), .box 3 (.leaf ay)] 4) (u3 (M.ee N)):=fz N [Xf N] [O,B 4 34] Tryz.func70
def M.ef(f:List dD.den)(g:Int)(h:Int):Option (Int×Int×(List Int)×List Int):=
agn (og (f.length:Int) 0) λi=>Loop (S:=Int×Int×Int×(List Int)×(List Int)×List Int) (X:=Int×Int×(List Int)×List Int) (λa=>(if(ah (a.1<(f.length:Int)))then
agn (agn (idx f a.1) λd=>agn (agn (if(ah (0<=d.2.2.1))then
aa (ah (d.2.2.1<a.1))
else
aa ag) λj=>(if j then
agn (idx a.2.2.2.1 d.2.2.1) λk=>aa k
else
aa (-1)):Option Int) λe=>agn (idx a.2.2.2.1 a.1) λn=>agn (M.ee N d a.2.1 a.2.2.1) λb=>(if b.1 then
agn (idx (bG a.2.2.2.1 a.1 e) a.1) λo=>agn (cr a.2.2.2.2.1 ([a.1]:List Int)) λl=>agn (cr a.2.2.2.2.2 ([e]:List Int)) λm=>aa (b.2.1,b.2.2,bG (bG a.2.2.2.1 a.1 e) a.1 (a.2.2.2.2.1.length:Int),l,m)
else
aa (b.2.1,b.2.2,bG a.2.2.2.1 a.1 e,a.2.2.2.2.1,a.2.2.2.2.2)):Option (Int×Int×(List Int)×(List Int)×List Int)) λc=>aa (.inl (agp.wrap (a.1+1),c.1,c.2.1,c.2.2.1,c.2.2.2.1,c.2.2.2.2))
else
aa (.inr (a.2.1,a.2.2.1,a.2.2.2.2.1,a.2.2.2.2.2)))) N (0,g,h,i,([]:List Int),([]:List Int))
def S6:Fo 69 (.j1 [.l (.slice dD), .fn 70 [(0,[],0),(1,[],0)]] [.box 3 (.leaf ay), .box 3 (.leaf ay)] 2) (.j1 [.val ag (.own 2), .val ag (.own 3)] [.box 3 (.leaf ay), .box 3 (.leaf ay), .own 3 ay, .own 3 ay] 6) (u3 (M.ef N)):=fz N [S5 N] [O,O,O,T,O,T,P ⟨[(6, .val ag (.own 178)),(7, .val ag (.own 179)),(17, .l ay)],[(0, .box 3 (.leaf ay)),(1, .box 3 (.leaf ay)),(98, .own 3 ay),(178, .own 3 ay),(179, .own 3 ay)],[],183⟩,O,O,T,R ⟨[(6, .val ag (.own 199)),(7, .val ag (.own 200))],[(0, .box 3 (.leaf ay)),(1, .box 3 (.leaf ay)),(98, .own 3 ay),(199, .own 3 ay),(200, .own 3 ay)],[178,179],204⟩,O,O,R ⟨[(11, .l ay)],[],[],311⟩,B 30 311] Tryz.func69
def M.iJ(c:bo.den)(d:Int)(e:Int):Option ((List Int)×(List Int)×List Int):=
agn (M.ef N c.2.2.2.2 d e) λb=>agn (Loop (S:=Int×List Int) (X:=List Int) (λa=>(if(ah (a.1<(b.2.2.1.length:Int)))then
agn (idx b.2.2.1 a.1) λf=>agn (idx c.2.2.2.2 f) λg=>agn (cr a.2 ([g.2.2.2.1]:List Int)) λh=>aa (.inl (agp.wrap (a.1+1),h))
else
aa (.inr a.2))) N (0,([]:List Int)):Option (List Int)) λi=>aa (b.2.2.1,b.2.2.2,i)
def W40:Fo 40 (.i1 [.g bo, .l ay, .l ay]) (.j1 [.val ag (.own 0), .val ag (.own 1), .val ag (.own 2)] [.own 3 ay, .own 3 ay, .own 3 ay] 3) (u3 (M.iJ N)):=fz N [S6 N] [O,O,O,R ⟨[(11, .val ag (.own 256))],[(256, .own 3 ay)],[],257⟩,O,T,P ⟨[(11, .val ag (.own 304)),(23, .l ay)],[(304, .own 3 ay)],[],305⟩] Tryz.func40
def M.bq(b:List az.den)(c:List az.den):Option Bool:=
(if(!ah ((b.length:Int)=(c.length:Int)))then
aa ag
else
Loop (S:=Int) (X:=Bool) (λa=>(if(ah (a<(b.length:Int)))then
agn (idx b a) λd=>agn (idx c a) λe=>(if(!(nz az d e))then
aa (.inr ag)
else
aa (.inl (agp.wrap (a+1))))
else
aa (.inr af))) N 0)
def W72:Fo 72 (.i1 [.l (.slice az), .l (.slice az)]) (.i1 [.l .bool]) (u2 (M.bq N)):=fz N [] [O,O,T,O,T,L 13 144] Tryz.func72
def M.dP(b:List (List az.den))(c:List az.den):Option Int:=
Loop (S:=Int) (X:=Int) (λa=>(if(ah (a<(b.length:Int)))then
agn (idx b a) λd=>agn (M.bq N d c) λe=>(if e then
aa (.inr a)
else
aa (.inl (agp.wrap (a+1))))
else
aa (.inr (-1)))) N 0
def W41:Fo 41 (.i1 [.l (.slice (.slice az)), .l (.slice az)]) (.i1 [.l ay]) (u2 (M.dP N)):=fz N [W72 N] [O,T,O,T,L 9 64] Tryz.func41
def M.br(N:Nat)(a:List az.den):Option (List az.den):=
(if agu (a).length 0 then
DO (aa ([]:List az.den))
(agn (cr ([]:List az.den) a) λb=>aa b)
else
agn (cr ([]:List az.den) a) λc=>aa c)
def W42:Fo 42 (.i1 [.l (.slice az)]) (.w1 79 az) (M.br N):=fz N [] [] Tryz.func42
def M.cP(b:List Int)(c:List Int):Option Int:=
(if(!ah ((b.length:Int)=(c.length:Int)))then
aa 2
else(if(ah (8<(b.length:Int)))then
aa 4
else
Loop (S:=Int) (X:=Int) (λa=>(if(ah (a<(b.length:Int)))then
agn (idx b a) λd=>agn (if(ah (d<(-1)))then
aa af
else
aa (ah (a<=d))) λe=>(if e then
aa (.inr 9)
else
agn (agn (idx c a) λf=>(if(ah (f<0))then
aa af
else
agn (idx c a) λg=>aa (ah (9<g))):Option Bool) λh=>(if h then
aa (.inr 3)
else
aa (.inl (agp.wrap (a+1)))))
else
aa (.inr 0))) N 0))
def Yb:Fo 113 (.i1 [.l (.slice ay), .l (.slice ay)]) (.i1 [.l ay]) (u2 (M.cP N)):=fz N [] [O,O,O,T,O,T,L 17 192,O,O,T,T,O,T,B 28 288,B 40 288] Tryz.func113
def M.dm(b:List Int)(c:Int):Option (List Int):=
Loop (S:=Int×List Int) (X:=List Int) (λa=>(if(ah (a.1<(b.length:Int)))then
agn (agn (idx b a.1) λd=>(if(ah (d=c))then
agn (cr a.2 ([a.1]:List Int)) λe=>aa e
else
aa a.2):Option (List Int)) λf=>aa (.inl (agp.wrap (a.1+1),f))
else
aa (.inr a.2))) N (0,([]:List Int))
def Yc:Fo 257 (.i1 [.l (.slice ay), .l ay]) (.w1 3 ay) (u2 (M.dm N)):=fz N [] [O,O,T,O,T,P ⟨[(5, .val ag (.own 80)),(10, .l ay)],[(80, .own 3 ay)],[],81⟩,O,O,T,R ⟨[(5, .val ag (.own 97))],[(97, .own 3 ay)],[80],98⟩] Tryz.func257
def M.dA(b:fM.den)(f:Int):Option (List Int):=
agn (M.dm N b.1 f) λe=>Loop (S:=Int×List Int) (X:=List Int) (λa=>(if(ah (a.1<(e.length:Int)))then
agn (agn (idx e a.1) λc=>agn (idx b.2.2 c) λg=>(if(ah (g=(-1)))then
aa a.2
else
agn (agn (if(ah (0<(a.2.length:Int)))then
agn (idx b.2.1 c) λh=>agn (idx a.2 0) λi=>agn (idx b.2.1 i) λj=>aa (ah (j<h))
else
aa ag) λk=>(if k then
agn (gK a.2 0 0) λl=>aa l
else
aa a.2):Option (List Int)) λd=>agn (if(ah ((d.length:Int)=0))then
aa af
else
agn (idx b.2.1 c) λm=>agn (idx d 0) λn=>agn (idx b.2.1 n) λo=>aa (ah (m=o))) λp=>(if p then
agn (cr d ([c]:List Int)) λq=>aa q
else
aa d)):Option (List Int)) λr=>aa (.inl (agp.wrap (a.1+1),r))
else
aa (.inr a.2))) N (0,([]:List Int))
def Yd:Fo 185 (.i1 [.g fM, .l ay]) (.w1 3 ay) (u2 (M.dA N)):=fz N [Yc N] [O,O,T,O,T,P ⟨[(5, .val ag (.own 144)),(13, .l ay)],[(144, .own 3 ay)],[],145⟩,O,O,T,R ⟨[(5, .val ag (.own 161))],[(161, .own 3 ay)],[144],162⟩,O,O,R ⟨[(5, .val ag (.own 305))],[(305, .own 3 ay)],[144],306⟩,B 40 305,B 60 306] Tryz.func185
def M.bN(b:fM.den)(c:Int):Option Int:=
agn (M.dA N b c) λa=>(if(ah ((a.length:Int)=0))then
aa (-1)
else(if(ah ((a.length:Int)=1))then
agn (idx a 0) λd=>agn (idx b.2.2 d) λe=>aa e
else
aa (-2)))
def S7:Fo 115 (.i1 [.g fM, .l ay]) (.i1 [.l ay]) (u2 (M.bN N)):=fz N [Yd N] [] Tryz.func115
def M.dQ(c:List Int)(d:List Int)(e:List Bool):Option (List Int):=
agn (og (c.length:Int) 0) λf=>Loop (S:=Int×List Int) (X:=List Int) (λa=>(if(ah (0<=a.1))then
agn (agn (M.bN N (c,(d,a.2)) a.1) λb=>agn (idx a.2 a.1) λk=>agn (agn (idx (bG a.2 a.1 b) a.1) λg=>(if(ah (g=(-1)))then
agn (idx e a.1) λh=>aa h
else
aa ag):Option Bool) λi=>(if i then
agn (idx (bG a.2 a.1 b) a.1) λl=>aa (bG (bG a.2 a.1 b) a.1 a.1)
else
aa (bG a.2 a.1 b)):Option (List Int)) λj=>aa (.inl (agp.wrap (a.1-1),j))
else
aa (.inr a.2))) N (agp.wrap ((c.length:Int)-1),f)
def Ye:Fo 114 (.i1 [.l (.slice ay), .l (.slice ay), .l (.slice .bool)]) (.w1 3 ay) (u3 (M.dQ N)):=fz N [S7 N] [O,O,T,O,T,P ⟨[(8, .l ay)],[(80, .own 3 ay)],[],209⟩,O,T,R ⟨[],[(80, .own 3 ay)],[],242⟩,O,B 40 369] Tryz.func114
def M.cH(a:List Int)(b:List Int)(c:List Bool):Option Int:=
agn (agn (M.cP N a b) λd=>(if(!ah (d=0))then
aa af
else
aa (!ah ((c.length:Int)=(a.length:Int)))):Option Bool) λe=>(if e then
aa (-1)
else
agn (M.dQ N a b c) λf=>agn (M.bN N (a,(b,f)) (-1)) λg=>aa g)
def W73:Fo 73 (.i1 [.l (.slice ay), .l (.slice ay), .l (.slice .bool)]) (.i1 [.l ay]) (u3 (M.cH N)):=fz N [Yb N,Ye N,S7 N] [O,T,B 17 16] Tryz.func73
def M.b8(d:List Int)(k:List Int)(l:List Int)(f:List Int)(m:Int):Option (List Int):=
agn (qC .i64 1 m) λn=>agn (og n 0) λg=>agn (og (d.length:Int) ag) λo=>Loop (S:=Int×(List Int)×List Bool) (X:=List Int) (λa=>(if(ah (a.1<(g.length:Int)))then
agn (agn (agn (Loop (S:=Int×List Bool) (X:=List Bool) (λb=>(if(ah (b.1<(f.length:Int)))then
agn (agn (idx f b.1) λh=>(if(ah (h<0))then
agn (idx b.2 b.1) λt=>aa (bG b.2 b.1 af)
else
agn (ur .i64 a.1 h) λp=>agn (idx b.2 b.1) λu=>aa (bG b.2 b.1 (ah ((aF .and .i64 p 1)=1)))):Option (List Bool)) λq=>aa (.inl (agp.wrap (b.1+1),q))
else
aa (.inr b.2))) N (0,a.2.2):Option (List Bool)) λe=>agn (M.cH N k l e) λc=>agn (if(ah (0<=c))then
aa (ah (c<(d.length:Int)))
else
aa ag) λr=>(if r then
agn (idx d c) λs=>agn (idx a.2.1 a.1) λv=>aa (bG a.2.1 a.1 s,e)
else
agn (idx a.2.1 a.1) λw=>aa (bG a.2.1 a.1 c,e)):Option ((List Int)×List Bool)) λi=>aa (i.1,i.2):Option ((List Int)×List Bool)) λj=>aa (.inl (agp.wrap (a.1+1),j.1,j.2))
else
aa (.inr a.2.1))) N (0,g,o)
def W43:Fo 43 (.i1 [.l (.slice ay), .l (.slice ay), .l (.slice ay), .l (.slice ay), .l ay]) (.w1 3 ay) (u5 (M.b8 N)):=fz N [W73 N] [O,O,O,T,O,T,P ⟨[(25, .l ay)],[(48, .own 3 ay),(112, .own 4 .bool)],[],194⟩,O,O,R ⟨[],[(48, .own 3 ay),(112, .own 4 .bool)],[],212⟩,R ⟨[],[(48, .own 3 ay),(112, .own 4 .bool)],[],212⟩,O,R ⟨[],[(112, .own 4 .bool)],[],243⟩,O,T,P ⟨[(30, .l ay)],[(112, .own 4 .bool)],[],291⟩,O,O,T,R ⟨[],[(112, .own 4 .bool)],[],308⟩,X,X,X,X,O,B 59 323] Tryz.func43
def M.gA(N:Nat)(a:az.den)(b:Int):Option Bool:=
aa (ah ((aF .and .i64 b a.1)=a.2))
def W45:Fo 45 (.i1 [.g az, .l ay]) (.i1 [.l .bool]) (u2 (M.gA N)):=fz N [] [] Tryz.func45
def M.gQ(N:Nat)(a:Int):Option Int:=
aa (if 8<(if a<0 then 0 else a)then 8 else(if a<0 then 0 else a))
def Yf:Fo 116 (.i1 [.l ay]) (.i1 [.l ay]) (M.gQ N):=fz N [] [] Tryz.func116
def M.gP(N:Nat)(a:Int):Option Int:=
aa (aF .and .i64 (agp.wrap (agr.wrap ((agr.wrap ((agr.wrap ((aF .and .u64 (agr.wrap ((bx .u64 (agr.wrap ((aF .and .u64 (bx .u64 (agr.wrap ((aF .and .u64 (bx .u64 a 1) 6148914691236517205)+(aF .and .u64 a 6148914691236517205))) 2) 3689348814741910323)+(aF .and .u64 (agr.wrap ((aF .and .u64 (bx .u64 a 1) 6148914691236517205)+(aF .and .u64 a 6148914691236517205))) 3689348814741910323))) 4)+(agr.wrap ((aF .and .u64 (bx .u64 (agr.wrap ((aF .and .u64 (bx .u64 a 1) 6148914691236517205)+(aF .and .u64 a 6148914691236517205))) 2) 3689348814741910323)+(aF .and .u64 (agr.wrap ((aF .and .u64 (bx .u64 a 1) 6148914691236517205)+(aF .and .u64 a 6148914691236517205))) 3689348814741910323))))) 1085102592571150095)+(bx .u64 (aF .and .u64 (agr.wrap ((bx .u64 (agr.wrap ((aF .and .u64 (bx .u64 (agr.wrap ((aF .and .u64 (bx .u64 a 1) 6148914691236517205)+(aF .and .u64 a 6148914691236517205))) 2) 3689348814741910323)+(aF .and .u64 (agr.wrap ((aF .and .u64 (bx .u64 a 1) 6148914691236517205)+(aF .and .u64 a 6148914691236517205))) 3689348814741910323))) 4)+(agr.wrap ((aF .and .u64 (bx .u64 (agr.wrap ((aF .and .u64 (bx .u64 a 1) 6148914691236517205)+(aF .and .u64 a 6148914691236517205))) 2) 3689348814741910323)+(aF .and .u64 (agr.wrap ((aF .and .u64 (bx .u64 a 1) 6148914691236517205)+(aF .and .u64 a 6148914691236517205))) 3689348814741910323))))) 1085102592571150095) 8)))+(bx .u64 (agr.wrap ((aF .and .u64 (agr.wrap ((bx .u64 (agr.wrap ((aF .and .u64 (bx .u64 (agr.wrap ((aF .and .u64 (bx .u64 a 1) 6148914691236517205)+(aF .and .u64 a 6148914691236517205))) 2) 3689348814741910323)+(aF .and .u64 (agr.wrap ((aF .and .u64 (bx .u64 a 1) 6148914691236517205)+(aF .and .u64 a 6148914691236517205))) 3689348814741910323))) 4)+(agr.wrap ((aF .and .u64 (bx .u64 (agr.wrap ((aF .and .u64 (bx .u64 a 1) 6148914691236517205)+(aF .and .u64 a 6148914691236517205))) 2) 3689348814741910323)+(aF .and .u64 (agr.wrap ((aF .and .u64 (bx .u64 a 1) 6148914691236517205)+(aF .and .u64 a 6148914691236517205))) 3689348814741910323))))) 1085102592571150095)+(bx .u64 (aF .and .u64 (agr.wrap ((bx .u64 (agr.wrap ((aF .and .u64 (bx .u64 (agr.wrap ((aF .and .u64 (bx .u64 a 1) 6148914691236517205)+(aF .and .u64 a 6148914691236517205))) 2) 3689348814741910323)+(aF .and .u64 (agr.wrap ((aF .and .u64 (bx .u64 a 1) 6148914691236517205)+(aF .and .u64 a 6148914691236517205))) 3689348814741910323))) 4)+(agr.wrap ((aF .and .u64 (bx .u64 (agr.wrap ((aF .and .u64 (bx .u64 a 1) 6148914691236517205)+(aF .and .u64 a 6148914691236517205))) 2) 3689348814741910323)+(aF .and .u64 (agr.wrap ((aF .and .u64 (bx .u64 a 1) 6148914691236517205)+(aF .and .u64 a 6148914691236517205))) 3689348814741910323))))) 1085102592571150095) 8))) 16)))+(bx .u64 (agr.wrap ((agr.wrap ((aF .and .u64 (agr.wrap ((bx .u64 (agr.wrap ((aF .and .u64 (bx .u64 (agr.wrap ((aF .and .u64 (bx .u64 a 1) 6148914691236517205)+(aF .and .u64 a 6148914691236517205))) 2) 3689348814741910323)+(aF .and .u64 (agr.wrap ((aF .and .u64 (bx .u64 a 1) 6148914691236517205)+(aF .and .u64 a 6148914691236517205))) 3689348814741910323))) 4)+(agr.wrap ((aF .and .u64 (bx .u64 (agr.wrap ((aF .and .u64 (bx .u64 a 1) 6148914691236517205)+(aF .and .u64 a 6148914691236517205))) 2) 3689348814741910323)+(aF .and .u64 (agr.wrap ((aF .and .u64 (bx .u64 a 1) 6148914691236517205)+(aF .and .u64 a 6148914691236517205))) 3689348814741910323))))) 1085102592571150095)+(bx .u64 (aF .and .u64 (agr.wrap ((bx .u64 (agr.wrap ((aF .and .u64 (bx .u64 (agr.wrap ((aF .and .u64 (bx .u64 a 1) 6148914691236517205)+(aF .and .u64 a 6148914691236517205))) 2) 3689348814741910323)+(aF .and .u64 (agr.wrap ((aF .and .u64 (bx .u64 a 1) 6148914691236517205)+(aF .and .u64 a 6148914691236517205))) 3689348814741910323))) 4)+(agr.wrap ((aF .and .u64 (bx .u64 (agr.wrap ((aF .and .u64 (bx .u64 a 1) 6148914691236517205)+(aF .and .u64 a 6148914691236517205))) 2) 3689348814741910323)+(aF .and .u64 (agr.wrap ((aF .and .u64 (bx .u64 a 1) 6148914691236517205)+(aF .and .u64 a 6148914691236517205))) 3689348814741910323))))) 1085102592571150095) 8)))+(bx .u64 (agr.wrap ((aF .and .u64 (agr.wrap ((bx .u64 (agr.wrap ((aF .and .u64 (bx .u64 (agr.wrap ((aF .and .u64 (bx .u64 a 1) 6148914691236517205)+(aF .and .u64 a 6148914691236517205))) 2) 3689348814741910323)+(aF .and .u64 (agr.wrap ((aF .and .u64 (bx .u64 a 1) 6148914691236517205)+(aF .and .u64 a 6148914691236517205))) 3689348814741910323))) 4)+(agr.wrap ((aF .and .u64 (bx .u64 (agr.wrap ((aF .and .u64 (bx .u64 a 1) 6148914691236517205)+(aF .and .u64 a 6148914691236517205))) 2) 3689348814741910323)+(aF .and .u64 (agr.wrap ((aF .and .u64 (bx .u64 a 1) 6148914691236517205)+(aF .and .u64 a 6148914691236517205))) 3689348814741910323))))) 1085102592571150095)+(bx .u64 (aF .and .u64 (agr.wrap ((bx .u64 (agr.wrap ((aF .and .u64 (bx .u64 (agr.wrap ((aF .and .u64 (bx .u64 a 1) 6148914691236517205)+(aF .and .u64 a 6148914691236517205))) 2) 3689348814741910323)+(aF .and .u64 (agr.wrap ((aF .and .u64 (bx .u64 a 1) 6148914691236517205)+(aF .and .u64 a 6148914691236517205))) 3689348814741910323))) 4)+(agr.wrap ((aF .and .u64 (bx .u64 (agr.wrap ((aF .and .u64 (bx .u64 a 1) 6148914691236517205)+(aF .and .u64 a 6148914691236517205))) 2) 3689348814741910323)+(aF .and .u64 (agr.wrap ((aF .and .u64 (bx .u64 a 1) 6148914691236517205)+(aF .and .u64 a 6148914691236517205))) 3689348814741910323))))) 1085102592571150095) 8))) 16))) 32)))) 127)
def Yg:Fo 262 (.i1 [.l (.int .u64)]) (.i1 [.l ay]) (M.gP N):=fz N [] [] Tryz.func262
def M.cM(a:Int):Option Int:=
agn (M.gP N a) λb=>aa b
def S8:Fo 191 (.i1 [.l (.int .u64)]) (.i1 [.l ay]) (M.cM N):=fz N [Yg N] [] Tryz.func191
def M.kT(a:az.den)(b:az.den):Option (az.den×Bool):=
agn (if(!ah (a.1=b.1))then
aa af
else
agn (M.cM N (agr.wrap (aF .xor .i64 a.2 b.2))) λc=>(if(!ah (c=1))then
aa af
else
aa (ah ((aF .and .i64 (aF .xor .i64 a.2 b.2) a.1)=0)))) λd=>(if d then
aa ((0,0),ag)
else
aa ((aF .andNot .i64 a.1 (aF .xor .i64 a.2 b.2),aF .andNot .i64 a.2 (aF .xor .i64 a.2 b.2)),af))
def Yh:Fo 186 (.i1 [.g az, .g az]) (.i1 [.g az, .l .bool]) (u2 (M.kT N)):=fz N [S8 N] [O,O,T,B 29 160] Tryz.func186
end
end
end Go.Proofs.YtfeahmiobbjklaaGreatDoor
