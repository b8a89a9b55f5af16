/- Joined texts: SL Model. -/
import Derived.Test.YtfeahmiobbjklaaGreatDoorU6
import Derived.Test.YtfeahmiobbjklaaGreatDoorProg
import Derived.Test.YtfeahmiobbjklaaGreatDoorU4
import Derived.Test.YtfeahmiobbjklaaGreatDoorU5
set_option linter.defProp false
open _root_.Bool renaming false->ag,true->af
open _root_.Option renaming none->ae,some->aa,bind->aqM
open _root_.Decidable renaming decide->ah
open _root_.Int renaming tdiv->aq1,tmod->aq3
open _root_.Go.IntKind renaming i64->aqO,u64->aqQ
open _root_.List renaming forall_mem_cons->ar6
open _root_.Nat renaming beq->aqV
namespace Go.Proofs.YtfeahmiobbjklaaGreatDoor
open Go Go.RowKit
set_option maxRecDepth 100000
set_option linter.unusedSimpArgs false
set_option linter.unusedVariables false
set_option linter.defProp false
section
open Go Go.RowKit Go.Shelf Go.Lib Go.Sort
def JH{g:Int->Int->Int->Int->Option Int}(hgi:hZ Tryz.prog 188 ⟨⟨[(0, .val af (.leaf qc)),(1, .val af (.leaf qc))],[],[],0⟩,⟨[(0, .val ag (.leaf az))],[],[],0⟩,λ(x:qc.den×qc.den)=>g x.1.1 x.1.2 x.2.1 x.2.2⟩):
 hZ Tryz.prog 187 ⟨⟨[(0, .val ag (.own 0)),(1, .fn 188 [])],[(0, .own 119 qc)],[],1⟩,⟨[],[(0, .own 119 qc)],[],2⟩,λx=>CP g x⟩:=by
 have eg:∀args w,(callFunc 188 args).run Tryz.prog w= .ok (.enter 188 args) w:=enters_of Tryz.func188 (by kernel_rfl) rfl;refine QV ⟨_,Tryz.func187,by kernel_rfl,by kernel_rfl⟩ hgi (λcf hO q7 off cap d w hC hH hb hs hT=>?_) (λw=>?_)
 .exact AnyQ.slices_SortFunc_total Tryz.Lp 2 Tryz.isAgg119 Tryz.sizeOf119 oY QT (λx v hv=>by simp[oY]at hv;rcases hv with rfl|rfl<;>rfl) cf hO 188 #[] q7 off cap d w eg hC hH hb hs hT
 .exact AnyF.slices_SortFunc_none Tryz.Lp ae 0 _ w
end
section
noncomputable section
open Tk
variable (N:Nat)
set_option maxRecDepth 100000
set_option linter.unusedVariables false
@[reducible] def aA:Row:= .pair az az
@[reducible] def aB:Row:= .pair az aA
@[reducible] def iW:Row:= .pair aA aB
@[reducible] def bj:Row:= .pair .str (.pair aA (.pair aA (.slice iW)))
@[reducible] def b8:Row:= .pair az (.pair (.slice aB) (.pair (.slice aB) (.pair (.slice (.slice aB)) (.pair (.slice aA) (.slice bj)))))
@[reducible] def bV:Row:= .pair (.slice aA) (.pair (.slice az) b8)
@[reducible] def aM:Row:= .pair aA az
@[reducible] def aU:Row:= .pair az (.pair (.slice (.slice aA)) (.pair (.slice az) (.slice aM)))
@[reducible] def di:Row:= .pair .str (.slice .str)
@[reducible] def bJ:Row:= .pair .str aA
@[reducible] def dX:Row:= .pair .str (.pair az (.pair az (.pair az (.pair aA (.pair (.slice aA) (.pair (.slice aA) .str))))))
@[reducible] def bn:Row:= .pair .str (.pair az (.pair (.slice bJ) (.pair (.slice bJ) (.slice dX))))
@[reducible] def cz:Row:= .pair (.slice di) (.pair (.slice bj) (.slice bn))
@[reducible] def aD:Row:= .pair az aB
@[reducible] def bu:Row:= .pair (.slice di) (.pair (.slice bj) (.pair (.slice aA) (.pair (.slice aA) (.pair (.slice aA) .bool))))
@[reducible] def ff:Row:= .pair az (.pair (.slice aB) (.slice (.slice aB)))
@[reducible] def iX:Row:= .pair (.slice az) (.pair (.slice az) (.slice az))
@[reducible] def fg:Row:= .pair bn (.pair (.slice az) (.pair (.slice aU) (.slice az)))
@[reducible] def aG:Row:= .pair (.slice aB) (.slice az)
@[reducible] def uj:Row:= .pair (.slice aB) (.pair (.slice az) (.slice aG))
@[reducible] def uS:Row:= .pair bn (.pair bn (.pair (.slice .bool) (.slice .bool)))
def Iw:TI Tryz.prog 3 az:=TI.mk (k:=1) (by kernel_rfl) rfl
def Ti4:TI Tryz.prog 4 .bool:=TI.mk (k:=1) (by kernel_rfl) rfl
def Ti9:TI Tryz.prog 9 .str:=TI.mk (k:=1) (by kernel_rfl) rfl
def aeG:TI Tryz.prog 22 (.slice (.slice aA)):=TI.mk (k:=1) (by kernel_rfl) rfl
def aeH:TI Tryz.prog 23 (.slice az):=TI.mk (k:=1) (by kernel_rfl) rfl
def aeI:TI Tryz.prog 24 (.slice aM):=TI.mk (k:=1) (by kernel_rfl) rfl
def aeJ:TI Tryz.prog 26 aU:=TI.mk (k:=4) (by kernel_rfl) rfl
def aeK:TI Tryz.prog 27 (.slice aB):=TI.mk (k:=1) (by kernel_rfl) rfl
def aeL:TI Tryz.prog 28 (.slice (.slice aB)):=TI.mk (k:=1) (by kernel_rfl) rfl
def aeM:TI Tryz.prog 29 (.slice aA):=TI.mk (k:=1) (by kernel_rfl) rfl
def aeN:TI Tryz.prog 30 (.slice bj):=TI.mk (k:=1) (by kernel_rfl) rfl
def aeO:TI Tryz.prog 32 b8:=TI.mk (k:=6) (by kernel_rfl) rfl
def Xu:TI Tryz.prog 36 az:=TI.mk (k:=1) (by kernel_rfl) rfl
def aeP:TI Tryz.prog 40 aB:=TI.mk (k:=3) (by kernel_rfl) rfl
def aeQ:TI Tryz.prog 43 (.slice aA):=TI.mk (k:=1) (by kernel_rfl) rfl
def aeR:TI Tryz.prog 45 (.slice di):=TI.mk (k:=1) (by kernel_rfl) rfl
def aeS:TI Tryz.prog 46 (.slice bn):=TI.mk (k:=1) (by kernel_rfl) rfl
def aeT:TI Tryz.prog 48 cz:=TI.mk (k:=3) (by kernel_rfl) rfl
def aeU:TI Tryz.prog 50 ff:=TI.mk (k:=3) (by kernel_rfl) rfl
def aeV:TI Tryz.prog 53 (.slice aG):=TI.mk (k:=1) (by kernel_rfl) rfl
def aeW:TI Tryz.prog 55 uj:=TI.mk (k:=3) (by kernel_rfl) rfl
def aeX:TI Tryz.prog 57 aD:=TI.mk (k:=4) (by kernel_rfl) rfl
def aeY:TI Tryz.prog 63 aG:=TI.mk (k:=2) (by kernel_rfl) rfl
def aeZ:TI Tryz.prog 65 (.slice bJ):=TI.mk (k:=1) (by kernel_rfl) rfl
def ae0:TI Tryz.prog 66 (.slice dX):=TI.mk (k:=1) (by kernel_rfl) rfl
def ae1:TI Tryz.prog 68 bn:=TI.mk (k:=5) (by kernel_rfl) rfl
def ae2:TI Tryz.prog 74 aA:=TI.mk (k:=2) (by kernel_rfl) rfl
def ae3:TI Tryz.prog 75 (.slice iW):=TI.mk (k:=1) (by kernel_rfl) rfl
def ae4:TI Tryz.prog 77 bj:=TI.mk (k:=6) (by kernel_rfl) rfl
def ae5:TI Tryz.prog 79 aA:=TI.mk (k:=2) (by kernel_rfl) rfl
def ae6:TI Tryz.prog 85 (.slice .str):=TI.mk (k:=1) (by kernel_rfl) rfl
def ae7:TI Tryz.prog 87 di:=TI.mk (k:=2) (by kernel_rfl) rfl
def ae8:TI Tryz.prog 90 aD:=TI.mk (k:=4) (by kernel_rfl) rfl
def ae9:TI Tryz.prog 94 bJ:=TI.mk (k:=3) (by kernel_rfl) rfl
def afa:TI Tryz.prog 95 (.slice aU):=TI.mk (k:=1) (by kernel_rfl) rfl
def afb:TI Tryz.prog 96 (.slice az):=TI.mk (k:=1) (by kernel_rfl) rfl
def afc:TI Tryz.prog 98 fg:=TI.mk (k:=8) (by kernel_rfl) rfl
def aav:TI Tryz.prog 111 aA:=TI.mk (k:=2) (by kernel_rfl) rfl
def aaw:TI Tryz.prog 113 dX:=TI.mk (k:=9) (by kernel_rfl) rfl
def aax:TI Tryz.prog 119 aA:=TI.mk (k:=2) (by kernel_rfl) rfl
def aay:TI Tryz.prog 121 aM:=TI.mk (k:=3) (by kernel_rfl) rfl
def aaz:TI Tryz.prog 126 (.slice .bool):=TI.mk (k:=1) (by kernel_rfl) rfl
def aaA:TI Tryz.prog 128 uS:=TI.mk (k:=12) (by kernel_rfl) rfl
def aaB:TI Tryz.prog 132 bV:=TI.mk (k:=8) (by kernel_rfl) rfl
def aaC:TI Tryz.prog 184 (.slice az):=TI.mk (k:=1) (by kernel_rfl) rfl
def aaD:TI Tryz.prog 198 iX:=TI.mk (k:=3) (by kernel_rfl) rfl
def aaE:TI Tryz.prog 224 iW:=TI.mk (k:=5) (by kernel_rfl) rfl
def aaF:TI Tryz.prog 237 bu:=TI.mk (k:=6) (by kernel_rfl) rfl
def aaG:TI Tryz.prog 333 (.int .u64):=TI.mk (k:=1) (by kernel_rfl) rfl
def JI:uE Tryz.prog 3 az 1:=KD Tryz.underlying3
def afd:uE Tryz.prog 74 aA 2:=oe Tryz.underlying74 (by kernel_rfl) (ku rfl rfl Tryz.underlying3 (by simp[jV]) Iw JI (q9 rfl rfl Tryz.underlying3 (by simp[jV]) Iw JI))
def afe:uE Tryz.prog 79 aA 2:=oe Tryz.underlying79 (by kernel_rfl) (ku rfl rfl Tryz.underlying3 (by simp[jV]) Iw JI (q9 rfl rfl Tryz.underlying3 (by simp[jV]) Iw JI))
def aaH:uE Tryz.prog 119 aA 2:=oe Tryz.underlying119 (by kernel_rfl) (ku rfl rfl Tryz.underlying3 (by simp[jV]) Iw JI (q9 rfl rfl Tryz.underlying3 (by simp[jV]) Iw JI))
def aaI:uE Tryz.prog 36 az 1:=KD Tryz.underlying36
def aff:uE Tryz.prog 90 aD 2:=oe Tryz.underlying90 (by kernel_rfl) (ku rfl rfl Tryz.underlying36 (by simp[jV]) Xu aaI (ku rfl rfl Tryz.underlying3 (by simp[jV]) Iw JI (ku rfl rfl Tryz.underlying3 (by simp[jV]) Iw JI (q9 rfl rfl Tryz.underlying3 (by simp[jV]) Iw JI))))
def afg:uE Tryz.prog 57 aD 2:=oe Tryz.underlying57 (by kernel_rfl) (ku rfl rfl Tryz.underlying36 (by simp[jV]) Xu aaI (ku rfl rfl Tryz.underlying3 (by simp[jV]) Iw JI (ku rfl rfl Tryz.underlying3 (by simp[jV]) Iw JI (q9 rfl rfl Tryz.underlying3 (by simp[jV]) Iw JI))))
def afh:uE Tryz.prog 40 aB 2:=oe Tryz.underlying40 (by kernel_rfl) (ku rfl rfl Tryz.underlying3 (by simp[jV]) Iw JI (ku rfl rfl Tryz.underlying3 (by simp[jV]) Iw JI (q9 rfl rfl Tryz.underlying3 (by simp[jV]) Iw JI)))
def tu:∀p∈([(3, .int .i64),(4, .bool),(5, .int .u8),(9, .str),(20, .other),(22, .slice 43),(23, .slice 3),(24, .slice 121),(26, .struct [(3,0),(22,1),(23,2),(24,3)]),(27, .slice 40),(28, .slice 27),(29, .slice 74),(30, .slice 77),(32, .struct [(3,0),(27,1),(27,2),(28,3),(29,4),(30,5)]),(36, .int .i64),(40, .struct [(3,0),(3,1),(3,2)]),(43, .slice 79),(45, .slice 87),(46, .slice 68),(48, .struct [(45,0),(30,1),(46,2)]),(50, .struct [(3,0),(27,1),(28,2)]),(53, .slice 63),(55, .struct [(27,0),(23,1),(53,2)]),(57, .struct [(36,0),(3,1),(3,2),(3,3)]),(63, .struct [(27,0),(23,1)]),(65, .slice 94),(66, .slice 113),(68, .struct [(9,0),(3,1),(65,2),(65,3),(66,4)]),(74, .struct [(3,0),(3,1)]),(75, .slice 224),(77, .struct [(9,0),(74,1),(74,3),(75,5)]),(79, .struct [(3,0),(3,1)]),(85, .slice 9),(87, .struct [(9,0),(85,1)]),(88, .other),(90, .struct [(36,0),(3,1),(3,2),(3,3)]),(94, .struct [(9,0),(74,1)]),(95, .slice 26),(96, .slice 36),(98, .struct [(68,0),(23,5),(95,6),(96,7)]),(111, .struct [(3,0),(3,1)]),(113, .struct [(9,0),(3,1),(3,2),(3,3),(111,4),(43,6),(43,7),(9,8)]),(119, .struct [(3,0),(3,1)]),(121, .struct [(119,0),(3,2)]),(124, .ptr 128),(126, .slice 4),(128, .struct [(68,0),(68,5),(126,10),(126,11)]),(132, .struct [(43,0),(23,1),(32,2)]),(156, .other),(159, .slice 119),(163, .ptr 32),(181, .slice 23),(183, .ptr 184),(184, .slice 3),(198, .struct [(23,0),(23,1),(23,2)]),(199, .map 3 4),(200, .map 119 4),(224, .struct [(111,0),(3,2),(3,3),(3,4)]),(227, .other),(231, .other),(233, .other),(237, .struct [(45,0),(30,1),(29,2),(29,3),(29,4),(4,5)]),(244, .other),(264, .int .u64),(265, .other),(283, .other),(300, .int .u32),(302, .int .u64),(333, .int .u64),(337, .ptr 3),(344, .array 12 3),(359, .ptr 333)]:List (Nat×OU)),B9 Tryz.prog p.1 p.2:=by
 simp only[ar6];exact⟨Tryz.underlying3,Tryz.underlying4,Tryz.underlying5,Tryz.underlying9,⟨_,Tryz.underlying20,rfl⟩,Tryz.underlying22,Tryz.underlying23,Tryz.underlying24,⟨_,Tryz.underlying26,rfl⟩,Tryz.underlying27,Tryz.underlying28,Tryz.underlying29,Tryz.underlying30,⟨_,Tryz.underlying32,rfl⟩,Tryz.underlying36,⟨_,Tryz.underlying40,rfl⟩,Tryz.underlying43,Tryz.underlying45,Tryz.underlying46,⟨_,Tryz.underlying48,rfl⟩,⟨_,Tryz.underlying50,rfl⟩,Tryz.underlying53,⟨_,Tryz.underlying55,rfl⟩,⟨_,Tryz.underlying57,rfl⟩,⟨_,Tryz.underlying63,rfl⟩,Tryz.underlying65,Tryz.underlying66,⟨_,Tryz.underlying68,rfl⟩,⟨_,Tryz.underlying74,rfl⟩,Tryz.underlying75,⟨_,Tryz.underlying77,rfl⟩,⟨_,Tryz.underlying79,rfl⟩,Tryz.underlying85,⟨_,Tryz.underlying87,rfl⟩,⟨_,Tryz.underlying88,rfl⟩,⟨_,Tryz.underlying90,rfl⟩,⟨_,Tryz.underlying94,rfl⟩,Tryz.underlying95,Tryz.underlying96,⟨_,Tryz.underlying98,rfl⟩,⟨_,Tryz.underlying111,rfl⟩,⟨_,Tryz.underlying113,rfl⟩,⟨_,Tryz.underlying119,rfl⟩,⟨_,Tryz.underlying121,rfl⟩,Tryz.underlying124,Tryz.underlying126,⟨_,Tryz.underlying128,rfl⟩,⟨_,Tryz.underlying132,rfl⟩,⟨_,Tryz.underlying156,rfl⟩,Tryz.underlying159,Tryz.underlying163,Tryz.underlying181,Tryz.underlying183,Tryz.underlying184,⟨_,Tryz.underlying198,rfl⟩,Tryz.underlying199,Tryz.underlying200,⟨_,Tryz.underlying224,rfl⟩,⟨_,Tryz.underlying227,rfl⟩,⟨_,Tryz.underlying231,rfl⟩,⟨_,Tryz.underlying233,rfl⟩,⟨_,Tryz.underlying237,rfl⟩,⟨_,Tryz.underlying244,rfl⟩,Tryz.underlying264,⟨_,Tryz.underlying265,rfl⟩,⟨_,Tryz.underlying283,rfl⟩,Tryz.underlying300,Tryz.underlying302,Tryz.underlying333,Tryz.underlying337,Tryz.underlying344,Tryz.underlying359,λ_ h=>absurd h (by simp)⟩
def tr:∀p∈([(3,az),(4, .bool),(9, .str),(22,(.slice (.slice aA))),(23,(.slice az)),(24,(.slice aM)),(26,aU),(27,(.slice aB)),(28,(.slice (.slice aB))),(29,(.slice aA)),(30,(.slice bj)),(32,b8),(36,az),(40,aB),(43,(.slice aA)),(45,(.slice di)),(46,(.slice bn)),(48,cz),(50,ff),(53,(.slice aG)),(55,uj),(57,aD),(63,aG),(65,(.slice bJ)),(66,(.slice dX)),(68,bn),(74,aA),(75,(.slice iW)),(77,bj),(79,aA),(85,(.slice .str)),(87,di),(90,aD),(94,bJ),(95,(.slice aU)),(96,(.slice az)),(98,fg),(111,aA),(113,dX),(119,aA),(121,aM),(126,(.slice .bool)),(128,uS),(132,bV),(184,(.slice az)),(198,iX),(224,iW),(237,bu),(333,(.int .u64))]:List (Nat×Row)),TI Tryz.prog p.1 p.2:=by
 simp only[ar6];exact⟨Iw,Ti4,Ti9,aeG,aeH,aeI,aeJ,aeK,aeL,aeM,aeN,aeO,Xu,aeP,aeQ,aeR,aeS,aeT,aeU,aeV,aeW,aeX,aeY,aeZ,ae0,ae1,ae2,ae3,ae4,ae5,ae6,ae7,ae8,ae9,afa,afb,afc,aav,aaw,aax,aay,aaz,aaA,aaB,aaC,aaD,aaE,aaF,aaG,λ_ h=>absurd h (by simp)⟩
def te:∀p∈([(40,aB),(57,aD),(74,aA),(79,aA),(90,aD),(119,aA)]:List (Nat×Row)),∃K d,uE Tryz.prog p.1 p.2 K/\d+K=10000/\Tryz.prog.eqGuardType Tryz.prog.depth p.1=ag/\(Tryz.prog.underlying p.1).any jV=af:=by
 simp only[ar6];exact⟨⟨2,9998,afh,rfl,by kernel_rfl,by kernel_rfl⟩,⟨2,9998,afg,rfl,by kernel_rfl,by kernel_rfl⟩,⟨2,9998,afd,rfl,by kernel_rfl,by kernel_rfl⟩,⟨2,9998,afe,rfl,by kernel_rfl,by kernel_rfl⟩,⟨2,9998,aff,rfl,by kernel_rfl,by kernel_rfl⟩,⟨2,9998,aaH,rfl,by kernel_rfl,by kernel_rfl⟩,λ_ h=>absurd h (by simp)⟩
def tz:∀p∈([(4,(ag, .bool))]:List (Nat×(Bool×Row))),DB Tryz.prog p.1 p.2.1 p.2.2:=by
 simp only[ar6];exact⟨⟨_,by kernel_rfl,rfl⟩,λ_ h=>absurd h (by simp)⟩
def tm:∀p∈([(183,("Len",(97,ag))),(183,("Less",(393,ag))),(183,("Pop",(394,af))),(183,("Push",(395,af))),(183,("Swap",(396,ag)))]:List (TypeId×(String×(FuncId×Bool)))),uN Tryz.prog p.1 p.2.1 p.2.2.1 p.2.2.2:=by
 simp only[ar6];exact⟨(by unfold uN;kernel_rfl),(by unfold uN;kernel_rfl),(by unfold uN;kernel_rfl),(by unfold uN;kernel_rfl),(by unfold uN;kernel_rfl),λ_ h=>absurd h (by simp)⟩
def tk:∀t∈([119]:List TypeId),∀(em:Bool)(a b:Value)(w:World),(Instr.checkKey em 10000 t (.agg #[a,b])).run Tryz.prog w= .ok () w:=by
 simp only[ar6];exact⟨λem a b w=>by kernel_rfl,λ_ h=>absurd h (by simp)⟩
def aaJ:bz Tryz.prog:=⟨_,_,_,_,ql tu,ql tr,ql te,λt a r h=>ql (Q:=λt p=>DB Tryz.prog t p.1 p.2) tz t (a,r) h,_,tk,_,tm⟩
def mixed:Tryz.prog.follows .mixedOrders=af:=by kernel_rfl
def en(l:List (CT Tryz.prog))(d p:Bool):Env Tryz.prog:=⟨aaJ,CT.tab l,CT.Ei,mixed,d,p⟩
abbrev Fo(f:Nat)(a b:JS)(g:dW a.rows->Option (dW b.rows)):Prop:=hZ Tryz.prog f ⟨a,b,g⟩
def fz{f:FuncId}{fn:Func}{sg:qf}(N:Nat)(l:List (CT Tryz.prog))(a:List Tk)(hf:Tryz.prog.funcs[f]? =aa fn)(hc:fwB fn sg=af:=by kernel_rfl)(E8:∀x,sg.fn x=Xr (en l ag ag) fn.ntmps N (fn.body.getD .skip) fn.results.toList (ak a) sg.inn sg.out x:=by intro x;kernel_rfl):hZ Tryz.prog f sg:=fw (en l ag ag) (N:=N) (ak a) hf hc E8
def M.fX(N:Nat)(a:Int):Option Int:=
aqM (if(ah (a=1))then
aa (ah (a=1))
else(if(ah (a=2))then
aa (ah (a=2))
else(if(ah (a=3))then
aa (ah (a=3))
else(if(ah (a=4))then
aa (ah (a=4))
else(if(ah (a=5))then
aa (ah (a=5))
else(if(ah (a=6))then
aa (ah (a=6))
else(if(ah (a=7))then
aa (ah (a=7))
else(if(ah (a=8))then
aa (ah (a=8))
else(if(ah (a=9))then
aa (ah (a=9))
else(if(ah (a=35))then
aa (ah (a=35))
else(if(ah (a=36))then
aa (ah (a=36))
else(if(ah (a=37))then
aa (ah (a=37))
else(if(ah (a=38))then
aa (ah (a=38))
else
aa (ah (a=39))))))))))))))) λb=>(if b then
aa 0
else
aqM (if(ah (a=10))then
aa (ah (a=10))
else(if(ah (a=25))then
aa (ah (a=25))
else(if(ah (a=31))then
aa (ah (a=31))
else(if(ah (a=32))then
aa (ah (a=32))
else(if(ah (a=33))then
aa (ah (a=33))
else
aa (ah (a=34))))))) λc=>(if c then
aa 1
else
aqM (if(ah (a=11))then
aa (ah (a=11))
else(if(ah (a=12))then
aa (ah (a=12))
else(if(ah (a=13))then
aa (ah (a=13))
else(if(ah (a=14))then
aa (ah (a=14))
else(if(ah (a=15))then
aa (ah (a=15))
else(if(ah (a=16))then
aa (ah (a=16))
else(if(ah (a=17))then
aa (ah (a=17))
else(if(ah (a=18))then
aa (ah (a=18))
else(if(ah (a=19))then
aa (ah (a=19))
else(if(ah (a=20))then
aa (ah (a=20))
else(if(ah (a=21))then
aa (ah (a=21))
else(if(ah (a=22))then
aa (ah (a=22))
else(if(ah (a=23))then
aa (ah (a=23))
else(if(ah (a=24))then
aa (ah (a=24))
else(if(ah (a=27))then
aa (ah (a=27))
else(if(ah (a=28))then
aa (ah (a=28))
else(if(ah (a=29))then
aa (ah (a=29))
else
aa (ah (a=30))))))))))))))))))) λd=>(if d then
aa 2
else(if(ah (a=26))then
aa 3
else
aa (-1)))))
def QW:Fo 120 (.i1 [.l az]) (.i1 [.l az]) (M.fX N):=fz N [] [O,T,O,T,R ⟨[(4, .l .bool)],[],[],32⟩,X,O,R ⟨[(19, .l .bool)],[],[],32⟩,X,O,B 26 32] Tryz.func120
def M.gI(b:List aA.den):Option (Int×Int×List Int):=
(if(ah (48<(b.length:Int)))then
aa (0,4,([]:List Int))
else(if(ah ((b.length:Int)=0))then
aa (0,5,([]:List Int))
else
aqM (qh (b.length:Int) 0) λg=>bS (J:=(List Int)×List Int) (R:=Int×Int×List Int) (Loop (S:=Int×(List Int)×List Int) (X:=((List Int)×List Int)⊕(Int×Int×List Int)) (λa=>(if(ah (a.1<(b.length:Int)))then
aqM (idx b a.1) λh=>aqM (M.fX N h.1) λc=>(if(ah (c<0))then
aa (.inr (.inr (a.1,2,([]:List Int))))
else(if(ah ((a.2.2.length:Int)<c))then
aa (.inr (.inr (a.1,5,([]:List Int))))
else
aqM (idx a.2.1 a.1) λl=>aqM ((if(ah (0<c))then
aqM (idx a.2.2 (aqO.wrap ((a.2.2.length:Int)-c))) λi=>aqM (idx (bH a.2.1 a.1 a.1) a.1) λm=>aa (bH (bH a.2.1 a.1 a.1) a.1 i)
else
aa (bH a.2.1 a.1 a.1)):Option (List Int)) λd=>aqM (iE a.2.2 0 (aqO.wrap ((a.2.2.length:Int)-c))) λj=>aqM (idx d a.1) λk=>aqM (cD j ([k]:List Int)) λe=>(if(ah (12<(e.length:Int)))then
aa (.inr (.inr (a.1,16,([]:List Int))))
else
aa (.inl (aqO.wrap (a.1+1),d,e)))))
else
aa (.inr (.inl (a.2.1,a.2.2))))) N (0,g,([]:List Int))) λf=>(if(ah (1<(f.2.length:Int)))then
aa ((b.length:Int),4,([]:List Int))
else
aa (0,0,f.1))))
def W76:Fo 76 (.i1 [.l (.slice aA)]) (.j1 [.val ag (.own 0), .l az, .l az] [.own 3 az] 1) (M.gI N):=fz N [QW N] [O,O,O,O,O,J ⟨[(6, .val ag (.own 224))],[(176, .own 3 az),(224, .own 3 az)],[],226⟩,O,T,P ⟨[(6, .val ag (.own 272)),(21, .l az)],[(176, .own 3 az),(272, .own 3 az)],[],274⟩,O,O,T,T,O,O,O,O,O,R ⟨[],[(176, .own 3 az)],[],627⟩] Tryz.func76
def M.qx(b:List aA.den):Option (Int×List Int):=
aqM (M.gI N b) λa=>aa (a.2.1,a.2.2)
def W49:Fo 49 (.i1 [.l (.slice aA)]) (.j1 [.val ag (.own 0), .l az] [.own 3 az] 1) (M.qx N):=fz N [W76 N] [] Tryz.func49
def M.fQ(b:bV.den)(c:Int):Option (List Int):=
aqM (idx b.1 c) λe=>aqM (M.fX N e.1) λf=>aqM (qh f 0) λd=>Loop (S:=Int×Int×List Int) (X:=List Int) (λa=>(if(ah (0<=a.2.1))then
aqM (idx a.2.2 a.2.1) λh=>aqM (idx b.2.1 a.1) λg=>aa (.inl (aqO.wrap (g-1),aqO.wrap (a.2.1-1),bH a.2.2 a.2.1 a.1))
else
aa (.inr a.2.2))) N (aqO.wrap (c-1),aqO.wrap ((d.length:Int)-1),d)
def W77:Fo 77 (.i1 [.g bV, .l az]) (.w1 3 az) (u2 (M.fQ N)):=fz N [QW N] [O,O,O,T,O,T,P ⟨[(6, .l az),(7, .l az)],[(144, .own 3 az)],[],289⟩] Tryz.func77
def M.iI(N:Nat)(a:Int):Option Bool:=
aqM (if(ah (a=1))then
aa (ah (a=1))
else(if(ah (a=2))then
aa (ah (a=2))
else(if(ah (a=3))then
aa (ah (a=3))
else(if(ah (a=4))then
aa (ah (a=4))
else(if(ah (a=5))then
aa (ah (a=5))
else(if(ah (a=6))then
aa (ah (a=6))
else(if(ah (a=7))then
aa (ah (a=7))
else(if(ah (a=8))then
aa (ah (a=8))
else(if(ah (a=14))then
aa (ah (a=14))
else(if(ah (a=15))then
aa (ah (a=15))
else(if(ah (a=16))then
aa (ah (a=16))
else(if(ah (a=33))then
aa (ah (a=33))
else(if(ah (a=34))then
aa (ah (a=34))
else(if(ah (a=36))then
aa (ah (a=36))
else(if(ah (a=37))then
aa (ah (a=37))
else(if(ah (a=38))then
aa (ah (a=38))
else
aa (ah (a=39)))))))))))))))))) λb=>(if b then
aa af
else
aa ag)
def aaK:Fo 192 (.i1 [.l az]) (.i1 [.l .bool]) (M.iI N):=fz N [] [O,T,O,T,B 4 32] Tryz.func192
def M.fh(a:aA.den):Option Bool:=
aqM (aqM (M.fX N a.1) λb=>(if(ah (b<0))then
aa af
else(if(!ah (a.2=0))then
aqM (M.iI N a.1) λc=>aa (!c)
else
aa ag)):Option Bool) λd=>(if d then
aa ag
else
aqM (if(ah (a.1=14))then
aa (ah (a.1=14))
else(if(ah (a.1=15))then
aa (ah (a.1=15))
else
aa (ah (a.1=16)))) λe=>(if e then
aqM (if(ah (0<=a.2))then
aa (ah (a.2<=5))
else
aa ag) λf=>aa f
else(if(ah (a.1=34))then
aqM (if(ah (0<=a.2))then
aa (ah ((aq3 a.2 8)<=5))
else
aa ag) λg=>aa g
else(if(ah (a.1=6))then
aa (ah (0<=a.2))
else
aa af))))
def afi:Fo 122 (.i1 [.g aA]) (.i1 [.l .bool]) (M.fh N):=fz N [QW N,aaK N] [O,T,B 17 32,T,O,T,R ⟨[(20, .l .bool)],[],[],64⟩,X,T,B 2 64,O,T,B 2 96] Tryz.func122
def M.kG(N:Nat)(a:aA.den)(b:b8.den):Option Bool:=
(if(ah (a.1=7))then
aqM (if(ah (0<=a.2))then
aa (ah (a.2<(b.2.1.length:Int)))
else
aa ag) λc=>aa c
else(if(ah (a.1=8))then
aqM (if(ah (0<=a.2))then(if(ah (a.2<(b.2.2.1.length:Int)))then
aqM (idx b.2.2.1 a.2) λd=>aa (!ah (d.1=0))
else
aa ag)
else
aa ag) λe=>aa e
else(if(ah (a.1=33))then
aqM (if(ah (0<=a.2))then
aa (ah (a.2<(b.2.2.2.2.2.length:Int)))
else
aa ag) λf=>aa f
else(if(ah (a.1=34))then
aa (ah ((aqO.wrap (aq1 a.2 8))<(b.2.2.2.2.2.length:Int)))
else
aqM (if(ah (a.1=36))then
aa (ah (a.1=36))
else(if(ah (a.1=37))then
aa (ah (a.1=37))
else(if(ah (a.1=38))then
aa (ah (a.1=38))
else
aa (ah (a.1=39))))) λg=>(if g then
aqM (if(ah (0<=a.2))then
aa (ah (a.2<(b.2.2.2.2.1.length:Int)))
else
aa ag) λh=>aa h
else
aa af)))))
def afj:Fo 123 (.i1 [.g aA, .g b8]) (.i1 [.l .bool]) (u2 (M.kG N)):=fz N [] [O,T,O,T,O,T,B 4 112,O,T,B 4 144,O,T,B 4 176,O,O,R ⟨[(65, .l .bool)],[],[],208⟩,X,T,B 4 208] Tryz.func123
def M.dj(N:Nat)(a:aB.den):Option Bool:=
aqM (if(!ah (a.1=6))then
aa (!ah (a.2.1=0))
else
aa ag) λb=>(if b then
aa ag
else(if(ah (a.1=1))then
aqM (if(ah (a.2.2=0))then
aa af
else
aa (ah (a.2.2=1))) λc=>aa c
else(if(ah (a.1=2))then
aqM (if(ah ((-1000000000000)<=a.2.2))then
aa (ah (a.2.2<=1000000000000))
else
aa ag) λd=>aa d
else(if(ah (a.1=3))then
aqM (if(ah ((-1000000000000000)<=a.2.2))then
aa (ah (a.2.2<=1000000000000000))
else
aa ag) λe=>aa e
else(if(ah (a.1=4))then
aqM (if(ah ((-1000000000)<=a.2.2))then
aa (ah (a.2.2<=1000000000))
else
aa ag) λf=>aa f
else(if(ah (a.1=5))then
aqM (if(ah (0<=a.2.2))then
aa (ah (a.2.2<=109572))
else
aa ag) λg=>aa g
else(if(ah (a.1=6))then
aqM (if(ah (0<=a.2.1))then(if(ah (a.2.1<8))then(if(ah (0<=a.2.2))then
aa (ah (a.2.2<16))
else
aa ag)
else
aa ag)
else
aa ag) λh=>aa h
else
aa ag)))))))
def NQ:Fo 127 (.i1 [.g aB]) (.i1 [.l .bool]) (M.dj N):=fz N [] [O,T,B 10 32,T,O,T,O,T,B 2 96,O,T,B 2 128,O,T,B 2 160,O,T,B 2 192,O,T,B 2 224,O,T,B 2 256] Tryz.func127
def M.dO(b:List aB.den):Option Bool:=
Loop (S:=Int) (X:=Bool) (λa=>(if(ah (a<(b.length:Int)))then
aqM (idx b a) λc=>aqM (M.dj N c) λd=>(if(!d)then
aa (.inr ag)
else
aa (.inl (aqO.wrap (a+1))))
else
aa (.inr af))) N 0
def afk:Fo 124 (.i1 [.l (.slice aB)]) (.i1 [.l .bool]) (M.dO N):=fz N [NQ N] [O,T,O,T,L 7 64] Tryz.func124
def M.mV(a:aB.den)(b:aA.den):Option Bool:=
aqM (aqM (M.dj N a) λc=>(if c then(if(ah (a.1=b.1))then
aa (ah (a.2.1=b.2))
else
aa ag)
else
aa ag):Option Bool) λd=>aa d
def aaL:Fo 193 (.i1 [.g aB, .g aA]) (.i1 [.l .bool]) (u2 (M.mV N)):=fz N [NQ N] [O,B 4 48] Tryz.func193
def M.iJ(N:Nat)(a:Int):Option Bool:=
aqM (if(ah (a=2))then
aa af
else(if(ah (a=3))then
aa af
else
aa (ah (a=4)))) λb=>aa b
def Xv:Fo 263 (.i1 [.l az]) (.i1 [.l .bool]) (M.iJ N):=fz N [] [O,B 2 16] Tryz.func263
def M.gJ(b:Int)(a:aA.den):Option Bool:=
(if(!ah (a.2=0))then
aa ag
else(if(ah (b=36))then
aqM (if(ah (a.1=2))then
aa af
else
aa (ah (a.1=3))) λc=>aa c
else(if(ah (b=39))then
aqM (aqM (M.iJ N a.1) λd=>(if d then
aa af
else
aa (ah (a.1=5))):Option Bool) λe=>aa e
else
aa (ah (a.1=1)))))
def afl:Fo 194 (.i1 [.l az, .g aA]) (.i1 [.l .bool]) (u2 (M.gJ N)):=fz N [Xv N] [O,O,T,O,T,O,T,B 4 128,O,T,B 4 160] Tryz.func194
def M.c9(b:Int)(a:Int):Option Bool:=
(if(ah (b=10))then
aqM (M.iJ N a) λc=>aa c
else(if(ah (b=25))then
aa (ah (a=1))
else
aa (ah (a=5))))
def afm:Fo 195 (.i1 [.l az, .l az]) (.i1 [.l .bool]) (u2 (M.c9 N)):=fz N [Xv N] [] Tryz.func195
def M.eH(N:Nat)(a:aB.den)(b:aB.den):Option Bool:=
aqM (if(ah (a.1=b.1))then
aa (ah (a.2.1=b.2.1))
else
aa ag) λc=>aa c
def aaM:Fo 197 (.i1 [.g aB, .g aB]) (.i1 [.l .bool]) (u2 (M.eH N)):=fz N [] [O,B 4 48] Tryz.func197
def M.aZ(a:Int)(b:aB.den)(c:aB.den):Option Bool:=
aqM (if(ah (a=11))then
aa (ah (a=11))
else
aa (ah (a=12))) λd=>(if d then
aqM (aqM (M.eH N b c) λe=>(if e then
aqM (M.iJ N b.1) λf=>aa f
else
aa ag):Option Bool) λg=>aa g
else(if(ah (a=13))then
aqM (if(ah (c.1=2))then(if(ah (b.1=2))then
aa af
else
aa (ah (b.1=3)))
else
aa ag) λh=>aa h
else(if(ah (a=14))then
aqM (if(ah (c.1=4))then(if(ah (b.1=3))then
aa af
else
aa (ah (b.1=4)))
else
aa ag) λi=>aa i
else(if(ah (a=15))then(if(ah (c.1=2))then
aqM (if(ah (b.1=2))then
aa af
else
aa (ah (b.1=3))) λj=>aa j
else
aqM (if(ah (b.1=3))then
aa (ah (c.1=3))
else
aa ag) λk=>aa k)
else(if(ah (a=16))then
aqM (if(ah (b.1=3))then
aa (ah (c.1=3))
else
aa ag) λl=>aa l
else
aqM (if(ah (a=17))then
aa (ah (a=17))
else(if(ah (a=18))then
aa (ah (a=18))
else(if(ah (a=21))then
aa (ah (a=21))
else
aa (ah (a=22))))) λm=>(if m then
aqM (aqM (M.eH N b c) λn=>(if n then
aqM (M.iJ N b.1) λo=>(if o then
aa af
else
aa (ah (b.1=5)))
else
aa ag):Option Bool) λp=>aa p
else
aqM (if(ah (a=19))then
aa (ah (a=19))
else
aa (ah (a=20))) λq=>(if q then
aqM (M.eH N b c) λr=>aa r
else
aqM (if(ah (a=23))then
aa (ah (a=23))
else
aa (ah (a=24))) λs=>(if s then
aqM (if(ah (b.1=1))then
aa (ah (c.1=1))
else
aa ag) λt=>aa t
else
aqM (if(ah (a=27))then
aa (ah (a=27))
else
aa (ah (a=28))) λu=>(if u then
aqM (if(ah (b.1=5))then
aa (ah (c.1=2))
else
aa ag) λv=>aa v
else
aqM (if(ah (b.1=5))then
aa (ah (c.1=5))
else
aa ag) λw=>aa w)))))))))
def afn:Fo 196 (.i1 [.l az, .g aB, .g aB]) (.i1 [.l .bool]) (u3 (M.aZ N)):=fz N [aaM N,Xv N] [O,T,O,T,R ⟨[(8, .l .bool)],[],[],64⟩,X,T,B 6 64,O,T,B 6 96,O,T,B 6 128,O,T,T,O,T,B 6 208,X,B 6 208,O,T,B 6 192,R ⟨[(80, .l .bool)],[],[],192⟩,X,T,B 6 192,R ⟨[(98, .l .bool)],[],[],192⟩,X,O,R ⟨[(104, .l .bool)],[],[],192⟩,X,T,B 6 192,R ⟨[(115, .l .bool)],[],[],192⟩,X,T,B 6 192,X,X,B 6 192] Tryz.func196
def M.bX(a:aA.den)(b:List aB.den)(c:b8.den):Option Bool:=
(if(ah (a.1=7))then
aqM (idx c.2.1 a.2) λf=>aqM (M.dj N f) λg=>aa g
else(if(ah (a.1=8))then
aqM (idx c.2.2.1 a.2) λh=>aqM (M.dj N h) λi=>aa i
else(if(ah (a.1=33))then
aqM (idx c.2.2.2.2.2 a.2) λd=>aqM (aqM (idx b 0) λj=>aqM (M.mV N j d.2.1) λk=>(if k then(if(ah (1<=d.2.2.1.1))then
aa (ah (d.2.2.1.1<=6))
else
aa ag)
else
aa ag):Option Bool) λl=>aa l
else(if(ah (a.1=34))then
aqM (idx c.2.2.2.2.2 (aqO.wrap (aq1 a.2 8))) λe=>aqM (aqM (idx b 0) λm=>(if(ah (m.1=3))then(if(mD aA e.2.1 (3,0))then
aa (mD aA e.2.2.1 (4,0))
else
aa ag)
else
aa ag):Option Bool) λn=>aa n
else
aqM (if(ah (a.1=36))then
aa (ah (a.1=36))
else(if(ah (a.1=37))then
aa (ah (a.1=37))
else(if(ah (a.1=38))then
aa (ah (a.1=38))
else
aa (ah (a.1=39))))) λo=>(if o then
aqM (idx c.2.2.2.2.1 a.2) λp=>aqM (M.gJ N a.1 p) λq=>aa q
else(if(ah ((b.length:Int)=1))then
aqM (idx b 0) λr=>aqM (M.c9 N a.1 r.1) λs=>aa s
else(if(ah ((b.length:Int)=2))then
aqM (idx b 0) λt=>aqM (idx b 1) λu=>aqM (M.aZ N a.1 t u) λv=>aa v
else(if(ah ((b.length:Int)=3))then
aqM (aqM (idx b 0) λw=>(if(ah (w.1=1))then
aqM (idx b 1) λx=>aqM (idx b 2) λy=>aqM (M.eH N x y) λz=>aa z
else
aa ag):Option Bool) λA=>aa A
else
aa af))))))))
def afo:Fo 125 (.i1 [.g aA, .l (.slice aB), .g b8]) (.i1 [.l .bool]) (u3 (M.bX N)):=fz N [NQ N,aaL N,afl N,afm N,afn N,aaM N] [O,T,O,T,O,O,O,O,O,T,O,B 6 304,O,T,O,B 6 352,B 81 208,X,T,O,T,O,O,O,O,O,T,B 6 336] Tryz.func125
def M.gB(b:aA.den)(e:b8.den):Option (aB.den×Int):=
aqM (idx e.2.2.2.2.1 b.2) λd=>aqM ((if(ah (b.1=37))then
aa (d.1,(d.2,1))
else
aa (d.1,(d.2,0))):Option (aB.den)) λg=>aqM (if(ah (b.1=39))then
aa (ah ((e.2.2.2.1.length:Int)=0))
else
aa ag) λh=>(if h then
aa ((0,(0,0)),6)
else
bS (J:=aB.den) (R:=aB.den×Int) (Loop (S:=Int×aB.den) (X:=(aB.den)⊕(aB.den×Int)) (λa=>(if(ah (a.1<(e.2.2.2.1.length:Int)))then
aqM (idx e.2.2.2.1 a.1) λf=>aqM (if(ah ((f.length:Int)<=b.2))then
aa af
else
aqM (idx f b.2) λi=>aa (ah (i.1=0))) λj=>(if j then
aa (.inr (.inr ((0,(0,0)),6)))
else
aqM (idx f b.2) λc=>aqM (M.mV N c d) λk=>(if(!k)then
aa (.inr (.inr ((0,(0,0)),8)))
else
bS (J:=aB.den) (R:=(Int×aB.den)⊕((aB.den)⊕(aB.den×Int))) ((if(ah (b.1=36))then
aqM (M.dj N (a.2.1,(a.2.2.1,aqO.wrap (a.2.2.2+c.2.2)))) λl=>(if(!l)then
aa (.inr (.inr (.inr ((0,(0,0)),3))))
else
aa (.inl (a.2.1,(a.2.2.1,aqO.wrap (a.2.2.2+c.2.2)))))
else(if(ah (b.1=37))then
aa (.inl (a.2.1,(a.2.2.1,if c.2.2<a.2.2.2 then c.2.2 else a.2.2.2)))
else(if(ah (b.1=38))then
aa (.inl (a.2.1,(a.2.2.1,if a.2.2.2<c.2.2 then c.2.2 else a.2.2.2)))
else(if(ah (b.1=39))then
aqM (if(ah (a.1=0))then
aa af
else
aa (ah (a.2.2.2<c.2.2))) λm=>(if m then
aa (.inl c)
else
aa (.inl a.2))
else
aa (.inl a.2)))))) λn=>aa (.inl (aqO.wrap (a.1+1),n))))
else
aa (.inr (.inl a.2)))) N (0,g)) λo=>aa (o,0))
def afp:Fo 198 (.i1 [.g aA, .g b8]) (.i1 [.g aB, .l az]) (u2 (M.gB N)):=fz N [NQ N,aaL N] [O,O,O,R ⟨[],[(272, .box 40 (.leaf aB))],[],305⟩,X,T,B 34 305,J ⟨[],[(272, .box 40 (.leaf aB))],[],306⟩,O,T,P ⟨[(39, .l az)],[(272, .box 40 (.leaf aB))],[],370⟩,O,O,T,T,O,T,B 57 466,O,O,O,J ⟨[],[(272, .box 40 (.leaf aB))],[],675⟩,O,O,O,O,O,O,O,T,B 109 802] Tryz.func198
def M.fi(N:Nat)(a:aA.den):Option Bool:=
aqM (if(ah (0<=a.1))then(if(ah (a.1<=a.2))then
aa (ah (a.2<=109573))
else
aa ag)
else
aa ag) λb=>aa b
def Xw:Fo 112 (.i1 [.g aA]) (.i1 [.l .bool]) (M.fi N):=fz N [] [O,B 2 32] Tryz.func112
def M.cH(a:aA.den)(b:Int):Option Bool:=
aqM (aqM (M.fi N a) λc=>(if c then(if(ah (a.1<=b))then
aa (ah (b<a.2))
else
aa ag)
else
aa ag):Option Bool) λd=>aa d
def W71:Fo 71 (.i1 [.g aA, .l az]) (.i1 [.l .bool]) (u2 (M.cH N)):=fz N [Xw N] [O,B 4 32] Tryz.func71
def M.gK(a:iW.den)(c:Int)(b:Int):Option (Bool×Int×Int):=
aqM (aqM (M.cH N a.1 c) λd=>(if d then(if(ah (a.2.1<=b))then
aa (ah (b<a.2.2.1))
else
aa ag)
else
aa ag):Option Bool) λe=>aa (e,c,b)
def Xx:Fo 264 (.j1 [.g iW, .ptr 0 [] 0, .ptr 1 [] 0] [.box 3 (.leaf az), .box 3 (.leaf az)] 2) (.j1 [.l .bool] [.box 3 (.leaf az), .box 3 (.leaf az)] 4) (u3 (M.gK N)):=fz N [W71 N] [O,B 4 34] Tryz.func264
def M.cL(c:List iW.den)(d:Int)(e:Int):Option (Int×Bool×Int×Int):=
Loop (S:=Int×Int×Int) (X:=Int×Bool×Int×Int) (λa=>(if(ah (a.1<(c.length:Int)))then
aqM (idx c a.1) λf=>aqM (M.gK N f a.2.1 a.2.2) λb=>(if b.1 then
aa (.inr (a.1,af,b.2.1,b.2.2))
else
aa (.inl (aqO.wrap (a.1+1),b.2.1,b.2.2)))
else
aa (.inr (0,ag,a.2.1,a.2.2)))) N (0,d,e)
def Xy:Fo 145 (.j1 [.l (.slice iW), .fn 264 [(0,[],0),(1,[],0)]] [.box 3 (.leaf az), .box 3 (.leaf az)] 2) (.j1 [.l az, .l .bool] [.box 3 (.leaf az), .box 3 (.leaf az)] 4) (u3 (M.cL N)):=fz N [Xx N] [O,T,O,T,P ⟨[(10, .l az)],[(0, .box 3 (.leaf az)),(1, .box 3 (.leaf az))],[],84⟩] Tryz.func145
def M.k9(b:bj.den)(c:Int)(d:Int):Option (Int×Bool):=
aqM (M.cL N b.2.2.2 c d) λa=>aa (a.1,a.2.1)
def afr:Fo 199 (.i1 [.g bj, .l az, .l az]) (.i1 [.l az, .l .bool]) (u3 (M.k9 N)):=fz N [Xy N] [] Tryz.func199
def M.ef(N:Nat)(a:Int)(b:Int):Option (Int×Int):=
aa (aqQ.wrap ((aqQ.wrap ((aqQ.wrap ((cg .u64 a 32)*(cg .u64 b 32)))+(cg .u64 (aqQ.wrap ((aqQ.wrap ((cg .u64 a 32)*(aL .and .u64 b 4294967295)))+(cg .u64 (aqQ.wrap ((aL .and .u64 a 4294967295)*(aL .and .u64 b 4294967295))) 32))) 32)))+(cg .u64 (aqQ.wrap ((aL .and .u64 (aqQ.wrap ((aqQ.wrap ((cg .u64 a 32)*(aL .and .u64 b 4294967295)))+(cg .u64 (aqQ.wrap ((aL .and .u64 a 4294967295)*(aL .and .u64 b 4294967295))) 32))) 4294967295)+(aqQ.wrap ((aL .and .u64 a 4294967295)*(cg .u64 b 32))))) 32)),aqQ.wrap (a*b))
def Us:Fo 304 (.i1 [.l (.int .u64), .l (.int .u64)]) (.i1 [.l (.int .u64), .l (.int .u64)]) (u2 (M.ef N)):=fz N [] [] Tryz.func304
def M.mc(N:Nat)(c:Int):Option Int:=
aqM ((if(ah (4294967296<=c))then
aa (cg .u64 c 32,32)
else
aa (c,0)):Option (Int×Int)) λa=>aqM ((if(ah (65536<=a.1))then
aa (cg .u64 a.1 16,aqO.wrap (a.2+16))
else
aa (a.1,a.2)):Option (Int×Int)) λb=>aqM ((if(ah (256<=b.1))then
aa (cg .u64 b.1 8,aqO.wrap (b.2+8))
else
aa (b.1,b.2)):Option (Int×Int)) λd=>aqM (lH (⟨#[0,1,2,2,3,3,3,3,4,4,4,4,4,4,4,4,5,5,5,5,5,5,5,5,5,5,5,5,5,5,5,5,6,6,6,6,6,6,6,6,6,6,6,6,6,6,6,6,6,6,6,6,6,6,6,6,6,6,6,6,6,6,6,6,7,7,7,7,7,7,7,7,7,7,7,7,7,7,7,7,7,7,7,7,7,7,7,7,7,7,7,7,7,7,7,7,7,7,7,7,7,7,7,7,7,7,7,7,7,7,7,7,7,7,7,7,7,7,7,7,7,7,7,7,7,7,7,7,8,8,8,8,8,8,8,8,8,8,8,8,8,8,8,8,8,8,8,8,8,8,8,8,8,8,8,8,8,8,8,8,8,8,8,8,8,8,8,8,8,8,8,8,8,8,8,8,8,8,8,8,8,8,8,8,8,8,8,8,8,8,8,8,8,8,8,8,8,8,8,8,8,8,8,8,8,8,8,8,8,8,8,8,8,8,8,8,8,8,8,8,8,8,8,8,8,8,8,8,8,8,8,8,8,8,8,8,8,8,8,8,8,8,8,8,8,8,8,8,8,8,8,8,8,8,8,8]⟩:ByteArray) (IntKind.u8.wrap d.1)) λe=>aa (aqO.wrap (d.2+(aqO.wrap e)))
def afs:Fo 303 (.i1 [.l (.int .u64)]) (.i1 [.l az]) (M.mc N):=fz N [] [O,R ⟨[(0, .l (.int .u64)),(2, .l az)],[],[],16⟩,X,R ⟨[(0, .l (.int .u64)),(2, .l az)],[],[],16⟩,X,R ⟨[(0, .l (.int .u64)),(2, .l az)],[],[],16⟩] Tryz.func303
def M.fG(a:Int):Option Int:=
aqM (M.mc N a) λb=>aa (aqO.wrap (64-b))
def afu:Fo 333 (.i1 [.l (.int .u64)]) (.i1 [.l az]) (M.fG N):=fz N [afs N] [] Tryz.func333
def M.dz(k:Int)(i:Int)(d:Int):Option (Int×Int):=
(if(ah (d=0))then
ae
else(if(ah (d<=k))then
ae
else(if(ah (k=0))then
aqM (n9 i d) λo=>aqM (sV i d) λp=>aa (aqQ.wrap o,p)
else
aqM (M.fG N d) λf=>aqM (uF .u64 d (aqQ.wrap f)) λa=>aqM (uF .u64 k (aqQ.wrap f)) λg=>aqM (yG .u64 i (aqQ.wrap (64-(aqQ.wrap f)))) λh=>aqM (uF .u64 i (aqQ.wrap f)) λe=>aqM (n9 (aL .or .u64 g h) (cg .u64 a 32)) λl=>aqM (aqM (Loop (S:=Int×Int) (X:=Int) (λb=>aqM (if(ah (4294967296<=b.1))then
aa af
else
aa (ah ((aqQ.wrap ((aqQ.wrap (4294967296*b.2))+(cg .u64 e 32)))<(aqQ.wrap (b.1*(aL .and .u64 a 4294967295)))))) λq=>(if q then(if(ah (4294967296<=(aqQ.wrap (b.2+(cg .u64 a 32)))))then
aa (.inr (aqQ.wrap (b.1-1)))
else
aa (.inl (aqQ.wrap (b.1-1),aqQ.wrap (b.2+(cg .u64 a 32)))))
else
aa (.inr b.1))) N (aqQ.wrap l,aqQ.wrap ((aL .or .u64 g h)-(aqQ.wrap ((aqQ.wrap l)*(cg .u64 a 32))))):Option Int) λr=>aa r:Option Int) λj=>aqM (n9 (aqQ.wrap ((aqQ.wrap ((aqQ.wrap ((aL .or .u64 g h)*4294967296))+(cg .u64 e 32)))-(aqQ.wrap (j*a)))) (cg .u64 a 32)) λm=>aqM (aqM (Loop (S:=Int×Int) (X:=Int) (λc=>aqM (if(ah (4294967296<=c.2))then
aa af
else
aa (ah ((aqQ.wrap ((aqQ.wrap (4294967296*c.1))+(aL .and .u64 e 4294967295)))<(aqQ.wrap (c.2*(aL .and .u64 a 4294967295)))))) λs=>(if s then(if(ah (4294967296<=(aqQ.wrap (c.1+(cg .u64 a 32)))))then
aa (.inr (aqQ.wrap (c.2-1)))
else
aa (.inl (aqQ.wrap (c.1+(cg .u64 a 32)),aqQ.wrap (c.2-1))))
else
aa (.inr c.2))) N (aqQ.wrap ((aqQ.wrap ((aqQ.wrap ((aqQ.wrap ((aL .or .u64 g h)*4294967296))+(cg .u64 e 32)))-(aqQ.wrap (j*a))))-(aqQ.wrap ((aqQ.wrap m)*(cg .u64 a 32)))),aqQ.wrap m):Option Int) λt=>aa t:Option Int) λn=>aqM (yG .u64 (aqQ.wrap ((aqQ.wrap ((aqQ.wrap ((aqQ.wrap ((aqQ.wrap ((aqQ.wrap ((aL .or .u64 g h)*4294967296))+(cg .u64 e 32)))-(aqQ.wrap (j*a))))*4294967296))+(aL .and .u64 e 4294967295)))-(aqQ.wrap (n*a)))) (aqQ.wrap f)) λu=>aa (aqQ.wrap ((aqQ.wrap (j*4294967296))+n),u))))
def Xz:Fo 305 (.i1 [.l (.int .u64), .l (.int .u64), .l (.int .u64)]) (.i1 [.l (.int .u64), .l (.int .u64)]) (u3 (M.dz N)):=fz N [afu N] [O,O,O,O,O,O,O,O,O,O,O,O,O,O,R ⟨[(15, .l (.int .u64))],[],[],832⟩,R ⟨[(15, .l (.int .u64))],[],[],832⟩,P ⟨[(15, .l (.int .u64)),(16, .l (.int .u64))],[],[],832⟩,T,B 78 832,X,X,O,O,O,R ⟨[(18, .l (.int .u64))],[],[],1136⟩,R ⟨[(18, .l (.int .u64))],[],[],1136⟩,P ⟨[(16, .l (.int .u64)),(18, .l (.int .u64))],[],[],1136⟩,T,B 113 1136] Tryz.func305
def M.fy(d:Int)(b:Int):Option (Int×Int×Bool):=
aqM ((if(ah (b<0))then
aa (aqQ.wrap (0-(aqQ.wrap b)))
else
aa (aqQ.wrap b)):Option Int) λe=>aqM (M.ef N (aqQ.wrap d) e) λc=>(if(ah (1000000<=c.1))then
aa (0,0,ag)
else
aqM (M.dz N c.1 c.2 1000000) λa=>(if(ah (1000000000000000<a.1))then
aa (0,0,ag)
else(if(ah (b<0))then
aa (aqO.wrap (0-(aqO.wrap a.1)),aqO.wrap (0-(aqO.wrap a.2)),af)
else
aa (aqO.wrap a.1,aqO.wrap a.2,af))))
def afv:Fo 265 (.i1 [.l az, .l az]) (.i1 [.l az, .l az, .l .bool]) (u2 (M.fy N)):=fz N [Us N,Xz N] [O,O,R ⟨[(7, .l (.int .u64))],[],[],96⟩] Tryz.func265
def M.fY(N:Nat)(a:Int):Option Bool:=
aqM (if(ah (0<=a))then
aa (ah (a<=5))
else
aa ag) λb=>aa b
def XA:Fo 334 (.i1 [.l az]) (.i1 [.l .bool]) (M.fY N):=fz N [] [O,B 2 16] Tryz.func334
def M.eJ(N:Nat)(a:Int)(b:Int):Option Bool:=
aqM (if(ah (b<a))then
aa af
else
aa (ah (a<(aqO.wrap (0-b))))) λc=>aa c
def XB:Fo 335 (.i1 [.l az, .l az]) (.i1 [.l .bool]) (u2 (M.eJ N)):=fz N [] [O,B 4 16] Tryz.func335
def M.eh(N:Nat)(a:Int):Option Int:=
(if(ah (a<0))then
aa (aqQ.wrap (0-(aqQ.wrap a)))
else
aa (aqQ.wrap a))
def aaN:Fo 336 (.i1 [.l az]) (.i1 [.l (.int .u64)]) (M.eh N):=fz N [] [] Tryz.func336
def M.dm(N:Nat)(c:Int)(a:Int)(d:Int)(e:Bool)(b:Int):Option Int:=
(if(ah (a=0))then
aa c
else
aqM (if(ah (b=0))then
aa e
else(if(ah (b=1))then
aa (!e)
else(if(ah (b=3))then
aa af
else(if(ah (b=4))then
aa (ah ((aqQ.wrap (d-a))<=a))
else(if(ah (b=5))then(if(ah ((aqQ.wrap (d-a))<a))then
aa af
else(if(ah (a=(aqQ.wrap (d-a))))then
aa (ah ((aq3 c 2)=1))
else
aa ag))
else
aa ag))))) λf=>aqM ((if f then
aa (aqQ.wrap (c+1))
else
aa c):Option Int) λg=>aa g)
def aaO:Fo 337 (.i1 [.l (.int .u64), .l (.int .u64), .l (.int .u64), .l .bool, .l az]) (.i1 [.l (.int .u64)]) (u5 (M.dm N)):=fz N [] [O,O,O,T,O,B 11 80,R ⟨[(0, .l (.int .u64))],[],[],80⟩] Tryz.func337
def M.jA(N:Nat)(a:Int)(b:Bool):Option Int:=
(if b then
aa (aqO.wrap (0-(aqO.wrap a)))
else
aa (aqO.wrap a))
def aaP:Fo 338 (.i1 [.l (.int .u64), .l .bool]) (.i1 [.l az]) (u2 (M.jA N)):=fz N [] [] Tryz.func338
def M.eK(b:Int)(a:Int)(d:Int):Option (Int×Int):=
aqM (M.fY N d) λf=>(if(!f)then
aa (0,1)
else(if(ah (a=0))then
aa (0,12)
else
aqM (aqM (M.eJ N b 4611686018427387904) λg=>(if g then
aa af
else
aqM (M.eJ N a 4611686018427387904) λh=>aa h):Option Bool) λi=>(if i then
aa (0,3)
else
aqM (M.eh N b) λe=>aqM (M.eh N a) λc=>aqM (n9 e c) λj=>aqM (sV e c) λk=>aqM (M.dm N (aqQ.wrap j) k c (!ah ((ah (b<0))=(ah (a<0)))) d) λl=>aqM (M.jA N l (!ah ((ah (b<0))=(ah (a<0))))) λm=>aa (m,0))))
def Ut:Fo 306 (.i1 [.l az, .l az, .l az]) (.i1 [.l az, .l az]) (u3 (M.eK N)):=fz N [XA N,XB N,aaN N,aaO N,aaP N] [O,O,O,T,B 22 112] Tryz.func306
def M.gL(b:Int)(a:Int)(e:Int):Option (Int×Int):=
aqM (if(ah ((aqO.wrap (b+(aqO.wrap (aq1 a 1000000))))<(-2000000000000000)))then
aa af
else
aa (ah (2000000000000000<(aqO.wrap (b+(aqO.wrap (aq1 a 1000000))))))) λf=>(if f then
aa (0,3)
else
aqM ((if(ah (1<(aqO.wrap (b+(aqO.wrap (aq1 a 1000000))))))then
aa (aqO.wrap ((aq3 (aqO.wrap (b+(aqO.wrap (aq1 a 1000000)))) 2)+2))
else(if(ah ((aqO.wrap (b+(aqO.wrap (aq1 a 1000000))))<(-1)))then
aa (aqO.wrap ((aq3 (aqO.wrap (b+(aqO.wrap (aq1 a 1000000)))) 2)-2))
else
aa (aq3 (aqO.wrap (b+(aqO.wrap (aq1 a 1000000)))) 2))):Option Int) λd=>aqM (M.eK N (aqO.wrap ((aqO.wrap (d*1000000))+(aq3 a 1000000))) 1000000 e) λc=>(if(!ah (c.2=0))then
aa (0,c.2)
else
aqM (if(ah ((aqO.wrap ((aqO.wrap ((aqO.wrap (b+(aqO.wrap (aq1 a 1000000))))-d))+c.1))<(-1000000000000000)))then
aa af
else
aa (ah (1000000000000000<(aqO.wrap ((aqO.wrap ((aqO.wrap (b+(aqO.wrap (aq1 a 1000000))))-d))+c.1))))) λg=>(if g then
aa (0,3)
else
aa (aqO.wrap ((aqO.wrap ((aqO.wrap (b+(aqO.wrap (aq1 a 1000000))))-d))+c.1),0))))
def afw:Fo 266 (.i1 [.l az, .l az, .l az]) (.i1 [.l az, .l az]) (u3 (M.gL N)):=fz N [Ut N] [O,O,O,T,B 23 160,O,T,R ⟨[(8, .l az)],[],[],208⟩,X,X,O,O,O,T,B 58 512] Tryz.func266
def M.gM(d:bj.den)(j:Int)(c:Int)(e:Int):Option (Int×Int):=
aqM (if(ah (e<0))then
aa af
else
aa (ah (5<e))) λk=>(if k then
aa (0,1)
else
aqM (if(!(mD aA d.2.1 (3,0)))then
aa af
else
aa (!(mD aA d.2.2.1 (4,0)))) λl=>(if l then
aa (0,8)
else
aqM (if(ah (c<(-1000000000000000)))then
aa af
else
aa (ah (1000000000000000<c))) λm=>(if m then
aa (0,3)
else
bS (J:=Int×Int) (R:=Int×Int) (Loop (S:=Int×Int×Int) (X:=(Int×Int)⊕(Int×Int)) (λb=>(if(ah (b.2.2<(d.2.2.2.length:Int)))then
bS (J:=Int×Int) (R:=(Int×Int×Int)⊕((Int×Int)⊕(Int×Int))) (aqM (idx d.2.2.2 b.2.2) λa=>aqM (aqM (M.cH N a.1 j) λn=>(if(!n)then
aa af
else
aa (ah ((if c<a.2.2.1 then c else a.2.2.1)<=(if a.2.1<0 then 0 else a.2.1)))):Option Bool) λo=>(if o then
aa (.inl (b.1,b.2.1))
else
aqM (M.fy N (aqO.wrap ((if c<a.2.2.1 then c else a.2.2.1)-(if a.2.1<0 then 0 else a.2.1))) a.2.2.2) λf=>(if(!f.2.2)then
aa (.inr (.inr (.inr (0,3))))
else
aa (.inl (aqO.wrap (b.1+f.1),aqO.wrap (b.2.1+f.2.1)))))) λg=>aa (.inl (g.1,g.2,aqO.wrap (b.2.2+1)))
else
aa (.inr (.inl (b.1,b.2.1))))) N (0,0,0)) λh=>aqM (M.gL N h.1 h.2 e) λi=>aa (i.1,i.2))))
def afx:Fo 200 (.i1 [.g bj, .l az, .l az, .l az]) (.i1 [.l az, .l az]) (u4 (M.gM N)):=fz N [W71 N,afv N,afw N] [O,T,B 24 48,T,B 34 48,T,B 40 48,O,J ⟨[(10, .l az),(11, .l az)],[],[],80⟩,O,T,P ⟨[(10, .l az),(11, .l az),(44, .l az)],[],[],144⟩,O,O,T,J ⟨[(10, .l az),(11, .l az)],[],[],160⟩,O,O,T,B 64 368] Tryz.func200
def M.eL(N:Nat)(a:Bool):Option (aB.den):=
(if a then
aa (1,(0,1))
else
aa (1,(0,0)))
def aaQ:Fo 267 (.i1 [.l .bool]) (.i1 [.g aB]) (M.eL N):=fz N [] [] Tryz.func267
def M.jB(N:Nat)(a:Int):Option Bool:=
aqM (if(ah (0<=a))then
aa (ah (a<=109572))
else
aa ag) λb=>aa b
def XC:Fo 307 (.i1 [.l az]) (.i1 [.l .bool]) (M.jB N):=fz N [] [O,B 2 16] Tryz.func307
def M.kH(N:Nat)(a:Int):Option Int:=
aa (aqO.wrap ((aqO.wrap ((aqO.wrap (aq1 a 4))-(aqO.wrap (aq1 a 100))))+(aqO.wrap (aq1 a 400))))
def afy:Fo 339 (.i1 [.l az]) (.i1 [.l az]) (M.kH N):=fz N [] [] Tryz.func339
def M.eM(a:Int):Option Int:=
aqM (M.kH N (aqO.wrap (a-1))) λb=>aqM (M.kH N 1899) λc=>aa (aqO.wrap ((aqO.wrap ((aqO.wrap ((aqO.wrap (a-1900))*365))+b))-c))
def aaR:Fo 308 (.i1 [.l az]) (.i1 [.l az]) (M.eM N):=fz N [afy N] [] Tryz.func308
def M.oZ(N:Nat)(a:Int):Option Bool:=
aqM (if(ah ((aq3 a 4)=0))then(if(!ah ((aq3 a 100)=0))then
aa af
else
aa (ah ((aq3 a 400)=0)))
else
aa ag) λb=>aa b
def afz:Fo 340 (.i1 [.l az]) (.i1 [.l .bool]) (M.oZ N):=fz N [] [O,B 2 16] Tryz.func340
def M.dE(b:Int)(a:Int):Option Int:=
aqM (if(ah (a<1))then
aa af
else
aa (ah (12<a))) λc=>(if c then
aa 0
else
aqM (if(ah (a=2))then
aqM (M.oZ N b) λd=>aa d
else
aa ag) λe=>(if e then
aa 29
else
aqM (idx ([31,28,31,30,31,30,31,31,30,31,30,31]:List Int) (aqO.wrap (a-1))) λf=>aa f))
def XD:Fo 309 (.i1 [.l az, .l az]) (.i1 [.l az]) (u2 (M.dE N)):=fz N [afz N] [O,T,B 10 16,T,B 16 16] Tryz.func309
def M.eN(b:Int):Option (Int×Int×Int):=
aqM (M.jB N b) λf=>(if(!f)then
aa (0,0,0)
else
aqM (Loop (S:=Int) (X:=Int) (λc=>aqM (M.eM N (aqO.wrap (c+1))) λg=>(if(ah (g<=b))then
aa (.inl (aqO.wrap (c+1)))
else
aa (.inr c))) N (aqO.wrap (1900+(aqO.wrap (aq1 b 366)))):Option Int) λd=>aqM (M.eM N d) λh=>Loop (S:=Int×Int) (X:=Int×Int×Int) (λa=>(if(ah (a.2<12))then
aqM (M.dE N d (aqO.wrap (a.2+1))) λe=>(if(ah (a.1<e))then
aa (.inr (d,aqO.wrap (a.2+1),aqO.wrap (a.1+1)))
else
aa (.inl (aqO.wrap (a.1-e),aqO.wrap (a.2+1))))
else
aa (.inr (0,0,0)))) N (aqO.wrap (b-h),0))
def XE:Fo 268 (.i1 [.l az]) (.i1 [.l az, .l az, .l az]) (M.eN N):=fz N [XC N,aaR N,XD N] [O,O,O,R ⟨[(5, .l az)],[],[],160⟩,T,L 5 160,X,X,O,T,O,T,P ⟨[(6, .l az),(26, .l az)],[],[],256⟩] Tryz.func268
def M.jC(b:Int)(a:aB.den):Option (aB.den):=
(if(ah (b=10))then
aa (a.1,(0,aqO.wrap (0-a.2.2)))
else(if(ah (b=25))then
aqM (M.eL N (ah (a.2.2=0))) λd=>aa d
else
aqM (M.eN N a.2.2) λc=>(if(ah (b=31))then
aa (2,(0,c.1))
else
aa (2,(0,c.2.1)))))
def afA:Fo 201 (.i1 [.l az, .g aB]) (.i1 [.g aB]) (u2 (M.jC N)):=fz N [aaQ N,XE N] [] Tryz.func201
def M.la(a:Int)(b:Int):Option (Int×Int):=
aqM (M.ef N (aqQ.wrap (if a<(aqO.wrap (0-a))then(aqO.wrap (0-a))else a)) (aqQ.wrap (if b<(aqO.wrap (0-b))then(aqO.wrap (0-b))else b))) λc=>aqM (if(!ah (c.1=0))then
aa af
else
aa (ah (1000000000000000<c.2))) λd=>(if d then
aa (0,3)
else(if(!ah ((ah (a<0))=(ah (b<0))))then
aa (aqO.wrap (0-(aqO.wrap c.2)),0)
else
aa (aqO.wrap c.2,0)))
def afB:Fo 310 (.i1 [.l az, .l az]) (.i1 [.l az, .l az]) (u2 (M.la N)):=fz N [Us N] [O,O,T,B 27 288] Tryz.func310
def M.mW(b:Int)(c:Int)(a:Int)(g:Int):Option (Int×Int):=
aqM (M.fY N g) λi=>(if(!i)then
aa (0,1)
else(if(ah (a=0))then
aa (0,12)
else
aqM (aqM (M.eJ N b 1000000000000000) λj=>(if j then
aa af
else
aqM (M.eJ N c 1000000000) λk=>(if k then
aa af
else
aqM (M.eJ N a 1000000000) λl=>aa l)):Option Bool) λm=>(if m then
aa (0,3)
else
aqM (M.eh N b) λn=>aqM (M.eh N c) λo=>aqM (M.ef N n o) λd=>aqM (M.eh N a) λe=>(if(ah (e<=d.1))then
aa (0,3)
else
aqM (M.dz N d.1 d.2 e) λf=>(if(ah (1000000000000000<f.1))then
aa (0,3)
else
aqM (M.dm N f.1 f.2 e (!ah ((!ah ((ah (b<0))=(ah (c<0))))=(ah (a<0)))) g) λh=>(if(ah (1000000000000000<h))then
aa (0,3)
else
aqM (M.jA N h (!ah ((!ah ((ah (b<0))=(ah (c<0))))=(ah (a<0))))) λp=>aa (p,0)))))))
def afC:Fo 341 (.i1 [.l az, .l az, .l az, .l az]) (.i1 [.l az, .l az]) (u4 (M.mW N)):=fz N [Us N,Xz N,XA N,XB N,aaN N,aaO N,aaP N] [O,O,O,T,B 30 112] Tryz.func341
def M.ol(b:Int)(c:Int)(d:Int):Option (Int×Int):=
aqM (M.mW N b c 1000000 d) λa=>aa (a.1,a.2)
def afD:Fo 311 (.i1 [.l az, .l az, .l az]) (.i1 [.l az, .l az]) (u3 (M.ol N)):=fz N [afC N] [] Tryz.func311
def M.kI(N:Nat)(a:Int):Option Bool:=
aqM (if(ah (0<=a))then
aa (ah (a<=5))
else
aa ag) λb=>aa b
def aaS:Fo 342 (.i1 [.l az]) (.i1 [.l .bool]) (M.kI N):=fz N [] [O,B 2 16] Tryz.func342
def M.jr(N:Nat)(a:Int)(b:Int):Option Bool:=
aqM (if(ah (b<a))then
aa af
else
aa (ah (a<(aqO.wrap (0-b))))) λc=>aa c
def aaT:Fo 343 (.i1 [.l az, .l az]) (.i1 [.l .bool]) (u2 (M.jr N)):=fz N [] [O,B 4 16] Tryz.func343
def M.mX(b:Int)(c:Int)(d:Int):Option (Int×Int):=
aqM (M.kI N d) λe=>(if(!e)then
aa (0,1)
else
aqM (aqM (M.jr N b 1000000000) λf=>(if f then
aa af
else
aqM (M.jr N c 1000000000) λg=>aa g):Option Bool) λh=>(if h then
aa (0,3)
else
aqM (M.eK N (aqO.wrap (b*c)) 1000000 d) λa=>(if(!ah (a.2=0))then
aa (0,a.2)
else
aqM (M.jr N a.1 1000000000) λi=>(if i then
aa (0,3)
else
aa (a.1,0)))))
def afE:Fo 312 (.i1 [.l az, .l az, .l az]) (.i1 [.l az, .l az]) (u3 (M.mX N)):=fz N [Ut N,aaS N,aaT N] [O,O,T,B 18 80] Tryz.func312
def M.fH(c:Int)(a:Int)(d:Int):Option (Int×Int):=
aqM (M.fY N d) λe=>(if(!e)then
aa (0,1)
else(if(ah (a<1))then
aa (0,12)
else
aqM (aqM (M.eJ N c 1000000000000000) λf=>(if f then
aa af
else
aa (ah (1000000000000000<a))):Option Bool) λg=>(if g then
aa (0,3)
else
aqM (M.eK N c a d) λb=>(if(!ah (b.2=0))then
aa (0,b.2)
else
aqM (M.eJ N (aqO.wrap (b.1*a)) 1000000000000000) λh=>(if h then
aa (0,3)
else
aa (aqO.wrap (b.1*a),0))))))
def afF:Fo 313 (.i1 [.l az, .l az, .l az]) (.i1 [.l az, .l az]) (u3 (M.fH N)):=fz N [Ut N,XA N,XB N] [O,O,O,T,B 20 112] Tryz.func313
def M.jT(N:Nat)(e:Int)(a:Int)(c:Int)(d:Bool)(b:Int):Option Bool:=
(if(ah (a=0))then
aa ag
else(if(ah (b=0))then
aa d
else(if(ah (b=1))then
aa (!d)
else(if(ah (b=3))then
aa af
else(if(ah (b=4))then
aa (ah ((aqQ.wrap (c-a))<=a))
else(if(ah (b=5))then
aqM (if(ah ((aqQ.wrap (c-a))<a))then
aa af
else(if(ah (a=(aqQ.wrap (c-a))))then
aa (ah ((aq3 e 2)=1))
else
aa ag)) λf=>aa f
else
aa ag))))))
def afG:Fo 344 (.i1 [.l (.int .u64), .l (.int .u64), .l (.int .u64), .l .bool, .l az]) (.i1 [.l .bool]) (u5 (M.jT N)):=fz N [] [O,O,T,O,T,O,O,O,O,O,O,O,O,O,T,B 10 224] Tryz.func344
def M.iY(b:Int)(a:Int)(f:Int):Option (Int×Int):=
aqM (M.kI N f) λg=>(if(!g)then
aa (0,1)
else(if(ah (a=0))then
aa (0,12)
else
aqM (aqM (M.jr N b 1000000000000000) λh=>(if h then
aa af
else
aqM (M.jr N a 1000000000000000) λi=>aa i):Option Bool) λj=>(if j then
aa (0,3)
else
aqM (M.ef N (aqQ.wrap (if b<(aqO.wrap (0-b))then(aqO.wrap (0-b))else b)) 1000000) λd=>(if(ah ((aqQ.wrap (if a<(aqO.wrap (0-a))then(aqO.wrap (0-a))else a))<=d.1))then
aa (0,3)
else
aqM (M.dz N d.1 d.2 (aqQ.wrap (if a<(aqO.wrap (0-a))then(aqO.wrap (0-a))else a))) λc=>(if(ah (1000000000<c.1))then
aa (0,3)
else
aqM (aqM (M.jT N c.1 c.2 (aqQ.wrap (if a<(aqO.wrap (0-a))then(aqO.wrap (0-a))else a)) (!ah ((ah (b<0))=(ah (a<0)))) f) λk=>(if k then
aa (aqO.wrap ((aqO.wrap c.1)+1))
else
aa (aqO.wrap c.1)):Option Int) λe=>(if(ah (1000000000<e))then
aa (0,3)
else
aqM ((if(!ah ((ah (b<0))=(ah (a<0))))then
aa (aqO.wrap (0-e))
else
aa e):Option Int) λl=>aa (l,0)))))))
def afH:Fo 314 (.i1 [.l az, .l az, .l az]) (.i1 [.l az, .l az]) (u3 (M.iY N)):=fz N [Us N,Xz N,aaS N,aaT N,afG N] [O,O,O,T,B 25 112,O,O,O,O,O,O,O,R ⟨[(14, .l az)],[],[],752⟩,X,O,R ⟨[(14, .l az)],[],[],784⟩] Tryz.func314
def M.jt(b:aA.den)(a:aB.den)(c:aB.den):Option (aB.den×Int):=
aqM ((if(ah (b.1=13))then
aqM (M.la N a.2.2 c.2.2) λd=>aa (d.2,(a.1,(0,d.1)))
else
aqM (if(ah (b.1=14))then
aa (ah (a.1=3))
else
aa ag) λk=>(if k then
aqM (M.ol N a.2.2 c.2.2 b.2) λe=>aa (e.2,(a.1,(0,e.1)))
else(if(ah (b.1=14))then
aqM (M.mX N a.2.2 c.2.2 b.2) λf=>aa (f.2,(a.1,(0,f.1)))
else(if(ah (b.1=16))then
aqM (M.fH N a.2.2 c.2.2 b.2) λg=>aa (g.2,(a.1,(0,g.1)))
else(if(ah (c.1=2))then
aqM (M.eK N a.2.2 c.2.2 b.2) λh=>aa (h.2,(a.1,(0,h.1)))
else
aqM (M.iY N a.2.2 c.2.2 b.2) λi=>aa (i.2,(4,(0,i.1)))))))):Option (Int×aB.den)) λj=>aa (j.2,j.1)
def afI:Fo 269 (.i1 [.g aA, .g aB, .g aB]) (.i1 [.g aB, .l az]) (u3 (M.jt N)):=fz N [Ut N,afB N,afD N,afE N,afF N,afH N] [O,O,T,R ⟨[(9, .l az)],[(128, .box 40 (.leaf aB))],[],177⟩,O,O,B 38 240] Tryz.func269
def M.lb(a:Int)(c:Int)(d:Int):Option (Int×Int):=
aqM (if(ah (a<1900))then
aa af
else(if(ah (2199<a))then
aa af
else(if(ah (c<1))then
aa af
else(if(ah (12<c))then
aa af
else(if(ah (d<1))then
aa af
else
aqM (M.dE N a c) λe=>aa (ah (e<d))))))) λf=>(if f then
aa (0,3)
else
aqM (M.eM N a) λg=>aqM (Loop (S:=Int×Int) (X:=Int) (λb=>(if(ah (b.2<(aqO.wrap (c-1))))then
aqM (M.dE N a (aqO.wrap (b.2+1))) λh=>aa (.inl (aqO.wrap (b.1+h),aqO.wrap (b.2+1)))
else
aa (.inr b.1))) N (g,0):Option Int) λi=>aa (aqO.wrap ((aqO.wrap (i+d))-1),0))
def afJ:Fo 315 (.i1 [.l az, .l az, .l az]) (.i1 [.l az, .l az]) (u3 (M.lb N)):=fz N [aaR N,XD N] [O,T,B 34 32,O,R ⟨[(8, .l az)],[],[],80⟩,O,T,P ⟨[(8, .l az),(39, .l az)],[],[],128⟩] Tryz.func315
def M.dq(c:Int)(b:Int):Option (Int×Int):=
aqM (aqM (M.jB N c) λf=>(if(!f)then
aa af
else(if(ah (b<(-3600)))then
aa af
else
aa (ah (3600<b)))):Option Bool) λg=>(if g then
aa (0,3)
else
aqM (M.eN N c) λa=>aqM (if(ah ((aqO.wrap ((aqO.wrap ((aqO.wrap ((aqO.wrap ((aqO.wrap (a.1-1900))*12))+a.2.1))-1))+b))<0))then
aa af
else
aa (ah (3599<(aqO.wrap ((aqO.wrap ((aqO.wrap ((aqO.wrap ((aqO.wrap (a.1-1900))*12))+a.2.1))-1))+b))))) λh=>(if h then
aa (0,3)
else
aqM (M.dE N (aqO.wrap (1900+(aqO.wrap (aq1 (aqO.wrap ((aqO.wrap ((aqO.wrap ((aqO.wrap ((aqO.wrap (a.1-1900))*12))+a.2.1))-1))+b)) 12)))) (aqO.wrap ((aq3 (aqO.wrap ((aqO.wrap ((aqO.wrap ((aqO.wrap ((aqO.wrap (a.1-1900))*12))+a.2.1))-1))+b)) 12)+1))) λd=>aqM (M.lb N (aqO.wrap (1900+(aqO.wrap (aq1 (aqO.wrap ((aqO.wrap ((aqO.wrap ((aqO.wrap ((aqO.wrap (a.1-1900))*12))+a.2.1))-1))+b)) 12)))) (aqO.wrap ((aq3 (aqO.wrap ((aqO.wrap ((aqO.wrap ((aqO.wrap ((aqO.wrap (a.1-1900))*12))+a.2.1))-1))+b)) 12)+1)) (if d<a.2.2 then d else a.2.2)) λe=>aa (e.1,e.2)))
def aaU:Fo 270 (.i1 [.l az, .l az]) (.i1 [.l az, .l az]) (u2 (M.dq N)):=fz N [XE N,XC N,XD N,afJ N] [O,T,B 20 32,O,O,T,B 40 320] Tryz.func270
def M.eP(a:Int)(b:Int):Option Int:=
aqM (aqM (M.jB N a) λg=>(if(!g)then
aa af
else
aqM (M.jB N b) λh=>(if(!h)then
aa af
else
aa (ah (b<a)))):Option Bool) λi=>(if i then
aa 0
else
aqM (M.eN N a) λc=>aqM (M.eN N b) λd=>aqM (aqM (M.dq N a (aqO.wrap (12*(aqO.wrap (d.1-c.1))))) λe=>aqM (if(!ah (e.2=0))then
aa af
else
aa (ah (b<e.1))) λj=>(if j then
aa (aqO.wrap ((aqO.wrap (d.1-c.1))-1))
else
aa (aqO.wrap (d.1-c.1))):Option Int) λf=>aa (if f<0 then 0 else f))
def afK:Fo 271 (.i1 [.l az, .l az]) (.i1 [.l az]) (u2 (M.eP N)):=fz N [XE N,aaU N,XC N] [O,T,B 26 16,O,O,O,R ⟨[(11, .l az)],[],[],368⟩,O,B 55 512] Tryz.func271
def M.b9(a:aA.den)(b:aB.den)(c:aB.den):Option (aB.den×Int):=
aqM (if(ah (a.1=11))then
aa (ah (a.1=11))
else
aa (ah (a.1=27))) λh=>(if h then
aa ((b.1,(0,aqO.wrap (b.2.2+c.2.2))),0)
else(if(ah (a.1=12))then
aa ((b.1,(0,aqO.wrap (b.2.2-c.2.2))),0)
else
aqM (if(ah (a.1=13))then
aa (ah (a.1=13))
else(if(ah (a.1=14))then
aa (ah (a.1=14))
else(if(ah (a.1=15))then
aa (ah (a.1=15))
else
aa (ah (a.1=16))))) λi=>(if i then
aqM (M.jt N a b c) λd=>aa (d.1,d.2)
else
aqM (if(ah (a.1=17))then
aa (ah (a.1=17))
else
aa (ah (a.1=18))) λj=>(if j then(if(ah ((ah (a.1=17))=(ah (c.2.2<b.2.2))))then
aa (c,0)
else
aa (b,0))
else(if(ah (a.1=19))then
aqM (M.eL N (ah (b.2.2=c.2.2))) λk=>aa (k,0)
else(if(ah (a.1=20))then
aqM (M.eL N (!ah (b.2.2=c.2.2))) λl=>aa (l,0)
else(if(ah (a.1=21))then
aqM (M.eL N (ah (b.2.2<c.2.2))) λm=>aa (m,0)
else(if(ah (a.1=22))then
aqM (M.eL N (ah (b.2.2<=c.2.2))) λn=>aa (n,0)
else(if(ah (a.1=23))then
aqM ((if(ah (b.2.2=1))then
aqM (M.eL N (ah (c.2.2=1))) λo=>aa (0,o)
else
aqM (M.eL N ag) λp=>aa (0,p)):Option (Int×aB.den)) λe=>aa (e.2,e.1)
else(if(ah (a.1=24))then
aqM ((if(ah (b.2.2=1))then
aqM (M.eL N af) λq=>aa (0,q)
else
aqM (M.eL N (ah (c.2.2=1))) λr=>aa (0,r)):Option (Int×aB.den)) λf=>aa (f.2,f.1)
else(if(ah (a.1=28))then
aqM (M.dq N b.2.2 c.2.2) λg=>aa ((5,(0,g.1)),g.2)
else(if(ah (a.1=29))then
aa ((2,(0,aqO.wrap (c.2.2-b.2.2))),0)
else
aqM (M.eP N b.2.2 c.2.2) λs=>aa ((2,(0,s)),0)))))))))))))
def afL:Fo 202 (.i1 [.g aA, .g aB, .g aB]) (.i1 [.g aB, .l az]) (u3 (M.b9 N)):=fz N [aaQ N,afI N,aaU N,afK N] [O,T,O,T,R ⟨[(12, .l .bool)],[],[],112⟩,X,O,O,O,R ⟨[(33, .l .bool)],[],[],144⟩,X,O,R ⟨[(44, .l .bool)],[],[],144⟩,X,O,O,O,O,O,O,O,O,O,O,T,R ⟨[(7, .l az)],[(48, .box 40 (.leaf aB))],[],305⟩,X,X,O,T,R ⟨[(7, .l az)],[(48, .box 40 (.leaf aB))],[],337⟩] Tryz.func202
def M.cn(a:aA.den)(b:List aB.den)(c:b8.den):Option (aB.den×Int):=
aqM (if(ah (a.1=1))then
aa (ah (a.1=1))
else(if(ah (a.1=2))then
aa (ah (a.1=2))
else(if(ah (a.1=3))then
aa (ah (a.1=3))
else(if(ah (a.1=4))then
aa (ah (a.1=4))
else
aa (ah (a.1=5)))))) λi=>(if i then
aa ((a.1,(0,a.2)),0)
else(if(ah (a.1=6))then
aa ((6,(aqO.wrap (aq1 a.2 16),aq3 a.2 16)),0)
else(if(ah (a.1=7))then
aqM (idx c.2.1 a.2) λj=>aa (j,0)
else(if(ah (a.1=8))then
aqM (idx c.2.2.1 a.2) λk=>aa (k,0)
else(if(ah (a.1=9))then
aa ((5,(0,c.1)),0)
else(if(ah (a.1=35))then
aa ((2,(0,(c.2.2.2.1.length:Int))),0)
else
aqM (if(ah (a.1=36))then
aa (ah (a.1=36))
else(if(ah (a.1=37))then
aa (ah (a.1=37))
else(if(ah (a.1=38))then
aa (ah (a.1=38))
else
aa (ah (a.1=39))))) λl=>(if l then
aqM (M.gB N a c) λe=>aa (e.1,e.2)
else(if(ah (a.1=33))then
aqM (idx c.2.2.2.2.2 a.2) λd=>aqM (idx b 0) λm=>aqM (M.k9 N d c.1 m.2.2) λf=>(if(!f.2)then
aa ((0,(0,0)),6)
else
aqM (idx d.2.2.2 f.1) λn=>aa ((d.2.2.1.1,(d.2.2.1.2,n.2.2.2)),0))
else(if(ah (a.1=34))then
aqM (idx c.2.2.2.2.2 (aqO.wrap (aq1 a.2 8))) λo=>aqM (idx b 0) λp=>aqM (M.gM N o c.1 p.2.2 (aq3 a.2 8)) λg=>aa ((3,(0,g.1)),g.2)
else(if(ah ((b.length:Int)=1))then
aqM (idx b 0) λq=>aqM (M.jC N a.1 q) λr=>aa (r,0)
else(if(ah ((b.length:Int)=2))then
aqM (idx b 0) λs=>aqM (idx b 1) λt=>aqM (M.b9 N a s t) λh=>aa (h.1,h.2)
else
aqM (idx b 0) λu=>(if(ah (u.2.2=1))then
aqM (idx b 1) λv=>aa (v,0)
else
aqM (idx b 2) λw=>aa (w,0)))))))))))))
def afM:Fo 126 (.i1 [.g aA, .l (.slice aB), .g b8]) (.i1 [.g aB, .l az]) (u3 (M.cn N)):=fz N [afp N,afr N,afx N,afA N,afL N] [O,T,O,T,R ⟨[(15, .l .bool)],[],[],96⟩,X,O,O,O,O,O,O,O,O,O,O,O,B 62 256] Tryz.func126
def M.gN(a:aA.den)(b:List aB.den)(d:b8.den):Option (aB.den×Int):=
aqM (aqM (M.fh N a) λe=>(if(!e)then
aa af
else
aqM (M.fX N a.1) λf=>aa (!ah ((b.length:Int)=f))):Option Bool) λg=>(if g then
aa ((0,(0,0)),2)
else
aqM (M.kG N a d) λh=>(if(!h)then
aa ((0,(0,0)),6)
else
aqM (aqM (M.dO N b) λi=>(if(!i)then
aa af
else
aqM (M.bX N a b d) λj=>aa (!j)):Option Bool) λk=>(if k then
aa ((0,(0,0)),8)
else
aqM (M.cn N a b d) λc=>(if(!ah (c.2=0))then
aa ((0,(0,0)),c.2)
else
aqM (M.dj N c.1) λl=>(if(!l)then
aa ((0,(0,0)),3)
else
aa (c.1,0))))))
def W79:Fo 79 (.i1 [.g aA, .l (.slice aB), .g b8]) (.i1 [.g aB, .l az]) (u3 (M.gN N)):=fz N [QW N,afi N,afj N,afk N,afo N,afM N,NQ N] [O,T,B 20 64,O,T,B 36 128] Tryz.func79
mutual
def M.cr(B:Nat):Nat->bV.den->Int->Option (aB.den×Int)
 |0,_,_=>ae
 |N+1,c,f=>
  aqM (idx c.1 f) λb=>
  aqM (M.fQ B c f) λd=>
  aqM (if(ah (b.1=23))then
  aa (ah (b.1=23))
  else
  (if(ah (b.1=24))then
  aa (ah (b.1=24))
  else
  aa (ah (b.1=26)))) λi=>
  (if i then
  aqM (M.jZ B N c b d) λg=>
  aa (g.1,g.2)
  else
  aqM (qh (d.length:Int) (0,(0,0))) λj=>
  bS (J:=List aB.den) (R:=aB.den×Int) (Loop (S:=Int×List aB.den) (X:=(List aB.den)⊕(aB.den×Int)) (λa=>
  (if(ah (a.1<(d.length:Int)))then
  aqM (idx d a.1) λk=>
  aqM (M.cr B N c k) λe=>
  (if(!ah (e.2=0))then
  aa (.inr (.inr ((0,(0,0)),e.2)))
  else
  aqM (idx a.2 a.1) λm=>
  aa (.inl (aqO.wrap (a.1+1),bH a.2 a.1 e.1)))
  else
  aa (.inr (.inl a.2)))) B (0,j)) λl=>
  aqM (M.gN B b l c.2.2) λh=>
  aa (h.1,h.2))
def M.jZ(B:Nat):Nat->bV.den->aA.den->(List Int)->Option (aB.den×Int)
 |0,_,_,_=>ae
 |N+1,b,c,d=>
  (if(!ah (c.2=0))then
  aa ((0,(0,0)),2)
  else
  aqM (idx d 0) λh=>
  aqM (M.dY B N b h) λa=>
  (if(!ah (a.2=0))then
  aa ((0,(0,0)),a.2)
  else
  aqM (if(ah (c.1=26))then
  aa (ah (a.1.2.2=1))
  else
  aa ag) λi=>
  (if i then
  aqM (idx d 1) λj=>
  aqM (M.cr B N b j) λe=>
  aa (e.1,e.2)
  else
  (if(ah (c.1=26))then
  aqM (idx d 2) λk=>
  aqM (M.cr B N b k) λf=>
  aa (f.1,f.2)
  else
  (if(ah ((ah (c.1=23))=(ah (a.1.2.2=0))))then
  aa (a.1,0)
  else
  aqM (idx d 1) λl=>
  aqM (M.dY B N b l) λg=>
  aa (g.1,g.2))))))
def M.dY(B:Nat):Nat->bV.den->Int->Option (aB.den×Int)
 |0,_,_=>ae
 |N+1,b,c=>
  aqM (M.cr B N b c) λa=>
  (if(!ah (a.2=0))then
  aa ((0,(0,0)),a.2)
  else
  aqM (if(!ah (a.1.1=1))then
  aa af
  else
  aqM (M.dj B a.1) λd=>
  aa (!d)) λe=>
  (if e then
  aa ((0,(0,0)),8)
  else
  aa (a.1,0)))
end
def M.lM(a:bV.den)(b:Int):Option (aB.den×Int):=M.cr N N a b
def S50:qf:=⟨.i1 [.g bV, .l az], .i1 [.g aB, .l az],u2 (M.lM N)⟩
def R50(B N:Nat):qf:={inn:=⟨[(0, .g bV),(1, .l az)],[],[],0⟩,out:=⟨[(0, .g aB),(1, .l az)],[],[],0⟩,fn:=λ(x:bV.den×Int)=>M.cr B N x.1 x.2}
def R78(B N:Nat):qf:={inn:=⟨[(0, .g bV),(1, .g aA),(2, .l (.slice az))],[],[],0⟩,out:=⟨[(0, .g aB),(1, .l az)],[],[],0⟩,fn:=λ(x:bV.den×aA.den×List Int)=>M.jZ B N x.1 x.2.1 x.2.2}
def afN(B N:Nat):qf:={inn:=⟨[(0, .g bV),(1, .l az)],[],[],0⟩,out:=⟨[(0, .g aB),(1, .l az)],[],[],0⟩,fn:=λ(x:bV.den×Int)=>M.dY B N x.1 x.2}
def NR(B:Nat):∀N,hZ Tryz.prog 50 (R50 B N)/\hZ Tryz.prog 78 (R78 B N)/\hZ Tryz.prog 121 (afN B N)
 |0=>⟨qw Tryz.func50 (by kernel_rfl) (by kernel_rfl) λ_=>rfl,qw Tryz.func78 (by kernel_rfl) (by kernel_rfl) λ_=>rfl,qw Tryz.func121 (by kernel_rfl) (by kernel_rfl) λ_=>rfl⟩
 |N+1=>⟨fw (en [ck ((NR B N).1),ck (W77 B),ck ((NR B N).2.1),ck (W79 B)] ag ag) (N:=B) (.o (.o (.o (.two (.o (.two (.meet ⟨[(23, .l .bool)],[],[],256⟩ .nil .nil) .nil)) (.o (.join ⟨[],[(288, .own 40 aB)],[],321⟩ (.o (.two (.loop ⟨[(38, .l az)],[(288, .own 40 aB)],[],369⟩ .nil) .nil)) .nil)))))) Tryz.func50 (by kernel_rfl) λx=>by kernel_rfl,
  fw (en [ck ((NR B N).1),ck ((NR B N).2.2)] ag ag) (N:=B) (.o (.o (.o (.o (.two (.two (.meet ⟨[(26, .l .bool)],[],[],320⟩ .nil .nil) .nil) .nil))))) Tryz.func78 (by kernel_rfl) λx=>by kernel_rfl,
  fw (en [ck ((NR B N).1),ck (NQ B)] ag ag) (N:=B) (.o (.o (.o (.two (.meet ⟨[(25, .l .bool)],[],[],224⟩ .nil .nil) .nil)))) Tryz.func121 (by kernel_rfl) λx=>by kernel_rfl⟩
def W50(N:Nat):hZ Tryz.prog 50 (S50 N):=(NR N N).1
def M.jU(a:List aA.den)(d:b8.den):Option (aB.den×Int):=
aqM (M.qx N a) λb=>(if(!ah (b.1=0))then
aa ((0,(0,0)),b.1)
else
aqM (M.lM N (a,(b.2,d)) (aqO.wrap ((a.length:Int)-1))) λc=>aa (c.1,c.2))
def W24:Fo 24 (.i1 [.l (.slice aA), .g b8]) (.i1 [.g aB, .l az]) (u2 (M.jU N)):=fz N [W49 N,W50 N] [] Tryz.func24
def M.du(c:aU.den)(d:b8.den):Option (Int×Int×Int):=
(if(ah (8<(c.2.1.length:Int)))then
aa (0,8,4)
else
Loop (S:=Int×Int) (X:=Int×Int×Int) (λa=>(if(ah (a.2<(c.2.1.length:Int)))then
bS (J:=Int) (R:=(Int×Int)⊕(Int×Int×Int)) (aqM (idx c.2.1 a.2) λe=>aqM (M.jU N e d) λb=>(if(!ah (b.2=0))then
aa (.inr (.inr (0,a.2,b.2)))
else(if(!ah (b.1.1=1))then
aa (.inr (.inr (0,a.2,8)))
else(if(ah (b.1.2.2=1))then
aqM (uF .i64 1 a.2) λf=>aa (.inl (aL .or .i64 a.1 f))
else
aa (.inl a.1))))) λg=>aa (.inl (g,aqO.wrap (a.2+1)))
else
aa (.inr (a.1,(-1),0)))) N (0,0))
def W10:Fo 10 (.i1 [.g aU, .g b8]) (.i1 [.l az, .l az, .l az]) (u2 (M.du N)):=fz N [W24 N] [O,O,O,T,O,T,P ⟨[(7, .l az),(19, .l az)],[],[],224⟩,O,O,T,J ⟨[(7, .l az)],[],[],240⟩] Tryz.func10
def M.lU(N:Nat)(a:Int):Option Bool:=
aqM (if(ah (97<=a))then
aa (ah (a<=122))
else
aa ag) λb=>aa b
def aaV:Fo 148 (.i1 [.l (.int .u8)]) (.i1 [.l .bool]) (M.lU N):=fz N [] [O,B 2 16] Tryz.func148
def M.oE(N:Nat)(a:Int):Option Bool:=
aqM (if(ah (48<=a))then
aa (ah (a<=57))
else
aa ag) λb=>aa b
def afO:Fo 222 (.i1 [.l (.int .u8)]) (.i1 [.l .bool]) (M.oE N):=fz N [] [O,B 2 16] Tryz.func222
def M.lc(b:ByteArray):Option Int:=
Loop (S:=Int) (X:=Int) (λa=>aqM (if(ah (a<(b.size:Int)))then
aqM (lH b a) λc=>aqM (M.lU N c) λd=>(if d then
aa af
else
aqM (lH b a) λe=>aqM (M.oE N e) λf=>(if f then
aa af
else
aqM (lH b a) λg=>aa (ah (g=95))))
else
aa ag) λh=>(if h then
aa (.inl (aqO.wrap (a+1)))
else
aa (.inr a))) N 0
def afP:Fo 149 (.i1 [.l .str]) (.i1 [.l az]) (M.lc N):=fz N [aaV N,afO N] [O,O,T,T,L 3 32,T,B 25 32] Tryz.func149
def M.mZ(N:Nat)(a:ByteArray):Option Bool:=
aqM (if(ah (a=⟨#[105,102]⟩))then
aa (ah (a=⟨#[105,102]⟩))
else(if(ah (a=⟨#[116,104,101,110]⟩))then
aa (ah (a=⟨#[116,104,101,110]⟩))
else(if(ah (a=⟨#[101,108,115,101]⟩))then
aa (ah (a=⟨#[101,108,115,101]⟩))
else(if(ah (a=⟨#[111,114]⟩))then
aa (ah (a=⟨#[111,114]⟩))
else(if(ah (a=⟨#[97,110,100]⟩))then
aa (ah (a=⟨#[97,110,100]⟩))
else(if(ah (a=⟨#[110,111,116]⟩))then
aa (ah (a=⟨#[110,111,116]⟩))
else(if(ah (a=⟨#[116,114,117,101]⟩))then
aa (ah (a=⟨#[116,114,117,101]⟩))
else(if(ah (a=⟨#[102,97,108,115,101]⟩))then
aa (ah (a=⟨#[102,97,108,115,101]⟩))
else(if(ah (a=⟨#[116,111,100,97,121]⟩))then
aa (ah (a=⟨#[116,111,100,97,121]⟩))
else(if(ah (a=⟨#[115,104,97,114,101]⟩))then
aa (ah (a=⟨#[115,104,97,114,101]⟩))
else(if(ah (a=⟨#[100,105,118]⟩))then
aa (ah (a=⟨#[100,105,118]⟩))
else(if(ah (a=⟨#[114,111,117,110,100]⟩))then
aa (ah (a=⟨#[114,111,117,110,100]⟩))
else(if(ah (a=⟨#[109,105,110]⟩))then
aa (ah (a=⟨#[109,105,110]⟩))
else(if(ah (a=⟨#[109,97,120]⟩))then
aa (ah (a=⟨#[109,97,120]⟩))
else(if(ah (a=⟨#[112,108,117,115]⟩))then
aa (ah (a=⟨#[112,108,117,115]⟩))
else(if(ah (a=⟨#[109,111,110,116,104,115]⟩))then
aa (ah (a=⟨#[109,111,110,116,104,115]⟩))
else(if(ah (a=⟨#[100,97,121,115]⟩))then
aa (ah (a=⟨#[100,97,121,115]⟩))
else(if(ah (a=⟨#[121,101,97,114,115]⟩))then
aa (ah (a=⟨#[121,101,97,114,115]⟩))
else(if(ah (a=⟨#[121,101,97,114]⟩))then
aa (ah (a=⟨#[121,101,97,114]⟩))
else(if(ah (a=⟨#[109,111,110,116,104]⟩))then
aa (ah (a=⟨#[109,111,110,116,104]⟩))
else(if(ah (a=⟨#[116,97,98]⟩))then
aa (ah (a=⟨#[116,97,98]⟩))
else(if(ah (a=⟨#[98,97,110,100]⟩))then
aa (ah (a=⟨#[98,97,110,100]⟩))
else(if(ah (a=⟨#[99,111,117,110,116]⟩))then
aa (ah (a=⟨#[99,111,117,110,116]⟩))
else(if(ah (a=⟨#[115,117,109]⟩))then
aa (ah (a=⟨#[115,117,109]⟩))
else(if(ah (a=⟨#[97,108,108]⟩))then
aa (ah (a=⟨#[97,108,108]⟩))
else(if(ah (a=⟨#[97,110,121]⟩))then
aa (ah (a=⟨#[97,110,121]⟩))
else(if(ah (a=⟨#[109,111,115,116]⟩))then
aa (ah (a=⟨#[109,111,115,116]⟩))
else(if(ah (a=⟨#[101,110,117,109]⟩))then
aa (ah (a=⟨#[101,110,117,109]⟩))
else(if(ah (a=⟨#[116,97,98,108,101]⟩))then
aa (ah (a=⟨#[116,97,98,108,101]⟩))
else(if(ah (a=⟨#[114,111,119]⟩))then
aa (ah (a=⟨#[114,111,119]⟩))
else(if(ah (a=⟨#[115,99,111,112,101]⟩))then
aa (ah (a=⟨#[115,99,111,112,101]⟩))
else(if(ah (a=⟨#[109,101,109,98,101,114,115]⟩))then
aa (ah (a=⟨#[109,101,109,98,101,114,115]⟩))
else(if(ah (a=⟨#[105,110,112,117,116]⟩))then
aa (ah (a=⟨#[105,110,112,117,116]⟩))
else(if(ah (a=⟨#[100,101,102]⟩))then
aa (ah (a=⟨#[100,101,102]⟩))
else(if(ah (a=⟨#[114,117,108,101]⟩))then
aa (ah (a=⟨#[114,117,108,101]⟩))
else(if(ah (a=⟨#[111,102]⟩))then
aa (ah (a=⟨#[111,102]⟩))
else(if(ah (a=⟨#[111,118,101,114]⟩))then
aa (ah (a=⟨#[111,118,101,114]⟩))
else(if(ah (a=⟨#[112,114,105,111]⟩))then
aa (ah (a=⟨#[112,114,105,111]⟩))
else(if(ah (a=⟨#[102,114,111,109]⟩))then
aa (ah (a=⟨#[102,114,111,109]⟩))
else(if(ah (a=⟨#[116,111]⟩))then
aa (ah (a=⟨#[116,111]⟩))
else(if(ah (a=⟨#[101,110,100]⟩))then
aa (ah (a=⟨#[101,110,100]⟩))
else(if(ah (a=⟨#[119,104,101,110]⟩))then
aa (ah (a=⟨#[119,104,101,110]⟩))
else(if(ah (a=⟨#[105,115]⟩))then
aa (ah (a=⟨#[105,115]⟩))
else(if(ah (a=⟨#[115,114,99]⟩))then
aa (ah (a=⟨#[115,114,99]⟩))
else(if(ah (a=⟨#[98,111,111,108]⟩))then
aa (ah (a=⟨#[98,111,111,108]⟩))
else(if(ah (a=⟨#[105,110,116]⟩))then
aa (ah (a=⟨#[105,110,116]⟩))
else(if(ah (a=⟨#[109,111,110,101,121]⟩))then
aa (ah (a=⟨#[109,111,110,101,121]⟩))
else(if(ah (a=⟨#[114,97,116,101]⟩))then
aa (ah (a=⟨#[114,97,116,101]⟩))
else(if(ah (a=⟨#[100,97,116,101]⟩))then
aa (ah (a=⟨#[100,97,116,101]⟩))
else(if(ah (a=⟨#[100,111,119,110]⟩))then
aa (ah (a=⟨#[100,111,119,110]⟩))
else(if(ah (a=⟨#[117,112]⟩))then
aa (ah (a=⟨#[117,112]⟩))
else(if(ah (a=⟨#[122,101,114,111]⟩))then
aa (ah (a=⟨#[122,101,114,111]⟩))
else(if(ah (a=⟨#[97,119,97,121]⟩))then
aa (ah (a=⟨#[97,119,97,121]⟩))
else(if(ah (a=⟨#[104,97,108,102]⟩))then
aa (ah (a=⟨#[104,97,108,102]⟩))
else
aa (ah (a=⟨#[101,118,101,110]⟩)))))))))))))))))))))))))))))))))))))))))))))))))))))))) λb=>(if b then
aa af
else
aa ag)
def afQ:Fo 150 (.i1 [.l .str]) (.i1 [.l .bool]) (M.mZ N):=fz N [] [O,T,O,T,B 4 32] Tryz.func150
def M.cI(a:ByteArray):Option Bool:=
aqM (if(!ah (a=⟨#[]⟩))then
aqM (lH a 0) λb=>aqM (M.lU N b) λc=>(if c then
aqM (M.lc N a) λd=>(if(ah (d=(a.size:Int)))then(if(ah ((a.size:Int)<=16))then
aqM (M.mZ N a) λe=>aa (!e)
else
aa ag)
else
aa ag)
else
aa ag)
else
aa ag) λf=>aa f
def W90:Fo 90 (.i1 [.l .str]) (.i1 [.l .bool]) (M.cI N):=fz N [aaV N,afP N,afQ N] [O,B 2 16] Tryz.func90
def M.nf(N:Nat)(b:di.den)(a:ByteArray):Option (Bool×ByteArray):=
aa (ah (b.1=a),a)
def XF:Fo 152 (.j1 [.g di, .ptr 0 [] 0] [.box 9 (.leaf .str)] 1) (.j1 [.l .bool] [.box 9 (.leaf .str)] 2) (u2 (M.nf N)):=fz N [] [] Tryz.func152
def M.bL(c:List di.den)(d:ByteArray):Option (Int×ByteArray):=
Loop (S:=Int×ByteArray) (X:=Int×ByteArray) (λa=>(if(ah (a.1<(c.length:Int)))then
aqM (idx c a.1) λe=>aqM (M.nf N e a.2) λb=>(if b.1 then
aa (.inr (a.1,b.2))
else
aa (.inl (aqO.wrap (a.1+1),b.2)))
else
aa (.inr ((-1),a.2)))) N (0,d)
def XG:Fo 223 (.j1 [.l (.slice di), .fn 152 [(0,[],0)]] [.box 9 (.leaf .str)] 1) (.j1 [.l az] [.box 9 (.leaf .str)] 2) (u2 (M.bL N)):=fz N [XF N] [O,T,O,T,P ⟨[(8, .l az)],[(0, .box 9 (.leaf .str))],[],66⟩] Tryz.func223
def M.cd(b:List di.den)(c:ByteArray):Option (Bool×ByteArray):=
aqM (M.bL N b c) λa=>aa (ah (0<=a.1),a.2)
def XH:Fo 151 (.j1 [.l (.slice di), .fn 152 [(0,[],0)]] [.box 9 (.leaf .str)] 1) (.j1 [.l .bool] [.box 9 (.leaf .str)] 2) (u2 (M.cd N)):=fz N [XG N] [] Tryz.func151
def M.kJ(a:List di.den)(b:ByteArray):Option Bool:=
aqM (M.cd N a b) λc=>aa c.1
def W91:Fo 91 (.i1 [.l (.slice di), .l .str]) (.i1 [.l .bool]) (u2 (M.kJ N)):=fz N [XH N] [] Tryz.func91
def M.eQ(b:List ByteArray)(c:ByteArray):Option Int:=
Loop (S:=Int) (X:=Int) (λa=>(if(ah (a<(b.length:Int)))then
aqM (idx b a) λd=>(if(ah (c=d))then
aa (.inr a)
else
aa (.inl (aqO.wrap (a+1))))
else
aa (.inr (-1)))) N 0
def afS:Fo 220 (.i1 [.l (.slice .str), .l .str]) (.i1 [.l az]) (u2 (M.eQ N)):=fz N [] [O,T,O,T,L 8 64] Tryz.func220
def M.dP(a:List ByteArray)(b:ByteArray):Option Bool:=
aqM (M.eQ N a b) λc=>aa (ah (0<=c))
def afT:Fo 143 (.i1 [.l (.slice .str), .l .str]) (.i1 [.l .bool]) (u2 (M.dP N)):=fz N [afS N] [] Tryz.func143
def M.oF(d:cz.den)(e:Int)(a:di.den):Option (Int×Int):=
aqM (M.cI N a.1) λf=>(if(!f)then
aa (2,0)
else
aqM (iE d.1 0 e) λg=>aqM (M.kJ N g a.1) λh=>(if h then
aa (7,0)
else(if(ah ((a.2.length:Int)=0))then
aa (5,0)
else(if(ah (16<(a.2.length:Int)))then
aa (4,116)
else
Loop (S:=Int) (X:=Int×Int) (λb=>(if(ah (b<(a.2.length:Int)))then
aqM (idx a.2 b) λc=>aqM (M.cI N c) λi=>(if(!i)then
aa (.inr (2,aqO.wrap (100+b)))
else
aqM (iE a.2 0 b) λj=>aqM (M.dP N j c) λk=>(if k then
aa (.inr (7,aqO.wrap (100+b)))
else
aa (.inl (aqO.wrap (b+1)))))
else
aa (.inr (0,0)))) N 0))))
def W88:Fo 88 (.i1 [.g cz, .l az, .g di]) (.i1 [.l az, .l az]) (u3 (M.oF N)):=fz N [W90 N,W91 N,afT N] [O,O,T,O,T,L 36 496] Tryz.func88
def M.nh(b:cz.den):Option (aD.den):=
(if(ah (8<(b.1.length:Int)))then
aa (4,(1,(8,0)))
else
bS (J:=Unit) (R:=aD.den) (Loop (S:=Int) (X:=Unit⊕(aD.den)) (λa=>(if(ah (a<(b.1.length:Int)))then
aqM (idx b.1 a) λd=>aqM (M.oF N b a d) λc=>(if(!ah (c.1=0))then
aa (.inr (.inr (c.1,(1,(a,c.2)))))
else
aa (.inl (aqO.wrap (a+1))))
else
aa (.inr (.inl ())))) N 0) λe=>aa (0,(0,(0,0))))
def W55:Fo 55 (.i1 [.g cz]) (.i1 [.g aD]) (M.nh N):=fz N [W88 N] [O,O,E 96,O,T,L 15 160] Tryz.func55
def M.dA(N:Nat)(a:aA.den)(b:List di.den):Option Bool:=
aqM (if(ah (a.1=1))then
aa (ah (a.1=1))
else(if(ah (a.1=2))then
aa (ah (a.1=2))
else(if(ah (a.1=3))then
aa (ah (a.1=3))
else(if(ah (a.1=4))then
aa (ah (a.1=4))
else
aa (ah (a.1=5)))))) λc=>(if c then
aa (ah (a.2=0))
else(if(ah (a.1=6))then
aqM (if(ah (0<=a.2))then
aa (ah (a.2<(b.length:Int)))
else
aa ag) λd=>aa d
else
aa ag))
def QX:Fo 144 (.i1 [.g aA, .l (.slice di)]) (.i1 [.l .bool]) (u2 (M.dA N)):=fz N [] [O,T,O,T,R ⟨[(7, .l .bool)],[],[],64⟩,X,O,O,T,B 4 96] Tryz.func144
def M.jD(a:aA.den)(b:List di.den):Option (Int×Int):=
aqM (M.dA N a b) λc=>(if(!c)then
aa (0,(-1))
else(if(ah (a.1=1))then
aa (0,1)
else(if(ah (a.1=2))then
aa ((-1000000000000),1000000000000)
else(if(ah (a.1=3))then
aa ((-1000000000000000),1000000000000000)
else(if(ah (a.1=4))then
aa ((-1000000000),1000000000)
else(if(ah (a.1=5))then
aa (0,109572)
else
aqM (idx b a.2) λd=>aa (0,aqO.wrap ((d.2.length:Int)-1))))))))
def W94:Fo 94 (.i1 [.g aA, .l (.slice di)]) (.i1 [.l az, .l az]) (u2 (M.jD N)):=fz N [QX N] [] Tryz.func94
def M.kf(a:aA.den):Option Bool:=
aqM (aqM (M.fi N a) λb=>(if b then
aa (ah (a.1<a.2))
else
aa ag):Option Bool) λc=>aa c
def afV:Fo 281 (.i1 [.g aA]) (.i1 [.l .bool]) (M.kf N):=fz N [Xw N] [O,B 2 32] Tryz.func281
def M.lN(a:aA.den)(b:aA.den):Option (aA.den×Bool):=
aqM (aqM (M.kf N a) λc=>(if(!c)then
aa af
else
aqM (M.kf N b) λd=>aa (!d)):Option Bool) λe=>(if e then
aa ((0,0),ag)
else(if(ah ((if b.2<a.2 then b.2 else a.2)<=(if a.1<b.1 then b.1 else a.1)))then
aa ((0,0),ag)
else
aa ((if a.1<b.1 then b.1 else a.1,if b.2<a.2 then b.2 else a.2),af)))
def afW:Fo 221 (.i1 [.g aA, .g aA]) (.i1 [.g aA, .l .bool]) (u2 (M.lN N)):=fz N [afV N] [O,T,B 14 64] Tryz.func221
def M.ni(a:iW.den)(b:iW.den):Option Bool:=
aqM (M.lN N a.1 b.1) λc=>aqM (if c.2 then
aa (ah ((if a.2.1<b.2.1 then b.2.1 else a.2.1)<(if b.2.2.1<a.2.2.1 then b.2.2.1 else a.2.2.1)))
else
aa ag) λd=>aa d
def afX:Fo 147 (.i1 [.g iW, .g iW]) (.i1 [.l .bool]) (u2 (M.ni N)):=fz N [afW N] [O,O,B 4 224] Tryz.func147
def M.kK(b:iW.den)(a:iW.den):Option (Bool×iW.den):=
aqM (M.ni N b a) λc=>aa (c,a)
def XI:Fo 146 (.j1 [.g iW, .ptr 0 [] 0] [.box 224 (.leaf iW)] 1) (.j1 [.l .bool] [.box 224 (.leaf iW)] 2) (u2 (M.kK N)):=fz N [afX N] [] Tryz.func146
def M.cM(c:List iW.den)(d:iW.den):Option (Int×Bool×iW.den):=
Loop (S:=Int×iW.den) (X:=Int×Bool×iW.den) (λa=>(if(ah (a.1<(c.length:Int)))then
aqM (idx c a.1) λe=>aqM (M.kK N e a.2) λb=>(if b.1 then
aa (.inr (a.1,af,b.2))
else
aa (.inl (aqO.wrap (a.1+1),b.2)))
else
aa (.inr (0,ag,a.2)))) N (0,d)
def XJ:Fo 145 (.j1 [.l (.slice iW), .fn 146 [(0,[],0)]] [.box 224 (.leaf iW)] 1) (.j1 [.l az, .l .bool] [.box 224 (.leaf iW)] 2) (u2 (M.cM N)):=fz N [XI N] [O,T,O,T,P ⟨[(10, .l az)],[(0, .box 224 (.leaf iW))],[],82⟩] Tryz.func145
def M.nk(b:bj.den)(d:List di.den):Option (Int×Int):=
(if(ah (64<(b.2.2.2.length:Int)))then
aa (64,4)
else
aqM (aqM (M.dA N b.2.1 d) λg=>(if(!g)then
aa af
else
aqM (M.dA N b.2.2.1 d) λh=>aa (!h)):Option Bool) λi=>(if i then
aa ((-1),8)
else
aqM (M.jD N b.2.1 d) λe=>aqM (M.jD N b.2.2.1 d) λf=>Loop (S:=Int) (X:=Int×Int) (λc=>(if(ah (c<(b.2.2.2.length:Int)))then
aqM (idx b.2.2.2 c) λa=>aqM (aqM (M.fi N a.1) λj=>(if(!j)then
aa af
else(if(ah (a.1.1=a.1.2))then
aa af
else
aa (ah (a.2.2.1<=a.2.1)))):Option Bool) λk=>(if k then
aa (.inr (c,3))
else
aqM (if(ah (a.2.1<e.1))then
aa af
else(if(ah (e.2<a.2.1))then
aa af
else(if(ah ((aqO.wrap (a.2.2.1-1))<e.1))then
aa af
else
aa (ah (e.2<(aqO.wrap (a.2.2.1-1))))))) λl=>(if l then
aa (.inr (c,3))
else
aqM (if(ah (a.2.2.2<f.1))then
aa af
else
aa (ah (f.2<a.2.2.2))) λm=>(if m then
aa (.inr (c,3))
else
aqM (iE b.2.2.2 0 c) λn=>aqM (M.cM N n a) λo=>(if o.2.1 then
aa (.inr (c,11))
else
aa (.inl (aqO.wrap (c+1)))))))
else
aa (.inr (0,0)))) N 0))
def W89:Fo 89 (.i1 [.g bj, .l (.slice di)]) (.i1 [.l az, .l az]) (u2 (M.nk N)):=fz N [W94 N,Xw N,QX N,XJ N] [O,O,T,B 29 112,O,O,T,O,T,L 47 464,O,O,T,T,O,T,B 71 576,T,B 96 576,T,B 107 576] Tryz.func89
def M.my(N:Nat)(b:bj.den)(a:ByteArray):Option (Bool×ByteArray):=
aa (ah (b.1=a),a)
def XK:Fo 154 (.j1 [.g bj, .ptr 0 [] 0] [.box 9 (.leaf .str)] 1) (.j1 [.l .bool] [.box 9 (.leaf .str)] 2) (u2 (M.my N)):=fz N [] [] Tryz.func154
def M.bE(c:List bj.den)(d:ByteArray):Option (Int×ByteArray):=
Loop (S:=Int×ByteArray) (X:=Int×ByteArray) (λa=>(if(ah (a.1<(c.length:Int)))then
aqM (idx c a.1) λe=>aqM (M.my N e a.2) λb=>(if b.1 then
aa (.inr (a.1,b.2))
else
aa (.inl (aqO.wrap (a.1+1),b.2)))
else
aa (.inr ((-1),a.2)))) N (0,d)
def XL:Fo 224 (.j1 [.l (.slice bj), .fn 154 [(0,[],0)]] [.box 9 (.leaf .str)] 1) (.j1 [.l az] [.box 9 (.leaf .str)] 2) (u2 (M.bE N)):=fz N [XK N] [O,T,O,T,P ⟨[(8, .l az)],[(0, .box 9 (.leaf .str))],[],66⟩] Tryz.func224
def M.bT(b:List bj.den)(c:ByteArray):Option (Bool×ByteArray):=
aqM (M.bE N b c) λa=>aa (ah (0<=a.1),a.2)
def XM:Fo 153 (.j1 [.l (.slice bj), .fn 154 [(0,[],0)]] [.box 9 (.leaf .str)] 1) (.j1 [.l .bool] [.box 9 (.leaf .str)] 2) (u2 (M.bT N)):=fz N [XL N] [] Tryz.func153
def M.lf(a:List bj.den)(b:ByteArray):Option Bool:=
aqM (M.bT N a b) λc=>aa c.1
def W92:Fo 92 (.i1 [.l (.slice bj), .l .str]) (.i1 [.l .bool]) (u2 (M.lf N)):=fz N [XM N] [] Tryz.func92
def M.me(b:cz.den):Option (aD.den):=
(if(ah (8<(b.2.1.length:Int)))then
aa (4,(2,(8,0)))
else
bS (J:=Unit) (R:=aD.den) (Loop (S:=Int) (X:=Unit⊕(aD.den)) (λa=>(if(ah (a<(b.2.1.length:Int)))then
aqM (idx b.2.1 a) λd=>aqM (M.nk N d b.1) λc=>aqM (aqM (M.cI N d.1) λf=>(if(!f)then
aa (2,(2,(a,0)))
else
aqM (aqM (M.kJ N b.1 d.1) λg=>(if g then
aa af
else
aqM (iE b.2.1 0 a) λh=>aqM (M.lf N h d.1) λi=>aa i):Option Bool) λj=>(if j then
aa (7,(2,(a,0)))
else(if(!ah (c.2=0))then(if(!ah (c.1=(-1)))then
aa (c.2,(2,(a,aqO.wrap (100+c.1))))
else
aa (c.2,(2,(a,0))))
else
aa (0,(2,(a,0)))))):Option (aD.den)) λe=>(if(!ah (e.1=0))then
aa (.inr (.inr e))
else
aa (.inl (aqO.wrap (a+1))))
else
aa (.inr (.inl ())))) N 0) λk=>aa (0,(0,(0,0))))
def W56:Fo 56 (.i1 [.g cz]) (.i1 [.g aD]) (M.me N):=fz N [W89 N,W90 N,W91 N,W92 N] [O,O,E 96,O,T,L 16 160,O,O,T,T,O,O,O,T,R ⟨[],[(304, .box 90 (.leaf aD))],[],481⟩,O,O,B 36 560] Tryz.func56
def M.kL(N:Nat)(b:bJ.den)(a:bJ.den):Option (Bool×bJ.den):=
aa (ah (b.1=a.1),a)
def XN:Fo 226 (.j1 [.g bJ, .ptr 0 [] 0] [.box 94 (.leaf bJ)] 1) (.j1 [.l .bool] [.box 94 (.leaf bJ)] 2) (u2 (M.kL N)):=fz N [] [] Tryz.func226
def M.bF(c:List bJ.den)(d:bJ.den):Option (Int×bJ.den):=
Loop (S:=Int×bJ.den) (X:=Int×bJ.den) (λa=>(if(ah (a.1<(c.length:Int)))then
aqM (idx c a.1) λe=>aqM (M.kL N e a.2) λb=>(if b.1 then
aa (.inr (a.1,b.2))
else
aa (.inl (aqO.wrap (a.1+1),b.2)))
else
aa (.inr ((-1),a.2)))) N (0,d)
def XO:Fo 282 (.j1 [.l (.slice bJ), .fn 226 [(0,[],0)]] [.box 94 (.leaf bJ)] 1) (.j1 [.l az] [.box 94 (.leaf bJ)] 2) (u2 (M.bF N)):=fz N [XN N] [O,T,O,T,P ⟨[(8, .l az)],[(0, .box 94 (.leaf bJ))],[],66⟩] Tryz.func282
def M.bl(b:List bJ.den)(c:bJ.den):Option (Bool×bJ.den):=
aqM (M.bF N b c) λa=>aa (ah (0<=a.1),a.2)
def XP:Fo 227 (.j1 [.l (.slice bJ), .fn 226 [(0,[],0)]] [.box 94 (.leaf bJ)] 1) (.j1 [.l .bool] [.box 94 (.leaf bJ)] 2) (u2 (M.bl N)):=fz N [XO N] [] Tryz.func227
def M.kM(e:cz.den)(b:bJ.den)(f:List bJ.den)(g:List bJ.den):Option Int:=
aqM (M.cI N b.1) λh=>(if(!h)then
aa 2
else
aqM (aqM (M.bl N f b) λa=>(if a.1 then
aa (af,a.2)
else
aqM (M.bl N g a.2) λc=>aa (c.1,c.2)):Option (Bool×bJ.den)) λd=>(if d.1 then
aa 7
else
aqM (M.dA N d.2.2 e.1) λi=>(if(!i)then
aa 8
else
aa 0)))
def afY:Fo 157 (.i1 [.g cz, .g bJ, .l (.slice bJ), .l (.slice bJ)]) (.i1 [.l az]) (u4 (M.kM N)):=fz N [W90 N,QX N,XP N] [O,O,T,T,O,O,R ⟨[(16, .l .bool)],[(16, .box 94 (.leaf bJ))],[],161⟩] Tryz.func157
def M.nl(b:List bJ.den):Option (List aA.den):=
Loop (S:=Int×List aA.den) (X:=List aA.den) (λa=>(if(ah (a.1<(b.length:Int)))then
aqM (idx b a.1) λc=>aqM (cD a.2 ([c.2]:List aA.den)) λd=>aa (.inl (aqO.wrap (a.1+1),d))
else
aa (.inr a.2))) N (0,([]:List aA.den))
def afZ:Fo 228 (.i1 [.l (.slice bJ)]) (.w1 74 aA) (M.nl N):=fz N [] [O,O,T,O,T,P ⟨[(3, .val ag (.own 80)),(8, .l az)],[(80, .own 74 aA)],[],81⟩] Tryz.func228
def M.lO(a:cz.den)(f:Int):Option ((List di.den)×(List bj.den)×Bool×(List aA.den)×(List aA.den)×List aA.den):=
aqM (idx a.2.2 f) λc=>aqM (M.nl N c.2.2.1) λd=>aqM (M.nl N c.2.2.2.1) λe=>aqM (aqM (if(ah (0<=c.2.1))then
aa (ah (c.2.1<(a.2.2.length:Int)))
else
aa ag) λg=>(if g then
aqM (idx a.2.2 c.2.1) λh=>aqM (M.nl N h.2.2.2.1) λi=>aa (d,e,a.1,a.2.1,af,i)
else
aa (d,e,a.1,a.2.1,ag,([]:List aA.den))):Option ((List aA.den)×(List aA.den)×(List di.den)×(List bj.den)×Bool×List aA.den)) λb=>aa (b.2.2.1,b.2.2.2.1,b.2.2.2.2.1,b.1,b.2.1,b.2.2.2.2.2)
def af0:Fo 158 (.i1 [.g cz, .l az]) (.j1 [.val af (.pair (.leaf (.slice di)) (.pair (.leaf (.slice bj)) (.pair (.own 0) (.pair (.own 1) (.pair (.own 2) (.leaf .bool))))))] [.own 74 aA, .own 74 aA, .own 74 aA] 3) (u2 (M.lO N)):=fz N [afZ N] [O,O,O,R ⟨[],[(240, .own 74 aA),(288, .own 74 aA),(320, .box 237 (.pair (.leaf (.slice di)) (.pair (.leaf (.slice bj)) (.pair (.own 240) (.pair (.own 288) (.pair (.own 352) (.leaf .bool))))))),(352, .own 74 aA)],[],356⟩,B 33 352] Tryz.func158
def M.strings_Contains(N:Nat)(a:ByteArray)(b:ByteArray):Option Bool:=ui (a,b)
def af1:qf:=⟨.i1 [.l .str, .l .str], .i1 [.l .bool],u2 (M.strings_Contains N)⟩
def af2(N:Nat):hZ Tryz.prog 284 (af1 N):=GC ⟨_,Tryz.func284,by kernel_rfl,by kernel_rfl⟩ Tryz.strings_Contains_one
def M.mf(a:ByteArray):Option Bool:=
aqM (if(ah (64<(a.size:Int)))then
aa af
else
aqM (M.strings_Contains N a (⟨#[34]⟩:ByteArray)) λc=>aa c) λd=>(if d then
aa ag
else
Loop (S:=Int) (X:=Bool) (λb=>(if(ah (b<(a.size:Int)))then
aqM (aqM (lH a b) λe=>(if(ah (e<32))then
aa af
else
aqM (lH a b) λf=>aa (ah (126<f))):Option Bool) λg=>(if g then
aa (.inr ag)
else
aa (.inl (aqO.wrap (b+1))))
else
aa (.inr af))) N 0)
def af3:Fo 231 (.i1 [.l .str]) (.i1 [.l .bool]) (M.mf N):=fz N [af2 N] [O,T,B 10 16,T,O,T,L 13 64,O,O,T,T,O,B 25 112] Tryz.func231
def M.eF(a:Int)(b:Int)(d:bu.den):Option (aA.den×Int):=
aqM (M.jD N (b,0) d.1) λc=>aqM (if(ah (a<c.1))then
aa af
else
aa (ah (c.2<a))) λe=>(if e then
aa ((0,0),3)
else
aa ((b,0),0))
def af4:Fo 346 (.i1 [.l az, .l az, .g bu]) (.i1 [.g aA, .l az]) (u3 (M.eF N)):=fz N [W94 N] [O,O,T,O,B 27 256] Tryz.func346
def M.cE(N:Nat)(a:Int)(b:bu.den):Option (aA.den×Int):=
(if(ah (a<0))then
aa ((0,0),3)
else
aqM (if(ah ((b.1.length:Int)<=(aqO.wrap (aq1 a 16))))then
aa af
else
aqM (idx b.1 (aqO.wrap (aq1 a 16))) λc=>aa (ah ((c.2.length:Int)<=(aq3 a 16)))) λd=>(if d then
aa ((0,0),6)
else
aa ((6,aqO.wrap (aq1 a 16)),0)))
def af5:Fo 347 (.i1 [.l az, .g bu]) (.i1 [.g aA, .l az]) (u2 (M.cE N)):=fz N [] [O,O,O,T,B 30 176] Tryz.func347
def M.ie(a:Int)(b:List aA.den)(c:bu.den):Option (aA.den×Int):=
aqM (if(ah (a<0))then
aa af
else
aa (ah ((b.length:Int)<=a))) λd=>(if d then
aa ((0,0),6)
else
aqM (idx b a) λe=>aqM (M.dA N e c.1) λf=>(if(!f)then
aa ((0,0),8)
else
aqM (idx b a) λg=>aa (g,0)))
def aaX:Fo 348 (.i1 [.l az, .l (.slice aA), .g bu]) (.i1 [.g aA, .l az]) (u3 (M.ie N)):=fz N [QX N] [O,T,B 15 48] Tryz.func348
def M.kN(N:Nat)(a:Int):Option Bool:=
aqM (if(ah (0<=a))then
aa (ah (a<=5))
else
aa ag) λb=>aa b
def aaY:Fo 351 (.i1 [.l az]) (.i1 [.l .bool]) (M.kN N):=fz N [] [O,B 2 16] Tryz.func351
def M.np(a:aA.den)(f:aA.den)(b:bu.den):Option (aA.den×Int):=
bS (J:=Int) (R:=aA.den×Int) ((if(ah (a.1=34))then
aqM (if(ah (a.2<0))then
aa af
else
aqM (M.kN N (aq3 a.2 8)) λg=>aa (!g)) λh=>(if h then
aa (.inr ((0,0),3))
else
aa (.inl (aqO.wrap (aq1 a.2 8))))
else
aa (.inl a.2))) λc=>aqM (if(ah (c<0))then
aa af
else
aa (ah ((b.2.1.length:Int)<=c))) λi=>(if i then
aa ((0,0),6)
else
aqM (idx b.2.1 c) λd=>aqM (idx b.2.1 c) λe=>aqM (aqM (M.dA N d.2.1 b.1) λj=>(if(!j)then
aa af
else
aqM (M.dA N e.2.2.1 b.1) λk=>(if(!k)then
aa af
else
aa (!(mD aA f d.2.1)))):Option Bool) λl=>(if l then
aa ((0,0),8)
else(if(ah (a.1=34))then
aqM (if(!ah (d.2.1.1=3))then
aa af
else
aa (!ah (e.2.2.1.1=4))) λm=>(if m then
aa ((0,0),8)
else
aa (d.2.1,0))
else
aa (e.2.2.1,0))))
def af6:Fo 349 (.i1 [.g aA, .g aA, .g bu]) (.i1 [.g aA, .l az]) (u3 (M.np N)):=fz N [QX N,aaY N] [O,O,J ⟨[(8, .l az)],[],[],128⟩,O,T,T,B 25 176,X,X,T,B 38 128,O,T,B 68 384,T,O,T,T,B 80 432] Tryz.func349
def M.gv(N:Nat)(a:Int):Option Bool:=
aqM (if(ah (a=2))then
aa af
else(if(ah (a=3))then
aa af
else
aa (ah (a=4)))) λb=>aa b
def aaZ:Fo 367 (.i1 [.l az]) (.i1 [.l .bool]) (M.gv N):=fz N [] [O,B 2 16] Tryz.func367
def M.bW(b:aA.den)(c:bu.den):Option (aA.den×Int):=
(if(!c.2.2.2.2.2)then
aa ((0,0),6)
else(if(ah (b.1=35))then
aa ((2,0),0)
else
aqM (M.ie N b.2 c.2.2.2.2.1 c) λa=>(if(!ah (a.2=0))then
aa ((0,0),a.2)
else
aqM (if(ah (b.1=36))then(if(ah (a.1.1=2))then
aa af
else
aa (ah (a.1.1=3)))
else
aqM (if(ah (b.1=37))then
aa (ah (b.1=37))
else
aa (ah (b.1=38))) λd=>(if d then
aa (ah (a.1.1=1))
else(if(ah (b.1=39))then
aqM (M.gv N a.1.1) λe=>(if e then
aa af
else
aa (ah (a.1.1=5)))
else
aa ag))) λf=>(if(!f)then
aa ((0,0),8)
else
aa (a.1,0)))))
def af7:Fo 350 (.i1 [.g aA, .g bu]) (.i1 [.g aA, .l az]) (u2 (M.bW N)):=fz N [aaX N,aaZ N] [O,O,O,O,O,O,T,O,R ⟨[(8, .l .bool)],[],[],432⟩,O,O,B 42 464] Tryz.func350
def M.om(N:Nat)(c:Int)(a:Int)(b:Int):Option (aA.den×Bool):=
(if(ah (c=14))then
aqM ((if(ah (b=4))then(if(ah (a=3))then
aa (af,(a,0))
else
aa (ah (a=4),(a,0)))
else
aa (ag,(a,0))):Option (Bool×aA.den)) λd=>aa (d.2,d.1)
else(if(ah (b=2))then
aqM ((if(ah (a=2))then
aa (af,(a,0))
else
aa (ah (a=3),(a,0))):Option (Bool×aA.den)) λe=>aa (e.2,e.1)
else
aqM (if(ah (c=15))then(if(ah (a=3))then
aa (ah (b=3))
else
aa ag)
else
aa ag) λf=>(if f then
aa ((4,0),af)
else
aa ((0,0),ag))))
def af8:Fo 368 (.i1 [.l az, .l az, .l az]) (.i1 [.g aA, .l .bool]) (u3 (M.om N)):=fz N [] [O,T,T,O,T,R ⟨[(7, .l .bool)],[(0, .box 74 (.leaf aA))],[],81⟩,X,X,O,T,R ⟨[(7, .l .bool)],[(0, .box 74 (.leaf aA))],[],129⟩,X,X,B 34 128] Tryz.func368
def M.fj(b:Int)(a:List aA.den):Option (aA.den×Bool):=
(if(ah (b=10))then
aqM (idx a 0) λq=>aqM (idx a 0) λr=>aqM (M.gv N r.1) λs=>aa (q,s)
else(if(ah (b=25))then
aqM (idx a 0) λt=>aa ((1,0),ah (t.1=1))
else
aqM (if(ah (b=11))then
aa (ah (b=11))
else
aa (ah (b=12))) λu=>(if u then
aqM (aqM (idx a 0) λd=>aqM (idx a 0) λv=>aqM (idx a 1) λw=>(if(mD aA v w)then
aqM (idx a 0) λx=>aqM (M.gv N x.1) λy=>aa (y,d)
else
aa (ag,d)):Option (Bool×aA.den)) λe=>aa (e.2,e.1)
else
aqM (if(ah (b=13))then
aa (ah (b=13))
else(if(ah (b=14))then
aa (ah (b=14))
else
aa (ah (b=15)))) λz=>(if z then
aqM (idx a 0) λA=>aqM (idx a 1) λC=>aqM (M.om N b A.1 C.1) λf=>aa (f.1,f.2)
else(if(ah (b=16))then
aqM (aqM (idx a 0) λg=>aqM (idx a 0) λD=>(if(ah (D.1=3))then
aqM (idx a 1) λF=>aa (ah (F.1=3),g)
else
aa (ag,g)):Option (Bool×aA.den)) λh=>aa (h.2,h.1)
else
aqM (if(ah (b=17))then
aa (ah (b=17))
else
aa (ah (b=18))) λG=>(if G then
aqM (aqM (idx a 0) λc=>aqM (idx a 0) λH=>aqM (idx a 1) λI=>(if(mD aA H I)then
aqM (idx a 0) λQ=>aqM (M.gv N Q.1) λU=>(if U then
aa (af,c)
else
aqM (idx a 0) λV=>aa (ah (V.1=5),c))
else
aa (ag,c)):Option (Bool×aA.den)) λi=>aa (i.2,i.1)
else
aqM (if(ah (b=19))then
aa (ah (b=19))
else
aa (ah (b=20))) λW=>(if W then
aqM (idx a 0) λY=>aqM (idx a 1) λZ=>aa ((1,0),(mD aA Y Z))
else
aqM (if(ah (b=21))then
aa (ah (b=21))
else
aa (ah (b=22))) λj31=>(if j31 then
aqM (aqM (idx a 0) λV8=>aqM (idx a 1) λx34=>(if(mD aA V8 x34)then
aqM (idx a 0) λx35=>aqM (M.gv N x35.1) λy36=>(if y36 then
aa (af,(1,0))
else
aqM (idx a 0) λx37=>aa (ah (x37.1=5),(1,0)))
else
aa (ag,(1,0))):Option (Bool×aA.den)) λj=>aa (j.2,j.1)
else
aqM (if(ah (b=23))then
aa (ah (b=23))
else
aa (ah (b=24))) λj38=>(if j38 then
aqM (aqM (idx a 0) λx40=>(if(ah (x40.1=1))then
aqM (idx a 1) λx41=>aa (ah (x41.1=1),(1,0))
else
aa (ag,(1,0))):Option (Bool×aA.den)) λk=>aa (k.2,k.1)
else(if(ah (b=26))then
aqM (aqM (idx a 1) λl=>aqM (idx a 0) λx44=>(if(ah (x44.1=1))then
aqM (idx a 1) λx45=>aqM (idx a 2) λx46=>aa ((mD aA x45 x46),l)
else
aa (ag,l)):Option (Bool×aA.den)) λm=>aa (m.2,m.1)
else
aqM (if(ah (b=27))then
aa (ah (b=27))
else
aa (ah (b=28))) λj47=>(if j47 then
aqM (aqM (idx a 0) λn=>aqM (idx a 0) λx50=>(if(ah (x50.1=5))then
aqM (idx a 1) λx51=>aa (ah (x51.1=2),n)
else
aa (ag,n)):Option (Bool×aA.den)) λo=>aa (o.2,o.1)
else
aqM (if(ah (b=29))then
aa (ah (b=29))
else
aa (ah (b=30))) λj52=>(if j52 then
aqM (aqM (idx a 0) λx54=>(if(ah (x54.1=5))then
aqM (idx a 1) λx55=>aa (ah (x55.1=5),(2,0))
else
aa (ag,(2,0))):Option (Bool×aA.den)) λp=>aa (p.2,p.1)
else
aqM (if(ah (b=31))then
aa (ah (b=31))
else
aa (ah (b=32))) λj56=>(if j56 then
aqM (idx a 0) λx57=>aa ((2,0),ah (x57.1=5))
else
aa ((0,0),ag))))))))))))))
def af9:Fo 352 (.i1 [.l az, .l (.slice aA)]) (.i1 [.g aA, .l .bool]) (u2 (M.fj N)):=fz N [aaZ N,af8 N] [O,O,T,O,T,O,O,O,O,R ⟨[(27, .l .bool)],[],[],160⟩,X,T,R ⟨[(5, .l .bool)],[(0, .box 74 (.leaf aA))],[],161⟩,X,X,R ⟨[(47, .l .bool)],[],[],160⟩,X,O,O,T,R ⟨[(5, .l .bool)],[(0, .box 74 (.leaf aA))],[],193⟩,X,X,R ⟨[(80, .l .bool)],[],[],192⟩,X,T,R ⟨[(5, .l .bool)],[(0, .box 74 (.leaf aA))],[],193⟩,X,X,R ⟨[(107, .l .bool)],[],[],192⟩,X,O,R ⟨[(118, .l .bool)],[],[],192⟩,X,T,R ⟨[(5, .l .bool)],[(0, .box 74 (.leaf aA))],[],193⟩,X,X,R ⟨[(143, .l .bool)],[],[],192⟩,X,T,R ⟨[(5, .l .bool)],[(0, .box 74 (.leaf aA))],[],193⟩,X,X,O,T,R ⟨[(5, .l .bool)],[(0, .box 74 (.leaf aA))],[],225⟩,X,X,R ⟨[(178, .l .bool)],[],[],224⟩,X,T,R ⟨[(5, .l .bool)],[(0, .box 74 (.leaf aA))],[],225⟩,X,X,R ⟨[(196, .l .bool)],[],[],224⟩,X,T,R ⟨[(5, .l .bool)],[(0, .box 74 (.leaf aA))],[],225⟩,X,X,B 212 224] Tryz.func352
def M.br(a:aA.den)(c:List aA.den)(b:bu.den):Option (aA.den×Int):=
bS (J:=Unit) (R:=aA.den×Int) ((if(ah (a.1=1))then
aqM (M.eF N a.2 1 b) λd=>aa (.inr (d.1,d.2))
else(if(ah (a.1=2))then
aqM (M.eF N a.2 2 b) λe=>aa (.inr (e.1,e.2))
else(if(ah (a.1=3))then
aqM (M.eF N a.2 3 b) λf=>aa (.inr (f.1,f.2))
else(if(ah (a.1=4))then
aqM (M.eF N a.2 4 b) λg=>aa (.inr (g.1,g.2))
else(if(ah (a.1=5))then
aqM (M.eF N a.2 5 b) λh=>aa (.inr (h.1,h.2))
else(if(ah (a.1=6))then
aqM (M.cE N a.2 b) λi=>aa (.inr (i.1,i.2))
else(if(ah (a.1=7))then
aqM (M.ie N a.2 b.2.2.1 b) λj=>aa (.inr (j.1,j.2))
else(if(ah (a.1=8))then
aqM (M.ie N a.2 b.2.2.2.1 b) λk=>aa (.inr (k.1,k.2))
else(if(ah (a.1=9))then
aa (.inr ((5,0),0))
else
aqM (if(ah (a.1=33))then
aa (ah (a.1=33))
else
aa (ah (a.1=34))) λo=>(if o then
aqM (idx c 0) λp=>aqM (M.np N a p b) λl=>aa (.inr (l.1,l.2))
else
aqM (if(ah (a.1=35))then
aa (ah (a.1=35))
else(if(ah (a.1=36))then
aa (ah (a.1=36))
else(if(ah (a.1=37))then
aa (ah (a.1=37))
else(if(ah (a.1=38))then
aa (ah (a.1=38))
else
aa (ah (a.1=39)))))) λq=>(if q then
aqM (M.bW N a b) λm=>aa (.inr (m.1,m.2))
else
aqM (if(ah (a.1=14))then
aa (ah (a.1=14))
else(if(ah (a.1=15))then
aa (ah (a.1=15))
else
aa (ah (a.1=16)))) λr=>(if r then
aqM (M.kN N a.2) λs=>(if(!s)then
aa (.inr ((0,0),3))
else
aa (.inl ()))
else
aa (.inl ())))))))))))))) λt=>aqM (M.fj N a.1 c) λn=>(if(!n.2)then
aa ((0,0),8)
else
aa (n.1,0))
def aga:Fo 317 (.i1 [.g aA, .l (.slice aA), .g bu]) (.i1 [.g aA, .l az]) (u3 (M.br N)):=fz N [af4 N,af5 N,aaX N,af6 N,af7 N,aaY N,af9 N] [O,T,O,E 96,O,O,O,O,O,O,O,O,O,O,O,O,O,O,O,O,O,O,R ⟨[(83, .l .bool)],[],[],384⟩,X,O,R ⟨[(94, .l .bool)],[],[],384⟩,X,O,B 105 384] Tryz.func317
def M.qy(c:List aA.den)(g:bu.den):Option (aA.den×Int×Int):=
aqM (M.gI N c) λd=>(if(!ah (d.2.1=0))then
aa ((0,0),d.1,d.2.1)
else
bS (J:=List aA.den) (R:=aA.den×Int×Int) (Loop (S:=Int×List aA.den) (X:=(List aA.den)⊕(aA.den×Int×Int)) (λa=>(if(ah (a.1<(c.length:Int)))then
aqM (idx c a.1) λb=>aqM (if(!ah (b.2=0))then
aqM (M.iI N b.1) λh=>aa (!h)
else
aa ag) λi=>(if i then
aa (.inr (.inr ((0,0),a.1,2)))
else
aqM (M.fX N b.1) λf=>aqM (iE a.2 (aqO.wrap ((a.2.length:Int)-f)) (a.2.length:Int)) λj=>aqM (M.br N b j g) λe=>(if(!ah (e.2=0))then
aa (.inr (.inr ((0,0),a.1,e.2)))
else
aqM (iE a.2 0 (aqO.wrap ((a.2.length:Int)-f))) λk=>aqM (cD k ([e.1]:List aA.den)) λl=>aa (.inl (aqO.wrap (a.1+1),l))))
else
aa (.inr (.inl a.2)))) N (0,([]:List aA.den))) λm=>aqM (idx m 0) λn=>aa (n,0,0))
def agb:Fo 285 (.i1 [.l (.slice aA), .g bu]) (.i1 [.g aA, .l az, .l az]) (u2 (M.qy N)):=fz N [W76 N,QW N,aaK N,aga N] [O,O,O,O,J ⟨[(10, .val ag (.own 256))],[(256, .own 74 aA)],[],257⟩,O,T,P ⟨[(10, .val ag (.own 304)),(29, .l az)],[(304, .own 74 aA)],[],305⟩,O,O,T,T,O,T,B 42 417] Tryz.func285
def M.iK(b:List aA.den)(c:bu.den)(d:aA.den):Option Int:=
aqM (M.qy N b c) λa=>(if(!ah (a.2.2=0))then
aa a.2.2
else(if(!(mD aA a.1 d))then
aa 8
else
aa 0))
def agc:Fo 232 (.i1 [.l (.slice aA), .g bu, .g aA]) (.i1 [.l az]) (u3 (M.iK N)):=fz N [agb N] [] Tryz.func232
def M.lP(N:Nat)(b:dX.den)(a:dX.den):Option (Bool×dX.den):=
aa (ah (b.1=a.1),a)
def XQ:Fo 230 (.j1 [.g dX, .ptr 0 [] 0] [.box 113 (.leaf dX)] 1) (.j1 [.l .bool] [.box 113 (.leaf dX)] 2) (u2 (M.lP N)):=fz N [] [] Tryz.func230
def M.bM(c:List dX.den)(d:dX.den):Option (Int×dX.den):=
Loop (S:=Int×dX.den) (X:=Int×dX.den) (λa=>(if(ah (a.1<(c.length:Int)))then
aqM (idx c a.1) λe=>aqM (M.lP N e a.2) λb=>(if b.1 then
aa (.inr (a.1,b.2))
else
aa (.inl (aqO.wrap (a.1+1),b.2)))
else
aa (.inr ((-1),a.2)))) N (0,d)
def XR:Fo 283 (.j1 [.l (.slice dX), .fn 230 [(0,[],0)]] [.box 113 (.leaf dX)] 1) (.j1 [.l az] [.box 113 (.leaf dX)] 2) (u2 (M.bM N)):=fz N [XQ N] [O,T,O,T,P ⟨[(8, .l az)],[(0, .box 113 (.leaf dX))],[],66⟩] Tryz.func283
def M.bC(b:List dX.den)(c:dX.den):Option (Bool×dX.den):=
aqM (M.bM N b c) λa=>aa (ah (0<=a.1),a.2)
def XS:Fo 229 (.j1 [.l (.slice dX), .fn 230 [(0,[],0)]] [.box 113 (.leaf dX)] 1) (.j1 [.l .bool] [.box 113 (.leaf dX)] 2) (u2 (M.bC N)):=fz N [XR N] [] Tryz.func229
def M.lV(b:bn.den)(d:Int)(f:bu.den):Option Int:=
aqM (idx b.2.2.2.2 d) λe=>aqM (aqM (iE b.2.2.2.2 0 d) λg=>Loop (S:=Int×Int) (X:=Int) (λc=>(if(ah (c.2<(g.length:Int)))then
aqM (aqM (idx g c.2) λi=>(if(ah (i.2.1=e.2.1))then
aa (aqO.wrap (c.1+1))
else
aa c.1):Option Int) λj=>aa (.inl (j,aqO.wrap (c.2+1)))
else
aa (.inr c.1))) N (0,0):Option Int) λk=>aqM (M.cI N e.1) λl=>(if(!l)then
aa 2
else
aqM (iE b.2.2.2.2 0 d) λm=>aqM (M.bC N m e) λa=>(if a.1 then
aa 7
else
aqM (if(ah (a.2.2.1<0))then
aa af
else
aa (ah ((b.2.2.2.1.length:Int)<=a.2.2.1))) λn=>(if n then
aa 6
else
aqM (if(!ah (a.2.2.2.1=(-1)))then(if(ah (a.2.2.2.1<0))then
aa af
else(if(ah (d<=a.2.2.2.1))then
aa af
else
aqM (idx b.2.2.2.2 a.2.2.2.1) λo=>aa (!ah (o.2.1=a.2.2.1))))
else
aa ag) λp=>(if p then
aa 9
else
aqM (if(ah (a.2.2.2.2.1<0))then
aa af
else
aa (ah (9<a.2.2.2.2.1))) λq=>(if q then
aa 3
else
aqM (if(ah (a.2.2.2.2.2.1.1<0))then
aa af
else(if(ah (a.2.2.2.2.2.1.2<=a.2.2.2.2.2.1.1))then
aa af
else
aa (ah (109573<a.2.2.2.2.2.1.2)))) λr=>(if r then
aa 3
else(if(ah (8<=k))then
aa 4
else
aqM (M.mf N a.2.2.2.2.2.2.2.2) λs=>(if(!s)then
aa 2
else
bS (J:=Unit) (R:=Int) ((if(ah (0<(a.2.2.2.2.2.2.1.length:Int)))then
aqM (M.iK N a.2.2.2.2.2.2.1 f (1,0)) λh=>(if(!ah (h=0))then
aa (.inr h)
else
aa (.inl ()))
else
aa (.inl ()))) λv=>aqM (idx b.2.2.2.1 a.2.2.1) λt=>aqM (M.iK N a.2.2.2.2.2.2.2.1 f t.2) λu=>aa u))))))))
def agd:Fo 159 (.i1 [.g bn, .l az, .g bu]) (.i1 [.l az]) (u3 (M.lV N)):=fz N [W90 N,XS N,af3 N,agc N] [O,O,O,R ⟨[(8, .l az)],[],[],176⟩,O,T,P ⟨[(8, .l az),(22, .l az)],[],[],272⟩,O,O,T,R ⟨[(8, .l az)],[],[],288⟩,X,X,X,X,T,T,O,O,O,O,R ⟨[(46, .l .bool)],[],[],368⟩,X,O,R ⟨[(58, .l .bool)],[],[],368⟩,X,O,R ⟨[(85, .l .bool)],[],[],368⟩,X,O,B 94 368,X,E 496] Tryz.func159
def M.ir(b:List Int)(c:Int):Option Int:=
Loop (S:=Int) (X:=Int) (λa=>(if(ah (a<(b.length:Int)))then
aqM (idx b a) λd=>(if(ah (c=d))then
aa (.inr a)
else
aa (.inl (aqO.wrap (a+1))))
else
aa (.inr (-1)))) N 0
def age:Fo 233 (.i1 [.l (.slice az), .l az]) (.i1 [.l az]) (u2 (M.ir N)):=fz N [] [O,T,O,T,L 8 64] Tryz.func233
def M.fR(a:List Int)(b:Int):Option Bool:=
aqM (M.ir N a b) λc=>aa (ah (0<=c))
def agf:Fo 160 (.i1 [.l (.slice az), .l az]) (.i1 [.l .bool]) (u2 (M.fR N)):=fz N [age N] [] Tryz.func160
def M.eW(N:Nat)(a:List Int):Option (List Int):=GB a
def agh:qf:=⟨.w1 3 az, .j1 [] [.own 3 az] 2,M.eW N⟩
def aa1(N:Nat):hZ Tryz.prog 236 (agh N):=Uq ⟨_,Tryz.func236,by kernel_rfl,by kernel_rfl⟩ Tryz.slices_Sort_int Tryz.slices_Sort_int_none
def M.dF(N:Nat)(a:List Int):Option (List Int):=th a
def agi:qf:=⟨.w1 3 az,⟨[(0, .val ag (.own 1))],[(1, .own 3 az)],[],2⟩,M.dF N⟩
def aa2(N:Nat):hZ Tryz.prog 237 (agi N):=JF ⟨_,Tryz.func237,by kernel_rfl,by kernel_rfl⟩ Tryz.slices_Compact_int Tryz.slices_Compact_int_empty
def M.iZ(a:List Int):Option (List Int):=
aqM (M.eW N a) λb=>aqM (M.dF N b) λc=>aa c
def XT:Fo 286 (.w1 3 az) ⟨[(0, .val ag (.own 1))],[(1, .own 3 az)],[],2⟩ (M.iZ N):=fz N [aa1 N,aa2 N] [] Tryz.func286
def M.jN(e:List aA.den):Option ((List Int)×(List Int)×List Int):=
aqM (Loop (S:=Int×(List Int)×(List Int)×List Int) (X:=(List Int)×(List Int)×List Int) (λa=>(if(ah (a.1<(e.length:Int)))then
aqM (idx e a.1) λb=>aqM ((if(ah (b.1=7))then
aqM (cD a.2.1 ([b.2]:List Int)) λf=>aa (f,a.2.2.1,a.2.2.2)
else(if(ah (b.1=8))then
aqM (cD a.2.2.1 ([b.2]:List Int)) λg=>aa (a.2.1,g,a.2.2.2)
else
aqM (if(ah (b.1=36))then
aa (ah (b.1=36))
else(if(ah (b.1=37))then
aa (ah (b.1=37))
else(if(ah (b.1=38))then
aa (ah (b.1=38))
else
aa (ah (b.1=39))))) λh=>(if h then
aqM (cD a.2.2.2 ([b.2]:List Int)) λi=>aa (a.2.1,a.2.2.1,i)
else
aa (a.2.1,a.2.2.1,a.2.2.2)))):Option ((List Int)×(List Int)×List Int)) λc=>aa (.inl (aqO.wrap (a.1+1),c.1,c.2.1,c.2.2))
else
aa (.inr (a.2.1,a.2.2.1,a.2.2.2)))) N (0,([]:List Int),([]:List Int),([]:List Int)):Option ((List Int)×(List Int)×List Int)) λd=>aqM (M.iZ N d.1) λj=>aqM (M.iZ N d.2.1) λk=>aqM (M.iZ N d.2.2) λl=>aa (j,k,l)
def agj:Fo 235 (.i1 [.l (.slice aA)]) (.j1 [.val ag (.own 0), .val ag (.own 1), .val ag (.own 2)] [.own 3 az, .own 3 az, .own 3 az] 3) (M.jN N):=fz N [XT N] [O,O,R ⟨[(5, .val ag (.own 96)),(6, .val ag (.own 97)),(7, .val ag (.own 98))],[(96, .own 3 az),(97, .own 3 az),(98, .own 3 az)],[],99⟩,O,T,P ⟨[(5, .val ag (.own 144)),(6, .val ag (.own 145)),(7, .val ag (.own 146)),(12, .l az)],[(144, .own 3 az),(145, .own 3 az),(146, .own 3 az)],[],147⟩,O,O,T,T,O,O,R ⟨[(5, .val ag (.own 259)),(6, .val ag (.own 260)),(7, .val ag (.own 261))],[(259, .own 3 az),(260, .own 3 az),(261, .own 3 az)],[144,145,146],262⟩,O,O,O,O,B 32 323] Tryz.func235
def M.gO(e:dX.den)(f:Int):Option (List Int):=
aqM (M.jN N e.2.2.2.2.2.1) λg=>aqM (M.jN N e.2.2.2.2.2.2.1) λh=>aqM (Loop (S:=Int×List Int) (X:=List Int) (λa=>(if(ah (a.1<(g.2.1.length:Int)))then
aqM (aqM (idx g.2.1 a.1) λc=>aqM (if(ah (0<=c))then
aa (ah (c<f))
else
aa ag) λi=>(if i then
aqM (cD a.2 ([c]:List Int)) λj=>aa j
else
aa a.2):Option (List Int)) λk=>aa (.inl (aqO.wrap (a.1+1),k))
else
aa (.inr a.2))) N (0,([]:List Int)):Option (List Int)) λl=>Loop (S:=Int×List Int) (X:=List Int) (λb=>(if(ah (b.1<(h.2.1.length:Int)))then
aqM (aqM (idx h.2.1 b.1) λd=>aqM (if(ah (0<=d))then
aa (ah (d<f))
else
aa ag) λm=>(if m then
aqM (cD b.2 ([d]:List Int)) λn=>aa n
else
aa b.2):Option (List Int)) λo=>aa (.inl (aqO.wrap (b.1+1),o))
else
aa (.inr b.2))) N (0,l)
def aa3:Fo 162 (.i1 [.g dX, .l az]) (.w1 3 az) (u2 (M.gO N)):=fz N [agj N] [O,O,O,O,R ⟨[(5, .val ag (.own 368))],[(368, .own 3 az)],[],369⟩,O,T,P ⟨[(5, .val ag (.own 416)),(32, .l az)],[(416, .own 3 az)],[],417⟩,O,O,T,R ⟨[(5, .val ag (.own 433))],[(433, .own 3 az)],[416],434⟩,O,B 42 481,X,X,X,T,O,T,P ⟨[(5, .val ag (.own 417)),(50, .l az)],[(417, .own 3 az)],[368],418⟩,O,O,T,R ⟨[(5, .val ag (.own 434))],[(434, .own 3 az)],[417],435⟩,O,B 60 482] Tryz.func162
def M.kg(a:List Int):Option (List Int):=
aqM (M.eW N a) λb=>aqM (M.dF N b) λc=>aa c
def QY:Fo 163 (.w1 3 az) ⟨[(0, .val ag (.own 1))],[(1, .own 3 az)],[],2⟩ (M.kg N):=fz N [aa1 N,aa2 N] [] Tryz.func163
def M.kO(d:bn.den):Option (List (List Int)):=
aqM (qh (d.2.2.2.1.length:Int) ([]:List Int)) λf=>aqM (Loop (S:=Int×List (List Int)) (X:=List (List Int)) (λb=>(if(ah (b.1<(d.2.2.2.2.length:Int)))then
aqM (aqM (idx d.2.2.2.2 b.1) λc=>aqM (if(ah (0<=c.2.1))then
aa (ah (c.2.1<(b.2.length:Int)))
else
aa ag) λg=>(if g then
aqM (idx b.2 c.2.1) λn=>aqM (idx b.2 c.2.1) λh=>aqM (M.gO N c (b.2.length:Int)) λi=>aqM (cD h i) λj=>aqM (idx b.2 c.2.1) λo=>(if ah (c.2.1=c.2.1)then
aqM (idx b.2 c.2.1) λp=>aa (v7 b.2 c.2.1 (λq=>j))
else ae)
else
aa b.2):Option (List (List Int))) λk=>aa (.inl (aqO.wrap (b.1+1),k))
else
aa (.inr b.2))) N (0,f):Option (List (List Int))) λe=>Loop (S:=Int×List (List Int)) (X:=List (List Int)) (λa=>(if(ah (a.1<(e.length:Int)))then
aqM (idx a.2 a.1) λr=>aqM (idx a.2 a.1) λl=>aqM (M.kg N l) λm=>aqM (idx a.2 a.1) λs=>(if ah (a.1=a.1)then
aqM (idx a.2 a.1) λt=>aa (.inl (aqO.wrap (a.1+1),v7 a.2 a.1 (λu=>m)))
else ae)
else
aa (.inr a.2))) N (0,e)
def S95:qf:=⟨.i1 [.g bn], .j1 [.val ag (.own 0)] [.deep 23 (.sl 3 (.leaf az))] 1,M.kO N⟩
def W95(N:Nat):hZ Tryz.prog 95 (S95 N):=fw (en [ck (aa3 N),ck (QY N)] af ag) (N:=N) (.o (.o (.meet ⟨[],[(80, .deep 23 (.sl 3 (.leaf az)))],[],113⟩ (.o (.two (.loop ⟨[(15, .l az)],[(80, .deep 23 (.sl 3 (.leaf az)))],[],177⟩ (.o (.o (.two (.meet ⟨[],[(80, .deep 23 (.sl 3 (.leaf az)))],[],194⟩ (.o (.meet ⟨[(28, .l .bool)],[],[],257⟩ .nil .nil)) .nil) .nil)))) .nil)) (.two (.o (.two (.loop ⟨[(46, .l az)],[(80, .deep 23 (.sl 3 (.leaf az)))],[],162⟩ .nil) .nil)) .nil)))) Tryz.func95 (by kernel_rfl) λx=>by kernel_rfl
def M.pF(e:List (List Int))(i:Int):Option (List Int):=
aqM (qh (e.length:Int) ag) λj=>aqM (Loop (S:=(List Bool)×List Int) (X:=List Bool) (λc=>(if(ah (0<(c.2.length:Int)))then
aqM (idx c.2 0) λk=>aqM (iE c.2 1 (c.2.length:Int)) λl=>aqM (idx e k) λf=>Loop (S:=Int×(List Bool)×List Int) (X:=((List Bool)×List Int)⊕(List Bool)) (λa=>(if(ah (a.1<(f.length:Int)))then
aqM (aqM (idx f a.1) λd=>aqM (idx a.2.1 d) λm=>(if(!m)then
aqM (idx a.2.1 d) λr=>aqM (cD a.2.2 ([d]:List Int)) λn=>aa (bH a.2.1 d af,n)
else
aa (a.2.1,a.2.2)):Option ((List Bool)×List Int)) λg=>aa (.inl (aqO.wrap (a.1+1),g.1,g.2))
else
aa (.inr (.inl (a.2.1,a.2.2))))) N (0,c.1,l)
else
aa (.inr c.1))) N (j,([i]:List Int)):Option (List Bool)) λh=>Loop (S:=Int×List Int) (X:=List Int) (λb=>(if(ah (b.1<(h.length:Int)))then
aqM (aqM (idx h b.1) λo=>(if o then
aqM (cD b.2 ([b.1]:List Int)) λp=>aa p
else
aa b.2):Option (List Int)) λq=>aa (.inl (aqO.wrap (b.1+1),q))
else
aa (.inr b.2))) N (0,([]:List Int))
def agk:qf:=⟨.i1 [.l (.slice (.slice az)), .l az], .w1 3 az,u2 (M.pF N)⟩
def agl(N:Nat):hZ Tryz.prog 234 (agk N):=fw (en [] ag af) (N:=N) (.o (.o (.o (.meet ⟨[],[(48, .own 4 .bool)],[96],129⟩ (.two (.loop ⟨[(6, .val ag (.own 128))],[(48, .own 4 .bool),(128, .own 3 az)],[96],130⟩ (.o (.two (.o (.o (.o (.two (.loop ⟨[(6, .val ag (.own 386)),(31, .l az)],[(48, .own 4 .bool),(386, .own 3 az)],[258],388⟩ (.o (.o (.two (.meet ⟨[(6, .val ag (.own 404))],[(48, .own 4 .bool),(404, .own 3 az)],[386],406⟩ .nil .nil) .nil)))) .nil)))) .nil))) .nil) (.o (.two (.o (.two (.loop ⟨[(10, .val ag (.own 193)),(50, .l az)],[(193, .own 3 az)],[],194⟩ (.o (.o (.two (.meet ⟨[(10, .val ag (.own 210))],[(210, .own 3 az)],[193],211⟩ .nil .nil) .nil)))) .nil)) .nil)))))) Tryz.func234 (by kernel_rfl) λx=>by kernel_rfl
def M.jO(b:bn.den)(a:Int):Option (List Int):=
aqM (if(ah (a<0))then
aa af
else
aa (ah ((b.2.2.2.1.length:Int)<=a))) λc=>(if c then
aa ([]:List Int)
else
aqM (M.kO N b) λd=>aqM (M.pF N d a) λe=>aa e)
def agm:Fo 161 (.i1 [.g bn, .l az]) (.w1 3 az) (u2 (M.jO N)):=fz N [W95 N,agl N] [O,T,B 13 32] Tryz.func161
def M.kP(N:Nat)(b:bn.den)(a:bn.den):Option (Bool×bn.den):=
aa (ah (b.1=a.1),a)
def XU:Fo 156 (.j1 [.g bn, .ptr 0 [] 0] [.box 68 (.leaf bn)] 1) (.j1 [.l .bool] [.box 68 (.leaf bn)] 2) (u2 (M.kP N)):=fz N [] [] Tryz.func156
def M.bG(c:List bn.den)(d:bn.den):Option (Int×bn.den):=
Loop (S:=Int×bn.den) (X:=Int×bn.den) (λa=>(if(ah (a.1<(c.length:Int)))then
aqM (idx c a.1) λe=>aqM (M.kP N e a.2) λb=>(if b.1 then
aa (.inr (a.1,b.2))
else
aa (.inl (aqO.wrap (a.1+1),b.2)))
else
aa (.inr ((-1),a.2)))) N (0,d)
def XV:Fo 225 (.j1 [.l (.slice bn), .fn 156 [(0,[],0)]] [.box 68 (.leaf bn)] 1) (.j1 [.l az] [.box 68 (.leaf bn)] 2) (u2 (M.bG N)):=fz N [XU N] [O,T,O,T,P ⟨[(8, .l az)],[(0, .box 68 (.leaf bn))],[],66⟩] Tryz.func225
def M.bm(b:List bn.den)(c:bn.den):Option (Bool×bn.den):=
aqM (M.bG N b c) λa=>aa (ah (0<=a.1),a.2)
def XW:Fo 155 (.j1 [.l (.slice bn), .fn 156 [(0,[],0)]] [.box 68 (.leaf bn)] 1) (.j1 [.l .bool] [.box 68 (.leaf bn)] 2) (u2 (M.bm N)):=fz N [XV N] [] Tryz.func155
def M.nq(b:cz.den)(h:Int):Option (Int×Int):=
aqM (idx b.2.2 h) λd=>aqM (iE b.2.2 0 h) λj=>aqM (aqM (M.kJ N b.1 d.1) λo=>(if o then
aa (af,d)
else
aqM (M.lf N b.2.1 d.1) λp=>(if p then
aa (af,d)
else
aqM (M.bm N j d) λk=>aa (k.1,k.2))):Option (Bool×bn.den)) λa=>aqM (M.cI N a.2.1) λq=>(if(!q)then
aa (2,0)
else(if a.1 then
aa (7,0)
else
aqM (if(!ah (a.2.2.1=(-1)))then(if(ah (a.2.2.1<0))then
aa af
else(if(ah (h<=a.2.2.1))then
aa af
else
aqM (idx j a.2.2.1) λr=>aa (!ah (r.2.1=(-1)))))
else
aa ag) λs=>(if s then
aa (6,0)
else(if(ah (12<(a.2.2.2.1.length:Int)))then
aa (4,112)
else(if(ah (12<(a.2.2.2.2.1.length:Int)))then
aa (4,212)
else
bS (J:=Unit) (R:=Int×Int) (Loop (S:=Int) (X:=Unit⊕(Int×Int)) (λe=>(if(ah (e<(a.2.2.2.1.length:Int)))then
aqM (idx a.2.2.2.1 e) λt=>aqM (iE a.2.2.2.1 0 e) λu=>aqM (M.kM N b t u ([]:List bJ.den)) λl=>(if(!ah (l=0))then
aa (.inr (.inr (l,aqO.wrap (100+e))))
else
aa (.inl (aqO.wrap (e+1))))
else
aa (.inr (.inl ())))) N 0) λz=>bS (J:=Unit) (R:=Int×Int) (Loop (S:=Int) (X:=Unit⊕(Int×Int)) (λf=>(if(ah (f<(a.2.2.2.2.1.length:Int)))then
aqM (idx a.2.2.2.2.1 f) λv=>aqM (iE a.2.2.2.2.1 0 f) λw=>aqM (M.kM N b v a.2.2.2.1 w) λm=>(if(!ah (m=0))then
aa (.inr (.inr (m,aqO.wrap (200+f))))
else
aa (.inl (aqO.wrap (f+1))))
else
aa (.inr (.inl ())))) N 0) λA=>aqM (M.lO N b h) λc=>bS (J:=Unit) (R:=Int×Int) (Loop (S:=Int) (X:=Unit⊕(Int×Int)) (λi=>(if(ah (i<(a.2.2.2.2.2.length:Int)))then
aqM (M.lV N a.2 i (c.1,(c.2.1,(c.2.2.2.1,(c.2.2.2.2.1,(c.2.2.2.2.2,c.2.2.1)))))) λn=>(if(!ah (n=0))then
aa (.inr (.inr (n,aqO.wrap (300+i))))
else
aa (.inl (aqO.wrap (i+1))))
else
aa (.inr (.inl ())))) N 0) λC=>Loop (S:=Int) (X:=Int×Int) (λg=>(if(ah (g<(a.2.2.2.2.1.length:Int)))then
aqM (M.jO N a.2 g) λx=>aqM (M.fR N x g) λy=>(if y then
aa (.inr (9,aqO.wrap (200+g)))
else
aa (.inl (aqO.wrap (g+1))))
else
aa (.inr (0,0)))) N 0)))))
def W93:Fo 93 (.i1 [.g cz, .l az]) (.i1 [.l az, .l az]) (u2 (M.nq N)):=fz N [W90 N,W91 N,W92 N,XW N,afY N,af0 N,agd N,agf N,agm N] [O,O,O,R ⟨[(8, .l .bool)],[(128, .box 68 (.leaf bn))],[],241⟩,X,T,T,O,O,O,O,B 52 353,X,E 513,O,T,L 89 577,X,X,E 513,O,T,L 110 577,X,X,O,E 593,O,T,L 136 657,X,X,T,O,T,L 152 657] Tryz.func93
def M.mg(b:cz.den):Option (aD.den):=
(if(ah (4<(b.2.2.length:Int)))then
aa (4,(3,(4,0)))
else
bS (J:=Unit) (R:=aD.den) (Loop (S:=Int) (X:=Unit⊕(aD.den)) (λa=>(if(ah (a<(b.2.2.length:Int)))then
aqM (M.nq N b a) λc=>(if(!ah (c.1=0))then
aa (.inr (.inr (c.1,(3,(a,c.2)))))
else
aa (.inl (aqO.wrap (a+1))))
else
aa (.inr (.inl ())))) N 0) λd=>aa (0,(0,(0,0))))
def W57:Fo 57 (.i1 [.g cz]) (.i1 [.g aD]) (M.mg N):=fz N [W93 N] [O,O,E 96,O,T,L 14 160] Tryz.func57
def M.iu(a:cz.den):Option (aD.den):=
aqM (M.nh N a) λb=>(if(!ah (b.1=0))then
aa b
else
aqM (M.me N a) λc=>(if(!ah (c.1=0))then
aa c
else
aqM (M.mg N a) λd=>aa d))
def W28:Fo 28 (.i1 [.g cz]) (.i1 [.g aD]) (M.iu N):=fz N [W55 N,W56 N,W57 N] [] Tryz.func28
def M.dw(g:cz.den)(b:List aB.den)(c:List bJ.den):Option (Int×Int):=
(if(ah ((b.length:Int)<(c.length:Int)))then
aa ((b.length:Int),5)
else(if(ah ((c.length:Int)<(b.length:Int)))then
aa ((c.length:Int),4)
else
Loop (S:=Int) (X:=Int×Int) (λa=>(if(ah (a<(b.length:Int)))then
aqM (idx b a) λd=>aqM (idx c a) λe=>aqM (if(!ah (d.1=e.2.1))then
aa af
else
aa (!ah (d.2.1=e.2.2))) λh=>(if h then
aa (.inr (a,8))
else
aqM (M.jD N e.2 g.1) λf=>aqM (if(ah (d.2.2<f.1))then
aa af
else
aa (ah (f.2<d.2.2))) λi=>(if i then
aa (.inr (a,3))
else
aa (.inl (aqO.wrap (a+1)))))
else
aa (.inr (0,0)))) N 0))
def W58:Fo 58 (.i1 [.g cz, .l (.slice aB), .l (.slice bJ)]) (.i1 [.l az, .l az]) (u3 (M.dw N)):=fz N [W94 N] [O,O,O,T,O,T,L 29 256,O,O,T,T,O,O,T,B 50 480,O,B 68 624] Tryz.func58
def M.fq(N:Nat)(a:cz.den)(c:Int):Option ((List bJ.den)×Int):=
aqM (idx a.2.2 c) λb=>aqM (if(ah (b.2.1<0))then
aa af
else
aa (ah ((a.2.2.length:Int)<=b.2.1))) λd=>(if d then
aa (([]:List bJ.den),0)
else
aqM (idx a.2.2 b.2.1) λe=>aa (e.2.2.1,8))
def W59:Fo 59 (.i1 [.g cz, .l az]) (.i1 [.l (.slice bJ), .l az]) (u2 (M.fq N)):=fz N [] [O,O,T,B 21 160] Tryz.func59
def M.cF(b:cz.den)(c:Int)(a:ff.den):Option (Int×Int×Int):=
aqM (if(ah (c<0))then
aa af
else
aa (ah ((b.2.2.length:Int)<=c))) λh=>(if h then
aa ((-1),(-1),6)
else
aqM (if(ah (a.1<0))then
aa af
else
aa (ah (109572<a.1))) λi=>(if i then
aa ((-1),(-1),3)
else
aqM (idx b.2.2 c) λj=>aqM (M.dw N b a.2.1 j.2.2.1) λe=>(if(!ah (e.2=0))then
aa ((-1),e.1,e.2)
else
aqM (M.fq N b c) λf=>(if(ah (f.2<(a.2.2.length:Int)))then
aa (f.2,(-1),4)
else
Loop (S:=Int) (X:=Int×Int×Int) (λd=>(if(ah (d<(a.2.2.length:Int)))then
aqM (idx a.2.2 d) λk=>aqM (M.dw N b k f.1) λg=>(if(!ah (g.2=0))then
aa (.inr (d,g.1,g.2))
else
aa (.inl (aqO.wrap (d+1))))
else
aa (.inr (0,0,0)))) N 0))))
def W29:Fo 29 (.i1 [.g cz, .l az, .g ff]) (.i1 [.l az, .l az, .l az]) (u3 (M.cF N)):=fz N [W58 N,W59 N] [O,T,B 25 80,T,B 33 80,O,O,O,T,O,T,L 66 624] Tryz.func29
def M.gm(a:dX.den)(b:Int)(c:Int):Option (Bool×Int×Int):=
aqM (if(ah (a.2.1=b))then
aqM (M.cH N a.2.2.2.2.1 c) λd=>aa d
else
aa ag) λe=>aa (e,b,c)
def aa4:Fo 70 (.j1 [.g dX, .ptr 0 [] 0, .ptr 1 [] 0] [.box 3 (.leaf az), .box 3 (.leaf az)] 2) (.j1 [.l .bool] [.box 3 (.leaf az), .box 3 (.leaf az)] 4) (u3 (M.gm N)):=fz N [W71 N] [O,B 4 34] Tryz.func70
def M.gn(f:List dX.den)(g:Int)(h:Int):Option (Int×Int×(List Int)×List Int):=
aqM (qh (f.length:Int) 0) λi=>Loop (S:=Int×Int×Int×(List Int)×(List Int)×List Int) (X:=Int×Int×(List Int)×List Int) (λa=>(if(ah (a.1<(f.length:Int)))then
aqM (aqM (idx f a.1) λd=>aqM (aqM (if(ah (0<=d.2.2.1))then
aa (ah (d.2.2.1<a.1))
else
aa ag) λj=>(if j then
aqM (idx a.2.2.2.1 d.2.2.1) λk=>aa k
else
aa (-1)):Option Int) λe=>aqM (idx a.2.2.2.1 a.1) λn=>aqM (M.gm N d a.2.1 a.2.2.1) λb=>(if b.1 then
aqM (idx (bH a.2.2.2.1 a.1 e) a.1) λo=>aqM (cD a.2.2.2.2.1 ([a.1]:List Int)) λl=>aqM (cD a.2.2.2.2.2 ([e]:List Int)) λm=>aa (b.2.1,b.2.2,bH (bH a.2.2.2.1 a.1 e) a.1 (a.2.2.2.2.1.length:Int),l,m)
else
aa (b.2.1,b.2.2,bH a.2.2.2.1 a.1 e,a.2.2.2.2.1,a.2.2.2.2.2)):Option (Int×Int×(List Int)×(List Int)×List Int)) λc=>aa (.inl (aqO.wrap (a.1+1),c.1,c.2.1,c.2.2.1,c.2.2.2.1,c.2.2.2.2))
else
aa (.inr (a.2.1,a.2.2.1,a.2.2.2.2.1,a.2.2.2.2.2)))) N (0,g,h,i,([]:List Int),([]:List Int))
def aa5:Fo 69 (.j1 [.l (.slice dX), .fn 70 [(0,[],0),(1,[],0)]] [.box 3 (.leaf az), .box 3 (.leaf az)] 2) (.j1 [.val ag (.own 2), .val ag (.own 3)] [.box 3 (.leaf az), .box 3 (.leaf az), .own 3 az, .own 3 az] 6) (u3 (M.gn N)):=fz N [aa4 N] [O,O,O,T,O,T,P ⟨[(6, .val ag (.own 178)),(7, .val ag (.own 179)),(17, .l az)],[(0, .box 3 (.leaf az)),(1, .box 3 (.leaf az)),(98, .own 3 az),(178, .own 3 az),(179, .own 3 az)],[],183⟩,O,O,T,R ⟨[(6, .val ag (.own 199)),(7, .val ag (.own 200))],[(0, .box 3 (.leaf az)),(1, .box 3 (.leaf az)),(98, .own 3 az),(199, .own 3 az),(200, .own 3 az)],[178,179],204⟩,O,O,R ⟨[(11, .l az)],[],[],311⟩,B 30 311] Tryz.func69
def M.lg(c:bn.den)(d:Int)(e:Int):Option ((List Int)×(List Int)×List Int):=
aqM (M.gn N c.2.2.2.2 d e) λb=>aqM (Loop (S:=Int×List Int) (X:=List Int) (λa=>(if(ah (a.1<(b.2.2.1.length:Int)))then
aqM (idx b.2.2.1 a.1) λf=>aqM (idx c.2.2.2.2 f) λg=>aqM (cD a.2 ([g.2.2.2.1]:List Int)) λh=>aa (.inl (aqO.wrap (a.1+1),h))
else
aa (.inr a.2))) N (0,([]:List Int)):Option (List Int)) λi=>aa (b.2.2.1,b.2.2.2,i)
def W40:Fo 40 (.i1 [.g bn, .l az, .l az]) (.j1 [.val ag (.own 0), .val ag (.own 1), .val ag (.own 2)] [.own 3 az, .own 3 az, .own 3 az] 3) (u3 (M.lg N)):=fz N [aa5 N] [O,O,O,R ⟨[(11, .val ag (.own 256))],[(256, .own 3 az)],[],257⟩,O,T,P ⟨[(11, .val ag (.own 304)),(23, .l az)],[(304, .own 3 az)],[],305⟩] Tryz.func40
def M.bY(b:List aA.den)(c:List aA.den):Option Bool:=
(if(!ah ((b.length:Int)=(c.length:Int)))then
aa ag
else
Loop (S:=Int) (X:=Bool) (λa=>(if(ah (a<(b.length:Int)))then
aqM (idx b a) λd=>aqM (idx c a) λe=>(if(!(mD aA d e))then
aa (.inr ag)
else
aa (.inl (aqO.wrap (a+1))))
else
aa (.inr af))) N 0)
def W72:Fo 72 (.i1 [.l (.slice aA), .l (.slice aA)]) (.i1 [.l .bool]) (u2 (M.bY N)):=fz N [] [O,O,T,O,T,L 13 144] Tryz.func72
def M.fS(b:List (List aA.den))(c:List aA.den):Option Int:=
Loop (S:=Int) (X:=Int) (λa=>(if(ah (a<(b.length:Int)))then
aqM (idx b a) λd=>aqM (M.bY N d c) λe=>(if e then
aa (.inr a)
else
aa (.inl (aqO.wrap (a+1))))
else
aa (.inr (-1)))) N 0
def W41:Fo 41 (.i1 [.l (.slice (.slice aA)), .l (.slice aA)]) (.i1 [.l az]) (u2 (M.fS N)):=fz N [W72 N] [O,T,O,T,L 9 64] Tryz.func41
def M.bZ(N:Nat)(a:List aA.den):Option (List aA.den):=
(if aqV (a).length 0 then
Jm (aa ([]:List aA.den))
(aqM (cD ([]:List aA.den) a) λb=>aa b)
else
aqM (cD ([]:List aA.den) a) λc=>aa c)
def W42:Fo 42 (.i1 [.l (.slice aA)]) (.w1 79 aA) (M.bZ N):=fz N [] [] Tryz.func42
def M.dQ(b:List Int)(c:List Int):Option Int:=
(if(!ah ((b.length:Int)=(c.length:Int)))then
aa 2
else(if(ah (8<(b.length:Int)))then
aa 4
else
Loop (S:=Int) (X:=Int) (λa=>(if(ah (a<(b.length:Int)))then
aqM (idx b a) λd=>aqM (if(ah (d<(-1)))then
aa af
else
aa (ah (a<=d))) λe=>(if e then
aa (.inr 9)
else
aqM (aqM (idx c a) λf=>(if(ah (f<0))then
aa af
else
aqM (idx c a) λg=>aa (ah (9<g))):Option Bool) λh=>(if h then
aa (.inr 3)
else
aa (.inl (aqO.wrap (a+1)))))
else
aa (.inr 0))) N 0))
def agn:Fo 113 (.i1 [.l (.slice az), .l (.slice az)]) (.i1 [.l az]) (u2 (M.dQ N)):=fz N [] [O,O,O,T,O,T,L 17 192,O,O,T,T,O,T,B 28 288,B 40 288] Tryz.func113
def M.eR(b:List Int)(c:Int):Option (List Int):=
Loop (S:=Int×List Int) (X:=List Int) (λa=>(if(ah (a.1<(b.length:Int)))then
aqM (aqM (idx b a.1) λd=>(if(ah (d=c))then
aqM (cD a.2 ([a.1]:List Int)) λe=>aa e
else
aa a.2):Option (List Int)) λf=>aa (.inl (aqO.wrap (a.1+1),f))
else
aa (.inr a.2))) N (0,([]:List Int))
def ago:Fo 257 (.i1 [.l (.slice az), .l az]) (.w1 3 az) (u2 (M.eR N)):=fz N [] [O,O,T,O,T,P ⟨[(5, .val ag (.own 80)),(10, .l az)],[(80, .own 3 az)],[],81⟩,O,O,T,R ⟨[(5, .val ag (.own 97))],[(97, .own 3 az)],[80],98⟩] Tryz.func257
def M.fA(b:iX.den)(f:Int):Option (List Int):=
aqM (M.eR N b.1 f) λe=>Loop (S:=Int×List Int) (X:=List Int) (λa=>(if(ah (a.1<(e.length:Int)))then
aqM (aqM (idx e a.1) λc=>aqM (idx b.2.2 c) λg=>(if(ah (g=(-1)))then
aa a.2
else
aqM (aqM (if(ah (0<(a.2.length:Int)))then
aqM (idx b.2.1 c) λh=>aqM (idx a.2 0) λi=>aqM (idx b.2.1 i) λj=>aa (ah (j<h))
else
aa ag) λk=>(if k then
aqM (iE a.2 0 0) λl=>aa l
else
aa a.2):Option (List Int)) λd=>aqM (if(ah ((d.length:Int)=0))then
aa af
else
aqM (idx b.2.1 c) λm=>aqM (idx d 0) λn=>aqM (idx b.2.1 n) λo=>aa (ah (m=o))) λp=>(if p then
aqM (cD d ([c]:List Int)) λq=>aa q
else
aa d)):Option (List Int)) λr=>aa (.inl (aqO.wrap (a.1+1),r))
else
aa (.inr a.2))) N (0,([]:List Int))
def agp:Fo 185 (.i1 [.g iX, .l az]) (.w1 3 az) (u2 (M.fA N)):=fz N [ago N] [O,O,T,O,T,P ⟨[(5, .val ag (.own 144)),(13, .l az)],[(144, .own 3 az)],[],145⟩,O,O,T,R ⟨[(5, .val ag (.own 161))],[(161, .own 3 az)],[144],162⟩,O,O,R ⟨[(5, .val ag (.own 305))],[(305, .own 3 az)],[144],306⟩,B 40 305,B 60 306] Tryz.func185
def M.cJ(b:iX.den)(c:Int):Option Int:=
aqM (M.fA N b c) λa=>(if(ah ((a.length:Int)=0))then
aa (-1)
else(if(ah ((a.length:Int)=1))then
aqM (idx a 0) λd=>aqM (idx b.2.2 d) λe=>aa e
else
aa (-2)))
def aa6:Fo 115 (.i1 [.g iX, .l az]) (.i1 [.l az]) (u2 (M.cJ N)):=fz N [agp N] [] Tryz.func115
def M.fT(c:List Int)(d:List Int)(e:List Bool):Option (List Int):=
aqM (qh (c.length:Int) 0) λf=>Loop (S:=Int×List Int) (X:=List Int) (λa=>(if(ah (0<=a.1))then
aqM (aqM (M.cJ N (c,(d,a.2)) a.1) λb=>aqM (idx a.2 a.1) λk=>aqM (aqM (idx (bH a.2 a.1 b) a.1) λg=>(if(ah (g=(-1)))then
aqM (idx e a.1) λh=>aa h
else
aa ag):Option Bool) λi=>(if i then
aqM (idx (bH a.2 a.1 b) a.1) λl=>aa (bH (bH a.2 a.1 b) a.1 a.1)
else
aa (bH a.2 a.1 b)):Option (List Int)) λj=>aa (.inl (aqO.wrap (a.1-1),j))
else
aa (.inr a.2))) N (aqO.wrap ((c.length:Int)-1),f)
def agq:Fo 114 (.i1 [.l (.slice az), .l (.slice az), .l (.slice .bool)]) (.w1 3 az) (u3 (M.fT N)):=fz N [aa6 N] [O,O,T,O,T,P ⟨[(8, .l az)],[(80, .own 3 az)],[],209⟩,O,T,R ⟨[],[(80, .own 3 az)],[],242⟩,O,B 40 369] Tryz.func114
def M.dB(a:List Int)(b:List Int)(c:List Bool):Option Int:=
aqM (aqM (M.dQ N a b) λd=>(if(!ah (d=0))then
aa af
else
aa (!ah ((c.length:Int)=(a.length:Int)))):Option Bool) λe=>(if e then
aa (-1)
else
aqM (M.fT N a b c) λf=>aqM (M.cJ N (a,(b,f)) (-1)) λg=>aa g)
def W73:Fo 73 (.i1 [.l (.slice az), .l (.slice az), .l (.slice .bool)]) (.i1 [.l az]) (u3 (M.dB N)):=fz N [agn N,agq N,aa6 N] [O,T,B 17 16] Tryz.func73
def M.cU(d:List Int)(k:List Int)(l:List Int)(f:List Int)(m:Int):Option (List Int):=
aqM (uF .i64 1 m) λn=>aqM (qh n 0) λg=>aqM (qh (d.length:Int) ag) λo=>Loop (S:=Int×(List Int)×List Bool) (X:=List Int) (λa=>(if(ah (a.1<(g.length:Int)))then
aqM (aqM (aqM (Loop (S:=Int×List Bool) (X:=List Bool) (λb=>(if(ah (b.1<(f.length:Int)))then
aqM (aqM (idx f b.1) λh=>(if(ah (h<0))then
aqM (idx b.2 b.1) λt=>aa (bH b.2 b.1 af)
else
aqM (yG .i64 a.1 h) λp=>aqM (idx b.2 b.1) λu=>aa (bH b.2 b.1 (ah ((aL .and .i64 p 1)=1)))):Option (List Bool)) λq=>aa (.inl (aqO.wrap (b.1+1),q))
else
aa (.inr b.2))) N (0,a.2.2):Option (List Bool)) λe=>aqM (M.dB N k l e) λc=>aqM (if(ah (0<=c))then
aa (ah (c<(d.length:Int)))
else
aa ag) λr=>(if r then
aqM (idx d c) λs=>aqM (idx a.2.1 a.1) λv=>aa (bH a.2.1 a.1 s,e)
else
aqM (idx a.2.1 a.1) λw=>aa (bH a.2.1 a.1 c,e)):Option ((List Int)×List Bool)) λi=>aa (i.1,i.2):Option ((List Int)×List Bool)) λj=>aa (.inl (aqO.wrap (a.1+1),j.1,j.2))
else
aa (.inr a.2.1))) N (0,g,o)
def W43:Fo 43 (.i1 [.l (.slice az), .l (.slice az), .l (.slice az), .l (.slice az), .l az]) (.w1 3 az) (u5 (M.cU N)):=fz N [W73 N] [O,O,O,T,O,T,P ⟨[(25, .l az)],[(48, .own 3 az),(112, .own 4 .bool)],[],194⟩,O,O,R ⟨[],[(48, .own 3 az),(112, .own 4 .bool)],[],212⟩,R ⟨[],[(48, .own 3 az),(112, .own 4 .bool)],[],212⟩,O,R ⟨[],[(112, .own 4 .bool)],[],243⟩,O,T,P ⟨[(30, .l az)],[(112, .own 4 .bool)],[],291⟩,O,O,T,R ⟨[],[(112, .own 4 .bool)],[],308⟩,X,X,X,X,O,B 59 323] Tryz.func43
def M.ig(N:Nat)(a:aA.den)(b:Int):Option Bool:=
aa (ah ((aL .and .i64 b a.1)=a.2))
def W45:Fo 45 (.i1 [.g aA, .l az]) (.i1 [.l .bool]) (u2 (M.ig N)):=fz N [] [] Tryz.func45
def M.kh(N:Nat)(a:Int):Option Int:=
aa (if 8<(if a<0 then 0 else a)then 8 else(if a<0 then 0 else a))
def agr:Fo 116 (.i1 [.l az]) (.i1 [.l az]) (M.kh N):=fz N [] [] Tryz.func116
def M.ke(N:Nat)(a:Int):Option Int:=
aa (aL .and .i64 (aqO.wrap (aqQ.wrap ((aqQ.wrap ((aqQ.wrap ((aL .and .u64 (aqQ.wrap ((cg .u64 (aqQ.wrap ((aL .and .u64 (cg .u64 (aqQ.wrap ((aL .and .u64 (cg .u64 a 1) 6148914691236517205)+(aL .and .u64 a 6148914691236517205))) 2) 3689348814741910323)+(aL .and .u64 (aqQ.wrap ((aL .and .u64 (cg .u64 a 1) 6148914691236517205)+(aL .and .u64 a 6148914691236517205))) 3689348814741910323))) 4)+(aqQ.wrap ((aL .and .u64 (cg .u64 (aqQ.wrap ((aL .and .u64 (cg .u64 a 1) 6148914691236517205)+(aL .and .u64 a 6148914691236517205))) 2) 3689348814741910323)+(aL .and .u64 (aqQ.wrap ((aL .and .u64 (cg .u64 a 1) 6148914691236517205)+(aL .and .u64 a 6148914691236517205))) 3689348814741910323))))) 1085102592571150095)+(cg .u64 (aL .and .u64 (aqQ.wrap ((cg .u64 (aqQ.wrap ((aL .and .u64 (cg .u64 (aqQ.wrap ((aL .and .u64 (cg .u64 a 1) 6148914691236517205)+(aL .and .u64 a 6148914691236517205))) 2) 3689348814741910323)+(aL .and .u64 (aqQ.wrap ((aL .and .u64 (cg .u64 a 1) 6148914691236517205)+(aL .and .u64 a 6148914691236517205))) 3689348814741910323))) 4)+(aqQ.wrap ((aL .and .u64 (cg .u64 (aqQ.wrap ((aL .and .u64 (cg .u64 a 1) 6148914691236517205)+(aL .and .u64 a 6148914691236517205))) 2) 3689348814741910323)+(aL .and .u64 (aqQ.wrap ((aL .and .u64 (cg .u64 a 1) 6148914691236517205)+(aL .and .u64 a 6148914691236517205))) 3689348814741910323))))) 1085102592571150095) 8)))+(cg .u64 (aqQ.wrap ((aL .and .u64 (aqQ.wrap ((cg .u64 (aqQ.wrap ((aL .and .u64 (cg .u64 (aqQ.wrap ((aL .and .u64 (cg .u64 a 1) 6148914691236517205)+(aL .and .u64 a 6148914691236517205))) 2) 3689348814741910323)+(aL .and .u64 (aqQ.wrap ((aL .and .u64 (cg .u64 a 1) 6148914691236517205)+(aL .and .u64 a 6148914691236517205))) 3689348814741910323))) 4)+(aqQ.wrap ((aL .and .u64 (cg .u64 (aqQ.wrap ((aL .and .u64 (cg .u64 a 1) 6148914691236517205)+(aL .and .u64 a 6148914691236517205))) 2) 3689348814741910323)+(aL .and .u64 (aqQ.wrap ((aL .and .u64 (cg .u64 a 1) 6148914691236517205)+(aL .and .u64 a 6148914691236517205))) 3689348814741910323))))) 1085102592571150095)+(cg .u64 (aL .and .u64 (aqQ.wrap ((cg .u64 (aqQ.wrap ((aL .and .u64 (cg .u64 (aqQ.wrap ((aL .and .u64 (cg .u64 a 1) 6148914691236517205)+(aL .and .u64 a 6148914691236517205))) 2) 3689348814741910323)+(aL .and .u64 (aqQ.wrap ((aL .and .u64 (cg .u64 a 1) 6148914691236517205)+(aL .and .u64 a 6148914691236517205))) 3689348814741910323))) 4)+(aqQ.wrap ((aL .and .u64 (cg .u64 (aqQ.wrap ((aL .and .u64 (cg .u64 a 1) 6148914691236517205)+(aL .and .u64 a 6148914691236517205))) 2) 3689348814741910323)+(aL .and .u64 (aqQ.wrap ((aL .and .u64 (cg .u64 a 1) 6148914691236517205)+(aL .and .u64 a 6148914691236517205))) 3689348814741910323))))) 1085102592571150095) 8))) 16)))+(cg .u64 (aqQ.wrap ((aqQ.wrap ((aL .and .u64 (aqQ.wrap ((cg .u64 (aqQ.wrap ((aL .and .u64 (cg .u64 (aqQ.wrap ((aL .and .u64 (cg .u64 a 1) 6148914691236517205)+(aL .and .u64 a 6148914691236517205))) 2) 3689348814741910323)+(aL .and .u64 (aqQ.wrap ((aL .and .u64 (cg .u64 a 1) 6148914691236517205)+(aL .and .u64 a 6148914691236517205))) 3689348814741910323))) 4)+(aqQ.wrap ((aL .and .u64 (cg .u64 (aqQ.wrap ((aL .and .u64 (cg .u64 a 1) 6148914691236517205)+(aL .and .u64 a 6148914691236517205))) 2) 3689348814741910323)+(aL .and .u64 (aqQ.wrap ((aL .and .u64 (cg .u64 a 1) 6148914691236517205)+(aL .and .u64 a 6148914691236517205))) 3689348814741910323))))) 1085102592571150095)+(cg .u64 (aL .and .u64 (aqQ.wrap ((cg .u64 (aqQ.wrap ((aL .and .u64 (cg .u64 (aqQ.wrap ((aL .and .u64 (cg .u64 a 1) 6148914691236517205)+(aL .and .u64 a 6148914691236517205))) 2) 3689348814741910323)+(aL .and .u64 (aqQ.wrap ((aL .and .u64 (cg .u64 a 1) 6148914691236517205)+(aL .and .u64 a 6148914691236517205))) 3689348814741910323))) 4)+(aqQ.wrap ((aL .and .u64 (cg .u64 (aqQ.wrap ((aL .and .u64 (cg .u64 a 1) 6148914691236517205)+(aL .and .u64 a 6148914691236517205))) 2) 3689348814741910323)+(aL .and .u64 (aqQ.wrap ((aL .and .u64 (cg .u64 a 1) 6148914691236517205)+(aL .and .u64 a 6148914691236517205))) 3689348814741910323))))) 1085102592571150095) 8)))+(cg .u64 (aqQ.wrap ((aL .and .u64 (aqQ.wrap ((cg .u64 (aqQ.wrap ((aL .and .u64 (cg .u64 (aqQ.wrap ((aL .and .u64 (cg .u64 a 1) 6148914691236517205)+(aL .and .u64 a 6148914691236517205))) 2) 3689348814741910323)+(aL .and .u64 (aqQ.wrap ((aL .and .u64 (cg .u64 a 1) 6148914691236517205)+(aL .and .u64 a 6148914691236517205))) 3689348814741910323))) 4)+(aqQ.wrap ((aL .and .u64 (cg .u64 (aqQ.wrap ((aL .and .u64 (cg .u64 a 1) 6148914691236517205)+(aL .and .u64 a 6148914691236517205))) 2) 3689348814741910323)+(aL .and .u64 (aqQ.wrap ((aL .and .u64 (cg .u64 a 1) 6148914691236517205)+(aL .and .u64 a 6148914691236517205))) 3689348814741910323))))) 1085102592571150095)+(cg .u64 (aL .and .u64 (aqQ.wrap ((cg .u64 (aqQ.wrap ((aL .and .u64 (cg .u64 (aqQ.wrap ((aL .and .u64 (cg .u64 a 1) 6148914691236517205)+(aL .and .u64 a 6148914691236517205))) 2) 3689348814741910323)+(aL .and .u64 (aqQ.wrap ((aL .and .u64 (cg .u64 a 1) 6148914691236517205)+(aL .and .u64 a 6148914691236517205))) 3689348814741910323))) 4)+(aqQ.wrap ((aL .and .u64 (cg .u64 (aqQ.wrap ((aL .and .u64 (cg .u64 a 1) 6148914691236517205)+(aL .and .u64 a 6148914691236517205))) 2) 3689348814741910323)+(aL .and .u64 (aqQ.wrap ((aL .and .u64 (cg .u64 a 1) 6148914691236517205)+(aL .and .u64 a 6148914691236517205))) 3689348814741910323))))) 1085102592571150095) 8))) 16))) 32)))) 127)
def ags:Fo 262 (.i1 [.l (.int .u64)]) (.i1 [.l az]) (M.ke N):=fz N [] [] Tryz.func262
def M.dL(a:Int):Option Int:=
aqM (M.ke N a) λb=>aa b
def aa7:Fo 191 (.i1 [.l (.int .u64)]) (.i1 [.l az]) (M.dL N):=fz N [ags N] [] Tryz.func191
def M.oG(a:aA.den)(b:aA.den):Option (aA.den×Bool):=
aqM (if(!ah (a.1=b.1))then
aa af
else
aqM (M.dL N (aqQ.wrap (aL .xor .i64 a.2 b.2))) λc=>(if(!ah (c=1))then
aa af
else
aa (ah ((aL .and .i64 (aL .xor .i64 a.2 b.2) a.1)=0)))) λd=>(if d then
aa ((0,0),ag)
else
aa ((aL .andNot .i64 a.1 (aL .xor .i64 a.2 b.2),aL .andNot .i64 a.2 (aL .xor .i64 a.2 b.2)),af))
def agt:Fo 186 (.i1 [.g aA, .g aA]) (.i1 [.g aA, .l .bool]) (u2 (M.oG N)):=fz N [aa7 N] [O,O,T,B 29 160] Tryz.func186
end
end
end Go.Proofs.YtfeahmiobbjklaaGreatDoor
