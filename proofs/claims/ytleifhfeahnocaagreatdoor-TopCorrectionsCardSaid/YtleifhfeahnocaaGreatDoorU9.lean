/- Joined texts: LD Model. -/
import Derived.Test.YtleifhfeahnocaaGreatDoorU8
import Derived.Test.YtleifhfeahnocaaGreatDoorU6
import Derived.Test.YtleifhfeahnocaaGreatDoorU4
import Derived.Test.YtleifhfeahnocaaGreatDoorProg
import Derived.Test.YtleifhfeahnocaaGreatDoorU5
import Derived.Test.YtleifhfeahnocaaGreatDoorU7
set_option linter.defProp false
open _root_.Bool renaming false->ag,true->af
open _root_.Go.Value renaming int->ajV
open _root_.Decidable renaming decide->ah
open _root_.Option renaming none->ae,some->aa,bind->ai7
open _root_.Int renaming tdiv->ajl,tmod->ajH
open _root_.Go.IntKind renaming i64->ai9,u64->ajc
open _root_.List renaming forall_mem_cons->akB
open _root_.Nat renaming beq->ajf
namespace Go.Proofs.YtleifhfeahnocaaGreatDoor
open Go Go.RowKit
set_option maxRecDepth 100000
set_option linter.unusedSimpArgs false
set_option linter.unusedVariables false
set_option linter.defProp false
section
open Go Go.RowKit Go.Shelf Go.Lib Go.Sort
def zI(x:Int):Bool:=decide (x<1)||decide (109572<x)
def Mf(x:Int)(W:World):FnGives Tryz.prog 134 #[] #[.int .i64 x] (.bool (zI x)) W:=by
 show Calls Tryz.prog 134 #[.int .i64 x] W _
 go_enter Tryz.func134,Tryz.ntmps134
 go_wp2
 all_goals (go_ret;exact⟨by simp_all[zI],0,rfl⟩)
def FK:fZ Tryz.prog 133 ⟨⟨[(0, .val ag (.own 0)),(1, .fn 134 [])],[(0, .own 3 aB)],[],1⟩,⟨[(0, .val ag (.own 1))],[(1, .own 3 aB)],[],2⟩,λx=>pE zI x⟩:=by
 refine Jy (g:=134) (p:=zI) ⟨_,Tryz.func133,by kernel_rfl,by kernel_rfl⟩ (λnG off cap zs w hH kS vA=>?_) (λw=>?_)
 .have eg:∀args w,(callFunc 134 args).run Tryz.prog w= .ok (.enter 134 args) w:=enters_of Tryz.func134 (by kernel_rfl) rfl;have:=Tryz.slices_DeleteFunc (ajV .i64) (λ_=>rfl) zI 134 #[] eg 0 Tryz.zeroValue3 nG off cap zs.toArray w (λW x _=>Mf x W) (λn os dk x _=>Mf x _) hH (by simpa using kS) (by simpa using vA);simpa using this
 .exact FI Tryz.qt _ w
end
section
noncomputable section
open Tk
variable (N:Nat)
set_option maxRecDepth 100000
set_option linter.unusedVariables false
@[reducible] def aD:Row:= .pair aB aB
@[reducible] def bA:Row:= .pair .str aD
@[reducible] def db:Row:= .pair .str (.pair aB (.pair aB (.pair aB (.pair aD (.pair (.slice aD) (.pair (.slice aD) .str))))))
@[reducible] def aM:Row:= .pair .str (.pair aB (.pair (.slice bA) (.pair (.slice bA) (.slice db))))
@[reducible] def ef:Row:= .pair .str (.slice .str)
@[reducible] def kw:Row:= .pair aD (.pair aB aD)
@[reducible] def bl:Row:= .pair .str (.pair aD (.pair aD (.slice kw)))
@[reducible] def bG:Row:= .pair (.slice ef) (.pair (.slice bl) (.slice aM))
@[reducible] def aE:Row:= .pair aB aD
@[reducible] def bg:Row:= .pair aB (.pair aB (.pair aB (.pair aE (.pair aD aB))))
@[reducible] def bI:Row:= .pair aB (.pair aB (.pair aB (.slice bg)))
@[reducible] def cQ:Row:= .pair aB (.slice aB)
@[reducible] def aO:Row:= .pair aB (.pair aB (.pair aB (.pair aB (.pair aB (.pair aB (.pair aB cQ))))))
@[reducible] def bN:Row:= .pair aB (.pair aB (.pair aB (.pair aB (.pair aB (.pair aB (.pair aB (.pair aB bg)))))))
@[reducible] def aC:Row:= .pair aB aE
@[reducible] def aP:Row:= .pair aB (.pair aB (.pair aB aC))
@[reducible] def b9:Row:= .pair bI (.pair (.slice aC) (.pair (.slice aP) aD))
@[reducible] def bV:Row:= .pair (.slice ef) (.pair (.slice bl) (.pair (.slice aD) (.pair (.slice aD) (.pair (.slice aD) .bool))))
@[reducible] def oe:Row:= .pair aB (.pair (.slice aE) (.slice (.slice aE)))
@[reducible] def rL:Row:= .pair aM (.pair aM (.pair (.slice .bool) (.slice .bool)))
@[reducible] def kz:Row:= .pair aB (.pair (.slice aE) (.pair (.slice aE) (.pair (.slice (.slice aE)) (.pair (.slice aD) (.slice bl)))))
@[reducible] def bP:Row:= .pair (.slice aD) (.pair (.slice aB) kz)
@[reducible] def gP:Row:= .pair (.slice aB) (.pair (.slice aB) (.slice aB))
@[reducible] def bZ:Row:= .pair (.slice aE) (.slice aB)
@[reducible] def Hn:Row:= .pair (.slice aE) (.pair (.slice aB) (.slice bZ))
def vj:TI Tryz.prog 3 aB:=TI.mk (k:=1) (by kernel_rfl) rfl
def Ti4:TI Tryz.prog 4 .bool:=TI.mk (k:=1) (by kernel_rfl) rfl
def Ti9:TI Tryz.prog 9 .str:=TI.mk (k:=1) (by kernel_rfl) rfl
def Zx:TI Tryz.prog 22 (.slice ef):=TI.mk (k:=1) (by kernel_rfl) rfl
def Zy:TI Tryz.prog 23 (.slice bl):=TI.mk (k:=1) (by kernel_rfl) rfl
def Zz:TI Tryz.prog 24 (.slice aM):=TI.mk (k:=1) (by kernel_rfl) rfl
def ZA:TI Tryz.prog 26 bG:=TI.mk (k:=3) (by kernel_rfl) rfl
def ZB:TI Tryz.prog 27 (.slice aB):=TI.mk (k:=1) (by kernel_rfl) rfl
def ZC:TI Tryz.prog 29 cQ:=TI.mk (k:=2) (by kernel_rfl) rfl
def ZD:TI Tryz.prog 31 aO:=TI.mk (k:=9) (by kernel_rfl) rfl
def ZE:TI Tryz.prog 32 (.slice bg):=TI.mk (k:=1) (by kernel_rfl) rfl
def ZF:TI Tryz.prog 34 bI:=TI.mk (k:=4) (by kernel_rfl) rfl
def ZG:TI Tryz.prog 40 (.slice aC):=TI.mk (k:=1) (by kernel_rfl) rfl
def ZH:TI Tryz.prog 41 (.slice aP):=TI.mk (k:=1) (by kernel_rfl) rfl
def ZI:TI Tryz.prog 43 b9:=TI.mk (k:=8) (by kernel_rfl) rfl
def VB:TI Tryz.prog 45 aB:=TI.mk (k:=1) (by kernel_rfl) rfl
def VC:TI Tryz.prog 49 aE:=TI.mk (k:=3) (by kernel_rfl) rfl
def VD:TI Tryz.prog 51 aD:=TI.mk (k:=2) (by kernel_rfl) rfl
def ZJ:TI Tryz.prog 53 bg:=TI.mk (k:=9) (by kernel_rfl) rfl
def ZK:TI Tryz.prog 55 bN:=TI.mk (k:=17) (by kernel_rfl) rfl
def ZL:TI Tryz.prog 67 aE:=TI.mk (k:=3) (by kernel_rfl) rfl
def ZM:TI Tryz.prog 70 (.slice .str):=TI.mk (k:=1) (by kernel_rfl) rfl
def ZN:TI Tryz.prog 72 ef:=TI.mk (k:=2) (by kernel_rfl) rfl
def ZO:TI Tryz.prog 74 aD:=TI.mk (k:=2) (by kernel_rfl) rfl
def ZP:TI Tryz.prog 75 (.slice kw):=TI.mk (k:=1) (by kernel_rfl) rfl
def ZQ:TI Tryz.prog 77 bl:=TI.mk (k:=6) (by kernel_rfl) rfl
def ZR:TI Tryz.prog 78 (.slice bA):=TI.mk (k:=1) (by kernel_rfl) rfl
def ZS:TI Tryz.prog 79 (.slice db):=TI.mk (k:=1) (by kernel_rfl) rfl
def ZT:TI Tryz.prog 81 aM:=TI.mk (k:=5) (by kernel_rfl) rfl
def ZU:TI Tryz.prog 87 aC:=TI.mk (k:=4) (by kernel_rfl) rfl
def VE:TI Tryz.prog 103 aP:=TI.mk (k:=7) (by kernel_rfl) rfl
def VF:TI Tryz.prog 114 aC:=TI.mk (k:=4) (by kernel_rfl) rfl
def VG:TI Tryz.prog 127 bA:=TI.mk (k:=3) (by kernel_rfl) rfl
def VH:TI Tryz.prog 128 (.slice aD):=TI.mk (k:=1) (by kernel_rfl) rfl
def VI:TI Tryz.prog 130 db:=TI.mk (k:=9) (by kernel_rfl) rfl
def VJ:TI Tryz.prog 133 aD:=TI.mk (k:=2) (by kernel_rfl) rfl
def VK:TI Tryz.prog 163 (.slice aE):=TI.mk (k:=1) (by kernel_rfl) rfl
def VL:TI Tryz.prog 164 (.slice (.slice aE)):=TI.mk (k:=1) (by kernel_rfl) rfl
def VM:TI Tryz.prog 166 oe:=TI.mk (k:=3) (by kernel_rfl) rfl
def VN:TI Tryz.prog 170 aC:=TI.mk (k:=4) (by kernel_rfl) rfl
def VO:TI Tryz.prog 180 aC:=TI.mk (k:=4) (by kernel_rfl) rfl
def VP:TI Tryz.prog 216 (.slice bZ):=TI.mk (k:=1) (by kernel_rfl) rfl
def VQ:TI Tryz.prog 218 Hn:=TI.mk (k:=3) (by kernel_rfl) rfl
def VS:TI Tryz.prog 219 (.slice aD):=TI.mk (k:=1) (by kernel_rfl) rfl
def VT:TI Tryz.prog 221 kz:=TI.mk (k:=6) (by kernel_rfl) rfl
def VU:TI Tryz.prog 232 kw:=TI.mk (k:=5) (by kernel_rfl) rfl
def VV:TI Tryz.prog 241 (.int .u64):=TI.mk (k:=1) (by kernel_rfl) rfl
def VW:TI Tryz.prog 252 (.slice .bool):=TI.mk (k:=1) (by kernel_rfl) rfl
def VX:TI Tryz.prog 254 rL:=TI.mk (k:=12) (by kernel_rfl) rfl
def VY:TI Tryz.prog 260 bZ:=TI.mk (k:=2) (by kernel_rfl) rfl
def VZ:TI Tryz.prog 301 bV:=TI.mk (k:=6) (by kernel_rfl) rfl
def V0:TI Tryz.prog 308 (.slice aB):=TI.mk (k:=1) (by kernel_rfl) rfl
def V2:TI Tryz.prog 316 bP:=TI.mk (k:=8) (by kernel_rfl) rfl
def V3:TI Tryz.prog 343 gP:=TI.mk (k:=3) (by kernel_rfl) rfl
def yj:oF Tryz.prog 3 aB 1:=GJ Tryz.underlying3
def ZV:oF Tryz.prog 74 aD 2:=kT Tryz.underlying74 (by kernel_rfl) (di rfl rfl Tryz.underlying3 (by simp[fJ]) vj yj (nJ rfl rfl Tryz.underlying3 (by simp[fJ]) vj yj))
def ZW:oF Tryz.prog 45 aB 1:=GJ Tryz.underlying45
def V4:oF Tryz.prog 180 aC 2:=kT Tryz.underlying180 (by kernel_rfl) (di rfl rfl Tryz.underlying45 (by simp[fJ]) VB ZW (di rfl rfl Tryz.underlying3 (by simp[fJ]) vj yj (di rfl rfl Tryz.underlying3 (by simp[fJ]) vj yj (nJ rfl rfl Tryz.underlying3 (by simp[fJ]) vj yj))))
def V5:oF Tryz.prog 49 aE 2:=kT Tryz.underlying49 (by kernel_rfl) (di rfl rfl Tryz.underlying3 (by simp[fJ]) vj yj (di rfl rfl Tryz.underlying3 (by simp[fJ]) vj yj (nJ rfl rfl Tryz.underlying3 (by simp[fJ]) vj yj)))
def V6:oF Tryz.prog 51 aD 2:=kT Tryz.underlying51 (by kernel_rfl) (di rfl rfl Tryz.underlying3 (by simp[fJ]) vj yj (nJ rfl rfl Tryz.underlying3 (by simp[fJ]) vj yj))
def Ho:oF Tryz.prog 3 aB 2:=yj.lift 1
def ZX:oF Tryz.prog 53 bg 3:=kT Tryz.underlying53 (by kernel_rfl) (di rfl rfl Tryz.underlying3 (by simp[fJ]) vj Ho (di rfl rfl Tryz.underlying3 (by simp[fJ]) vj Ho (di rfl rfl Tryz.underlying3 (by simp[fJ]) vj Ho (di rfl rfl Tryz.underlying49 (by intro h;cases h) VC V5 (di rfl rfl Tryz.underlying51 (by intro h;cases h) VD V6 (nJ rfl rfl Tryz.underlying3 (by simp[fJ]) vj Ho))))))
def ZY:oF Tryz.prog 87 aC 2:=kT Tryz.underlying87 (by kernel_rfl) (di rfl rfl Tryz.underlying3 (by simp[fJ]) vj yj (di rfl rfl Tryz.underlying3 (by simp[fJ]) vj yj (di rfl rfl Tryz.underlying3 (by simp[fJ]) vj yj (nJ rfl rfl Tryz.underlying3 (by simp[fJ]) vj yj))))
def V7:oF Tryz.prog 103 aP 2:=kT Tryz.underlying103 (by kernel_rfl) (di rfl rfl Tryz.underlying3 (by simp[fJ]) vj yj (di rfl rfl Tryz.underlying3 (by simp[fJ]) vj yj (di rfl rfl Tryz.underlying3 (by simp[fJ]) vj yj (di rfl rfl Tryz.underlying3 (by simp[fJ]) vj yj (di rfl rfl Tryz.underlying3 (by simp[fJ]) vj yj (di rfl rfl Tryz.underlying3 (by simp[fJ]) vj yj (nJ rfl rfl Tryz.underlying3 (by simp[fJ]) vj yj)))))))
def tu:∀p∈([(3, .int .i64),(4, .bool),(5, .int .u8),(9, .str),(20, .other),(22, .slice 72),(23, .slice 77),(24, .slice 81),(26, .struct [(22,0),(23,1),(24,2)]),(27, .slice 3),(29, .struct [(3,0),(27,1)]),(31, .struct [(3,0),(3,1),(3,2),(3,3),(3,4),(3,5),(3,6),(29,7)]),(32, .slice 53),(34, .struct [(3,0),(3,1),(3,2),(32,3)]),(35, .slice 55),(40, .slice 87),(41, .slice 103),(43, .struct [(34,0),(40,4),(41,5),(3,6),(3,7)]),(45, .int .i64),(49, .struct [(3,0),(3,1),(3,2)]),(51, .struct [(3,0),(3,1)]),(53, .struct [(3,0),(3,1),(3,2),(49,3),(51,6),(3,8)]),(55, .struct [(3,0),(3,1),(3,2),(3,3),(3,4),(3,5),(3,6),(3,7),(53,8)]),(67, .struct [(3,0),(3,1),(45,2)]),(70, .slice 9),(72, .struct [(9,0),(70,1)]),(74, .struct [(3,0),(3,1)]),(75, .slice 232),(77, .struct [(9,0),(74,1),(74,3),(75,5)]),(78, .slice 127),(79, .slice 130),(81, .struct [(9,0),(3,1),(78,2),(78,3),(79,4)]),(82, .other),(87, .struct [(3,0),(3,1),(3,2),(3,3)]),(91, .other),(94, .ptr 43),(103, .struct [(3,0),(3,1),(3,2),(3,3),(3,4),(3,5),(3,6)]),(111, .slice 114),(114, .struct [(3,0),(3,1),(3,2),(3,3)]),(121, .slice 51),(127, .struct [(9,0),(74,1)]),(128, .slice 133),(130, .struct [(9,0),(3,1),(3,2),(3,3),(51,4),(128,6),(128,7),(9,8)]),(133, .struct [(3,0),(3,1)]),(151, .other),(156, .int .u64),(157, .other),(158, .slice 67),(163, .slice 49),(164, .slice 163),(166, .struct [(3,0),(163,1),(164,2)]),(170, .struct [(45,0),(3,1),(3,2),(3,3)]),(180, .struct [(45,0),(3,1),(3,2),(3,3)]),(187, .map 3 3),(200, .int .u32),(202, .int .u64),(203, .map 3 40),(205, .map 3 114),(213, .ptr 254),(216, .slice 260),(218, .struct [(163,0),(27,1),(216,2)]),(219, .slice 74),(221, .struct [(3,0),(163,1),(163,2),(164,3),(219,4),(23,5)]),(227, .slice 27),(232, .struct [(51,0),(3,2),(3,3),(3,4)]),(234, .map 3 4),(241, .int .u64),(245, .ptr 3),(247, .array 12 3),(252, .slice 4),(254, .struct [(81,0),(81,5),(252,10),(252,11)]),(258, .ptr 221),(260, .struct [(163,0),(27,1)]),(272, .ptr 241),(291, .other),(295, .other),(297, .other),(301, .struct [(22,0),(23,1),(219,2),(219,3),(219,4),(4,5)]),(307, .ptr 308),(308, .slice 3),(316, .struct [(128,0),(27,1),(221,2)]),(324, .other),(328, .other),(332, .other),(343, .struct [(27,0),(27,1),(27,2)])]:List (Nat×Ks)),yW Tryz.prog p.1 p.2:=by
 simp only[akB];exact⟨Tryz.underlying3,Tryz.underlying4,Tryz.underlying5,Tryz.underlying9,⟨_,Tryz.underlying20,rfl⟩,Tryz.underlying22,Tryz.underlying23,Tryz.underlying24,⟨_,Tryz.underlying26,rfl⟩,Tryz.underlying27,⟨_,Tryz.underlying29,rfl⟩,⟨_,Tryz.underlying31,rfl⟩,Tryz.underlying32,⟨_,Tryz.underlying34,rfl⟩,Tryz.underlying35,Tryz.underlying40,Tryz.underlying41,⟨_,Tryz.underlying43,rfl⟩,Tryz.underlying45,⟨_,Tryz.underlying49,rfl⟩,⟨_,Tryz.underlying51,rfl⟩,⟨_,Tryz.underlying53,rfl⟩,⟨_,Tryz.underlying55,rfl⟩,⟨_,Tryz.underlying67,rfl⟩,Tryz.underlying70,⟨_,Tryz.underlying72,rfl⟩,⟨_,Tryz.underlying74,rfl⟩,Tryz.underlying75,⟨_,Tryz.underlying77,rfl⟩,Tryz.underlying78,Tryz.underlying79,⟨_,Tryz.underlying81,rfl⟩,⟨_,Tryz.underlying82,rfl⟩,⟨_,Tryz.underlying87,rfl⟩,⟨_,Tryz.underlying91,rfl⟩,Tryz.underlying94,⟨_,Tryz.underlying103,rfl⟩,Tryz.underlying111,⟨_,Tryz.underlying114,rfl⟩,Tryz.underlying121,⟨_,Tryz.underlying127,rfl⟩,Tryz.underlying128,⟨_,Tryz.underlying130,rfl⟩,⟨_,Tryz.underlying133,rfl⟩,⟨_,Tryz.underlying151,rfl⟩,Tryz.underlying156,⟨_,Tryz.underlying157,rfl⟩,Tryz.underlying158,Tryz.underlying163,Tryz.underlying164,⟨_,Tryz.underlying166,rfl⟩,⟨_,Tryz.underlying170,rfl⟩,⟨_,Tryz.underlying180,rfl⟩,Tryz.underlying187,Tryz.underlying200,Tryz.underlying202,Tryz.underlying203,Tryz.underlying205,Tryz.underlying213,Tryz.underlying216,⟨_,Tryz.underlying218,rfl⟩,Tryz.underlying219,⟨_,Tryz.underlying221,rfl⟩,Tryz.underlying227,⟨_,Tryz.underlying232,rfl⟩,Tryz.underlying234,Tryz.underlying241,Tryz.underlying245,Tryz.underlying247,Tryz.underlying252,⟨_,Tryz.underlying254,rfl⟩,Tryz.underlying258,⟨_,Tryz.underlying260,rfl⟩,Tryz.underlying272,⟨_,Tryz.underlying291,rfl⟩,⟨_,Tryz.underlying295,rfl⟩,⟨_,Tryz.underlying297,rfl⟩,⟨_,Tryz.underlying301,rfl⟩,Tryz.underlying307,Tryz.underlying308,⟨_,Tryz.underlying316,rfl⟩,⟨_,Tryz.underlying324,rfl⟩,⟨_,Tryz.underlying328,rfl⟩,⟨_,Tryz.underlying332,rfl⟩,⟨_,Tryz.underlying343,rfl⟩,λ_ h=>absurd h (by simp)⟩
def tr:∀p∈([(3,aB),(4, .bool),(9, .str),(22,(.slice ef)),(23,(.slice bl)),(24,(.slice aM)),(26,bG),(27,(.slice aB)),(29,cQ),(31,aO),(32,(.slice bg)),(34,bI),(40,(.slice aC)),(41,(.slice aP)),(43,b9),(45,aB),(49,aE),(51,aD),(53,bg),(55,bN),(67,aE),(70,(.slice .str)),(72,ef),(74,aD),(75,(.slice kw)),(77,bl),(78,(.slice bA)),(79,(.slice db)),(81,aM),(87,aC),(103,aP),(114,aC),(127,bA),(128,(.slice aD)),(130,db),(133,aD),(163,(.slice aE)),(164,(.slice (.slice aE))),(166,oe),(170,aC),(180,aC),(216,(.slice bZ)),(218,Hn),(219,(.slice aD)),(221,kz),(232,kw),(241,(.int .u64)),(252,(.slice .bool)),(254,rL),(260,bZ),(301,bV),(308,(.slice aB)),(316,bP),(343,gP)]:List (Nat×Row)),TI Tryz.prog p.1 p.2:=by
 simp only[akB];exact⟨vj,Ti4,Ti9,Zx,Zy,Zz,ZA,ZB,ZC,ZD,ZE,ZF,ZG,ZH,ZI,VB,VC,VD,ZJ,ZK,ZL,ZM,ZN,ZO,ZP,ZQ,ZR,ZS,ZT,ZU,VE,VF,VG,VH,VI,VJ,VK,VL,VM,VN,VO,VP,VQ,VS,VT,VU,VV,VW,VX,VY,VZ,V0,V2,V3,λ_ h=>absurd h (by simp)⟩
def te:∀p∈([(49,aE),(51,aD),(53,bg),(74,aD),(87,aC),(103,aP),(180,aC)]:List (Nat×Row)),∃K d,oF Tryz.prog p.1 p.2 K/\d+K=10000/\Tryz.prog.eqGuardType Tryz.prog.depth p.1=ag/\(Tryz.prog.underlying p.1).any fJ=af:=by
 simp only[akB];exact⟨⟨2,9998,V5,rfl,by kernel_rfl,by kernel_rfl⟩,⟨2,9998,V6,rfl,by kernel_rfl,by kernel_rfl⟩,⟨3,9997,ZX,rfl,by kernel_rfl,by kernel_rfl⟩,⟨2,9998,ZV,rfl,by kernel_rfl,by kernel_rfl⟩,⟨2,9998,ZY,rfl,by kernel_rfl,by kernel_rfl⟩,⟨2,9998,V7,rfl,by kernel_rfl,by kernel_rfl⟩,⟨2,9998,V4,rfl,by kernel_rfl,by kernel_rfl⟩,λ_ h=>absurd h (by simp)⟩
def tz:∀p∈([(3,(ag,aB)),(4,(ag, .bool)),(40,(ag,(.slice aC))),(114,(af,aC))]:List (Nat×(Bool×Row))),Ax Tryz.prog p.1 p.2.1 p.2.2:=by
 simp only[akB];exact⟨⟨_,by kernel_rfl,rfl⟩,⟨_,by kernel_rfl,rfl⟩,⟨_,by kernel_rfl,rfl⟩,⟨_,by kernel_rfl,rfl⟩,λ_ h=>absurd h (by simp)⟩
def tm:∀p∈([(307,("Len",(202,ag))),(307,("Less",(310,ag))),(307,("Pop",(311,af))),(307,("Push",(312,af))),(307,("Swap",(313,ag)))]:List (TypeId×(String×(FuncId×Bool)))),rG Tryz.prog p.1 p.2.1 p.2.2.1 p.2.2.2:=by
 simp only[akB];exact⟨(by unfold rG;kernel_rfl),(by unfold rG;kernel_rfl),(by unfold rG;kernel_rfl),(by unfold rG;kernel_rfl),(by unfold rG;kernel_rfl),λ_ h=>absurd h (by simp)⟩
def ZZ:bj Tryz.prog:=⟨_,_,_,_,nZ tu,nZ tr,nZ te,λt a r h=>nZ (Q:=λt p=>Ax Tryz.prog t p.1 p.2) tz t (a,r) h,_,tm⟩
def mixed:Tryz.prog.follows .mixedOrders=af:=by kernel_rfl
def en(l:List (CT Tryz.prog))(d p:Bool):Env Tryz.prog:=⟨ZZ,CT.tab l,CT.Bj,mixed,d,p⟩
abbrev Fo(f:Nat)(a b:JS)(g:dC a.rows->Option (dC b.rows)):Prop:=fZ Tryz.prog f ⟨a,b,g⟩
def fz{f:FuncId}{fn:Func}{sg:oN}(N:Nat)(l:List (CT Tryz.prog))(a:List Tk)(hf:Tryz.prog.funcs[f]? =aa fn)(hc:Zp fn sg=af:=by kernel_rfl)(BZ:∀x,sg.fn x=RQ (en l ag ag) fn.ntmps N (fn.body.getD .skip) fn.results.toList (ak a) sg.inn sg.out x:=by intro x;kernel_rfl):fZ Tryz.prog f sg:=fw (en l ag ag) (N:=N) (ak a) hf hc BZ
def M.kF(a:aM.den):Option Bool:=
ai7 (if(ah (80<(a.1.size:Int)))then
aa af
else(if(ah (14<(a.2.2.1.length:Int)))then
aa af
else(if(ah (14<(a.2.2.2.1.length:Int)))then
aa af
else
aa (ah (60<(a.2.2.2.2.length:Int)))))) λf=>(if f then
aa ag
else
cd (J:=Unit) (R:=Bool) (Loop (S:=Int) (X:=Unit⊕Bool) (λc=>(if(ah (c<(a.2.2.1.length:Int)))then
ai7 (idx a.2.2.1 c) λg=>(if(ah (80<(g.1.size:Int)))then
aa (.inr (.inr ag))
else
aa (.inl (ai9.wrap (c+1))))
else
aa (.inr (.inl ())))) N 0) λj=>cd (J:=Unit) (R:=Bool) (Loop (S:=Int) (X:=Unit⊕Bool) (λd=>(if(ah (d<(a.2.2.2.1.length:Int)))then
ai7 (idx a.2.2.2.1 d) λh=>(if(ah (80<(h.1.size:Int)))then
aa (.inr (.inr ag))
else
aa (.inl (ai9.wrap (d+1))))
else
aa (.inr (.inl ())))) N 0) λk=>Loop (S:=Int) (X:=Bool) (λe=>(if(ah (e<(a.2.2.2.2.length:Int)))then
ai7 (idx a.2.2.2.2 e) λb=>ai7 (if(ah (80<(b.1.size:Int)))then
aa af
else(if(ah (80<(b.2.2.2.2.2.2.2.size:Int)))then
aa af
else(if(ah (50<(b.2.2.2.2.2.1.length:Int)))then
aa af
else
aa (ah (50<(b.2.2.2.2.2.2.1.length:Int)))))) λi=>(if i then
aa (.inr ag)
else
aa (.inl (ai9.wrap (e+1))))
else
aa (.inr af))) N 0)
def W21:Fo 21 (.i1 [.g aM]) (.i1 [.l .bool]) (M.kF N):=fz N [] [O,T,B 28 32,E 32,O,T,L 3 48,X,X,E 32,O,T,L 4 48,X,X,T,O,T,L 5 48,O,T,T,O,B 92 240] Tryz.func21
def M.iR(a:bG.den):Option Bool:=
ai7 (if(ah (9<(a.1.length:Int)))then
aa af
else(if(ah (9<(a.2.1.length:Int)))then
aa af
else
aa (ah (5<(a.2.2.length:Int))))) λh=>(if h then
aa ag
else
cd (J:=Unit) (R:=Bool) (Loop (S:=Int) (X:=Unit⊕Bool) (λb=>(if(ah (b<(a.1.length:Int)))then
cd (J:=Unit) (R:=Int⊕(Unit⊕Bool)) (ai7 (ai7 (idx a.1 b) λi=>(if(ah (80<(i.1.size:Int)))then
aa af
else
ai7 (idx a.1 b) λj=>aa (ah (20<(j.2.length:Int)))):Option Bool) λk=>(if k then
aa (.inr (.inr (.inr ag)))
else
Loop (S:=Int) (X:=Unit⊕(Int⊕(Unit⊕Bool))) (λe=>ai7 (idx a.1 b) λl=>(if(ah (e<(l.2.length:Int)))then
ai7 (idx a.1 b) λm=>ai7 (idx m.2 e) λn=>(if(ah (80<(n.size:Int)))then
aa (.inr (.inr (.inr (.inr ag))))
else
aa (.inl (ai9.wrap (e+1))))
else
aa (.inr (.inl ())))) N 0)) λt=>aa (.inl (ai9.wrap (b+1)))
else
aa (.inr (.inl ())))) N 0) λu=>cd (J:=Unit) (R:=Bool) (Loop (S:=Int×Int) (X:=Unit⊕Bool) (λc=>(if(ah (c.2<(a.2.1.length:Int)))then
ai7 (idx a.2.1 c.2) λf=>ai7 (ai7 (idx a.2.1 c.2) λo=>(if(ah (80<(o.1.size:Int)))then
aa af
else
aa (ah (150<(ai9.wrap (c.1+(f.2.2.2.length:Int)))))):Option Bool) λp=>(if p then
aa (.inr (.inr ag))
else
aa (.inl (ai9.wrap (c.1+(f.2.2.2.length:Int)),ai9.wrap (c.2+1))))
else
aa (.inr (.inl ())))) N (0,0)) λv=>Loop (S:=Int×Int) (X:=Bool) (λd=>(if(ah (d.2<(a.2.2.length:Int)))then
ai7 (idx a.2.2 d.2) λg=>ai7 (if(ah (60<(ai9.wrap (d.1+(g.2.2.2.2.length:Int)))))then
aa af
else
ai7 (idx a.2.2 d.2) λq=>ai7 (M.kF N q) λr=>aa (!r)) λs=>(if s then
aa (.inr ag)
else
aa (.inl (ai9.wrap (d.1+(g.2.2.2.2.length:Int)),ai9.wrap (d.2+1))))
else
aa (.inr af))) N (0,0))
def W5:Fo 5 (.i1 [.g bG]) (.i1 [.l .bool]) (M.iR N):=fz N [W21 N] [O,T,B 24 32,O,O,E 64,O,T,L 5 80,O,E 160,T,T,B 49 160,O,T,L 6 176,X,X,X,X,X,E 64,O,T,P ⟨[(3, .l aB),(7, .l aB)],[],[],80⟩,O,T,T,O,B 99 320,X,X,X,T,O,T,P ⟨[(4, .l aB),(8, .l aB)],[],[],80⟩,O,T,T,O,B 126 320] Tryz.func5
def M.gH(N:Nat)(a:bI.den):Option Bool:=
aa (ah ((a.2.2.2.length:Int)<=40))
def W6:Fo 6 (.i1 [.g bI]) (.i1 [.l .bool]) (M.gH N):=fz N [] [] Tryz.func6
def M.mm(N:Nat)(a:aO.den):Option Bool:=
aa (ah ((a.2.2.2.2.2.2.2.2.length:Int)<=70))
def W22:Fo 22 (.i1 [.g aO]) (.i1 [.l .bool]) (M.mm N):=fz N [] [] Tryz.func22
def M.mO(b:aO.den)(c:List bN.den):Option Bool:=
cd (J:=Unit) (R:=Bool) (Loop (S:=Int) (X:=Unit⊕Bool) (λa=>ai7 (if(ah (a<(c.length:Int)))then
aa (ah (a<20))
else
aa ag) λe=>(if e then
ai7 (idx c a) λd=>ai7 (ai7 (idx c a) λf=>(if(ah (f.1=2))then(if(ah (d.2.2.1<=3599))then(if(ah (b.2.2.2.2.2.1<=d.2.2.1))then
aa (ah (7<(ai9.wrap (d.2.2.1-b.2.2.2.2.2.1))))
else
aa ag)
else
aa ag)
else
aa ag):Option Bool) λg=>(if g then
aa (.inr (.inr ag))
else
aa (.inl (ai9.wrap (a+1))))
else
aa (.inr (.inl ())))) N 0) λj=>ai7 (if(ah ((c.length:Int)<=12))then(if(ah (0<=b.2.2.2.2.2.1))then
ai7 (M.mm N b) λh=>aa h
else
aa ag)
else
aa ag) λi=>aa i
def W7:Fo 7 (.i1 [.g aO, .l (.slice bN)]) (.i1 [.l .bool]) (u2 (M.mO N)):=fz N [W22 N] [O,E 32,O,T,L 5 48,T,B 14 48,T,T,O,B 44 144,X,X,X,B 4 32] Tryz.func7
def M.bw(N:Nat)(a:List bg.den):Option (List bg.den):=
(if ajf (a).length 0 then
yB (aa ([]:List bg.den))
(ai7 (cu ([]:List bg.den) a) λb=>aa b)
else
ai7 (cu ([]:List bg.den) a) λc=>aa c)
def Z0:Fo 26 (.i1 [.l (.slice bg)]) (.w1 53 bg) (M.bw N):=fz N [] [] Tryz.func26
def M.ie(c:bI.den):Option (Int×Int×Int×aD.den×List bg.den):=
ai7 (M.bw N c.2.2.2) λd=>ai7 (Loop (S:=Int×(List bg.den)×Int×Int×Int×aD.den) (X:=(List bg.den)×Int×Int×Int×aD.den) (λa=>(if(ah (a.1<(d.length:Int)))then
ai7 (idx a.2.1 a.1) λe=>aa (.inl (ai9.wrap (a.1+1),a.2.1,a.2.2.1,a.2.2.2.1,a.2.2.2.2.1,(if a.2.2.2.2.2.1<e.2.2.2.2.2 then e.2.2.2.2.2 else a.2.2.2.2.2.1,a.2.2.2.2.2.2)))
else
aa (.inr (a.2.1,a.2.2.1,a.2.2.2.1,a.2.2.2.2.1,a.2.2.2.2.2)))) N (0,d,c.1,c.2.1,c.2.2.1,(0,(-1))):Option ((List bg.den)×Int×Int×Int×aD.den)) λb=>aa (b.2.1,b.2.2.1,b.2.2.2.1,b.2.2.2.2,b.1)
def W9:Fo 9 (.i1 [.g bI]) (.j1 [.val af (.pair (.pair (.leaf aB) (.pair (.leaf aB) (.pair (.leaf aB) (.own 0)))) (.pair .nil (.pair .nil (.leaf aD))))] [.own 53 bg] 1) (M.ie N):=fz N [Z0 N] [O,O,O,R ⟨[],[(64, .own 53 bg),(144, .box 43 (.pair (.pair (.leaf aB) (.pair (.leaf aB) (.pair (.leaf aB) (.own 64)))) (.pair .nil (.pair .nil (.leaf aD)))))],[],178⟩,O,T,P ⟨[(15, .l aB)],[(64, .own 53 bg),(144, .box 43 (.pair (.pair (.leaf aB) (.pair (.leaf aB) (.pair (.leaf aB) (.own 64)))) (.pair .nil (.pair .nil (.leaf aD)))))],[],242⟩] Tryz.func9
def M.bQ(N:Nat)(a:List Int):Option (List Int):=zG a
def S40:oN:=⟨.w1 3 aB, .j1 [] [.own 3 aB] 2,M.bQ N⟩
def V8(N:Nat):fZ Tryz.prog 40 (S40 N):=OU ⟨_,Tryz.func40,by kernel_rfl,by kernel_rfl⟩ Tryz.slices_Sort_int Tryz.slices_Sort_int_none
def M.bz(N:Nat)(a:List Int):Option (List Int):=pb a
def S41:oN:=⟨.w1 3 aB,⟨[(0, .val ag (.own 1))],[(1, .own 3 aB)],[],2⟩,M.bz N⟩
def V9(N:Nat):fZ Tryz.prog 41 (S41 N):=FH ⟨_,Tryz.func41,by kernel_rfl,by kernel_rfl⟩ Tryz.slices_Compact_int Tryz.slices_Compact_int_empty
def M.mA(b:List aC.den):Option (List Int):=
ai7 (Loop (S:=Int×List Int) (X:=List Int) (λa=>(if(ah (a.1<(b.length:Int)))then
ai7 (idx b a.1) λc=>ai7 (cu a.2 ([c.2.1]:List Int)) λd=>aa (.inl (ai9.wrap (a.1+1),d))
else
aa (.inr a.2))) N (0,([]:List Int)):Option (List Int)) λe=>ai7 (M.bQ N e) λf=>ai7 (M.bz N f) λg=>aa g
def W14:Fo 14 (.i1 [.l (.slice aC)]) (.w1 3 aB) (M.mA N):=fz N [V8 N,V9 N] [O,O,R ⟨[(3, .val ag (.own 32))],[(32, .own 3 aB)],[],33⟩,O,T,P ⟨[(3, .val ag (.own 80)),(8, .l aB)],[(80, .own 3 aB)],[],81⟩] Tryz.func14
def M.dx(N:Nat)(a:List aC.den)(b:Int):Option Int:=R5 a b
def S15:oN:=⟨.i1 [.l (.slice aC), .l aB], .i1 [.l aB],u2 (M.dx N)⟩
def Z1(N:Nat):fZ Tryz.prog 15 (S15 N):=Du
def M.jx(N:Nat)(a:Int):Option Bool:=
ai7 (if(ah (0<=a))then
aa (ah (a<=109572))
else
aa ag) λb=>aa b
def W28:Fo 28 (.i1 [.l aB]) (.i1 [.l .bool]) (M.jx N):=fz N [] [O,B 2 16] Tryz.func28
def M.kA(N:Nat)(a:Int):Option Bool:=
ai7 (if(ah (97<=a))then
aa (ah (a<=122))
else
aa ag) λb=>aa b
def Wa:Fo 185 (.i1 [.l (.int .u8)]) (.i1 [.l .bool]) (M.kA N):=fz N [] [O,B 2 16] Tryz.func185
def M.mB(N:Nat)(a:Int):Option Bool:=
ai7 (if(ah (48<=a))then
aa (ah (a<=57))
else
aa ag) λb=>aa b
def Z2:Fo 210 (.i1 [.l (.int .u8)]) (.i1 [.l .bool]) (M.mB N):=fz N [] [O,B 2 16] Tryz.func210
def M.jM(b:ByteArray):Option Int:=
Loop (S:=Int) (X:=Int) (λa=>ai7 (if(ah (a<(b.size:Int)))then
ai7 (me b a) λc=>ai7 (M.kA N c) λd=>(if d then
aa af
else
ai7 (me b a) λe=>ai7 (M.mB N e) λf=>(if f then
aa af
else
ai7 (me b a) λg=>aa (ah (g=95))))
else
aa ag) λh=>(if h then
aa (.inl (ai9.wrap (a+1)))
else
aa (.inr a))) N 0
def Z3:Fo 186 (.i1 [.l .str]) (.i1 [.l aB]) (M.jM N):=fz N [Wa N,Z2 N] [O,O,T,T,L 3 32,T,B 25 32] Tryz.func186
def M.lv(N:Nat)(a:ByteArray):Option Bool:=
ai7 (if(ah (a=⟨#[105,102]⟩))then
aa (ah (a=⟨#[105,102]⟩))
else(if(ah (a=⟨#[116,104,101,110]⟩))then
aa (ah (a=⟨#[116,104,101,110]⟩))
else(if(ah (a=⟨#[101,108,115,101]⟩))then
aa (ah (a=⟨#[101,108,115,101]⟩))
else(if(ah (a=⟨#[111,114]⟩))then
aa (ah (a=⟨#[111,114]⟩))
else(if(ah (a=⟨#[97,110,100]⟩))then
aa (ah (a=⟨#[97,110,100]⟩))
else(if(ah (a=⟨#[110,111,116]⟩))then
aa (ah (a=⟨#[110,111,116]⟩))
else(if(ah (a=⟨#[116,114,117,101]⟩))then
aa (ah (a=⟨#[116,114,117,101]⟩))
else(if(ah (a=⟨#[102,97,108,115,101]⟩))then
aa (ah (a=⟨#[102,97,108,115,101]⟩))
else(if(ah (a=⟨#[116,111,100,97,121]⟩))then
aa (ah (a=⟨#[116,111,100,97,121]⟩))
else(if(ah (a=⟨#[115,104,97,114,101]⟩))then
aa (ah (a=⟨#[115,104,97,114,101]⟩))
else(if(ah (a=⟨#[100,105,118]⟩))then
aa (ah (a=⟨#[100,105,118]⟩))
else(if(ah (a=⟨#[114,111,117,110,100]⟩))then
aa (ah (a=⟨#[114,111,117,110,100]⟩))
else(if(ah (a=⟨#[109,105,110]⟩))then
aa (ah (a=⟨#[109,105,110]⟩))
else(if(ah (a=⟨#[109,97,120]⟩))then
aa (ah (a=⟨#[109,97,120]⟩))
else(if(ah (a=⟨#[112,108,117,115]⟩))then
aa (ah (a=⟨#[112,108,117,115]⟩))
else(if(ah (a=⟨#[109,111,110,116,104,115]⟩))then
aa (ah (a=⟨#[109,111,110,116,104,115]⟩))
else(if(ah (a=⟨#[100,97,121,115]⟩))then
aa (ah (a=⟨#[100,97,121,115]⟩))
else(if(ah (a=⟨#[121,101,97,114,115]⟩))then
aa (ah (a=⟨#[121,101,97,114,115]⟩))
else(if(ah (a=⟨#[121,101,97,114]⟩))then
aa (ah (a=⟨#[121,101,97,114]⟩))
else(if(ah (a=⟨#[109,111,110,116,104]⟩))then
aa (ah (a=⟨#[109,111,110,116,104]⟩))
else(if(ah (a=⟨#[116,97,98]⟩))then
aa (ah (a=⟨#[116,97,98]⟩))
else(if(ah (a=⟨#[98,97,110,100]⟩))then
aa (ah (a=⟨#[98,97,110,100]⟩))
else(if(ah (a=⟨#[99,111,117,110,116]⟩))then
aa (ah (a=⟨#[99,111,117,110,116]⟩))
else(if(ah (a=⟨#[115,117,109]⟩))then
aa (ah (a=⟨#[115,117,109]⟩))
else(if(ah (a=⟨#[97,108,108]⟩))then
aa (ah (a=⟨#[97,108,108]⟩))
else(if(ah (a=⟨#[97,110,121]⟩))then
aa (ah (a=⟨#[97,110,121]⟩))
else(if(ah (a=⟨#[109,111,115,116]⟩))then
aa (ah (a=⟨#[109,111,115,116]⟩))
else(if(ah (a=⟨#[101,110,117,109]⟩))then
aa (ah (a=⟨#[101,110,117,109]⟩))
else(if(ah (a=⟨#[116,97,98,108,101]⟩))then
aa (ah (a=⟨#[116,97,98,108,101]⟩))
else(if(ah (a=⟨#[114,111,119]⟩))then
aa (ah (a=⟨#[114,111,119]⟩))
else(if(ah (a=⟨#[115,99,111,112,101]⟩))then
aa (ah (a=⟨#[115,99,111,112,101]⟩))
else(if(ah (a=⟨#[109,101,109,98,101,114,115]⟩))then
aa (ah (a=⟨#[109,101,109,98,101,114,115]⟩))
else(if(ah (a=⟨#[105,110,112,117,116]⟩))then
aa (ah (a=⟨#[105,110,112,117,116]⟩))
else(if(ah (a=⟨#[100,101,102]⟩))then
aa (ah (a=⟨#[100,101,102]⟩))
else(if(ah (a=⟨#[114,117,108,101]⟩))then
aa (ah (a=⟨#[114,117,108,101]⟩))
else(if(ah (a=⟨#[111,102]⟩))then
aa (ah (a=⟨#[111,102]⟩))
else(if(ah (a=⟨#[111,118,101,114]⟩))then
aa (ah (a=⟨#[111,118,101,114]⟩))
else(if(ah (a=⟨#[112,114,105,111]⟩))then
aa (ah (a=⟨#[112,114,105,111]⟩))
else(if(ah (a=⟨#[102,114,111,109]⟩))then
aa (ah (a=⟨#[102,114,111,109]⟩))
else(if(ah (a=⟨#[116,111]⟩))then
aa (ah (a=⟨#[116,111]⟩))
else(if(ah (a=⟨#[101,110,100]⟩))then
aa (ah (a=⟨#[101,110,100]⟩))
else(if(ah (a=⟨#[119,104,101,110]⟩))then
aa (ah (a=⟨#[119,104,101,110]⟩))
else(if(ah (a=⟨#[105,115]⟩))then
aa (ah (a=⟨#[105,115]⟩))
else(if(ah (a=⟨#[115,114,99]⟩))then
aa (ah (a=⟨#[115,114,99]⟩))
else(if(ah (a=⟨#[98,111,111,108]⟩))then
aa (ah (a=⟨#[98,111,111,108]⟩))
else(if(ah (a=⟨#[105,110,116]⟩))then
aa (ah (a=⟨#[105,110,116]⟩))
else(if(ah (a=⟨#[109,111,110,101,121]⟩))then
aa (ah (a=⟨#[109,111,110,101,121]⟩))
else(if(ah (a=⟨#[114,97,116,101]⟩))then
aa (ah (a=⟨#[114,97,116,101]⟩))
else(if(ah (a=⟨#[100,97,116,101]⟩))then
aa (ah (a=⟨#[100,97,116,101]⟩))
else(if(ah (a=⟨#[100,111,119,110]⟩))then
aa (ah (a=⟨#[100,111,119,110]⟩))
else(if(ah (a=⟨#[117,112]⟩))then
aa (ah (a=⟨#[117,112]⟩))
else(if(ah (a=⟨#[122,101,114,111]⟩))then
aa (ah (a=⟨#[122,101,114,111]⟩))
else(if(ah (a=⟨#[97,119,97,121]⟩))then
aa (ah (a=⟨#[97,119,97,121]⟩))
else(if(ah (a=⟨#[104,97,108,102]⟩))then
aa (ah (a=⟨#[104,97,108,102]⟩))
else
aa (ah (a=⟨#[101,118,101,110]⟩)))))))))))))))))))))))))))))))))))))))))))))))))))))))) λb=>(if b then
aa af
else
aa ag)
def Z4:Fo 187 (.i1 [.l .str]) (.i1 [.l .bool]) (M.lv N):=fz N [] [O,T,O,T,B 4 32] Tryz.func187
def M.ct(a:ByteArray):Option Bool:=
ai7 (if(!ah (a=⟨#[]⟩))then
ai7 (me a 0) λb=>ai7 (M.kA N b) λc=>(if c then
ai7 (M.jM N a) λd=>(if(ah (d=(a.size:Int)))then(if(ah ((a.size:Int)<=16))then
ai7 (M.lv N a) λe=>aa (!e)
else
aa ag)
else
aa ag)
else
aa ag)
else
aa ag) λf=>aa f
def Mg:Fo 163 (.i1 [.l .str]) (.i1 [.l .bool]) (M.ct N):=fz N [Wa N,Z3 N,Z4 N] [O,B 2 16] Tryz.func163
def M.lz(N:Nat)(b:ef.den)(a:ByteArray):Option (Bool×ByteArray):=
aa (ah (b.1=a),a)
def R7:Fo 189 (.j1 [.g ef, .ptr 0 [] 0] [.box 9 (.leaf .str)] 1) (.j1 [.l .bool] [.box 9 (.leaf .str)] 2) (u2 (M.lz N)):=fz N [] [] Tryz.func189
def M.bB(c:List ef.den)(d:ByteArray):Option (Int×ByteArray):=
Loop (S:=Int×ByteArray) (X:=Int×ByteArray) (λa=>(if(ah (a.1<(c.length:Int)))then
ai7 (idx c a.1) λe=>ai7 (M.lz N e a.2) λb=>(if b.1 then
aa (.inr (a.1,b.2))
else
aa (.inl (ai9.wrap (a.1+1),b.2)))
else
aa (.inr ((-1),a.2)))) N (0,d)
def R8:Fo 211 (.j1 [.l (.slice ef), .fn 189 [(0,[],0)]] [.box 9 (.leaf .str)] 1) (.j1 [.l aB] [.box 9 (.leaf .str)] 2) (u2 (M.bB N)):=fz N [R7 N] [O,T,O,T,P ⟨[(8, .l aB)],[(0, .box 9 (.leaf .str))],[],66⟩] Tryz.func211
def M.bW(b:List ef.den)(c:ByteArray):Option (Bool×ByteArray):=
ai7 (M.bB N b c) λa=>aa (ah (0<=a.1),a.2)
def R9:Fo 188 (.j1 [.l (.slice ef), .fn 189 [(0,[],0)]] [.box 9 (.leaf .str)] 1) (.j1 [.l .bool] [.box 9 (.leaf .str)] 2) (u2 (M.bW N)):=fz N [R8 N] [] Tryz.func188
def M.jy(a:List ef.den)(b:ByteArray):Option Bool:=
ai7 (M.bW N a b) λc=>aa c.1
def Sa:Fo 164 (.i1 [.l (.slice ef), .l .str]) (.i1 [.l .bool]) (u2 (M.jy N)):=fz N [R9 N] [] Tryz.func164
def M.dO(b:List ByteArray)(c:ByteArray):Option Int:=
Loop (S:=Int) (X:=Int) (λa=>(if(ah (a<(b.length:Int)))then
ai7 (idx b a) λd=>(if(ah (c=d))then
aa (.inr a)
else
aa (.inl (ai9.wrap (a+1))))
else
aa (.inr (-1)))) N 0
def Z5:Fo 208 (.i1 [.l (.slice .str), .l .str]) (.i1 [.l aB]) (u2 (M.dO N)):=fz N [] [O,T,O,T,L 8 64] Tryz.func208
def M.dc(a:List ByteArray)(b:ByteArray):Option Bool:=
ai7 (M.dO N a b) λc=>aa (ah (0<=c))
def Z6:Fo 181 (.i1 [.l (.slice .str), .l .str]) (.i1 [.l .bool]) (u2 (M.dc N)):=fz N [Z5 N] [] Tryz.func181
def M.mC(d:bG.den)(e:Int)(a:ef.den):Option (Int×Int):=
ai7 (M.ct N a.1) λf=>(if(!f)then
aa (2,0)
else
ai7 (gq d.1 0 e) λg=>ai7 (M.jy N g a.1) λh=>(if h then
aa (7,0)
else(if(ah ((a.2.length:Int)=0))then
aa (5,0)
else(if(ah (16<(a.2.length:Int)))then
aa (4,116)
else
Loop (S:=Int) (X:=Int×Int) (λb=>(if(ah (b<(a.2.length:Int)))then
ai7 (idx a.2 b) λc=>ai7 (M.ct N c) λi=>(if(!i)then
aa (.inr (2,ai9.wrap (100+b)))
else
ai7 (gq a.2 0 b) λj=>ai7 (M.dc N j c) λk=>(if k then
aa (.inr (7,ai9.wrap (100+b)))
else
aa (.inl (ai9.wrap (b+1)))))
else
aa (.inr (0,0)))) N 0))))
def Z7:Fo 161 (.i1 [.g bG, .l aB, .g ef]) (.i1 [.l aB, .l aB]) (u3 (M.mC N)):=fz N [Mg N,Sa N,Z6 N] [O,O,T,O,T,L 36 496] Tryz.func161
def M.lA(b:bG.den):Option (aC.den):=
(if(ah (8<(b.1.length:Int)))then
aa (4,(1,(8,0)))
else
cd (J:=Unit) (R:=aC.den) (Loop (S:=Int) (X:=Unit⊕(aC.den)) (λa=>(if(ah (a<(b.1.length:Int)))then
ai7 (idx b.1 a) λd=>ai7 (M.mC N b a d) λc=>(if(!ah (c.1=0))then
aa (.inr (.inr (c.1,(1,(a,c.2)))))
else
aa (.inl (ai9.wrap (a+1))))
else
aa (.inr (.inl ())))) N 0) λe=>aa (0,(0,(0,0))))
def Z8:Fo 136 (.i1 [.g bG]) (.i1 [.g aC]) (M.lA N):=fz N [Z7 N] [O,O,E 96,O,T,L 15 160] Tryz.func136
def M.cY(N:Nat)(a:aD.den)(b:List ef.den):Option Bool:=
ai7 (if(ah (a.1=1))then
aa (ah (a.1=1))
else(if(ah (a.1=2))then
aa (ah (a.1=2))
else(if(ah (a.1=3))then
aa (ah (a.1=3))
else(if(ah (a.1=4))then
aa (ah (a.1=4))
else
aa (ah (a.1=5)))))) λc=>(if c then
aa (ah (a.2=0))
else(if(ah (a.1=6))then
ai7 (if(ah (0<=a.2))then
aa (ah (a.2<(b.length:Int)))
else
aa ag) λd=>aa d
else
aa ag))
def Mh:Fo 141 (.i1 [.g aD, .l (.slice ef)]) (.i1 [.l .bool]) (u2 (M.cY N)):=fz N [] [O,T,O,T,R ⟨[(7, .l .bool)],[],[],64⟩,X,O,O,T,B 4 96] Tryz.func141
def M.ga(a:aD.den)(b:List ef.den):Option (Int×Int):=
ai7 (M.cY N a b) λc=>(if(!c)then
aa (0,(-1))
else(if(ah (a.1=1))then
aa (0,1)
else(if(ah (a.1=2))then
aa ((-1000000000000),1000000000000)
else(if(ah (a.1=3))then
aa ((-1000000000000000),1000000000000000)
else(if(ah (a.1=4))then
aa ((-1000000000),1000000000)
else(if(ah (a.1=5))then
aa (0,109572)
else
ai7 (idx b a.2) λd=>aa (0,ai9.wrap ((d.2.length:Int)-1))))))))
def X3:Fo 96 (.i1 [.g aD, .l (.slice ef)]) (.i1 [.l aB, .l aB]) (u2 (M.ga N)):=fz N [Mh N] [] Tryz.func96
def M.dU(N:Nat)(a:aD.den):Option Bool:=
ai7 (if(ah (0<=a.1))then(if(ah (a.1<=a.2))then
aa (ah (a.2<=109573))
else
aa ag)
else
aa ag) λb=>aa b
def O0:Fo 135 (.i1 [.g aD]) (.i1 [.l .bool]) (M.dU N):=fz N [] [O,B 2 32] Tryz.func135
def M.dP(a:aD.den):Option Bool:=
ai7 (ai7 (M.dU N a) λb=>(if b then
aa (ah (a.1<a.2))
else
aa ag):Option Bool) λc=>aa c
def Wb:Fo 159 (.i1 [.g aD]) (.i1 [.l .bool]) (M.dP N):=fz N [O0 N] [O,B 2 32] Tryz.func159
def M.ki(a:aD.den)(b:aD.den):Option (aD.den×Bool):=
ai7 (ai7 (M.dP N a) λc=>(if(!c)then
aa af
else
ai7 (M.dP N b) λd=>aa (!d)):Option Bool) λe=>(if e then
aa ((0,0),ag)
else(if(ah ((if b.2<a.2 then b.2 else a.2)<=(if a.1<b.1 then b.1 else a.1)))then
aa ((0,0),ag)
else
aa ((if a.1<b.1 then b.1 else a.1,if b.2<a.2 then b.2 else a.2),af)))
def Z9:Fo 209 (.i1 [.g aD, .g aD]) (.i1 [.g aD, .l .bool]) (u2 (M.ki N)):=fz N [Wb N] [O,T,B 14 64] Tryz.func209
def M.lB(a:kw.den)(b:kw.den):Option Bool:=
ai7 (M.ki N a.1 b.1) λc=>ai7 (if c.2 then
aa (ah ((if a.2.1<b.2.1 then b.2.1 else a.2.1)<(if b.2.2.1<a.2.2.1 then b.2.2.1 else a.2.2.1)))
else
aa ag) λd=>aa d
def aaa:Fo 184 (.i1 [.g kw, .g kw]) (.i1 [.l .bool]) (u2 (M.lB N)):=fz N [Z9 N] [O,O,B 4 224] Tryz.func184
def M.jz(b:kw.den)(a:kw.den):Option (Bool×kw.den):=
ai7 (M.lB N b a) λc=>aa (c,a)
def Sb:Fo 183 (.j1 [.g kw, .ptr 0 [] 0] [.box 232 (.leaf kw)] 1) (.j1 [.l .bool] [.box 232 (.leaf kw)] 2) (u2 (M.jz N)):=fz N [aaa N] [] Tryz.func183
def M.cy(c:List kw.den)(d:kw.den):Option (Int×Bool×kw.den):=
Loop (S:=Int×kw.den) (X:=Int×Bool×kw.den) (λa=>(if(ah (a.1<(c.length:Int)))then
ai7 (idx c a.1) λe=>ai7 (M.jz N e a.2) λb=>(if b.1 then
aa (.inr (a.1,af,b.2))
else
aa (.inl (ai9.wrap (a.1+1),b.2)))
else
aa (.inr (0,ag,a.2)))) N (0,d)
def Sc:Fo 182 (.j1 [.l (.slice kw), .fn 183 [(0,[],0)]] [.box 232 (.leaf kw)] 1) (.j1 [.l aB, .l .bool] [.box 232 (.leaf kw)] 2) (u2 (M.cy N)):=fz N [Sb N] [O,T,O,T,P ⟨[(10, .l aB)],[(0, .box 232 (.leaf kw))],[],82⟩] Tryz.func182
def M.lC(b:bl.den)(d:List ef.den):Option (Int×Int):=
(if(ah (64<(b.2.2.2.length:Int)))then
aa (64,4)
else
ai7 (ai7 (M.cY N b.2.1 d) λg=>(if(!g)then
aa af
else
ai7 (M.cY N b.2.2.1 d) λh=>aa (!h)):Option Bool) λi=>(if i then
aa ((-1),8)
else
ai7 (M.ga N b.2.1 d) λe=>ai7 (M.ga N b.2.2.1 d) λf=>Loop (S:=Int) (X:=Int×Int) (λc=>(if(ah (c<(b.2.2.2.length:Int)))then
ai7 (idx b.2.2.2 c) λa=>ai7 (ai7 (M.dU N a.1) λj=>(if(!j)then
aa af
else(if(ah (a.1.1=a.1.2))then
aa af
else
aa (ah (a.2.2.1<=a.2.1)))):Option Bool) λk=>(if k then
aa (.inr (c,3))
else
ai7 (if(ah (a.2.1<e.1))then
aa af
else(if(ah (e.2<a.2.1))then
aa af
else(if(ah ((ai9.wrap (a.2.2.1-1))<e.1))then
aa af
else
aa (ah (e.2<(ai9.wrap (a.2.2.1-1))))))) λl=>(if l then
aa (.inr (c,3))
else
ai7 (if(ah (a.2.2.2<f.1))then
aa af
else
aa (ah (f.2<a.2.2.2))) λm=>(if m then
aa (.inr (c,3))
else
ai7 (gq b.2.2.2 0 c) λn=>ai7 (M.cy N n a) λo=>(if o.2.1 then
aa (.inr (c,11))
else
aa (.inl (ai9.wrap (c+1)))))))
else
aa (.inr (0,0)))) N 0))
def aab:Fo 162 (.i1 [.g bl, .l (.slice ef)]) (.i1 [.l aB, .l aB]) (u2 (M.lC N)):=fz N [X3 N,O0 N,Mh N,Sc N] [O,O,T,B 29 112,O,O,T,O,T,L 47 464,O,O,T,T,O,T,B 71 576,T,B 96 576,T,B 107 576] Tryz.func162
def M.kX(N:Nat)(b:bl.den)(a:ByteArray):Option (Bool×ByteArray):=
aa (ah (b.1=a),a)
def Sd:Fo 191 (.j1 [.g bl, .ptr 0 [] 0] [.box 9 (.leaf .str)] 1) (.j1 [.l .bool] [.box 9 (.leaf .str)] 2) (u2 (M.kX N)):=fz N [] [] Tryz.func191
def M.br(c:List bl.den)(d:ByteArray):Option (Int×ByteArray):=
Loop (S:=Int×ByteArray) (X:=Int×ByteArray) (λa=>(if(ah (a.1<(c.length:Int)))then
ai7 (idx c a.1) λe=>ai7 (M.kX N e a.2) λb=>(if b.1 then
aa (.inr (a.1,b.2))
else
aa (.inl (ai9.wrap (a.1+1),b.2)))
else
aa (.inr ((-1),a.2)))) N (0,d)
def Se:Fo 212 (.j1 [.l (.slice bl), .fn 191 [(0,[],0)]] [.box 9 (.leaf .str)] 1) (.j1 [.l aB] [.box 9 (.leaf .str)] 2) (u2 (M.br N)):=fz N [Sd N] [O,T,O,T,P ⟨[(8, .l aB)],[(0, .box 9 (.leaf .str))],[],66⟩] Tryz.func212
def M.bO(b:List bl.den)(c:ByteArray):Option (Bool×ByteArray):=
ai7 (M.br N b c) λa=>aa (ah (0<=a.1),a.2)
def Sf:Fo 190 (.j1 [.l (.slice bl), .fn 191 [(0,[],0)]] [.box 9 (.leaf .str)] 1) (.j1 [.l .bool] [.box 9 (.leaf .str)] 2) (u2 (M.bO N)):=fz N [Se N] [] Tryz.func190
def M.jN(a:List bl.den)(b:ByteArray):Option Bool:=
ai7 (M.bO N a b) λc=>aa c.1
def Wc:Fo 165 (.i1 [.l (.slice bl), .l .str]) (.i1 [.l .bool]) (u2 (M.jN N)):=fz N [Sf N] [] Tryz.func165
def M.kG(b:bG.den):Option (aC.den):=
(if(ah (8<(b.2.1.length:Int)))then
aa (4,(2,(8,0)))
else
cd (J:=Unit) (R:=aC.den) (Loop (S:=Int) (X:=Unit⊕(aC.den)) (λa=>(if(ah (a<(b.2.1.length:Int)))then
ai7 (idx b.2.1 a) λd=>ai7 (M.lC N d b.1) λc=>ai7 (ai7 (M.ct N d.1) λf=>(if(!f)then
aa (2,(2,(a,0)))
else
ai7 (ai7 (M.jy N b.1 d.1) λg=>(if g then
aa af
else
ai7 (gq b.2.1 0 a) λh=>ai7 (M.jN N h d.1) λi=>aa i):Option Bool) λj=>(if j then
aa (7,(2,(a,0)))
else(if(!ah (c.2=0))then(if(!ah (c.1=(-1)))then
aa (c.2,(2,(a,ai9.wrap (100+c.1))))
else
aa (c.2,(2,(a,0))))
else
aa (0,(2,(a,0)))))):Option (aC.den)) λe=>(if(!ah (e.1=0))then
aa (.inr (.inr e))
else
aa (.inl (ai9.wrap (a+1))))
else
aa (.inr (.inl ())))) N 0) λk=>aa (0,(0,(0,0))))
def aac:Fo 137 (.i1 [.g bG]) (.i1 [.g aC]) (M.kG N):=fz N [aab N,Mg N,Sa N,Wc N] [O,O,E 96,O,T,L 16 160,O,O,T,T,O,O,O,T,R ⟨[],[(304, .box 180 (.leaf aC))],[],481⟩,O,O,B 36 560] Tryz.func137
def M.lD(e:List (List Int))(i:Int):Option (List Int):=
ai7 (p6 (e.length:Int) ag) λj=>ai7 (Loop (S:=(List Bool)×List Int) (X:=List Bool) (λc=>(if(ah (0<(c.2.length:Int)))then
ai7 (idx c.2 0) λk=>ai7 (gq c.2 1 (c.2.length:Int)) λl=>ai7 (idx e k) λf=>Loop (S:=Int×(List Bool)×List Int) (X:=((List Bool)×List Int)⊕(List Bool)) (λa=>(if(ah (a.1<(f.length:Int)))then
ai7 (ai7 (idx f a.1) λd=>ai7 (idx a.2.1 d) λm=>(if(!m)then
ai7 (idx a.2.1 d) λr=>ai7 (cu a.2.2 ([d]:List Int)) λn=>aa (b8 a.2.1 d af,n)
else
aa (a.2.1,a.2.2)):Option ((List Bool)×List Int)) λg=>aa (.inl (ai9.wrap (a.1+1),g.1,g.2))
else
aa (.inr (.inl (a.2.1,a.2.2))))) N (0,c.1,l)
else
aa (.inr c.1))) N (j,([i]:List Int)):Option (List Bool)) λh=>Loop (S:=Int×List Int) (X:=List Int) (λb=>(if(ah (b.1<(h.length:Int)))then
ai7 (ai7 (idx h b.1) λo=>(if o then
ai7 (cu b.2 ([b.1]:List Int)) λp=>aa p
else
aa b.2):Option (List Int)) λq=>aa (.inl (ai9.wrap (b.1+1),q))
else
aa (.inr b.2))) N (0,([]:List Int))
def aad:oN:=⟨.i1 [.l (.slice (.slice aB)), .l aB], .w1 3 aB,u2 (M.lD N)⟩
def We(N:Nat):fZ Tryz.prog 174 (aad N):=fw (en [] ag af) (N:=N) (.o (.o (.o (.meet ⟨[],[(48, .own 4 .bool)],[96],129⟩ (.two (.loop ⟨[(6, .val ag (.own 128))],[(48, .own 4 .bool),(128, .own 3 aB)],[96],130⟩ (.o (.two (.o (.o (.o (.two (.loop ⟨[(6, .val ag (.own 386)),(31, .l aB)],[(48, .own 4 .bool),(386, .own 3 aB)],[258],388⟩ (.o (.o (.two (.meet ⟨[(6, .val ag (.own 404))],[(48, .own 4 .bool),(404, .own 3 aB)],[386],406⟩ .nil .nil) .nil)))) .nil)))) .nil))) .nil) (.o (.two (.o (.two (.loop ⟨[(10, .val ag (.own 193)),(50, .l aB)],[(193, .own 3 aB)],[],194⟩ (.o (.o (.two (.meet ⟨[(10, .val ag (.own 210))],[(210, .own 3 aB)],[193],211⟩ .nil .nil) .nil)))) .nil)) .nil)))))) Tryz.func174 (by kernel_rfl) λx=>by kernel_rfl
def M.gQ(a:List Int):Option (List Int):=
ai7 (M.bQ N a) λb=>ai7 (M.bz N b) λc=>aa c
def Sg:Fo 200 (.w1 3 aB) ⟨[(0, .val ag (.own 1))],[(1, .own 3 aB)],[],2⟩ (M.gQ N):=fz N [V8 N,V9 N] [] Tryz.func200
def M.dy(e:List aD.den):Option ((List Int)×(List Int)×List Int):=
ai7 (Loop (S:=Int×(List Int)×(List Int)×List Int) (X:=(List Int)×(List Int)×List Int) (λa=>(if(ah (a.1<(e.length:Int)))then
ai7 (idx e a.1) λb=>ai7 ((if(ah (b.1=7))then
ai7 (cu a.2.1 ([b.2]:List Int)) λf=>aa (f,a.2.2.1,a.2.2.2)
else(if(ah (b.1=8))then
ai7 (cu a.2.2.1 ([b.2]:List Int)) λg=>aa (a.2.1,g,a.2.2.2)
else
ai7 (if(ah (b.1=36))then
aa (ah (b.1=36))
else(if(ah (b.1=37))then
aa (ah (b.1=37))
else(if(ah (b.1=38))then
aa (ah (b.1=38))
else
aa (ah (b.1=39))))) λh=>(if h then
ai7 (cu a.2.2.2 ([b.2]:List Int)) λi=>aa (a.2.1,a.2.2.1,i)
else
aa (a.2.1,a.2.2.1,a.2.2.2)))):Option ((List Int)×(List Int)×List Int)) λc=>aa (.inl (ai9.wrap (a.1+1),c.1,c.2.1,c.2.2))
else
aa (.inr (a.2.1,a.2.2.1,a.2.2.2)))) N (0,([]:List Int),([]:List Int),([]:List Int)):Option ((List Int)×(List Int)×List Int)) λd=>ai7 (M.gQ N d.1) λj=>ai7 (M.gQ N d.2.1) λk=>ai7 (M.gQ N d.2.2) λl=>aa (j,k,l)
def Wf:Fo 176 (.i1 [.l (.slice aD)]) (.j1 [.val ag (.own 0), .val ag (.own 1), .val ag (.own 2)] [.own 3 aB, .own 3 aB, .own 3 aB] 3) (M.dy N):=fz N [Sg N] [O,O,R ⟨[(5, .val ag (.own 96)),(6, .val ag (.own 97)),(7, .val ag (.own 98))],[(96, .own 3 aB),(97, .own 3 aB),(98, .own 3 aB)],[],99⟩,O,T,P ⟨[(5, .val ag (.own 144)),(6, .val ag (.own 145)),(7, .val ag (.own 146)),(12, .l aB)],[(144, .own 3 aB),(145, .own 3 aB),(146, .own 3 aB)],[],147⟩,O,O,T,T,O,O,R ⟨[(5, .val ag (.own 259)),(6, .val ag (.own 260)),(7, .val ag (.own 261))],[(259, .own 3 aB),(260, .own 3 aB),(261, .own 3 aB)],[144,145,146],262⟩,O,O,O,O,B 32 323] Tryz.func176
def M.fA(e:db.den)(f:Int):Option (List Int):=
ai7 (M.dy N e.2.2.2.2.2.1) λg=>ai7 (M.dy N e.2.2.2.2.2.2.1) λh=>ai7 (Loop (S:=Int×List Int) (X:=List Int) (λa=>(if(ah (a.1<(g.2.1.length:Int)))then
ai7 (ai7 (idx g.2.1 a.1) λc=>ai7 (if(ah (0<=c))then
aa (ah (c<f))
else
aa ag) λi=>(if i then
ai7 (cu a.2 ([c]:List Int)) λj=>aa j
else
aa a.2):Option (List Int)) λk=>aa (.inl (ai9.wrap (a.1+1),k))
else
aa (.inr a.2))) N (0,([]:List Int)):Option (List Int)) λl=>Loop (S:=Int×List Int) (X:=List Int) (λb=>(if(ah (b.1<(h.2.1.length:Int)))then
ai7 (ai7 (idx h.2.1 b.1) λd=>ai7 (if(ah (0<=d))then
aa (ah (d<f))
else
aa ag) λm=>(if m then
ai7 (cu b.2 ([d]:List Int)) λn=>aa n
else
aa b.2):Option (List Int)) λo=>aa (.inl (ai9.wrap (b.1+1),o))
else
aa (.inr b.2))) N (0,l)
def Wg:Fo 199 (.i1 [.g db, .l aB]) (.w1 3 aB) (u2 (M.fA N)):=fz N [Wf N] [O,O,O,O,R ⟨[(5, .val ag (.own 368))],[(368, .own 3 aB)],[],369⟩,O,T,P ⟨[(5, .val ag (.own 416)),(32, .l aB)],[(416, .own 3 aB)],[],417⟩,O,O,T,R ⟨[(5, .val ag (.own 433))],[(433, .own 3 aB)],[416],434⟩,O,B 42 481,X,X,X,T,O,T,P ⟨[(5, .val ag (.own 417)),(50, .l aB)],[(417, .own 3 aB)],[368],418⟩,O,O,T,R ⟨[(5, .val ag (.own 434))],[(434, .own 3 aB)],[417],435⟩,O,B 60 482] Tryz.func199
def M.gb(a:List Int):Option (List Int):=
ai7 (M.bQ N a) λb=>ai7 (M.bz N b) λc=>aa c
def FL:Fo 177 (.w1 3 aB) ⟨[(0, .val ag (.own 1))],[(1, .own 3 aB)],[],2⟩ (M.gb N):=fz N [V8 N,V9 N] [] Tryz.func177
def M.gR(d:aM.den):Option (List (List Int)):=
ai7 (p6 (d.2.2.2.1.length:Int) ([]:List Int)) λf=>ai7 (Loop (S:=Int×List (List Int)) (X:=List (List Int)) (λb=>(if(ah (b.1<(d.2.2.2.2.length:Int)))then
ai7 (ai7 (idx d.2.2.2.2 b.1) λc=>ai7 (if(ah (0<=c.2.1))then
aa (ah (c.2.1<(b.2.length:Int)))
else
aa ag) λg=>(if g then
ai7 (idx b.2 c.2.1) λn=>ai7 (idx b.2 c.2.1) λh=>ai7 (M.fA N c (b.2.length:Int)) λi=>ai7 (cu h i) λj=>ai7 (idx b.2 c.2.1) λo=>(if ah (c.2.1=c.2.1)then
ai7 (idx b.2 c.2.1) λp=>aa (sX b.2 c.2.1 (λq=>j))
else ae)
else
aa b.2):Option (List (List Int))) λk=>aa (.inl (ai9.wrap (b.1+1),k))
else
aa (.inr b.2))) N (0,f):Option (List (List Int))) λe=>Loop (S:=Int×List (List Int)) (X:=List (List Int)) (λa=>(if(ah (a.1<(e.length:Int)))then
ai7 (idx a.2 a.1) λr=>ai7 (idx a.2 a.1) λl=>ai7 (M.gb N l) λm=>ai7 (idx a.2 a.1) λs=>(if ah (a.1=a.1)then
ai7 (idx a.2 a.1) λt=>aa (.inl (ai9.wrap (a.1+1),sX a.2 a.1 (λu=>m)))
else ae)
else
aa (.inr a.2))) N (0,e)
def aae:oN:=⟨.i1 [.g aM], .j1 [.val ag (.own 0)] [.deep 27 (.sl 3 (.leaf aB))] 1,M.gR N⟩
def Wh(N:Nat):fZ Tryz.prog 175 (aae N):=fw (en [ck (FL N),ck (Wg N)] af ag) (N:=N) (.o (.o (.meet ⟨[],[(80, .deep 27 (.sl 3 (.leaf aB)))],[],113⟩ (.o (.two (.loop ⟨[(15, .l aB)],[(80, .deep 27 (.sl 3 (.leaf aB)))],[],177⟩ (.o (.o (.two (.meet ⟨[],[(80, .deep 27 (.sl 3 (.leaf aB)))],[],194⟩ (.o (.meet ⟨[(28, .l .bool)],[],[],257⟩ .nil .nil)) .nil) .nil)))) .nil)) (.two (.o (.two (.loop ⟨[(46, .l aB)],[(80, .deep 27 (.sl 3 (.leaf aB)))],[],162⟩ .nil) .nil)) .nil)))) Tryz.func175 (by kernel_rfl) λx=>by kernel_rfl
def M.dz(b:aM.den)(a:Int):Option (List Int):=
ai7 (if(ah (a<0))then
aa af
else
aa (ah ((b.2.2.2.1.length:Int)<=a))) λc=>(if c then
aa ([]:List Int)
else
ai7 (M.gR N b) λd=>ai7 (M.lD N d a) λe=>aa e)
def Si:Fo 155 (.i1 [.g aM, .l aB]) (.w1 3 aB) (u2 (M.dz N)):=fz N [We N,Wh N] [O,T,B 13 32] Tryz.func155
def M.jA(N:Nat)(b:bA.den)(a:bA.den):Option (Bool×bA.den):=
aa (ah (b.1=a.1),a)
def Sj:Fo 214 (.j1 [.g bA, .ptr 0 [] 0] [.box 127 (.leaf bA)] 1) (.j1 [.l .bool] [.box 127 (.leaf bA)] 2) (u2 (M.jA N)):=fz N [] [] Tryz.func214
def M.bt(c:List bA.den)(d:bA.den):Option (Int×bA.den):=
Loop (S:=Int×bA.den) (X:=Int×bA.den) (λa=>(if(ah (a.1<(c.length:Int)))then
ai7 (idx c a.1) λe=>ai7 (M.jA N e a.2) λb=>(if b.1 then
aa (.inr (a.1,b.2))
else
aa (.inl (ai9.wrap (a.1+1),b.2)))
else
aa (.inr ((-1),a.2)))) N (0,d)
def Sk:Fo 234 (.j1 [.l (.slice bA), .fn 214 [(0,[],0)]] [.box 127 (.leaf bA)] 1) (.j1 [.l aB] [.box 127 (.leaf bA)] 2) (u2 (M.bt N)):=fz N [Sj N] [O,T,O,T,P ⟨[(8, .l aB)],[(0, .box 127 (.leaf bA))],[],66⟩] Tryz.func234
def M.bc(b:List bA.den)(c:bA.den):Option (Bool×bA.den):=
ai7 (M.bt N b c) λa=>aa (ah (0<=a.1),a.2)
def Sl:Fo 215 (.j1 [.l (.slice bA), .fn 214 [(0,[],0)]] [.box 127 (.leaf bA)] 1) (.j1 [.l .bool] [.box 127 (.leaf bA)] 2) (u2 (M.bc N)):=fz N [Sk N] [] Tryz.func215
def M.jB(e:bG.den)(b:bA.den)(f:List bA.den)(g:List bA.den):Option Int:=
ai7 (M.ct N b.1) λh=>(if(!h)then
aa 2
else
ai7 (ai7 (M.bc N f b) λa=>(if a.1 then
aa (af,a.2)
else
ai7 (M.bc N g a.2) λc=>aa (c.1,c.2)):Option (Bool×bA.den)) λd=>(if d.1 then
aa 7
else
ai7 (M.cY N d.2.2 e.1) λi=>(if(!i)then
aa 8
else
aa 0)))
def aaf:Fo 194 (.i1 [.g bG, .g bA, .l (.slice bA), .l (.slice bA)]) (.i1 [.l aB]) (u4 (M.jB N)):=fz N [Mh N,Mg N,Sl N] [O,O,T,T,O,O,R ⟨[(16, .l .bool)],[(16, .box 127 (.leaf bA))],[],161⟩] Tryz.func194
def M.lE(b:List bA.den):Option (List aD.den):=
Loop (S:=Int×List aD.den) (X:=List aD.den) (λa=>(if(ah (a.1<(b.length:Int)))then
ai7 (idx b a.1) λc=>ai7 (cu a.2 ([c.2]:List aD.den)) λd=>aa (.inl (ai9.wrap (a.1+1),d))
else
aa (.inr a.2))) N (0,([]:List aD.den))
def aag:Fo 216 (.i1 [.l (.slice bA)]) (.w1 74 aD) (M.lE N):=fz N [] [O,O,T,O,T,P ⟨[(3, .val ag (.own 80)),(8, .l aB)],[(80, .own 74 aD)],[],81⟩] Tryz.func216
def M.kj(a:bG.den)(f:Int):Option ((List ef.den)×(List bl.den)×Bool×(List aD.den)×(List aD.den)×List aD.den):=
ai7 (idx a.2.2 f) λc=>ai7 (M.lE N c.2.2.1) λd=>ai7 (M.lE N c.2.2.2.1) λe=>ai7 (ai7 (if(ah (0<=c.2.1))then
aa (ah (c.2.1<(a.2.2.length:Int)))
else
aa ag) λg=>(if g then
ai7 (idx a.2.2 c.2.1) λh=>ai7 (M.lE N h.2.2.2.1) λi=>aa (d,e,a.1,a.2.1,af,i)
else
aa (d,e,a.1,a.2.1,ag,([]:List aD.den))):Option ((List aD.den)×(List aD.den)×(List ef.den)×(List bl.den)×Bool×List aD.den)) λb=>aa (b.2.2.1,b.2.2.2.1,b.2.2.2.2.1,b.1,b.2.1,b.2.2.2.2.2)
def aah:Fo 195 (.i1 [.g bG, .l aB]) (.j1 [.val af (.pair (.leaf (.slice ef)) (.pair (.leaf (.slice bl)) (.pair (.own 0) (.pair (.own 1) (.pair (.own 2) (.leaf .bool))))))] [.own 74 aD, .own 74 aD, .own 74 aD] 3) (u2 (M.kj N)):=fz N [aag N] [O,O,O,R ⟨[],[(240, .own 74 aD),(288, .own 74 aD),(320, .box 301 (.pair (.leaf (.slice ef)) (.pair (.leaf (.slice bl)) (.pair (.own 240) (.pair (.own 288) (.pair (.own 352) (.leaf .bool))))))),(352, .own 74 aD)],[],356⟩,B 33 352] Tryz.func195
def M.strings_Contains(N:Nat)(a:ByteArray)(b:ByteArray):Option Bool:=rm (a,b)
def aai:oN:=⟨.i1 [.l .str, .l .str], .i1 [.l .bool],u2 (M.strings_Contains N)⟩
def aaj(N:Nat):fZ Tryz.prog 236 (aai N):=Dk ⟨_,Tryz.func236,by kernel_rfl,by kernel_rfl⟩ Tryz.strings_Contains_one
def M.kH(a:ByteArray):Option Bool:=
ai7 (if(ah (64<(a.size:Int)))then
aa af
else
ai7 (M.strings_Contains N a (⟨#[34]⟩:ByteArray)) λc=>aa c) λd=>(if d then
aa ag
else
Loop (S:=Int) (X:=Bool) (λb=>(if(ah (b<(a.size:Int)))then
ai7 (ai7 (me a b) λe=>(if(ah (e<32))then
aa af
else
ai7 (me a b) λf=>aa (ah (126<f))):Option Bool) λg=>(if g then
aa (.inr ag)
else
aa (.inl (ai9.wrap (b+1))))
else
aa (.inr af))) N 0)
def aak:Fo 219 (.i1 [.l .str]) (.i1 [.l .bool]) (M.kH N):=fz N [aaj N] [O,T,B 10 16,T,O,T,L 13 64,O,O,T,T,O,B 25 112] Tryz.func219
def M.gu(N:Nat)(a:Int):Option Int:=
ai7 (if(ah (a=1))then
aa (ah (a=1))
else(if(ah (a=2))then
aa (ah (a=2))
else(if(ah (a=3))then
aa (ah (a=3))
else(if(ah (a=4))then
aa (ah (a=4))
else(if(ah (a=5))then
aa (ah (a=5))
else(if(ah (a=6))then
aa (ah (a=6))
else(if(ah (a=7))then
aa (ah (a=7))
else(if(ah (a=8))then
aa (ah (a=8))
else(if(ah (a=9))then
aa (ah (a=9))
else(if(ah (a=35))then
aa (ah (a=35))
else(if(ah (a=36))then
aa (ah (a=36))
else(if(ah (a=37))then
aa (ah (a=37))
else(if(ah (a=38))then
aa (ah (a=38))
else
aa (ah (a=39))))))))))))))) λb=>(if b then
aa 0
else
ai7 (if(ah (a=10))then
aa (ah (a=10))
else(if(ah (a=25))then
aa (ah (a=25))
else(if(ah (a=31))then
aa (ah (a=31))
else(if(ah (a=32))then
aa (ah (a=32))
else(if(ah (a=33))then
aa (ah (a=33))
else
aa (ah (a=34))))))) λc=>(if c then
aa 1
else
ai7 (if(ah (a=11))then
aa (ah (a=11))
else(if(ah (a=12))then
aa (ah (a=12))
else(if(ah (a=13))then
aa (ah (a=13))
else(if(ah (a=14))then
aa (ah (a=14))
else(if(ah (a=15))then
aa (ah (a=15))
else(if(ah (a=16))then
aa (ah (a=16))
else(if(ah (a=17))then
aa (ah (a=17))
else(if(ah (a=18))then
aa (ah (a=18))
else(if(ah (a=19))then
aa (ah (a=19))
else(if(ah (a=20))then
aa (ah (a=20))
else(if(ah (a=21))then
aa (ah (a=21))
else(if(ah (a=22))then
aa (ah (a=22))
else(if(ah (a=23))then
aa (ah (a=23))
else(if(ah (a=24))then
aa (ah (a=24))
else(if(ah (a=27))then
aa (ah (a=27))
else(if(ah (a=28))then
aa (ah (a=28))
else(if(ah (a=29))then
aa (ah (a=29))
else
aa (ah (a=30))))))))))))))))))) λd=>(if d then
aa 2
else(if(ah (a=26))then
aa 3
else
aa (-1)))))
def Mi:Fo 240 (.i1 [.l aB]) (.i1 [.l aB]) (M.gu N):=fz N [] [O,T,O,T,R ⟨[(4, .l .bool)],[],[],32⟩,X,O,R ⟨[(19, .l .bool)],[],[],32⟩,X,O,B 26 32] Tryz.func240
def M.fB(b:List aD.den):Option (Int×Int×List Int):=
(if(ah (48<(b.length:Int)))then
aa (0,4,([]:List Int))
else(if(ah ((b.length:Int)=0))then
aa (0,5,([]:List Int))
else
ai7 (p6 (b.length:Int) 0) λg=>cd (J:=(List Int)×List Int) (R:=Int×Int×List Int) (Loop (S:=Int×(List Int)×List Int) (X:=((List Int)×List Int)⊕(Int×Int×List Int)) (λa=>(if(ah (a.1<(b.length:Int)))then
ai7 (idx b a.1) λh=>ai7 (M.gu N h.1) λc=>(if(ah (c<0))then
aa (.inr (.inr (a.1,2,([]:List Int))))
else(if(ah ((a.2.2.length:Int)<c))then
aa (.inr (.inr (a.1,5,([]:List Int))))
else
ai7 (idx a.2.1 a.1) λl=>ai7 ((if(ah (0<c))then
ai7 (idx a.2.2 (ai9.wrap ((a.2.2.length:Int)-c))) λi=>ai7 (idx (b8 a.2.1 a.1 a.1) a.1) λm=>aa (b8 (b8 a.2.1 a.1 a.1) a.1 i)
else
aa (b8 a.2.1 a.1 a.1)):Option (List Int)) λd=>ai7 (gq a.2.2 0 (ai9.wrap ((a.2.2.length:Int)-c))) λj=>ai7 (idx d a.1) λk=>ai7 (cu j ([k]:List Int)) λe=>(if(ah (12<(e.length:Int)))then
aa (.inr (.inr (a.1,16,([]:List Int))))
else
aa (.inl (ai9.wrap (a.1+1),d,e)))))
else
aa (.inr (.inl (a.2.1,a.2.2))))) N (0,g,([]:List Int))) λf=>(if(ah (1<(f.2.length:Int)))then
aa ((b.length:Int),4,([]:List Int))
else
aa (0,0,f.1))))
def Wi:Fo 230 (.i1 [.l (.slice aD)]) (.j1 [.val ag (.own 0), .l aB, .l aB] [.own 3 aB] 1) (M.fB N):=fz N [Mi N] [O,O,O,O,O,J ⟨[(6, .val ag (.own 224))],[(176, .own 3 aB),(224, .own 3 aB)],[],226⟩,O,T,P ⟨[(6, .val ag (.own 272)),(21, .l aB)],[(176, .own 3 aB),(272, .own 3 aB)],[],274⟩,O,O,T,T,O,O,O,O,O,R ⟨[],[(176, .own 3 aB)],[],627⟩] Tryz.func230
def M.kY(N:Nat)(a:Int):Option Bool:=
ai7 (if(ah (a=1))then
aa (ah (a=1))
else(if(ah (a=2))then
aa (ah (a=2))
else(if(ah (a=3))then
aa (ah (a=3))
else(if(ah (a=4))then
aa (ah (a=4))
else(if(ah (a=5))then
aa (ah (a=5))
else(if(ah (a=6))then
aa (ah (a=6))
else(if(ah (a=7))then
aa (ah (a=7))
else(if(ah (a=8))then
aa (ah (a=8))
else(if(ah (a=14))then
aa (ah (a=14))
else(if(ah (a=15))then
aa (ah (a=15))
else(if(ah (a=16))then
aa (ah (a=16))
else(if(ah (a=33))then
aa (ah (a=33))
else(if(ah (a=34))then
aa (ah (a=34))
else(if(ah (a=36))then
aa (ah (a=36))
else(if(ah (a=37))then
aa (ah (a=37))
else(if(ah (a=38))then
aa (ah (a=38))
else
aa (ah (a=39)))))))))))))))))) λb=>(if b then
aa af
else
aa ag)
def Wj:Fo 249 (.i1 [.l aB]) (.i1 [.l .bool]) (M.kY N):=fz N [] [O,T,O,T,B 4 32] Tryz.func249
def M.dK(a:Int)(b:Int)(d:bV.den):Option (aD.den×Int):=
ai7 (M.ga N (b,0) d.1) λc=>ai7 (if(ah (a<c.1))then
aa af
else
aa (ah (c.2<a))) λe=>(if e then
aa ((0,0),3)
else
aa ((b,0),0))
def aal:Fo 263 (.i1 [.l aB, .l aB, .g bV]) (.i1 [.g aD, .l aB]) (u3 (M.dK N)):=fz N [X3 N] [O,O,T,O,B 27 256] Tryz.func263
def M.cr(N:Nat)(a:Int)(b:bV.den):Option (aD.den×Int):=
(if(ah (a<0))then
aa ((0,0),3)
else
ai7 (if(ah ((b.1.length:Int)<=(ai9.wrap (ajl a 16))))then
aa af
else
ai7 (idx b.1 (ai9.wrap (ajl a 16))) λc=>aa (ah ((c.2.length:Int)<=(ajH a 16)))) λd=>(if d then
aa ((0,0),6)
else
aa ((6,ai9.wrap (ajl a 16)),0)))
def aam:Fo 264 (.i1 [.l aB, .g bV]) (.i1 [.g aD, .l aB]) (u2 (M.cr N)):=fz N [] [O,O,O,T,B 30 176] Tryz.func264
def M.fO(a:Int)(b:List aD.den)(c:bV.den):Option (aD.den×Int):=
ai7 (if(ah (a<0))then
aa af
else
aa (ah ((b.length:Int)<=a))) λd=>(if d then
aa ((0,0),6)
else
ai7 (idx b a) λe=>ai7 (M.cY N e c.1) λf=>(if(!f)then
aa ((0,0),8)
else
ai7 (idx b a) λg=>aa (g,0)))
def Wk:Fo 265 (.i1 [.l aB, .l (.slice aD), .g bV]) (.i1 [.g aD, .l aB]) (u3 (M.fO N)):=fz N [Mh N] [O,T,B 15 48] Tryz.func265
def M.jC(N:Nat)(a:Int):Option Bool:=
ai7 (if(ah (0<=a))then
aa (ah (a<=5))
else
aa ag) λb=>aa b
def Wl:Fo 268 (.i1 [.l aB]) (.i1 [.l .bool]) (M.jC N):=fz N [] [O,B 2 16] Tryz.func268
def M.lF(a:aD.den)(f:aD.den)(b:bV.den):Option (aD.den×Int):=
cd (J:=Int) (R:=aD.den×Int) ((if(ah (a.1=34))then
ai7 (if(ah (a.2<0))then
aa af
else
ai7 (M.jC N (ajH a.2 8)) λg=>aa (!g)) λh=>(if h then
aa (.inr ((0,0),3))
else
aa (.inl (ai9.wrap (ajl a.2 8))))
else
aa (.inl a.2))) λc=>ai7 (if(ah (c<0))then
aa af
else
aa (ah ((b.2.1.length:Int)<=c))) λi=>(if i then
aa ((0,0),6)
else
ai7 (idx b.2.1 c) λd=>ai7 (idx b.2.1 c) λe=>ai7 (ai7 (M.cY N d.2.1 b.1) λj=>(if(!j)then
aa af
else
ai7 (M.cY N e.2.2.1 b.1) λk=>(if(!k)then
aa af
else
aa (!(pT aD f d.2.1)))):Option Bool) λl=>(if l then
aa ((0,0),8)
else(if(ah (a.1=34))then
ai7 (if(!ah (d.2.1.1=3))then
aa af
else
aa (!ah (e.2.2.1.1=4))) λm=>(if m then
aa ((0,0),8)
else
aa (d.2.1,0))
else
aa (e.2.2.1,0))))
def aan:Fo 266 (.i1 [.g aD, .g aD, .g bV]) (.i1 [.g aD, .l aB]) (u3 (M.lF N)):=fz N [Mh N,Wl N] [O,O,J ⟨[(8, .l aB)],[],[],128⟩,O,T,T,B 25 176,X,X,T,B 38 128,O,T,B 68 384,T,O,T,T,B 80 432] Tryz.func266
def M.fm(N:Nat)(a:Int):Option Bool:=
ai7 (if(ah (a=2))then
aa af
else(if(ah (a=3))then
aa af
else
aa (ah (a=4)))) λb=>aa b
def Wm:Fo 283 (.i1 [.l aB]) (.i1 [.l .bool]) (M.fm N):=fz N [] [O,B 2 16] Tryz.func283
def M.bR(b:aD.den)(c:bV.den):Option (aD.den×Int):=
(if(!c.2.2.2.2.2)then
aa ((0,0),6)
else(if(ah (b.1=35))then
aa ((2,0),0)
else
ai7 (M.fO N b.2 c.2.2.2.2.1 c) λa=>(if(!ah (a.2=0))then
aa ((0,0),a.2)
else
ai7 (if(ah (b.1=36))then(if(ah (a.1.1=2))then
aa af
else
aa (ah (a.1.1=3)))
else
ai7 (if(ah (b.1=37))then
aa (ah (b.1=37))
else
aa (ah (b.1=38))) λd=>(if d then
aa (ah (a.1.1=1))
else(if(ah (b.1=39))then
ai7 (M.fm N a.1.1) λe=>(if e then
aa af
else
aa (ah (a.1.1=5)))
else
aa ag))) λf=>(if(!f)then
aa ((0,0),8)
else
aa (a.1,0)))))
def aao:Fo 267 (.i1 [.g aD, .g bV]) (.i1 [.g aD, .l aB]) (u2 (M.bR N)):=fz N [Wk N,Wm N] [O,O,O,O,O,O,T,O,R ⟨[(8, .l .bool)],[],[],432⟩,O,O,B 42 464] Tryz.func267
def M.mo(N:Nat)(c:Int)(a:Int)(b:Int):Option (aD.den×Bool):=
(if(ah (c=14))then
ai7 ((if(ah (b=4))then(if(ah (a=3))then
aa (af,(a,0))
else
aa (ah (a=4),(a,0)))
else
aa (ag,(a,0))):Option (Bool×aD.den)) λd=>aa (d.2,d.1)
else(if(ah (b=2))then
ai7 ((if(ah (a=2))then
aa (af,(a,0))
else
aa (ah (a=3),(a,0))):Option (Bool×aD.den)) λe=>aa (e.2,e.1)
else
ai7 (if(ah (c=15))then(if(ah (a=3))then
aa (ah (b=3))
else
aa ag)
else
aa ag) λf=>(if f then
aa ((4,0),af)
else
aa ((0,0),ag))))
def aap:Fo 284 (.i1 [.l aB, .l aB, .l aB]) (.i1 [.g aD, .l .bool]) (u3 (M.mo N)):=fz N [] [O,T,T,O,T,R ⟨[(7, .l .bool)],[(0, .box 74 (.leaf aD))],[],81⟩,X,X,O,T,R ⟨[(7, .l .bool)],[(0, .box 74 (.leaf aD))],[],129⟩,X,X,B 34 128] Tryz.func284
def M.dV(b:Int)(a:List aD.den):Option (aD.den×Bool):=
(if(ah (b=10))then
ai7 (idx a 0) λq=>ai7 (idx a 0) λr=>ai7 (M.fm N r.1) λs=>aa (q,s)
else(if(ah (b=25))then
ai7 (idx a 0) λt=>aa ((1,0),ah (t.1=1))
else
ai7 (if(ah (b=11))then
aa (ah (b=11))
else
aa (ah (b=12))) λu=>(if u then
ai7 (ai7 (idx a 0) λd=>ai7 (idx a 0) λv=>ai7 (idx a 1) λw=>(if(pT aD v w)then
ai7 (idx a 0) λx=>ai7 (M.fm N x.1) λy=>aa (y,d)
else
aa (ag,d)):Option (Bool×aD.den)) λe=>aa (e.2,e.1)
else
ai7 (if(ah (b=13))then
aa (ah (b=13))
else(if(ah (b=14))then
aa (ah (b=14))
else
aa (ah (b=15)))) λz=>(if z then
ai7 (idx a 0) λA=>ai7 (idx a 1) λC=>ai7 (M.mo N b A.1 C.1) λf=>aa (f.1,f.2)
else(if(ah (b=16))then
ai7 (ai7 (idx a 0) λg=>ai7 (idx a 0) λD=>(if(ah (D.1=3))then
ai7 (idx a 1) λF=>aa (ah (F.1=3),g)
else
aa (ag,g)):Option (Bool×aD.den)) λh=>aa (h.2,h.1)
else
ai7 (if(ah (b=17))then
aa (ah (b=17))
else
aa (ah (b=18))) λG=>(if G then
ai7 (ai7 (idx a 0) λc=>ai7 (idx a 0) λH=>ai7 (idx a 1) λI=>(if(pT aD H I)then
ai7 (idx a 0) λQ=>ai7 (M.fm N Q.1) λU=>(if U then
aa (af,c)
else
ai7 (idx a 0) λV=>aa (ah (V.1=5),c))
else
aa (ag,c)):Option (Bool×aD.den)) λi=>aa (i.2,i.1)
else
ai7 (if(ah (b=19))then
aa (ah (b=19))
else
aa (ah (b=20))) λW=>(if W then
ai7 (idx a 0) λY=>ai7 (idx a 1) λZ=>aa ((1,0),(pT aD Y Z))
else
ai7 (if(ah (b=21))then
aa (ah (b=21))
else
aa (ah (b=22))) λj31=>(if j31 then
ai7 (ai7 (idx a 0) λQC=>ai7 (idx a 1) λWn=>(if(pT aD QC Wn)then
ai7 (idx a 0) λx35=>ai7 (M.fm N x35.1) λy36=>(if y36 then
aa (af,(1,0))
else
ai7 (idx a 0) λx37=>aa (ah (x37.1=5),(1,0)))
else
aa (ag,(1,0))):Option (Bool×aD.den)) λj=>aa (j.2,j.1)
else
ai7 (if(ah (b=23))then
aa (ah (b=23))
else
aa (ah (b=24))) λj38=>(if j38 then
ai7 (ai7 (idx a 0) λx40=>(if(ah (x40.1=1))then
ai7 (idx a 1) λx41=>aa (ah (x41.1=1),(1,0))
else
aa (ag,(1,0))):Option (Bool×aD.den)) λk=>aa (k.2,k.1)
else(if(ah (b=26))then
ai7 (ai7 (idx a 1) λl=>ai7 (idx a 0) λx44=>(if(ah (x44.1=1))then
ai7 (idx a 1) λx45=>ai7 (idx a 2) λx46=>aa ((pT aD x45 x46),l)
else
aa (ag,l)):Option (Bool×aD.den)) λm=>aa (m.2,m.1)
else
ai7 (if(ah (b=27))then
aa (ah (b=27))
else
aa (ah (b=28))) λj47=>(if j47 then
ai7 (ai7 (idx a 0) λn=>ai7 (idx a 0) λx50=>(if(ah (x50.1=5))then
ai7 (idx a 1) λx51=>aa (ah (x51.1=2),n)
else
aa (ag,n)):Option (Bool×aD.den)) λo=>aa (o.2,o.1)
else
ai7 (if(ah (b=29))then
aa (ah (b=29))
else
aa (ah (b=30))) λj52=>(if j52 then
ai7 (ai7 (idx a 0) λx54=>(if(ah (x54.1=5))then
ai7 (idx a 1) λx55=>aa (ah (x55.1=5),(2,0))
else
aa (ag,(2,0))):Option (Bool×aD.den)) λp=>aa (p.2,p.1)
else
ai7 (if(ah (b=31))then
aa (ah (b=31))
else
aa (ah (b=32))) λj56=>(if j56 then
ai7 (idx a 0) λx57=>aa ((2,0),ah (x57.1=5))
else
aa ((0,0),ag))))))))))))))
def aaq:Fo 269 (.i1 [.l aB, .l (.slice aD)]) (.i1 [.g aD, .l .bool]) (u2 (M.dV N)):=fz N [Wm N,aap N] [O,O,T,O,T,O,O,O,O,R ⟨[(27, .l .bool)],[],[],160⟩,X,T,R ⟨[(5, .l .bool)],[(0, .box 74 (.leaf aD))],[],161⟩,X,X,R ⟨[(47, .l .bool)],[],[],160⟩,X,O,O,T,R ⟨[(5, .l .bool)],[(0, .box 74 (.leaf aD))],[],193⟩,X,X,R ⟨[(80, .l .bool)],[],[],192⟩,X,T,R ⟨[(5, .l .bool)],[(0, .box 74 (.leaf aD))],[],193⟩,X,X,R ⟨[(107, .l .bool)],[],[],192⟩,X,O,R ⟨[(118, .l .bool)],[],[],192⟩,X,T,R ⟨[(5, .l .bool)],[(0, .box 74 (.leaf aD))],[],193⟩,X,X,R ⟨[(143, .l .bool)],[],[],192⟩,X,T,R ⟨[(5, .l .bool)],[(0, .box 74 (.leaf aD))],[],193⟩,X,X,O,T,R ⟨[(5, .l .bool)],[(0, .box 74 (.leaf aD))],[],225⟩,X,X,R ⟨[(178, .l .bool)],[],[],224⟩,X,T,R ⟨[(5, .l .bool)],[(0, .box 74 (.leaf aD))],[],225⟩,X,X,R ⟨[(196, .l .bool)],[],[],224⟩,X,T,R ⟨[(5, .l .bool)],[(0, .box 74 (.leaf aD))],[],225⟩,X,X,B 212 224] Tryz.func269
def M.bi(a:aD.den)(c:List aD.den)(b:bV.den):Option (aD.den×Int):=
cd (J:=Unit) (R:=aD.den×Int) ((if(ah (a.1=1))then
ai7 (M.dK N a.2 1 b) λd=>aa (.inr (d.1,d.2))
else(if(ah (a.1=2))then
ai7 (M.dK N a.2 2 b) λe=>aa (.inr (e.1,e.2))
else(if(ah (a.1=3))then
ai7 (M.dK N a.2 3 b) λf=>aa (.inr (f.1,f.2))
else(if(ah (a.1=4))then
ai7 (M.dK N a.2 4 b) λg=>aa (.inr (g.1,g.2))
else(if(ah (a.1=5))then
ai7 (M.dK N a.2 5 b) λh=>aa (.inr (h.1,h.2))
else(if(ah (a.1=6))then
ai7 (M.cr N a.2 b) λi=>aa (.inr (i.1,i.2))
else(if(ah (a.1=7))then
ai7 (M.fO N a.2 b.2.2.1 b) λj=>aa (.inr (j.1,j.2))
else(if(ah (a.1=8))then
ai7 (M.fO N a.2 b.2.2.2.1 b) λk=>aa (.inr (k.1,k.2))
else(if(ah (a.1=9))then
aa (.inr ((5,0),0))
else
ai7 (if(ah (a.1=33))then
aa (ah (a.1=33))
else
aa (ah (a.1=34))) λo=>(if o then
ai7 (idx c 0) λp=>ai7 (M.lF N a p b) λl=>aa (.inr (l.1,l.2))
else
ai7 (if(ah (a.1=35))then
aa (ah (a.1=35))
else(if(ah (a.1=36))then
aa (ah (a.1=36))
else(if(ah (a.1=37))then
aa (ah (a.1=37))
else(if(ah (a.1=38))then
aa (ah (a.1=38))
else
aa (ah (a.1=39)))))) λq=>(if q then
ai7 (M.bR N a b) λm=>aa (.inr (m.1,m.2))
else
ai7 (if(ah (a.1=14))then
aa (ah (a.1=14))
else(if(ah (a.1=15))then
aa (ah (a.1=15))
else
aa (ah (a.1=16)))) λr=>(if r then
ai7 (M.jC N a.2) λs=>(if(!s)then
aa (.inr ((0,0),3))
else
aa (.inl ()))
else
aa (.inl ())))))))))))))) λt=>ai7 (M.dV N a.1 c) λn=>(if(!n.2)then
aa ((0,0),8)
else
aa (n.1,0))
def aar:Fo 250 (.i1 [.g aD, .l (.slice aD), .g bV]) (.i1 [.g aD, .l aB]) (u3 (M.bi N)):=fz N [aal N,aam N,Wk N,aan N,aao N,Wl N,aaq N] [O,T,O,E 96,O,O,O,O,O,O,O,O,O,O,O,O,O,O,O,O,O,O,R ⟨[(83, .l .bool)],[],[],384⟩,X,O,R ⟨[(94, .l .bool)],[],[],384⟩,X,O,B 105 384] Tryz.func250
def M.og(c:List aD.den)(g:bV.den):Option (aD.den×Int×Int):=
ai7 (M.fB N c) λd=>(if(!ah (d.2.1=0))then
aa ((0,0),d.1,d.2.1)
else
cd (J:=List aD.den) (R:=aD.den×Int×Int) (Loop (S:=Int×List aD.den) (X:=(List aD.den)⊕(aD.den×Int×Int)) (λa=>(if(ah (a.1<(c.length:Int)))then
ai7 (idx c a.1) λb=>ai7 (if(!ah (b.2=0))then
ai7 (M.kY N b.1) λh=>aa (!h)
else
aa ag) λi=>(if i then
aa (.inr (.inr ((0,0),a.1,2)))
else
ai7 (M.gu N b.1) λf=>ai7 (gq a.2 (ai9.wrap ((a.2.length:Int)-f)) (a.2.length:Int)) λj=>ai7 (M.bi N b j g) λe=>(if(!ah (e.2=0))then
aa (.inr (.inr ((0,0),a.1,e.2)))
else
ai7 (gq a.2 0 (ai9.wrap ((a.2.length:Int)-f))) λk=>ai7 (cu k ([e.1]:List aD.den)) λl=>aa (.inl (ai9.wrap (a.1+1),l))))
else
aa (.inr (.inl a.2)))) N (0,([]:List aD.den))) λm=>ai7 (idx m 0) λn=>aa (n,0,0))
def aas:Fo 237 (.i1 [.l (.slice aD), .g bV]) (.i1 [.g aD, .l aB, .l aB]) (u2 (M.og N)):=fz N [Wi N,Mi N,Wj N,aar N] [O,O,O,O,J ⟨[(10, .val ag (.own 256))],[(256, .own 74 aD)],[],257⟩,O,T,P ⟨[(10, .val ag (.own 304)),(29, .l aB)],[(304, .own 74 aD)],[],305⟩,O,O,T,T,O,T,B 42 417] Tryz.func237
def M.gv(b:List aD.den)(c:bV.den)(d:aD.den):Option Int:=
ai7 (M.og N b c) λa=>(if(!ah (a.2.2=0))then
aa a.2.2
else(if(!(pT aD a.1 d))then
aa 8
else
aa 0))
def aat:Fo 220 (.i1 [.l (.slice aD), .g bV, .g aD]) (.i1 [.l aB]) (u3 (M.gv N)):=fz N [aas N] [] Tryz.func220
def M.kl(N:Nat)(b:db.den)(a:db.den):Option (Bool×db.den):=
aa (ah (b.1=a.1),a)
def Sm:Fo 218 (.j1 [.g db, .ptr 0 [] 0] [.box 130 (.leaf db)] 1) (.j1 [.l .bool] [.box 130 (.leaf db)] 2) (u2 (M.kl N)):=fz N [] [] Tryz.func218
def M.bC(c:List db.den)(d:db.den):Option (Int×db.den):=
Loop (S:=Int×db.den) (X:=Int×db.den) (λa=>(if(ah (a.1<(c.length:Int)))then
ai7 (idx c a.1) λe=>ai7 (M.kl N e a.2) λb=>(if b.1 then
aa (.inr (a.1,b.2))
else
aa (.inl (ai9.wrap (a.1+1),b.2)))
else
aa (.inr ((-1),a.2)))) N (0,d)
def Sp:Fo 235 (.j1 [.l (.slice db), .fn 218 [(0,[],0)]] [.box 130 (.leaf db)] 1) (.j1 [.l aB] [.box 130 (.leaf db)] 2) (u2 (M.bC N)):=fz N [Sm N] [O,T,O,T,P ⟨[(8, .l aB)],[(0, .box 130 (.leaf db))],[],66⟩] Tryz.func235
def M.bo(b:List db.den)(c:db.den):Option (Bool×db.den):=
ai7 (M.bC N b c) λa=>aa (ah (0<=a.1),a.2)
def Sq:Fo 217 (.j1 [.l (.slice db), .fn 218 [(0,[],0)]] [.box 130 (.leaf db)] 1) (.j1 [.l .bool] [.box 130 (.leaf db)] 2) (u2 (M.bo N)):=fz N [Sp N] [] Tryz.func217
def M.kB(b:aM.den)(d:Int)(f:bV.den):Option Int:=
ai7 (idx b.2.2.2.2 d) λe=>ai7 (ai7 (gq b.2.2.2.2 0 d) λg=>Loop (S:=Int×Int) (X:=Int) (λc=>(if(ah (c.2<(g.length:Int)))then
ai7 (ai7 (idx g c.2) λi=>(if(ah (i.2.1=e.2.1))then
aa (ai9.wrap (c.1+1))
else
aa c.1):Option Int) λj=>aa (.inl (j,ai9.wrap (c.2+1)))
else
aa (.inr c.1))) N (0,0):Option Int) λk=>ai7 (M.ct N e.1) λl=>(if(!l)then
aa 2
else
ai7 (gq b.2.2.2.2 0 d) λm=>ai7 (M.bo N m e) λa=>(if a.1 then
aa 7
else
ai7 (if(ah (a.2.2.1<0))then
aa af
else
aa (ah ((b.2.2.2.1.length:Int)<=a.2.2.1))) λn=>(if n then
aa 6
else
ai7 (if(!ah (a.2.2.2.1=(-1)))then(if(ah (a.2.2.2.1<0))then
aa af
else(if(ah (d<=a.2.2.2.1))then
aa af
else
ai7 (idx b.2.2.2.2 a.2.2.2.1) λo=>aa (!ah (o.2.1=a.2.2.1))))
else
aa ag) λp=>(if p then
aa 9
else
ai7 (if(ah (a.2.2.2.2.1<0))then
aa af
else
aa (ah (9<a.2.2.2.2.1))) λq=>(if q then
aa 3
else
ai7 (if(ah (a.2.2.2.2.2.1.1<0))then
aa af
else(if(ah (a.2.2.2.2.2.1.2<=a.2.2.2.2.2.1.1))then
aa af
else
aa (ah (109573<a.2.2.2.2.2.1.2)))) λr=>(if r then
aa 3
else(if(ah (8<=k))then
aa 4
else
ai7 (M.kH N a.2.2.2.2.2.2.2.2) λs=>(if(!s)then
aa 2
else
cd (J:=Unit) (R:=Int) ((if(ah (0<(a.2.2.2.2.2.2.1.length:Int)))then
ai7 (M.gv N a.2.2.2.2.2.2.1 f (1,0)) λh=>(if(!ah (h=0))then
aa (.inr h)
else
aa (.inl ()))
else
aa (.inl ()))) λv=>ai7 (idx b.2.2.2.1 a.2.2.1) λt=>ai7 (M.gv N a.2.2.2.2.2.2.2.1 f t.2) λu=>aa u))))))))
def aau:Fo 196 (.i1 [.g aM, .l aB, .g bV]) (.i1 [.l aB]) (u3 (M.kB N)):=fz N [Mg N,Sq N,aak N,aat N] [O,O,O,R ⟨[(8, .l aB)],[],[],176⟩,O,T,P ⟨[(8, .l aB),(22, .l aB)],[],[],272⟩,O,O,T,R ⟨[(8, .l aB)],[],[],288⟩,X,X,X,X,T,T,O,O,O,O,R ⟨[(46, .l .bool)],[],[],368⟩,X,O,R ⟨[(58, .l .bool)],[],[],368⟩,X,O,R ⟨[(85, .l .bool)],[],[],368⟩,X,O,B 94 368,X,E 496] Tryz.func196
def M.gh(b:List Int)(c:Int):Option Int:=
Loop (S:=Int) (X:=Int) (λa=>(if(ah (a<(b.length:Int)))then
ai7 (idx b a) λd=>(if(ah (c=d))then
aa (.inr a)
else
aa (.inl (ai9.wrap (a+1))))
else
aa (.inr (-1)))) N 0
def aav:Fo 221 (.i1 [.l (.slice aB), .l aB]) (.i1 [.l aB]) (u2 (M.gh N)):=fz N [] [O,T,O,T,L 8 64] Tryz.func221
def M.eM(a:List Int)(b:Int):Option Bool:=
ai7 (M.gh N a b) λc=>aa (ah (0<=c))
def aaw:Fo 197 (.i1 [.l (.slice aB), .l aB]) (.i1 [.l .bool]) (u2 (M.eM N)):=fz N [aav N] [] Tryz.func197
def M.jD(N:Nat)(b:aM.den)(a:aM.den):Option (Bool×aM.den):=
aa (ah (b.1=a.1),a)
def Sr:Fo 193 (.j1 [.g aM, .ptr 0 [] 0] [.box 81 (.leaf aM)] 1) (.j1 [.l .bool] [.box 81 (.leaf aM)] 2) (u2 (M.jD N)):=fz N [] [] Tryz.func193
def M.bu(c:List aM.den)(d:aM.den):Option (Int×aM.den):=
Loop (S:=Int×aM.den) (X:=Int×aM.den) (λa=>(if(ah (a.1<(c.length:Int)))then
ai7 (idx c a.1) λe=>ai7 (M.jD N e a.2) λb=>(if b.1 then
aa (.inr (a.1,b.2))
else
aa (.inl (ai9.wrap (a.1+1),b.2)))
else
aa (.inr ((-1),a.2)))) N (0,d)
def St:Fo 213 (.j1 [.l (.slice aM), .fn 193 [(0,[],0)]] [.box 81 (.leaf aM)] 1) (.j1 [.l aB] [.box 81 (.leaf aM)] 2) (u2 (M.bu N)):=fz N [Sr N] [O,T,O,T,P ⟨[(8, .l aB)],[(0, .box 81 (.leaf aM))],[],66⟩] Tryz.func213
def M.bd(b:List aM.den)(c:aM.den):Option (Bool×aM.den):=
ai7 (M.bu N b c) λa=>aa (ah (0<=a.1),a.2)
def Su:Fo 192 (.j1 [.l (.slice aM), .fn 193 [(0,[],0)]] [.box 81 (.leaf aM)] 1) (.j1 [.l .bool] [.box 81 (.leaf aM)] 2) (u2 (M.bd N)):=fz N [St N] [] Tryz.func192
def M.lG(b:bG.den)(h:Int):Option (Int×Int):=
ai7 (idx b.2.2 h) λd=>ai7 (gq b.2.2 0 h) λj=>ai7 (ai7 (M.jy N b.1 d.1) λo=>(if o then
aa (af,d)
else
ai7 (M.jN N b.2.1 d.1) λp=>(if p then
aa (af,d)
else
ai7 (M.bd N j d) λk=>aa (k.1,k.2))):Option (Bool×aM.den)) λa=>ai7 (M.ct N a.2.1) λq=>(if(!q)then
aa (2,0)
else(if a.1 then
aa (7,0)
else
ai7 (if(!ah (a.2.2.1=(-1)))then(if(ah (a.2.2.1<0))then
aa af
else(if(ah (h<=a.2.2.1))then
aa af
else
ai7 (idx j a.2.2.1) λr=>aa (!ah (r.2.1=(-1)))))
else
aa ag) λs=>(if s then
aa (6,0)
else(if(ah (12<(a.2.2.2.1.length:Int)))then
aa (4,112)
else(if(ah (12<(a.2.2.2.2.1.length:Int)))then
aa (4,212)
else
cd (J:=Unit) (R:=Int×Int) (Loop (S:=Int) (X:=Unit⊕(Int×Int)) (λe=>(if(ah (e<(a.2.2.2.1.length:Int)))then
ai7 (idx a.2.2.2.1 e) λt=>ai7 (gq a.2.2.2.1 0 e) λu=>ai7 (M.jB N b t u ([]:List bA.den)) λl=>(if(!ah (l=0))then
aa (.inr (.inr (l,ai9.wrap (100+e))))
else
aa (.inl (ai9.wrap (e+1))))
else
aa (.inr (.inl ())))) N 0) λz=>cd (J:=Unit) (R:=Int×Int) (Loop (S:=Int) (X:=Unit⊕(Int×Int)) (λf=>(if(ah (f<(a.2.2.2.2.1.length:Int)))then
ai7 (idx a.2.2.2.2.1 f) λv=>ai7 (gq a.2.2.2.2.1 0 f) λw=>ai7 (M.jB N b v a.2.2.2.1 w) λm=>(if(!ah (m=0))then
aa (.inr (.inr (m,ai9.wrap (200+f))))
else
aa (.inl (ai9.wrap (f+1))))
else
aa (.inr (.inl ())))) N 0) λA=>ai7 (M.kj N b h) λc=>cd (J:=Unit) (R:=Int×Int) (Loop (S:=Int) (X:=Unit⊕(Int×Int)) (λi=>(if(ah (i<(a.2.2.2.2.2.length:Int)))then
ai7 (M.kB N a.2 i (c.1,(c.2.1,(c.2.2.2.1,(c.2.2.2.2.1,(c.2.2.2.2.2,c.2.2.1)))))) λn=>(if(!ah (n=0))then
aa (.inr (.inr (n,ai9.wrap (300+i))))
else
aa (.inl (ai9.wrap (i+1))))
else
aa (.inr (.inl ())))) N 0) λC=>Loop (S:=Int) (X:=Int×Int) (λg=>(if(ah (g<(a.2.2.2.2.1.length:Int)))then
ai7 (M.dz N a.2 g) λx=>ai7 (M.eM N x g) λy=>(if y then
aa (.inr (9,ai9.wrap (200+g)))
else
aa (.inl (ai9.wrap (g+1))))
else
aa (.inr (0,0)))) N 0)))))
def aax:Fo 166 (.i1 [.g bG, .l aB]) (.i1 [.l aB, .l aB]) (u2 (M.lG N)):=fz N [Si N,Mg N,Sa N,Wc N,Su N,aaf N,aah N,aau N,aaw N] [O,O,O,R ⟨[(8, .l .bool)],[(128, .box 81 (.leaf aM))],[],241⟩,X,T,T,O,O,O,O,B 52 353,X,E 513,O,T,L 89 577,X,X,E 513,O,T,L 110 577,X,X,O,E 593,O,T,L 136 657,X,X,T,O,T,L 152 657] Tryz.func166
def M.kI(b:bG.den):Option (aC.den):=
(if(ah (4<(b.2.2.length:Int)))then
aa (4,(3,(4,0)))
else
cd (J:=Unit) (R:=aC.den) (Loop (S:=Int) (X:=Unit⊕(aC.den)) (λa=>(if(ah (a<(b.2.2.length:Int)))then
ai7 (M.lG N b a) λc=>(if(!ah (c.1=0))then
aa (.inr (.inr (c.1,(3,(a,c.2)))))
else
aa (.inl (ai9.wrap (a+1))))
else
aa (.inr (.inl ())))) N 0) λd=>aa (0,(0,(0,0))))
def aay:Fo 138 (.i1 [.g bG]) (.i1 [.g aC]) (M.kI N):=fz N [aax N] [O,O,E 96,O,T,L 14 160] Tryz.func138
def M.ik(a:bG.den):Option (aC.den):=
ai7 (M.lA N a) λb=>(if(!ah (b.1=0))then
aa b
else
ai7 (M.kG N a) λc=>(if(!ah (c.1=0))then
aa c
else
ai7 (M.kI N a) λd=>aa d))
def W92:Fo 92 (.i1 [.g bG]) (.i1 [.g aC]) (M.ik N):=fz N [Z8 N,aac N,aay N] [] Tryz.func92
def M.eN(N:Nat)(a:Int):Option Bool:=
ai7 (if(ah (0<=a))then
aa (ah (a<=109572))
else
aa ag) λb=>aa b
def Sv:Fo 139 (.i1 [.l aB]) (.i1 [.l .bool]) (M.eN N):=fz N [] [O,B 2 16] Tryz.func139
def M.gx(a:cQ.den):Option Bool:=
ai7 (if(ah (a.1<0))then
aa af
else(if(ah (126<a.1))then
aa af
else
aa (ah (64<(a.2.length:Int))))) λd=>(if d then
aa ag
else
Loop (S:=Int) (X:=Bool) (λb=>(if(ah (b<(a.2.length:Int)))then
ai7 (idx a.2 b) λc=>ai7 (ai7 (M.eN N c) λe=>(if(!e)then
aa af
else(if(ah (0<b))then
ai7 (idx a.2 (ai9.wrap (b-1))) λf=>aa (ah (c<=f))
else
aa ag)):Option Bool) λg=>(if g then
aa (.inr ag)
else
aa (.inl (ai9.wrap (b+1))))
else
aa (.inr af))) N 0)
def X4:Fo 93 (.i1 [.g cQ]) (.i1 [.l .bool]) (M.gx N):=fz N [Sv N] [O,T,B 18 32,T,O,T,L 22 96,O,O,T,T,O,B 43 192] Tryz.func93
def M.cB(b:bG.den)(c:Int)(a:aO.den):Option Int:=
ai7 (M.ik N b) λh=>(if(!(pT aC h (0,(0,(0,0)))))then
aa 1
else
ai7 (if(ah (c<0))then
aa af
else(if(ah ((b.2.2.length:Int)<=c))then
aa af
else(if(ah (a.1<0))then
aa af
else
ai7 (idx b.2.2 c) λi=>aa (ah ((i.2.2.2.1.length:Int)<=a.1))))) λj=>(if j then
aa 6
else
ai7 (idx b.2.2 c) λk=>ai7 (idx k.2.2.2.1 a.1) λl=>(if(!(pT aD l.2 (3,0)))then
aa 8
else
ai7 (if(ah (a.2.1<0))then
aa af
else(if(ah (5<a.2.1))then
aa af
else
ai7 (M.gx N a.2.2.2.2.2.2.2) λm=>aa (!m))) λn=>(if n then
aa 1
else
ai7 (ai7 (if(ah (a.2.2.1<1))then
aa af
else
aa (ah (28<a.2.2.1))) λd=>(if d then
aa d
else
ai7 (if(ah (a.2.2.2.1<0))then
aa af
else
aa (ah (1000000<a.2.2.2.1))) λe=>(if e then
aa e
else
ai7 (if(ah (a.2.2.2.2.1<0))then
aa af
else
aa (ah (1000000000000000<a.2.2.2.2.1))) λf=>(if f then
aa f
else
ai7 (if(ah (a.2.2.2.2.2.1<0))then
aa af
else
aa (ah (3599<a.2.2.2.2.2.1))) λg=>(if g then
aa g
else(if(ah (a.2.2.2.2.2.2.1<0))then
aa af
else
aa (ah (365<a.2.2.2.2.2.2.1))))))):Option Bool) λo=>(if o then
aa 3
else
aa 0)))))
def W57:Fo 57 (.i1 [.g bG, .l aB, .g aO]) (.i1 [.l aB]) (u3 (M.cB N)):=fz N [W92 N,X4 N] [O,O,T,B 36 112,O,T,B 63 320,T,T,R ⟨[(64, .l .bool)],[],[],320⟩,R ⟨[(64, .l .bool)],[],[],320⟩,X,O,R ⟨[(64, .l .bool)],[],[],320⟩,X,O,R ⟨[(64, .l .bool)],[],[],320⟩,X,O,B 64 320] Tryz.func57
def M.dQ(N:Nat)(a:bG.den)(c:Int):Option ((List bA.den)×Bool):=
ai7 (idx a.2.2 c) λb=>ai7 (if(ah (b.2.1<0))then
aa af
else
aa (ah ((a.2.2.length:Int)<=b.2.1))) λd=>(if d then
aa (([]:List bA.den),ag)
else
ai7 (idx a.2.2 b.2.1) λe=>aa (e.2.2.1,af))
def W94:Fo 94 (.i1 [.g bG, .l aB]) (.i1 [.l (.slice bA), .l .bool]) (u2 (M.dQ N)):=fz N [] [O,O,T,B 21 160] Tryz.func94
def M.jE(a:aD.den):Option Bool:=
ai7 (ai7 (M.dU N a) λb=>(if b then
aa (ah (a.1<a.2))
else
aa ag):Option Bool) λc=>aa c
def Wo:Fo 131 (.i1 [.g aD]) (.i1 [.l .bool]) (M.jE N):=fz N [O0 N] [O,B 2 32] Tryz.func131
def M.kJ(a:bg.den):Option Int:=
(if(ah (a.1<0))then
aa 3
else
ai7 (if(ah (a.2.1<(-1)))then
aa af
else
aa (ah (8<=a.2.1))) λb=>(if b then
aa 3
else
ai7 (if(ah (a.2.2.1<(-1)))then
aa af
else
aa (ah (12<=a.2.2.1))) λc=>(if c then
aa 3
else
ai7 (if(ah (a.2.1=(-1)))then
aa (ah (a.2.2.1=(-1)))
else
aa ag) λd=>(if d then
aa 3
else
ai7 (M.jE N a.2.2.2.2.1) λe=>(if(!e)then
aa 3
else
ai7 (if(ah (a.2.2.2.2.2<0))then
aa af
else
aa (ah (109572<a.2.2.2.2.2))) λf=>(if f then
aa 3
else
ai7 (if(ah (a.2.2.2.1.1<1))then
aa af
else
aa (ah (6<a.2.2.2.1.1))) λg=>(if g then
aa 8
else
ai7 (if(ah (a.2.2.1=(-1)))then
aa (!ah (a.2.2.2.1.1=1))
else
aa ag) λh=>(if h then
aa 8
else
aa 0))))))))
def aaA:Fo 140 (.i1 [.g bg]) (.i1 [.l aB]) (M.kJ N):=fz N [Wo N] [O,T,T,O,O,R ⟨[(7, .l .bool)],[],[],96⟩,X,O,R ⟨[(16, .l .bool)],[],[],96⟩,X,O,R ⟨[(25, .l .bool)],[],[],96⟩,X,O,O,O,R ⟨[(39, .l .bool)],[],[],176⟩,X,O,R ⟨[(48, .l .bool)],[],[],176⟩,X,O,B 59 176] Tryz.func140
def M.lH(b:List bg.den):Option (Int×Int):=
(if(ah (128<(b.length:Int)))then
aa (0,4)
else
Loop (S:=Int×List (Int×Bool)) (X:=Int×Int) (λa=>(if(ah (a.1<(b.length:Int)))then
ai7 (idx b a.1) λc=>ai7 (M.kJ N c) λd=>(if(!ah (d=0))then
aa (.inr (a.1,d))
else(if((bn aB a.2 c.1).getD ag)then
aa (.inr (a.1,7))
else
aa (.inl (ai9.wrap (a.1+1),fL aB a.2 c.1 af))))
else
aa (.inr (0,0)))) N (0,([]:List (Int×Bool))))
def W95:Fo 95 (.i1 [.l (.slice bg)]) (.i1 [.l aB, .l aB]) (M.lH N):=fz N [aaA N] [O,O,O,T,O,T,P ⟨[(14, .l aB)],[(80, .map 234 aB ag .bool)],[],161⟩] Tryz.func95
def M.dE(d:bG.den)(a:bI.den):Option (Int×Int):=
ai7 (if(ah (a.2.1<0))then
aa af
else
aa (ah ((d.2.2.length:Int)<=a.2.1))) λj=>(if j then
aa ((-1),6)
else
ai7 (M.dQ N d a.2.1) λg=>ai7 (if(ah (a.1<0))then
aa af
else(if(ah (a.2.2.1<0))then
aa af
else(if(ah (8<a.2.2.1))then
aa af
else(if(!ah (a.2.2.1=0))then
aa (!g.2)
else
aa ag)))) λk=>(if k then
aa ((-1),3)
else
ai7 (M.lH N a.2.2.2) λe=>(if(!ah (e.2=0))then
aa (e.1,e.2)
else
Loop (S:=Int) (X:=Int×Int) (λc=>(if(ah (c<(a.2.2.2.length:Int)))then
ai7 (idx a.2.2.2 c) λb=>(if(ah (a.2.2.1<=b.2.1))then
aa (.inr (c,6))
else
ai7 ((if(ah (b.2.1=(-1)))then
ai7 (idx d.2.2 a.2.1) λl=>aa l.2.2.1
else
aa g.1):Option (List bA.den)) λh=>cd (J:=aD.den) (R:=Int⊕(Int×Int)) ((if(!ah (b.2.2.1=(-1)))then
ai7 (if(ah (b.2.2.1<0))then
aa af
else
aa (ah ((h.length:Int)<=b.2.2.1))) λm=>(if m then
aa (.inr (.inr (c,6)))
else
ai7 (idx h b.2.2.1) λn=>aa (.inl n.2))
else
aa (.inl (1,0)))) λf=>ai7 (if(!ah (b.2.2.2.1.1=f.1))then
aa af
else
aa (!ah (b.2.2.2.1.2.1=f.2))) λo=>(if o then
aa (.inr (c,8))
else
ai7 (M.ga N f d.1) λi=>ai7 (if(ah (b.2.2.2.1.2.2<i.1))then
aa af
else
aa (ah (i.2<b.2.2.2.1.2.2))) λp=>(if p then
aa (.inr (c,3))
else
aa (.inl (ai9.wrap (c+1))))))
else
aa (.inr (0,0)))) N 0)))
def X5:Fo 58 (.i1 [.g bG, .g bI]) (.i1 [.l aB, .l aB]) (u2 (M.dE N)):=fz N [W94 N,W95 N,X3 N] [O,T,B 26 64,O,T,B 55 208,O,T,O,T,L 69 432,O,O,T,T,O,O,O,R ⟨[(12, .l (.slice bA))],[],[],656⟩,X,O,J ⟨[],[(672, .box 74 (.leaf aD))],[],705⟩,O,T,T,B 104 752,X,X,T,B 125 705,O,B 145 849] Tryz.func58
def M.iN(N:Nat)(a:aO.den)(b:Int):Option Bool:=
ai7 (if(ah (a.2.2.2.2.2.1<=b))then
aa (ah (b<=(if(ai9.wrap ((ai9.wrap (a.2.2.2.2.2.1+120))-1))<3599 then(ai9.wrap ((ai9.wrap (a.2.2.2.2.2.1+120))-1))else 3599)))
else
aa ag) λc=>aa c
def W59:Fo 59 (.i1 [.g aO, .l aB]) (.i1 [.l .bool]) (u2 (M.iN N)):=fz N [] [O,B 4 32] Tryz.func59
def M.mD(N:Nat)(a:aC.den):Option Int:=
(if(ah (a.2.2.1=1))then
aa a.2.2.2
else
ai7 (if(ah (a.2.2.1=2))then
aa (ah (a.2.2.1=2))
else
aa (ah (a.2.2.1=3))) λb=>(if b then
aa (ai9.wrap (0-a.2.2.2))
else
aa 0))
def W43:Fo 43 (.i1 [.g aC]) (.i1 [.l aB]) (M.mD N):=fz N [] [O,T,O,T,O,O,B 9 96] Tryz.func43
def M.fP(c:List aC.den):Option (Int×Int):=
(if(ah (4096<(c.length:Int)))then
aa (4096,4)
else
Loop (S:=Int×List aD.den) (X:=Int×Int) (λb=>(if(ah (b.1<(c.length:Int)))then
ai7 (idx c b.1) λa=>ai7 (ai7 (if(ah (a.1<0))then
aa af
else
aa (ah (109572<a.1))) λd=>(if d then
aa d
else
ai7 (if(ah (a.2.1<0))then
aa af
else
aa (ah (3599<a.2.1))) λe=>(if e then
aa e
else(if(ah (a.2.2.2<1))then
aa af
else
aa (ah (1000000000000000<a.2.2.2))))):Option Bool) λg=>(if g then
aa (.inr (b.1,3))
else
ai7 (if(ah (a.2.2.1<1))then
aa af
else
aa (ah (4<a.2.2.1))) λh=>(if h then
aa (.inr (b.1,1))
else
ai7 (if(ah (0<b.1))then
ai7 (idx c (ai9.wrap (b.1-1))) λi=>aa (ah (a.1<i.1))
else
aa ag) λj=>(if j then
aa (.inr (b.1,9))
else
ai7 (M.mD N a) λf=>(if(ah (((bn aB (fL aB b.2 a.2.1 (ai9.wrap (((bn aB b.2 a.2.1).getD 0)+f))) a.2.1).getD 0)<0))then
aa (.inr (b.1,13))
else
aa (.inl (ai9.wrap (b.1+1),fL aB b.2 a.2.1 (ai9.wrap (((bn aB b.2 a.2.1).getD 0)+f))))))))
else
aa (.inr (0,0)))) N (0,([]:List (Int×Int))))
def W60:Fo 60 (.i1 [.l (.slice aC)]) (.i1 [.l aB, .l aB]) (M.fP N):=fz N [W43 N] [O,O,O,T,O,T,P ⟨[(13, .l aB)],[(80, .map 187 aB ag aB)],[],161⟩,O,O,T,T,O,T,T,R ⟨[(18, .l .bool)],[],[],273⟩,R ⟨[(18, .l .bool)],[],[],273⟩,X,O,B 18 273,O,R ⟨[(44, .l .bool)],[],[],273⟩,X,O,B 54 273] Tryz.func60
def M.gy(N:Nat)(a:List aC.den)(b:Int):Option Int:=R6 a b
def S61:oN:=⟨.i1 [.l (.slice aC), .l aB], .i1 [.l aB],u2 (M.gy N)⟩
def W61(N:Nat):fZ Tryz.prog 61 (S61 N):=Jw
def M.fC(N:Nat)(a:Int)(b:Int):Option Bool:=
ai7 (if(ah (0<=a))then(if(ah (a<b))then(if(ah (b<=3600))then
aa (ah ((ai9.wrap (b-a))<=120))
else
aa ag)
else
aa ag)
else
aa ag) λc=>aa c
def W97:Fo 97 (.i1 [.l aB, .l aB]) (.i1 [.l .bool]) (u2 (M.fC N)):=fz N [] [O,B 4 16] Tryz.func97
def M.nu(a:aP.den):Option Bool:=
ai7 (if(ah (a.1<0))then
aa af
else
ai7 (M.fC N a.2.1 a.2.2.1) λb=>aa (!b)) λc=>(if c then
aa ag
else
ai7 (if(ah (a.2.2.2.1<0))then
aa af
else(if(ah (a.2.2.2.2.1<a.2.2.2.1))then
aa af
else
aa (ah (109572<a.2.2.2.2.1)))) λd=>(if d then
aa ag
else
ai7 (if(ah (a.2.2.2.2.2.1<1))then
aa af
else
aa (ah (6<a.2.2.2.2.2.1))) λe=>(if e then
aa ag
else
ai7 (if(ah (0<=a.2.2.2.2.2.2))then(if(ah (a.2.2.2.2.2.2<=1000000000000000))then(if(ah (a.2.2.2.2.2.2=0))then
aa af
else
aa (ah (a.2.2.2.2.2.1=3)))
else
aa ag)
else
aa ag) λf=>aa f)))
def W62:Fo 62 (.i1 [.g aP]) (.i1 [.l .bool]) (M.nu N):=fz N [W97 N] [O,T,B 13 32,T,B 28 32,T,B 36 32,B 2 32] Tryz.func62
def M.gS(a:b9.den):Option Bool:=
cd (J:=Unit) (R:=Bool) (Loop (S:=Int) (X:=Unit⊕Bool) (λb=>(if(ah (b<(a.1.2.2.2.length:Int)))then
ai7 (idx a.1.2.2.2 b) λe=>(if(ah (a.2.2.2.1<e.2.2.2.2.2))then
aa (.inr (.inr ag))
else
aa (.inl (ai9.wrap (b+1))))
else
aa (.inr (.inl ())))) N 0) λh=>cd (J:=Unit) (R:=Bool) (Loop (S:=Int) (X:=Unit⊕Bool) (λc=>(if(ah (c<(a.2.1.length:Int)))then
ai7 (idx a.2.1 c) λf=>(if(ah (a.2.2.2.1<f.1))then
aa (.inr (.inr ag))
else
aa (.inl (ai9.wrap (c+1))))
else
aa (.inr (.inl ())))) N 0) λi=>Loop (S:=Int) (X:=Bool) (λd=>(if(ah (d<(a.2.2.1.length:Int)))then
ai7 (idx a.2.2.1 d) λg=>(if(ah (a.2.2.2.1<g.2.2.2.1))then
aa (.inr ag)
else
aa (.inl (ai9.wrap (d+1))))
else
aa (.inr af))) N 0
def W63:Fo 63 (.i1 [.g b9]) (.i1 [.l .bool]) (M.gS N):=fz N [] [O,E 32,O,T,L 13 112,X,X,E 32,O,T,L 26 96,X,X,T,O,T,L 39 96] Tryz.func63
def M.dL(f:bG.den)(d:aO.den)(a:b9.den):Option Int:=
ai7 (M.cB N f a.1.2.1 d) λk=>(if(!ah (k=0))then
aa 1
else
ai7 (M.dE N f a.1) λg=>(if(!ah (g.2=0))then
aa g.2
else
ai7 (ai7 (M.jx N a.2.2.2.1) λl=>(if(!l)then
aa af
else(if(!ah (a.2.2.2.2=(-1)))then
ai7 (M.iN N d a.2.2.2.2) λm=>aa (!m)
else
aa ag)):Option Bool) λn=>(if n then
aa 3
else
ai7 (M.fP N a.2.1) λh=>(if(!ah (h.2=0))then
aa h.2
else
cd (J:=Unit) (R:=Int) (ai7 (M.mA N a.2.1) λi=>Loop (S:=Int) (X:=Unit⊕Int) (λe=>(if(ah (e<(i.length:Int)))then
ai7 (idx i e) λb=>ai7 (if(ah (b<d.2.2.2.2.2.1))then
aa af
else
aa (ah (a.2.2.2.2<b))) λo=>(if o then
aa (.inr (.inr 3))
else
ai7 (ai7 (M.dx N a.2.1 b) λp=>(if(ah (1000000000000000<p))then
aa af
else
ai7 (M.gy N a.2.1 b) λq=>aa (ah (1000000000000000<q))):Option Bool) λr=>(if r then
aa (.inr (.inr 3))
else
aa (.inl (ai9.wrap (e+1)))))
else
aa (.inr (.inl ())))) N 0) λv=>(if(ah (16<(a.2.2.1.length:Int)))then
aa 4
else
cd (J:=Unit) (R:=Int) (Loop (S:=Int) (X:=Unit⊕Int) (λc=>(if(ah (c<(a.2.2.1.length:Int)))then
ai7 (idx a.2.2.1 c) λj=>ai7 (ai7 (M.nu N j) λs=>(if(!s)then
aa af
else
aa (!ah (j.1=c))):Option Bool) λt=>(if t then
aa (.inr (.inr 13))
else
aa (.inl (ai9.wrap (c+1))))
else
aa (.inr (.inl ())))) N 0) λw=>ai7 (M.gS N a) λu=>(if(!u)then
aa 9
else
aa 0))))))
def W27:Fo 27 (.i1 [.g bG, .g aO, .g b9]) (.i1 [.l aB]) (u3 (M.dL N)):=fz N [W14 N,Z1 N,W28 N,W57 N,X5 N,W59 N,W60 N,W61 N,W62 N,W63 N] [O,O,O,T,B 47 352,O,E 512,O,T,L 61 592,O,O,T,T,O,T,B 74 656,B 86 656,X,X,X,O,E 576,O,T,L 95 640,O,O,T,T,O,B 108 752] Tryz.func27
def M.bE(N:Nat)(a:List aC.den):Option (List aC.den):=
(if ajf (a).length 0 then
yB (aa ([]:List aC.den))
(ai7 (cu ([]:List aC.den) a) λb=>aa b)
else
ai7 (cu ([]:List aC.den) a) λc=>aa c)
def W64:Fo 64 (.i1 [.l (.slice aC)]) (.w1 87 aC) (M.bE N):=fz N [] [] Tryz.func64
def M.bF(N:Nat)(a:List aP.den):Option (List aP.den):=
(if ajf (a).length 0 then
yB (aa ([]:List aP.den))
(ai7 (cu ([]:List aP.den) a) λb=>aa b)
else
ai7 (cu ([]:List aP.den) a) λc=>aa c)
def W65:Fo 65 (.i1 [.l (.slice aP)]) (.w1 103 aP) (M.bF N):=fz N [] [] Tryz.func65
def M.kC(a:b9.den):Option (Int×Int×Int×aD.den×(List bg.den)×(List aC.den)×List aP.den):=
ai7 (M.bw N a.1.2.2.2) λb=>ai7 (M.bE N a.2.1) λc=>ai7 (M.bF N a.2.2.1) λd=>aa (a.1.1,a.1.2.1,a.1.2.2.1,a.2.2.2,b,c,d)
def W29:Fo 29 (.i1 [.g b9]) (.j1 [.val af (.pair (.pair (.leaf aB) (.pair (.leaf aB) (.pair (.leaf aB) (.own 0)))) (.pair (.own 1) (.pair (.own 2) (.leaf aD))))] [.own 53 bg, .own 87 aC, .own 103 aP] 3) (M.kC N):=fz N [Z0 N,W64 N,W65 N] [] Tryz.func29
def M.jb(j:bG.den)(a:bN.den)(b:Int)(c:Int)(d:Int)(e:aD.den)(f:List bg.den)(g:List aC.den)(h:List aP.den):Option (Int×Int×Int×Int×aD.den×(List aC.den)×(List aP.den)×List bg.den):=
(if(!ah (a.2.2.2.2.2.2.2.2.2.2.2.2.2=a.2.1))then
aa (1,b,c,d,e,g,h,f)
else
ai7 (cu f ([a.2.2.2.2.2.2.2.2]:List bg.den)) λi=>ai7 (M.dE N j (b,(c,(d,i)))) λk=>aa (k.2,b,c,d,e,g,h,i))
def W30:Fo 30 (.j1 [.g bG, .ptr 0 [] 0, .g bN] [.box 43 (.pair (.pair (.leaf aB) (.pair (.leaf aB) (.pair (.leaf aB) (.own 1)))) (.pair (.own 2) (.pair (.own 3) (.leaf aD)))), .own 53 bg, .own 87 aC, .own 103 aP] 4) ⟨[(0, .l aB)],[(0, .box 43 (.pair (.pair (.leaf aB) (.pair (.leaf aB) (.pair (.leaf aB) (.own 4)))) (.pair (.own 2) (.pair (.own 3) (.leaf aD))))),(2, .own 87 aC),(3, .own 103 aP),(4, .own 53 bg)],[],8⟩ (λ(x:bG.den×bN.den×Int×Int×Int×aD.den×(List bg.den)×(List aC.den)×List aP.den)=>M.jb N x.1 x.2.1 x.2.2.1 x.2.2.2.1 x.2.2.2.2.1 x.2.2.2.2.2.1 x.2.2.2.2.2.2.1 x.2.2.2.2.2.2.2.1 x.2.2.2.2.2.2.2.2):=fz N [X5 N] [] Tryz.func30
def M.fa(f:List aP.den):Option (List Int):=
ai7 (p6 3601 0) λh=>ai7 (Loop (S:=Int×List Int) (X:=List Int) (λb=>(if(ah (b.1<(f.length:Int)))then
ai7 (ai7 (idx f b.1) λa=>ai7 (if(!ah (a.2.2.2.2.2.1=1))then
aa (!ah (a.2.2.2.2.2.1=2))
else
aa ag) λi=>(if i then
aa b.2
else(if(ah ((if a.2.1<0 then 0 else a.2.1)<(if 3600<a.2.2.1 then 3600 else a.2.2.1)))then
ai7 (idx b.2 (if a.2.1<0 then 0 else a.2.1)) λd=>ai7 (idx b.2 (if a.2.1<0 then 0 else a.2.1)) λn=>ai7 (idx (b8 b.2 (if a.2.1<0 then 0 else a.2.1) (ai9.wrap (d+1))) (if 3600<a.2.2.1 then 3600 else a.2.2.1)) λj=>ai7 (idx (b8 b.2 (if a.2.1<0 then 0 else a.2.1) (ai9.wrap (d+1))) (if 3600<a.2.2.1 then 3600 else a.2.2.1)) λo=>aa (b8 (b8 b.2 (if a.2.1<0 then 0 else a.2.1) (ai9.wrap (d+1))) (if 3600<a.2.2.1 then 3600 else a.2.2.1) (ai9.wrap (j-1)))
else
aa b.2)):Option (List Int)) λk=>aa (.inl (ai9.wrap (b.1+1),k))
else
aa (.inr b.2))) N (0,h):Option (List Int)) λl=>Loop (S:=Int×Int×List Int) (X:=List Int) (λc=>(if(ah (c.2.1<3600))then
ai7 (ai7 (idx l c.2.1) λe=>(if(ah (0<(ai9.wrap (c.1+e))))then
ai7 (cu c.2.2 ([c.2.1]:List Int)) λm=>aa (ai9.wrap (c.1+e),m)
else
aa (ai9.wrap (c.1+e),c.2.2)):Option (Int×List Int)) λg=>aa (.inl (g.1,ai9.wrap (c.2.1+1),g.2))
else
aa (.inr c.2.2))) N (0,0,([]:List Int))
def W13:Fo 13 (.i1 [.l (.slice aP)]) (.w1 3 aB) (M.fa N):=fz N [] [O,O,R ⟨[],[(16, .own 3 aB)],[],49⟩,O,T,P ⟨[(14, .l aB)],[(16, .own 3 aB)],[],97⟩,O,O,T,R ⟨[],[(16, .own 3 aB)],[],114⟩,O,T,B 25 177,X,X,X,X,O,O,T,O,T,P ⟨[(8, .val ag (.own 97)),(9, .l aB),(48, .l aB)],[(97, .own 3 aB)],[],98⟩,O,O,T,R ⟨[(8, .val ag (.own 114)),(9, .l aB)],[(114, .own 3 aB)],[97],115⟩] Tryz.func13
def M.mP(N:Nat)(a:Int):Option Bool:=
ai7 (if(ah (0<=a))then
aa (ah (a<=3599))
else
aa ag) λb=>aa b
def W81:Fo 81 (.i1 [.l aB]) (.i1 [.l .bool]) (M.mP N):=fz N [] [O,B 2 16] Tryz.func81
def M.oh(N:Nat)(a:Int):Option Bool:=
ai7 (if(ah ((ajH a 4)=0))then(if(!ah ((ajH a 100)=0))then
aa af
else
aa (ah ((ajH a 400)=0)))
else
aa ag) λb=>aa b
def aaB:Fo 151 (.i1 [.l aB]) (.i1 [.l .bool]) (M.oh N):=fz N [] [O,B 2 16] Tryz.func151
def M.cK(b:Int)(a:Int):Option Int:=
ai7 (if(ah (a<1))then
aa af
else
aa (ah (12<a))) λc=>(if c then
aa 0
else
ai7 (if(ah (a=2))then
ai7 (M.oh N b) λd=>aa d
else
aa ag) λe=>(if e then
aa 29
else
ai7 (idx ([31,28,31,30,31,30,31,31,30,31,30,31]:List Int) (ai9.wrap (a-1))) λf=>aa f))
def O1:Fo 116 (.i1 [.l aB, .l aB]) (.i1 [.l aB]) (u2 (M.cK N)):=fz N [aaB N] [O,T,B 10 16,T,B 16 16] Tryz.func116
def M.jF(N:Nat)(a:Int):Option Int:=
aa (ai9.wrap ((ai9.wrap ((ai9.wrap (ajl a 4))-(ai9.wrap (ajl a 100))))+(ai9.wrap (ajl a 400))))
def aaC:Fo 152 (.i1 [.l aB]) (.i1 [.l aB]) (M.jF N):=fz N [] [] Tryz.func152
def M.eH(a:Int):Option Int:=
ai7 (M.jF N (ai9.wrap (a-1))) λb=>ai7 (M.jF N 1899) λc=>aa (ai9.wrap ((ai9.wrap ((ai9.wrap ((ai9.wrap (a-1900))*365))+b))-c))
def Wq:Fo 117 (.i1 [.l aB]) (.i1 [.l aB]) (M.eH N):=fz N [aaC N] [] Tryz.func117
def M.il(a:Int)(c:Int)(d:Int):Option (Int×Int):=
ai7 (if(ah (a<1900))then
aa af
else(if(ah (2199<a))then
aa af
else(if(ah (c<1))then
aa af
else(if(ah (12<c))then
aa af
else(if(ah (d<1))then
aa af
else
ai7 (M.cK N a c) λe=>aa (ah (e<d))))))) λf=>(if f then
aa (0,3)
else
ai7 (M.eH N a) λg=>ai7 (Loop (S:=Int×Int) (X:=Int) (λb=>(if(ah (b.2<(ai9.wrap (c-1))))then
ai7 (M.cK N a (ai9.wrap (b.2+1))) λh=>aa (.inl (ai9.wrap (b.1+h),ai9.wrap (b.2+1)))
else
aa (.inr b.1))) N (g,0):Option Int) λi=>aa (ai9.wrap ((ai9.wrap (i+d))-1),0))
def W82:Fo 82 (.i1 [.l aB, .l aB, .l aB]) (.i1 [.l aB, .l aB]) (u3 (M.il N)):=fz N [O1 N,Wq N] [O,T,B 34 32,O,R ⟨[(8, .l aB)],[],[],80⟩,O,T,P ⟨[(8, .l aB),(39, .l aB)],[],[],128⟩] Tryz.func82
def M.pF(a:Int):Option Int:=
ai7 (M.mP N a) λb=>(if(!b)then
aa 0
else
ai7 (M.cK N (ai9.wrap (1900+(ai9.wrap (ajl a 12)))) (ai9.wrap ((ajH a 12)+1))) λc=>aa c)
def W83:Fo 83 (.i1 [.l aB]) (.i1 [.l aB]) (M.pF N):=fz N [W81 N,O1 N] [] Tryz.func83
def M.ln(a:Int):Option (aD.den×Int):=
ai7 (M.mP N a) λc=>(if(!c)then
aa ((0,0),3)
else
ai7 (M.il N (ai9.wrap (1900+(ai9.wrap (ajl a 12)))) (ai9.wrap ((ajH a 12)+1)) 1) λb=>(if(!ah (b.2=0))then
aa ((0,0),b.2)
else
ai7 (M.pF N a) λd=>aa ((b.1,ai9.wrap (b.1+d)),0)))
def W48:Fo 48 (.i1 [.l aB]) (.i1 [.g aD, .l aB]) (M.ln N):=fz N [W81 N,W82 N,W83 N] [] Tryz.func48
def M.gT(a:bG.den)(b:bI.den)(c:aO.den):Option Bool:=
ai7 (M.cB N a b.2.1 c) λd=>(if(!ah (d=0))then
aa ag
else
ai7 (M.dE N a b) λe=>aa (ah (e.2=0)))
def W49:Fo 49 (.i1 [.g bG, .g bI, .g aO]) (.i1 [.l .bool]) (u3 (M.gT N)):=fz N [W57 N,X5 N] [] Tryz.func49
def M.cg(a:aD.den)(b:Int):Option Bool:=
ai7 (ai7 (M.dU N a) λc=>(if c then(if(ah (a.1<=b))then
aa (ah (b<a.2))
else
aa ag)
else
aa ag):Option Bool) λd=>aa d
def X6:Fo 91 (.i1 [.g aD, .l aB]) (.i1 [.l .bool]) (u2 (M.cg N)):=fz N [O0 N] [O,B 4 32] Tryz.func91
def M.pG(N:Nat)(a:bg.den)(b:bg.den):Option Bool:=
(if(!ah (a.2.2.2.2.2=b.2.2.2.2.2))then
aa (ah (b.2.2.2.2.2<a.2.2.2.2.2))
else
aa (ah (b.1<a.1)))
def aaD:Fo 171 (.i1 [.g bg, .g bg]) (.i1 [.l .bool]) (u2 (M.pG N)):=fz N [] [] Tryz.func171
def M.nO(c:List bg.den)(e:Int)(f:Int)(g:Int)(h:Int):Option (aE.den×Bool):=
ai7 (Loop (S:=Int×Int) (X:=Int) (λa=>(if(ah (a.2<(c.length:Int)))then
ai7 (ai7 (idx c a.2) λb=>ai7 (if(!ah (b.2.1=e))then
aa af
else(if(!ah (b.2.2.1=f))then
aa af
else(if(ah (h<b.2.2.2.2.2))then
aa af
else
ai7 (M.cg N b.2.2.2.2.1 g) λi=>aa (!i)))) λj=>(if j then
aa a.1
else
ai7 (if(ah (a.1<0))then
aa af
else
ai7 (idx c a.1) λk=>ai7 (M.pG N b k) λl=>aa l) λm=>(if m then
aa a.2
else
aa a.1)):Option Int) λn=>aa (.inl (n,ai9.wrap (a.2+1)))
else
aa (.inr a.1))) N ((-1),0):Option Int) λd=>(if(ah (d<0))then
aa ((0,(0,0)),ag)
else
ai7 (idx c d) λo=>aa (o.2.2.2.1,af))
def Wr:Fo 153 (.i1 [.l (.slice bg), .l aB, .l aB, .l aB, .l aB]) (.i1 [.g aE, .l .bool]) (u5 (M.nO N)):=fz N [X6 N,aaD N] [O,O,R ⟨[(12, .l aB)],[],[],48⟩,O,T,P ⟨[(12, .l aB),(17, .l aB)],[],[],96⟩,O,O,T,R ⟨[(12, .l aB)],[],[],112⟩,O,T,B 44 208,B 54 208] Tryz.func153
def M.fD(d:List bg.den)(e:Int)(f:Int)(g:Int)(h:Int):Option (Bool×List aE.den):=
ai7 (p6 f (0,(0,0))) λb=>Loop (S:=Int×List aE.den) (X:=Bool×List aE.den) (λa=>(if(ah (a.1<(b.length:Int)))then
ai7 (M.nO N d e a.1 g h) λc=>(if(!c.2)then
aa (.inr (ag,([]:List aE.den)))
else
ai7 (idx a.2 a.1) λi=>aa (.inl (ai9.wrap (a.1+1),b8 a.2 a.1 c.1)))
else
aa (.inr (af,a.2)))) N (0,b)
def aaE:Fo 118 (.i1 [.l (.slice bg), .l aB, .l aB, .l aB, .l aB]) (.j1 [.val ag (.own 0), .l .bool] [.own 49 aE] 1) (u5 (M.fD N)):=fz N [Wr N] [O,O,T,O,T,P ⟨[(20, .l aB)],[(48, .own 49 aE)],[],129⟩] Tryz.func118
def M.gI(b:bI.den)(d:Int)(e:Int):Option (List Int):=
Loop (S:=Int×List Int) (X:=List Int) (λa=>(if(ah (a.1<(if 8<(if b.2.2.1<0 then 0 else b.2.2.1)then 8 else(if b.2.2.1<0 then 0 else b.2.2.1))))then
ai7 (ai7 (M.nO N b.2.2.2 a.1 (-1) d e) λc=>ai7 (if c.2 then(if(ah (c.1.1=1))then
aa (ah (c.1.2.2=1))
else
aa ag)
else
aa ag) λf=>(if f then
ai7 (cu a.2 ([a.1]:List Int)) λg=>aa g
else
aa a.2):Option (List Int)) λh=>aa (.inl (ai9.wrap (a.1+1),h))
else
aa (.inr a.2))) N (0,([]:List Int))
def aaF:Fo 119 (.i1 [.g bI, .l aB, .l aB]) (.w1 3 aB) (u3 (M.gI N)):=fz N [Wr N] [O,O,T,O,T,P ⟨[(7, .val ag (.own 128)),(15, .l aB)],[(128, .own 3 aB)],[],129⟩,O,O,T,R ⟨[(7, .val ag (.own 145))],[(145, .own 3 aB)],[128],146⟩,O,O,B 37 369] Tryz.func119
def M.fu(d:bG.den)(b:bI.den)(c:Int)(e:Int):Option (Int×Int×(List aE.den)×List (List aE.den)):=
ai7 (M.ik N d) λj=>(if(!(pT aC j (0,(0,(0,0)))))then
aa (0,1,([]:List aE.den),([]:List (List aE.den)))
else
ai7 (M.dE N d b) λk=>(if(!ah (k.2=0))then
aa (0,1,([]:List aE.den),([]:List (List aE.den)))
else
ai7 (if(ah (c<0))then
aa af
else
aa (ah (109572<c))) λl=>(if l then
aa (0,3,([]:List aE.den),([]:List (List aE.den)))
else
ai7 (idx d.2.2 b.2.1) λm=>ai7 (M.fD N b.2.2.2 (-1) (m.2.2.1.length:Int) c e) λg=>(if(!g.1)then
aa (0,6,([]:List aE.den),([]:List (List aE.den)))
else
ai7 (M.dQ N d b.2.1) λn=>cd (J:=Int×(List aE.den)×List (List aE.den)) (R:=Int×Int×(List aE.den)×List (List aE.den)) (ai7 (M.gI N b c e) λh=>Loop (S:=Int×Int×(List aE.den)×List (List aE.den)) (X:=(Int×(List aE.den)×List (List aE.den))⊕(Int×Int×(List aE.den)×List (List aE.den))) (λa=>(if(ah (a.1<(h.length:Int)))then
ai7 (idx h a.1) λo=>ai7 (M.fD N b.2.2.2 o (n.1.length:Int) c e) λi=>(if(!i.1)then
aa (.inr (.inr (0,6,([]:List aE.den),([]:List (List aE.den)))))
else
ai7 (cu a.2.2.2 ([i.2]:List (List aE.den))) λp=>aa (.inl (ai9.wrap (a.1+1),a.2.1,a.2.2.1,p)))
else
aa (.inr (.inl (a.2.1,a.2.2.1,a.2.2.2))))) N (0,c,g.2,([]:List (List aE.den)))) λf=>aa (f.1,0,f.2.1,f.2.2)))))
def W84:Fo 84 (.i1 [.g bG, .g bI, .l aB, .l aB]) (.j1 [.val af (.pair (.leaf aB) (.pair (.own 0) (.own 1))), .l aB] [.own 49 aE, .own 163 (.slice aE)] 2) (u4 (M.fu N)):=fz N [X5 N,W92 N,W94 N,aaE N,aaF N] [O,O,O,T,B 40 288,O,O,O,O,O,J ⟨[],[(320, .box 166 (.pair (.leaf aB) (.pair (.own 544) (.own 864)))),(544, .own 49 aE),(864, .own 163 (.slice aE))],[],867⟩,O,T,P ⟨[(77, .l aB)],[(320, .box 166 (.pair (.leaf aB) (.pair (.own 544) (.own 960)))),(544, .own 49 aE),(960, .own 163 (.slice aE))],[],963⟩] Tryz.func84
def M.eI(g:bG.den)(b:List aE.den)(c:List bA.den):Option (Int×Int):=
(if(ah ((b.length:Int)<(c.length:Int)))then
aa ((b.length:Int),5)
else(if(ah ((c.length:Int)<(b.length:Int)))then
aa ((c.length:Int),4)
else
Loop (S:=Int) (X:=Int×Int) (λa=>(if(ah (a<(b.length:Int)))then
ai7 (idx b a) λd=>ai7 (idx c a) λe=>ai7 (if(!ah (d.1=e.2.1))then
aa af
else
aa (!ah (d.2.1=e.2.2))) λh=>(if h then
aa (.inr (a,8))
else
ai7 (M.ga N e.2 g.1) λf=>ai7 (if(ah (d.2.2<f.1))then
aa af
else
aa (ah (f.2<d.2.2))) λi=>(if i then
aa (.inr (a,3))
else
aa (.inl (ai9.wrap (a+1)))))
else
aa (.inr (0,0)))) N 0))
def aaG:Fo 172 (.i1 [.g bG, .l (.slice aE), .l (.slice bA)]) (.i1 [.l aB, .l aB]) (u3 (M.eI N)):=fz N [X3 N] [O,O,O,T,O,T,L 29 256,O,O,T,T,O,O,T,B 50 480,O,B 68 624] Tryz.func172
def M.fF(N:Nat)(a:bG.den)(c:Int):Option ((List bA.den)×Int):=
ai7 (idx a.2.2 c) λb=>ai7 (if(ah (b.2.1<0))then
aa af
else
aa (ah ((a.2.2.length:Int)<=b.2.1))) λd=>(if d then
aa (([]:List bA.den),0)
else
ai7 (idx a.2.2 b.2.1) λe=>aa (e.2.2.1,8))
def aaH:Fo 173 (.i1 [.g bG, .l aB]) (.i1 [.l (.slice bA), .l aB]) (u2 (M.fF N)):=fz N [] [O,O,T,B 21 160] Tryz.func173
def M.jc(b:bG.den)(c:Int)(a:oe.den):Option (Int×Int×Int):=
ai7 (if(ah (c<0))then
aa af
else
aa (ah ((b.2.2.length:Int)<=c))) λh=>(if h then
aa ((-1),(-1),6)
else
ai7 (if(ah (a.1<0))then
aa af
else
aa (ah (109572<a.1))) λi=>(if i then
aa ((-1),(-1),3)
else
ai7 (idx b.2.2 c) λj=>ai7 (M.eI N b a.2.1 j.2.2.1) λe=>(if(!ah (e.2=0))then
aa ((-1),e.1,e.2)
else
ai7 (M.fF N b c) λf=>(if(ah (f.2<(a.2.2.length:Int)))then
aa (f.2,(-1),4)
else
Loop (S:=Int) (X:=Int×Int×Int) (λd=>(if(ah (d<(a.2.2.length:Int)))then
ai7 (idx a.2.2 d) λk=>ai7 (M.eI N b k f.1) λg=>(if(!ah (g.2=0))then
aa (.inr (d,g.1,g.2))
else
aa (.inl (ai9.wrap (d+1))))
else
aa (.inr (0,0,0)))) N 0))))
def aaI:Fo 154 (.i1 [.g bG, .l aB, .g oe]) (.i1 [.l aB, .l aB, .l aB]) (u3 (M.jc N)):=fz N [aaG N,aaH N] [O,T,B 25 80,T,B 33 80,O,O,O,T,O,T,L 66 624] Tryz.func154
def M.iY(a:bG.den)(b:Int)(e:oe.den)(f:Bool)(d:Int):Option (aC.den):=
ai7 (M.ik N a) λg=>(if(!ah (g.1=0))then
aa (1,((-1),((-1),(-1))))
else
ai7 (if(ah (b<0))then
aa af
else(if(ah ((a.2.2.length:Int)<=b))then
aa af
else(if f then(if(ah (d<0))then
aa af
else
ai7 (idx a.2.2 b) λh=>aa (ah ((h.2.2.2.1.length:Int)<=d)))
else
aa ag))) λi=>(if i then
aa (6,((-1),((-1),(-1))))
else
ai7 (M.jc N a b e) λc=>(if(!ah (c.2.2=0))then
aa (c.2.2,(c.1,((-1),(-1))))
else
aa (0,(0,(0,0))))))
def aaJ:Fo 120 (.i1 [.g bG, .l aB, .g oe, .l .bool, .l aB]) (.i1 [.g aC]) (u5 (M.iY N)):=fz N [W92 N,aaI N] [O,O,T,B 47 160] Tryz.func120
def M.kK(N:Nat)(d:bG.den)(f:Int):Option (aM.den×aM.den×(List Bool)×List Bool):=
ai7 (idx d.2.2 f) λc=>ai7 (p6 (c.2.2.2.1.length:Int) ag) λe=>ai7 ((if(ah (0<=c.2.1))then
ai7 (idx d.2.2 c.2.1) λb=>ai7 (p6 (b.2.2.2.1.length:Int) ag) λg=>aa (c,b.1,b.2.1,b.2.2.1,b.2.2.2.1,b.2.2.2.2,e,g)
else
aa (c,ByteArray.empty,0,([]:List bA.den),([]:List bA.den),([]:List db.den),e,([]:List Bool))):Option (aM.den×ByteArray×Int×(List bA.den)×(List bA.den)×(List db.den)×(List Bool)×List Bool)) λa=>aa (a.1,(a.2.1,(a.2.2.1,(a.2.2.2.1,(a.2.2.2.2.1,a.2.2.2.2.2.1)))),a.2.2.2.2.2.2.1,a.2.2.2.2.2.2.2)
def aaK:Fo 121 (.i1 [.g bG, .l aB]) (.j1 [.ptr 0 [] 0] [.box 254 (.pair (.leaf aM) (.pair (.leaf aM) (.pair (.own 1) (.own 2)))), .own 4 .bool, .own 4 .bool] 3) (u2 (M.kK N)):=fz N [] [O,O,O,R ⟨[],[(128, .box 254 (.pair (.leaf aM) (.pair (.pair (.leaf .str) (.pair (.leaf aB) (.pair (.leaf (.slice bA)) (.pair (.leaf (.slice bA)) (.leaf (.slice db)))))) (.pair (.own 272) (.own 336))))),(272, .own 4 .bool),(336, .own 4 .bool)],[],339⟩] Tryz.func121
def M.kL(a:aM.den)(d:Int):Option (List Int):=
ai7 (if(ah (d<0))then
aa af
else
aa (ah ((a.2.2.2.1.length:Int)<=d))) λi=>(if i then
aa ([]:List Int)
else
ai7 (p6 (a.2.2.2.1.length:Int) ag) λf=>ai7 (idx f d) λu=>ai7 (ai7 (M.gR N a) λj=>ai7 (M.lD N j d) λg=>Loop (S:=Int×List Bool) (X:=List Bool) (λb=>(if(ah (b.1<(g.length:Int)))then
ai7 (idx g b.1) λh=>ai7 (idx b.2 h) λv=>aa (.inl (ai9.wrap (b.1+1),b8 b.2 h af))
else
aa (.inr b.2))) N (0,b8 f d af):Option (List Bool)) λk=>ai7 (Loop (S:=Int×List Int) (X:=List Int) (λc=>(if(ah (c.1<(a.2.2.2.2.length:Int)))then
ai7 (ai7 (idx a.2.2.2.2 c.1) λe=>ai7 (if(ah (e.2.1<0))then
aa af
else(if(ah ((a.2.2.2.1.length:Int)<=e.2.1))then
aa af
else
ai7 (idx k e.2.1) λl=>aa (!l))) λm=>(if m then
aa c.2
else
ai7 (M.dy N e.2.2.2.2.2.1) λn=>ai7 (M.dy N e.2.2.2.2.2.2.1) λo=>ai7 (cu c.2 n.2.2) λp=>ai7 (cu p o.2.2) λq=>aa q):Option (List Int)) λr=>aa (.inl (ai9.wrap (c.1+1),r))
else
aa (.inr c.2))) N (0,([]:List Int)):Option (List Int)) λs=>ai7 (M.gb N s) λt=>aa t)
def aaL:Fo 156 (.i1 [.g aM, .l aB]) (.w1 3 aB) (u2 (M.kL N)):=fz N [We N,Wh N,Wf N,FL N] [O,T,B 25 32,O,O,R ⟨[],[(80, .own 4 .bool)],[],177⟩,O,T,P ⟨[(38, .l aB)],[(80, .own 4 .bool)],[],273⟩,X,X,O,R ⟨[(8, .val ag (.own 193))],[(193, .own 3 aB)],[],194⟩,O,T,P ⟨[(8, .val ag (.own 257)),(49, .l aB)],[(257, .own 3 aB)],[],258⟩,O,O,T,R ⟨[(8, .val ag (.own 274))],[(274, .own 3 aB)],[257],275⟩,O,T,B 71 338] Tryz.func156
def M.ey(N:Nat)(a:List Int):Option Int:=
aa (a.length:Int)
def Sw:Fo 202 (.i1 [.l (.slice aB)]) (.i1 [.l aB]) (M.ey N):=fz N [] [] Tryz.func202
def M.dR(N:Nat)(a:List Int)(b:Int)(c:Int):Option Bool:=
ai7 (idx a b) λd=>ai7 (idx a c) λe=>aa (ah (d<e))
def Ws:Fo 310 (.i1 [.l (.slice aB), .l aB, .l aB]) (.i1 [.l .bool]) (u3 (M.dR N)):=fz N [] [] Tryz.func310
def M.mq(N:Nat)(a:List Int):Option (Int×List Int):=
ai7 (idx a (ai9.wrap ((a.length:Int)-1))) λb=>ai7 (gq a 0 (ai9.wrap ((a.length:Int)-1))) λc=>aa (b,c)
def aaM:Fo 311 (.j1 [.ptr 0 [] 0] [.box 308 (.own 1), .own 3 aB] 2) ⟨[(0, .ifc 3 (.l aB))],[(0, .box 308 (.own 2)),(2, .own 3 aB)],[],4⟩ (M.mq N):=fz N [] [] Tryz.func311
def M.lI(d:aM.den):Option (List (List Int)):=
ai7 (p6 (d.2.2.2.1.length:Int) ([]:List Int)) λf=>ai7 (Loop (S:=Int×List (List Int)) (X:=List (List Int)) (λb=>(if(ah (b.1<(d.2.2.2.2.length:Int)))then
ai7 (ai7 (idx d.2.2.2.2 b.1) λc=>ai7 (if(ah (0<=c.2.1))then
aa (ah (c.2.1<(b.2.length:Int)))
else
aa ag) λg=>(if g then
ai7 (idx b.2 c.2.1) λn=>ai7 (idx b.2 c.2.1) λh=>ai7 (M.fA N c (b.2.length:Int)) λi=>ai7 (cu h i) λj=>ai7 (idx b.2 c.2.1) λo=>(if ah (c.2.1=c.2.1)then
ai7 (idx b.2 c.2.1) λp=>aa (sX b.2 c.2.1 (λq=>j))
else ae)
else
aa b.2):Option (List (List Int))) λk=>aa (.inl (ai9.wrap (b.1+1),k))
else
aa (.inr b.2))) N (0,f):Option (List (List Int))) λe=>Loop (S:=Int×List (List Int)) (X:=List (List Int)) (λa=>(if(ah (a.1<(e.length:Int)))then
ai7 (idx a.2 a.1) λr=>ai7 (idx a.2 a.1) λl=>ai7 (M.gb N l) λm=>ai7 (idx a.2 a.1) λs=>(if ah (a.1=a.1)then
ai7 (idx a.2 a.1) λt=>aa (.inl (ai9.wrap (a.1+1),sX a.2 a.1 (λu=>m)))
else ae)
else
aa (.inr a.2))) N (0,e)
def Sz:oN:=⟨.i1 [.g aM], .j1 [.val ag (.own 0)] [.deep 27 (.sl 3 (.leaf aB))] 1,M.lI N⟩
def SA(N:Nat):fZ Tryz.prog 175 (Sz N):=fw (en [ck (FL N),ck (Wg N)] af ag) (N:=N) (.o (.o (.meet ⟨[],[(80, .deep 27 (.sl 3 (.leaf aB)))],[],113⟩ (.o (.two (.loop ⟨[(15, .l aB)],[(80, .deep 27 (.sl 3 (.leaf aB)))],[],177⟩ (.o (.o (.two (.meet ⟨[],[(80, .deep 27 (.sl 3 (.leaf aB)))],[],194⟩ (.o (.meet ⟨[(28, .l .bool)],[],[],257⟩ .nil .nil)) .nil) .nil)))) .nil)) (.two (.o (.two (.loop ⟨[(46, .l aB)],[(80, .deep 27 (.sl 3 (.leaf aB)))],[],162⟩ .nil) .nil)) .nil)))) Tryz.func175 (by kernel_rfl) λx=>by kernel_rfl
def M.jG(N:Nat)(a:Int)(b:List Int):Option (List Int):=
ai7 (cu b ([a]:List Int)) λc=>aa c
def SB:Fo 312 (.j1 [.ptr 0 [] 0, .ifc 3 (.l aB)] [.box 308 (.own 1), .own 3 aB] 2) ⟨[],[(0, .box 308 (.own 2)),(2, .own 3 aB)],[],4⟩ (u2 (M.jG N)):=fz N [] [] Tryz.func312
def M.cV(N:Nat)(b:Int)(c:Int)(a:List Int):Option (List Int):=
ai7 (idx a c) λd=>ai7 (idx a b) λe=>ai7 (idx a b) λf=>ai7 (idx (b8 a b d) c) λg=>aa (b8 (b8 a b d) c e)
def FM:Fo 313 (.j1 [.val ag (.own 0), .l aB, .l aB] [.own 3 aB] 1) (.j1 [] [.own 3 aB] 2) (u3 (M.cV N)):=fz N [] [] Tryz.func313
def M.gi(b:Int)(c:List Int):Option (List Int):=
Loop (S:=Int×List Int) (X:=List Int) (λa=>ai7 (if(ah ((ai9.wrap (ajl (ai9.wrap (a.1-1)) 2))=a.1))then
aa af
else
ai7 (M.dR N a.2 a.1 (ai9.wrap (ajl (ai9.wrap (a.1-1)) 2))) λd=>aa (!d)) λe=>(if e then
aa (.inr a.2)
else
ai7 (M.cV N (ai9.wrap (ajl (ai9.wrap (a.1-1)) 2)) a.1 a.2) λf=>aa (.inl (ai9.wrap (ajl (ai9.wrap (a.1-1)) 2),f)))) N (b,c)
def SC:Fo 223 (.j1 [.ifc 307 (.ptr 0 [] 0), .l aB] [.box 308 (.own 1), .own 3 aB] 2) (.j1 [] [.box 308 (.own 1), .own 3 aB] 4) (u2 (M.gi N)):=fz N [Ws N,FM N] [T,P ⟨[(1, .l aB)],[(1, .own 3 aB)],[],3⟩,T,O,T,B 17 67] Tryz.func223
def M.cZ(b:Int)(c:List Int):Option (List Int):=
ai7 (M.jG N b c) λa=>ai7 (M.ey N a) λd=>ai7 (M.gi N (ai9.wrap (d-1)) a) λe=>aa e
def SD:Fo 201 (.j1 [.ifc 307 (.ptr 0 [] 0), .ifc 3 (.l aB)] [.box 308 (.own 1), .own 3 aB] 2) ⟨[],[(0, .box 308 (.own 2)),(2, .own 3 aB)],[],4⟩ (u2 (M.cZ N)):=fz N [Sw N,SC N,SB N] [] Tryz.func201
def M.fg(c:Int)(d:Int)(f:List Int):Option (Bool×List Int):=
ai7 (Loop (S:=Int×List Int) (X:=Int×List Int) (λa=>ai7 (if(ah (d<=(ai9.wrap ((ai9.wrap (2*a.1))+1))))then
aa af
else
aa (ah ((ai9.wrap ((ai9.wrap (2*a.1))+1))<0))) λg=>(if g then
aa (.inr (a.1,a.2))
else
ai7 (ai7 (if(ah ((ai9.wrap ((ai9.wrap ((ai9.wrap (2*a.1))+1))+1))<d))then
ai7 (M.dR N a.2 (ai9.wrap ((ai9.wrap ((ai9.wrap (2*a.1))+1))+1)) (ai9.wrap ((ai9.wrap (2*a.1))+1))) λh=>aa h
else
aa ag) λi=>(if i then
aa (ai9.wrap ((ai9.wrap ((ai9.wrap (2*a.1))+1))+1))
else
aa (ai9.wrap ((ai9.wrap (2*a.1))+1))):Option Int) λb=>ai7 (M.dR N a.2 b a.1) λj=>(if(!j)then
aa (.inr (a.1,a.2))
else
ai7 (M.cV N a.1 b a.2) λk=>aa (.inl (b,k))))) N (c,f):Option (Int×List Int)) λe=>aa (ah (c<e.1),e.2)
def SE:Fo 224 (.j1 [.ifc 307 (.ptr 0 [] 0), .l aB, .l aB] [.box 308 (.own 1), .own 3 aB] 2) (.j1 [.l .bool] [.box 308 (.own 1), .own 3 aB] 4) (u3 (M.fg N)):=fz N [Ws N,FM N] [O,O,T,R ⟨[(7, .l aB)],[(1, .own 3 aB)],[],51⟩,P ⟨[(7, .l aB)],[(1, .own 3 aB)],[],51⟩,T,O,T,B 21 115,O,R ⟨[(9, .l aB)],[],[],147⟩,O,B 33 195] Tryz.func224
def M.fG(a:List Int):Option (Int×List Int):=
ai7 (M.ey N a) λb=>ai7 (M.cV N 0 (ai9.wrap (b-1)) a) λd=>ai7 (M.fg N 0 (ai9.wrap (b-1)) d) λe=>ai7 (M.mq N e.2) λc=>aa (c.1,c.2)
def SF:Fo 203 (.j1 [.ifc 307 (.ptr 0 [] 0)] [.box 308 (.own 1), .own 3 aB] 2) ⟨[(0, .ifc 3 (.l aB))],[(0, .box 308 (.own 2)),(2, .own 3 aB)],[],4⟩ (M.fG N):=fz N [Sw N,SE N,aaM N,FM N] [] Tryz.func203
def M.dM(s:aM.den):Option (Int×List Int):=
ai7 (ai7 (M.lI N s) λt=>aa t:Option (List (List Int))) λg=>ai7 (p6 (g.length:Int) ([]:List Int)) λu=>ai7 (p6 (g.length:Int) 0) λv=>ai7 (ai7 (Loop (S:=Int×(List (List Int))×(List Int)×List Int) (X:=(List (List Int))×(List Int)×List Int) (λa=>(if(ah (a.1<(g.length:Int)))then
ai7 (ai7 (ai7 (idx g a.1) λh=>ai7 (idx a.2.2.1 a.1) λF=>ai7 (Loop (S:=Int×List (List Int)) (X:=List (List Int)) (λc=>(if(ah (c.1<(h.length:Int)))then
ai7 (idx h c.1) λd=>ai7 (idx c.2 d) λG=>ai7 (idx c.2 d) λw=>ai7 (cu w ([a.1]:List Int)) λx=>ai7 (idx c.2 d) λH=>(if ah (d=d)then
ai7 (idx c.2 d) λI=>aa (.inl (ai9.wrap (c.1+1),sX c.2 d (λQ=>x)))
else ae)
else
aa (.inr c.2))) N (0,a.2.1):Option (List (List Int))) λo=>(if(ah ((h.length:Int)=0))then
ai7 (M.cZ N a.1 a.2.2.2) λy=>aa (o,b8 a.2.2.1 a.1 (h.length:Int),y)
else
aa (o,b8 a.2.2.1 a.1 (h.length:Int),a.2.2.2)):Option ((List (List Int))×(List Int)×List Int)) λi=>aa (i.1,i.2.1,i.2.2):Option ((List (List Int))×(List Int)×List Int)) λj=>aa (.inl (ai9.wrap (a.1+1),j.1,j.2.1,j.2.2))
else
aa (.inr (a.2.1,a.2.2.1,a.2.2.2)))) N (0,u,v,([]:List Int)):Option ((List (List Int))×(List Int)×List Int)) λk=>aa (k.1,k.2.1,k.2.2):Option ((List (List Int))×(List Int)×List Int)) λl=>ai7 (Loop (S:=(List Int)×(List Int)×List Int) (X:=(List Int)×List Int) (λf=>ai7 (M.ey N f.2.2) λz=>(if(ah (0<z))then
ai7 (M.fG N f.2.2) λm=>ai7 (cu f.2.1 ([m.1]:List Int)) λA=>ai7 (idx l.1 m.1) λp=>Loop (S:=Int×(List Int)×List Int) (X:=((List Int)×(List Int)×List Int)⊕((List Int)×List Int)) (λb=>(if(ah (b.1<(p.length:Int)))then
ai7 (ai7 (idx p b.1) λe=>ai7 (idx b.2.1 e) λn=>ai7 (idx b.2.1 e) λU=>ai7 (idx (b8 b.2.1 e (ai9.wrap (n-1))) e) λC=>(if(ah (C=0))then
ai7 (M.cZ N e b.2.2) λD=>aa (b8 b.2.1 e (ai9.wrap (n-1)),D)
else
aa (b8 b.2.1 e (ai9.wrap (n-1)),b.2.2)):Option ((List Int)×List Int)) λq=>aa (.inl (ai9.wrap (b.1+1),q.1,q.2))
else
aa (.inr (.inl (b.2.1,A,b.2.2))))) N (0,f.1,m.2)
else
aa (.inr (f.2.1,f.2.2)))) N (l.2.1,([]:List Int),l.2.2):Option ((List Int)×List Int)) λr=>(if(ah ((r.1.length:Int)<(g.length:Int)))then
aa (9,([]:List Int))
else
aa (0,r.1))
def aaN:oN:=⟨.i1 [.g aM], .j1 [.val ag (.own 0), .l aB] [.own 3 aB] 1,M.dM N⟩
def Wt(N:Nat):fZ Tryz.prog 178 (aaN N):=fw (en [ck (SA N),ck (SD N),ck (Sw N),ck (SF N)] af ag) (N:=N) (.o (.meet ⟨[(4, .l (.slice (.slice aB)))],[],[],48⟩ .nil (.o (.o (.o (.meet ⟨[(5, .l (.slice (.slice aB)))],[(144, .own 3 aB),(192, .box 308 (.own 224)),(224, .own 3 aB)],[80,176],227⟩ (.o (.meet ⟨[(5, .l (.slice (.slice aB)))],[(144, .own 3 aB),(192, .box 308 (.own 272)),(272, .own 3 aB)],[80,176],275⟩ (.loop ⟨[(29, .l aB)],[(80, .deep 27 (.sl 3 (.leaf aB))),(144, .own 3 aB),(192, .box 308 (.own 272)),(272, .own 3 aB)],[176],276⟩ (.o (.o (.meet ⟨[],[(80, .deep 27 (.sl 3 (.leaf aB))),(144, .own 3 aB),(192, .box 308 (.own 292)),(292, .own 3 aB)],[272],296⟩ (.meet ⟨[],[(80, .deep 27 (.sl 3 (.leaf aB))),(144, .own 3 aB),(192, .box 308 (.own 292)),(292, .own 3 aB)],[272],296⟩ (.o (.o (.meet ⟨[],[(80, .deep 27 (.sl 3 (.leaf aB)))],[],469⟩ (.o (.two (.loop ⟨[(41, .l aB)],[(80, .deep 27 (.sl 3 (.leaf aB)))],[],517⟩ .nil) .nil)) .nil))) .nil) .nil)))) .nil)) (.o (.meet ⟨[(12, .val ag (.own 243))],[(192, .box 308 (.own 244)),(243, .own 3 aB),(244, .own 3 aB)],[144,224],246⟩ (.two (.loop ⟨[(12, .val ag (.own 243))],[(144, .own 3 aB),(192, .box 308 (.own 244)),(243, .own 3 aB),(244, .own 3 aB)],[224],247⟩ (.o (.two (.o (.o (.o (.two (.loop ⟨[(86, .l aB)],[(144, .own 3 aB),(192, .box 308 (.own 647)),(647, .own 3 aB)],[361],650⟩ (.o (.o (.two (.meet ⟨[],[(144, .own 3 aB),(192, .box 308 (.own 666)),(666, .own 3 aB)],[647],669⟩ .nil .nil) .nil)))) .nil)))) .nil))) .nil) .nil)))))))) Tryz.func178 (by kernel_rfl) λx=>by kernel_rfl
def M.oi(b:List aD.den):Option (Int×List Int):=
ai7 (M.fB N b) λa=>aa (a.2.1,a.2.2)
def aaO:Fo 206 (.i1 [.l (.slice aD)]) (.j1 [.val ag (.own 0), .l aB] [.own 3 aB] 1) (M.oi N):=fz N [Wi N] [] Tryz.func206
def M.eP(b:bP.den)(c:Int):Option (List Int):=
ai7 (idx b.1 c) λe=>ai7 (M.gu N e.1) λf=>ai7 (p6 f 0) λd=>Loop (S:=Int×Int×List Int) (X:=List Int) (λa=>(if(ah (0<=a.2.1))then
ai7 (idx a.2.2 a.2.1) λh=>ai7 (idx b.2.1 a.1) λg=>aa (.inl (ai9.wrap (g-1),ai9.wrap (a.2.1-1),b8 a.2.2 a.2.1 a.1))
else
aa (.inr a.2.2))) N (ai9.wrap (c-1),ai9.wrap ((d.length:Int)-1),d)
def aaP:Fo 231 (.i1 [.g bP, .l aB]) (.w1 3 aB) (u2 (M.eP N)):=fz N [Mi N] [O,O,O,T,O,T,P ⟨[(6, .l aB),(7, .l aB)],[(144, .own 3 aB)],[],289⟩] Tryz.func231
def M.kM(a:aD.den):Option Bool:=
ai7 (ai7 (M.gu N a.1) λb=>(if(ah (b<0))then
aa af
else(if(!ah (a.2=0))then
ai7 (M.kY N a.1) λc=>aa (!c)
else
aa ag)):Option Bool) λd=>(if d then
aa ag
else
ai7 (if(ah (a.1=14))then
aa (ah (a.1=14))
else(if(ah (a.1=15))then
aa (ah (a.1=15))
else
aa (ah (a.1=16)))) λe=>(if e then
ai7 (if(ah (0<=a.2))then
aa (ah (a.2<=5))
else
aa ag) λf=>aa f
else(if(ah (a.1=34))then
ai7 (if(ah (0<=a.2))then
aa (ah ((ajH a.2 8)<=5))
else
aa ag) λg=>aa g
else(if(ah (a.1=6))then
aa (ah (0<=a.2))
else
aa af))))
def aaQ:Fo 242 (.i1 [.g aD]) (.i1 [.l .bool]) (M.kM N):=fz N [Mi N,Wj N] [O,T,B 17 32,T,O,T,R ⟨[(20, .l .bool)],[],[],64⟩,X,T,B 2 64,O,T,B 2 96] Tryz.func242
def M.oj(N:Nat)(a:aD.den)(b:kz.den):Option Bool:=
(if(ah (a.1=7))then
ai7 (if(ah (0<=a.2))then
aa (ah (a.2<(b.2.1.length:Int)))
else
aa ag) λc=>aa c
else(if(ah (a.1=8))then
ai7 (if(ah (0<=a.2))then(if(ah (a.2<(b.2.2.1.length:Int)))then
ai7 (idx b.2.2.1 a.2) λd=>aa (!ah (d.1=0))
else
aa ag)
else
aa ag) λe=>aa e
else(if(ah (a.1=33))then
ai7 (if(ah (0<=a.2))then
aa (ah (a.2<(b.2.2.2.2.2.length:Int)))
else
aa ag) λf=>aa f
else(if(ah (a.1=34))then
aa (ah ((ai9.wrap (ajl a.2 8))<(b.2.2.2.2.2.length:Int)))
else
ai7 (if(ah (a.1=36))then
aa (ah (a.1=36))
else(if(ah (a.1=37))then
aa (ah (a.1=37))
else(if(ah (a.1=38))then
aa (ah (a.1=38))
else
aa (ah (a.1=39))))) λg=>(if g then
ai7 (if(ah (0<=a.2))then
aa (ah (a.2<(b.2.2.2.2.1.length:Int)))
else
aa ag) λh=>aa h
else
aa af)))))
def aaR:Fo 243 (.i1 [.g aD, .g kz]) (.i1 [.l .bool]) (u2 (M.oj N)):=fz N [] [O,T,O,T,O,T,B 4 112,O,T,B 4 144,O,T,B 4 176,O,O,R ⟨[(65, .l .bool)],[],[],208⟩,X,T,B 4 208] Tryz.func243
def M.dj(N:Nat)(a:aE.den):Option Bool:=
ai7 (if(!ah (a.1=6))then
aa (!ah (a.2.1=0))
else
aa ag) λb=>(if b then
aa ag
else(if(ah (a.1=1))then
ai7 (if(ah (a.2.2=0))then
aa af
else
aa (ah (a.2.2=1))) λc=>aa c
else(if(ah (a.1=2))then
ai7 (if(ah ((-1000000000000)<=a.2.2))then
aa (ah (a.2.2<=1000000000000))
else
aa ag) λd=>aa d
else(if(ah (a.1=3))then
ai7 (if(ah ((-1000000000000000)<=a.2.2))then
aa (ah (a.2.2<=1000000000000000))
else
aa ag) λe=>aa e
else(if(ah (a.1=4))then
ai7 (if(ah ((-1000000000)<=a.2.2))then
aa (ah (a.2.2<=1000000000))
else
aa ag) λf=>aa f
else(if(ah (a.1=5))then
ai7 (if(ah (0<=a.2.2))then
aa (ah (a.2.2<=109572))
else
aa ag) λg=>aa g
else(if(ah (a.1=6))then
ai7 (if(ah (0<=a.2.1))then(if(ah (a.2.1<8))then(if(ah (0<=a.2.2))then
aa (ah (a.2.2<16))
else
aa ag)
else
aa ag)
else
aa ag) λh=>aa h
else
aa ag)))))))
def Jz:Fo 247 (.i1 [.g aE]) (.i1 [.l .bool]) (M.dj N):=fz N [] [O,T,B 10 32,T,O,T,O,T,B 2 96,O,T,B 2 128,O,T,B 2 160,O,T,B 2 192,O,T,B 2 224,O,T,B 2 256] Tryz.func247
def M.jd(b:List aE.den):Option Bool:=
Loop (S:=Int) (X:=Bool) (λa=>(if(ah (a<(b.length:Int)))then
ai7 (idx b a) λc=>ai7 (M.dj N c) λd=>(if(!d)then
aa (.inr ag)
else
aa (.inl (ai9.wrap (a+1))))
else
aa (.inr af))) N 0
def aaS:Fo 244 (.i1 [.l (.slice aE)]) (.i1 [.l .bool]) (M.jd N):=fz N [Jz N] [O,T,O,T,L 7 64] Tryz.func244
def M.lJ(a:aE.den)(b:aD.den):Option Bool:=
ai7 (ai7 (M.dj N a) λc=>(if c then(if(ah (a.1=b.1))then
aa (ah (a.2.1=b.2))
else
aa ag)
else
aa ag):Option Bool) λd=>aa d
def Wu:Fo 252 (.i1 [.g aE, .g aD]) (.i1 [.l .bool]) (u2 (M.lJ N)):=fz N [Jz N] [O,B 4 48] Tryz.func252
def M.gz(N:Nat)(a:Int):Option Bool:=
ai7 (if(ah (a=2))then
aa af
else(if(ah (a=3))then
aa af
else
aa (ah (a=4)))) λb=>aa b
def SG:Fo 270 (.i1 [.l aB]) (.i1 [.l .bool]) (M.gz N):=fz N [] [O,B 2 16] Tryz.func270
def M.im(b:Int)(a:aD.den):Option Bool:=
(if(!ah (a.2=0))then
aa ag
else(if(ah (b=36))then
ai7 (if(ah (a.1=2))then
aa af
else
aa (ah (a.1=3))) λc=>aa c
else(if(ah (b=39))then
ai7 (ai7 (M.gz N a.1) λd=>(if d then
aa af
else
aa (ah (a.1=5))):Option Bool) λe=>aa e
else
aa (ah (a.1=1)))))
def aaT:Fo 253 (.i1 [.l aB, .g aD]) (.i1 [.l .bool]) (u2 (M.im N)):=fz N [SG N] [O,O,T,O,T,O,T,B 4 128,O,T,B 4 160] Tryz.func253
def M.je(b:Int)(a:Int):Option Bool:=
(if(ah (b=10))then
ai7 (M.gz N a) λc=>aa c
else(if(ah (b=25))then
aa (ah (a=1))
else
aa (ah (a=5))))
def aaU:Fo 254 (.i1 [.l aB, .l aB]) (.i1 [.l .bool]) (u2 (M.je N)):=fz N [SG N] [] Tryz.func254
def M.fo(N:Nat)(a:aE.den)(b:aE.den):Option Bool:=
ai7 (if(ah (a.1=b.1))then
aa (ah (a.2.1=b.2.1))
else
aa ag) λc=>aa c
def Wv:Fo 256 (.i1 [.g aE, .g aE]) (.i1 [.l .bool]) (u2 (M.fo N)):=fz N [] [O,B 4 48] Tryz.func256
def M.iq(a:Int)(b:aE.den)(c:aE.den):Option Bool:=
ai7 (if(ah (a=11))then
aa (ah (a=11))
else
aa (ah (a=12))) λd=>(if d then
ai7 (ai7 (M.fo N b c) λe=>(if e then
ai7 (M.gz N b.1) λf=>aa f
else
aa ag):Option Bool) λg=>aa g
else(if(ah (a=13))then
ai7 (if(ah (c.1=2))then(if(ah (b.1=2))then
aa af
else
aa (ah (b.1=3)))
else
aa ag) λh=>aa h
else(if(ah (a=14))then
ai7 (if(ah (c.1=4))then(if(ah (b.1=3))then
aa af
else
aa (ah (b.1=4)))
else
aa ag) λi=>aa i
else(if(ah (a=15))then(if(ah (c.1=2))then
ai7 (if(ah (b.1=2))then
aa af
else
aa (ah (b.1=3))) λj=>aa j
else
ai7 (if(ah (b.1=3))then
aa (ah (c.1=3))
else
aa ag) λk=>aa k)
else(if(ah (a=16))then
ai7 (if(ah (b.1=3))then
aa (ah (c.1=3))
else
aa ag) λl=>aa l
else
ai7 (if(ah (a=17))then
aa (ah (a=17))
else(if(ah (a=18))then
aa (ah (a=18))
else(if(ah (a=21))then
aa (ah (a=21))
else
aa (ah (a=22))))) λm=>(if m then
ai7 (ai7 (M.fo N b c) λn=>(if n then
ai7 (M.gz N b.1) λo=>(if o then
aa af
else
aa (ah (b.1=5)))
else
aa ag):Option Bool) λp=>aa p
else
ai7 (if(ah (a=19))then
aa (ah (a=19))
else
aa (ah (a=20))) λq=>(if q then
ai7 (M.fo N b c) λr=>aa r
else
ai7 (if(ah (a=23))then
aa (ah (a=23))
else
aa (ah (a=24))) λs=>(if s then
ai7 (if(ah (b.1=1))then
aa (ah (c.1=1))
else
aa ag) λt=>aa t
else
ai7 (if(ah (a=27))then
aa (ah (a=27))
else
aa (ah (a=28))) λu=>(if u then
ai7 (if(ah (b.1=5))then
aa (ah (c.1=2))
else
aa ag) λv=>aa v
else
ai7 (if(ah (b.1=5))then
aa (ah (c.1=5))
else
aa ag) λw=>aa w)))))))))
def aaV:Fo 255 (.i1 [.l aB, .g aE, .g aE]) (.i1 [.l .bool]) (u3 (M.iq N)):=fz N [Wv N,SG N] [O,T,O,T,R ⟨[(8, .l .bool)],[],[],64⟩,X,T,B 6 64,O,T,B 6 96,O,T,B 6 128,O,T,T,O,T,B 6 208,X,B 6 208,O,T,B 6 192,R ⟨[(80, .l .bool)],[],[],192⟩,X,T,B 6 192,R ⟨[(98, .l .bool)],[],[],192⟩,X,O,R ⟨[(104, .l .bool)],[],[],192⟩,X,T,B 6 192,R ⟨[(115, .l .bool)],[],[],192⟩,X,T,B 6 192,X,X,B 6 192] Tryz.func255
def M.nv(a:aD.den)(b:List aE.den)(c:kz.den):Option Bool:=
(if(ah (a.1=7))then
ai7 (idx c.2.1 a.2) λf=>ai7 (M.dj N f) λg=>aa g
else(if(ah (a.1=8))then
ai7 (idx c.2.2.1 a.2) λh=>ai7 (M.dj N h) λi=>aa i
else(if(ah (a.1=33))then
ai7 (idx c.2.2.2.2.2 a.2) λd=>ai7 (ai7 (idx b 0) λj=>ai7 (M.lJ N j d.2.1) λk=>(if k then(if(ah (1<=d.2.2.1.1))then
aa (ah (d.2.2.1.1<=6))
else
aa ag)
else
aa ag):Option Bool) λl=>aa l
else(if(ah (a.1=34))then
ai7 (idx c.2.2.2.2.2 (ai9.wrap (ajl a.2 8))) λe=>ai7 (ai7 (idx b 0) λm=>(if(ah (m.1=3))then(if(pT aD e.2.1 (3,0))then
aa (pT aD e.2.2.1 (4,0))
else
aa ag)
else
aa ag):Option Bool) λn=>aa n
else
ai7 (if(ah (a.1=36))then
aa (ah (a.1=36))
else(if(ah (a.1=37))then
aa (ah (a.1=37))
else(if(ah (a.1=38))then
aa (ah (a.1=38))
else
aa (ah (a.1=39))))) λo=>(if o then
ai7 (idx c.2.2.2.2.1 a.2) λp=>ai7 (M.im N a.1 p) λq=>aa q
else(if(ah ((b.length:Int)=1))then
ai7 (idx b 0) λr=>ai7 (M.je N a.1 r.1) λs=>aa s
else(if(ah ((b.length:Int)=2))then
ai7 (idx b 0) λt=>ai7 (idx b 1) λu=>ai7 (M.iq N a.1 t u) λv=>aa v
else(if(ah ((b.length:Int)=3))then
ai7 (ai7 (idx b 0) λw=>(if(ah (w.1=1))then
ai7 (idx b 1) λx=>ai7 (idx b 2) λy=>ai7 (M.fo N x y) λz=>aa z
else
aa ag):Option Bool) λA=>aa A
else
aa af))))))))
def aaW:Fo 245 (.i1 [.g aD, .l (.slice aE), .g kz]) (.i1 [.l .bool]) (u3 (M.nv N)):=fz N [Jz N,Wu N,aaT N,aaU N,aaV N,Wv N] [O,T,O,T,O,O,O,O,O,T,O,B 6 304,O,T,O,B 6 352,B 81 208,X,T,O,T,O,O,O,O,O,T,B 6 336] Tryz.func245
def M.jO(b:aD.den)(e:kz.den):Option (aE.den×Int):=
ai7 (idx e.2.2.2.2.1 b.2) λd=>ai7 ((if(ah (b.1=37))then
aa (d.1,(d.2,1))
else
aa (d.1,(d.2,0))):Option (aE.den)) λg=>ai7 (if(ah (b.1=39))then
aa (ah ((e.2.2.2.1.length:Int)=0))
else
aa ag) λh=>(if h then
aa ((0,(0,0)),6)
else
cd (J:=aE.den) (R:=aE.den×Int) (Loop (S:=Int×aE.den) (X:=(aE.den)⊕(aE.den×Int)) (λa=>(if(ah (a.1<(e.2.2.2.1.length:Int)))then
ai7 (idx e.2.2.2.1 a.1) λf=>ai7 (if(ah ((f.length:Int)<=b.2))then
aa af
else
ai7 (idx f b.2) λi=>aa (ah (i.1=0))) λj=>(if j then
aa (.inr (.inr ((0,(0,0)),6)))
else
ai7 (idx f b.2) λc=>ai7 (M.lJ N c d) λk=>(if(!k)then
aa (.inr (.inr ((0,(0,0)),8)))
else
cd (J:=aE.den) (R:=(Int×aE.den)⊕((aE.den)⊕(aE.den×Int))) ((if(ah (b.1=36))then
ai7 (M.dj N (a.2.1,(a.2.2.1,ai9.wrap (a.2.2.2+c.2.2)))) λl=>(if(!l)then
aa (.inr (.inr (.inr ((0,(0,0)),3))))
else
aa (.inl (a.2.1,(a.2.2.1,ai9.wrap (a.2.2.2+c.2.2)))))
else(if(ah (b.1=37))then
aa (.inl (a.2.1,(a.2.2.1,if c.2.2<a.2.2.2 then c.2.2 else a.2.2.2)))
else(if(ah (b.1=38))then
aa (.inl (a.2.1,(a.2.2.1,if a.2.2.2<c.2.2 then c.2.2 else a.2.2.2)))
else(if(ah (b.1=39))then
ai7 (if(ah (a.1=0))then
aa af
else
aa (ah (a.2.2.2<c.2.2))) λm=>(if m then
aa (.inl c)
else
aa (.inl a.2))
else
aa (.inl a.2)))))) λn=>aa (.inl (ai9.wrap (a.1+1),n))))
else
aa (.inr (.inl a.2)))) N (0,g)) λo=>aa (o,0))
def aaX:Fo 257 (.i1 [.g aD, .g kz]) (.i1 [.g aE, .l aB]) (u2 (M.jO N)):=fz N [Jz N,Wu N] [O,O,O,R ⟨[],[(272, .box 49 (.leaf aE))],[],305⟩,X,T,B 34 305,J ⟨[],[(272, .box 49 (.leaf aE))],[],306⟩,O,T,P ⟨[(39, .l aB)],[(272, .box 49 (.leaf aE))],[],370⟩,O,O,T,T,O,T,B 57 466,O,O,O,J ⟨[],[(272, .box 49 (.leaf aE))],[],675⟩,O,O,O,O,O,O,O,T,B 109 802] Tryz.func257
def M.kZ(a:kw.den)(c:Int)(b:Int):Option (Bool×Int×Int):=
ai7 (ai7 (M.cg N a.1 c) λd=>(if d then(if(ah (a.2.1<=b))then
aa (ah (b<a.2.2.1))
else
aa ag)
else
aa ag):Option Bool) λe=>aa (e,c,b)
def SH:Fo 271 (.j1 [.g kw, .ptr 0 [] 0, .ptr 1 [] 0] [.box 3 (.leaf aB), .box 3 (.leaf aB)] 2) (.j1 [.l .bool] [.box 3 (.leaf aB), .box 3 (.leaf aB)] 4) (u3 (M.kZ N)):=fz N [X6 N] [O,B 4 34] Tryz.func271
def M.c7(c:List kw.den)(d:Int)(e:Int):Option (Int×Bool×Int×Int):=
Loop (S:=Int×Int×Int) (X:=Int×Bool×Int×Int) (λa=>(if(ah (a.1<(c.length:Int)))then
ai7 (idx c a.1) λf=>ai7 (M.kZ N f a.2.1 a.2.2) λb=>(if b.1 then
aa (.inr (a.1,af,b.2.1,b.2.2))
else
aa (.inl (ai9.wrap (a.1+1),b.2.1,b.2.2)))
else
aa (.inr (0,ag,a.2.1,a.2.2)))) N (0,d,e)
def SI:Fo 182 (.j1 [.l (.slice kw), .fn 271 [(0,[],0),(1,[],0)]] [.box 3 (.leaf aB), .box 3 (.leaf aB)] 2) (.j1 [.l aB, .l .bool] [.box 3 (.leaf aB), .box 3 (.leaf aB)] 4) (u3 (M.c7 N)):=fz N [SH N] [O,T,O,T,P ⟨[(10, .l aB)],[(0, .box 3 (.leaf aB)),(1, .box 3 (.leaf aB))],[],84⟩] Tryz.func182
def M.nw(b:bl.den)(c:Int)(d:Int):Option (Int×Bool):=
ai7 (M.c7 N b.2.2.2 c d) λa=>aa (a.1,a.2.1)
def aaY:Fo 258 (.i1 [.g bl, .l aB, .l aB]) (.i1 [.l aB, .l .bool]) (u3 (M.nw N)):=fz N [SI N] [] Tryz.func258
def M.eT(N:Nat)(a:Int)(b:Int):Option (Int×Int):=
aa (ajc.wrap ((ajc.wrap ((ajc.wrap ((gF .u64 a 32)*(gF .u64 b 32)))+(gF .u64 (ajc.wrap ((ajc.wrap ((gF .u64 a 32)*(fI .and .u64 b 4294967295)))+(gF .u64 (ajc.wrap ((fI .and .u64 a 4294967295)*(fI .and .u64 b 4294967295))) 32))) 32)))+(gF .u64 (ajc.wrap ((fI .and .u64 (ajc.wrap ((ajc.wrap ((gF .u64 a 32)*(fI .and .u64 b 4294967295)))+(gF .u64 (ajc.wrap ((fI .and .u64 a 4294967295)*(fI .and .u64 b 4294967295))) 32))) 4294967295)+(ajc.wrap ((fI .and .u64 a 4294967295)*(gF .u64 b 32))))) 32)),ajc.wrap (a*b))
def O2:Fo 143 (.i1 [.l (.int .u64), .l (.int .u64)]) (.i1 [.l (.int .u64), .l (.int .u64)]) (u2 (M.eT N)):=fz N [] [] Tryz.func143
def M.kN(N:Nat)(c:Int):Option Int:=
ai7 ((if(ah (4294967296<=c))then
aa (gF .u64 c 32,32)
else
aa (c,0)):Option (Int×Int)) λa=>ai7 ((if(ah (65536<=a.1))then
aa (gF .u64 a.1 16,ai9.wrap (a.2+16))
else
aa (a.1,a.2)):Option (Int×Int)) λb=>ai7 ((if(ah (256<=b.1))then
aa (gF .u64 b.1 8,ai9.wrap (b.2+8))
else
aa (b.1,b.2)):Option (Int×Int)) λd=>ai7 (me (⟨#[0,1,2,2,3,3,3,3,4,4,4,4,4,4,4,4,5,5,5,5,5,5,5,5,5,5,5,5,5,5,5,5,6,6,6,6,6,6,6,6,6,6,6,6,6,6,6,6,6,6,6,6,6,6,6,6,6,6,6,6,6,6,6,6,7,7,7,7,7,7,7,7,7,7,7,7,7,7,7,7,7,7,7,7,7,7,7,7,7,7,7,7,7,7,7,7,7,7,7,7,7,7,7,7,7,7,7,7,7,7,7,7,7,7,7,7,7,7,7,7,7,7,7,7,7,7,7,7,8,8,8,8,8,8,8,8,8,8,8,8,8,8,8,8,8,8,8,8,8,8,8,8,8,8,8,8,8,8,8,8,8,8,8,8,8,8,8,8,8,8,8,8,8,8,8,8,8,8,8,8,8,8,8,8,8,8,8,8,8,8,8,8,8,8,8,8,8,8,8,8,8,8,8,8,8,8,8,8,8,8,8,8,8,8,8,8,8,8,8,8,8,8,8,8,8,8,8,8,8,8,8,8,8,8,8,8,8,8,8,8,8,8,8,8,8,8,8,8,8,8,8,8,8,8,8,8]⟩:ByteArray) (IntKind.u8.wrap d.1)) λe=>aa (ai9.wrap (d.2+(ai9.wrap e)))
def aaZ:Fo 114 (.i1 [.l (.int .u64)]) (.i1 [.l aB]) (M.kN N):=fz N [] [O,R ⟨[(0, .l (.int .u64)),(2, .l aB)],[],[],16⟩,X,R ⟨[(0, .l (.int .u64)),(2, .l aB)],[],[],16⟩,X,R ⟨[(0, .l (.int .u64)),(2, .l aB)],[],[],16⟩] Tryz.func114
def M.gA(a:Int):Option Int:=
ai7 (M.kN N a) λb=>aa (ai9.wrap (64-b))
def aa0:Fo 169 (.i1 [.l (.int .u64)]) (.i1 [.l aB]) (M.gA N):=fz N [aaZ N] [] Tryz.func169
def M.dW(k:Int)(i:Int)(d:Int):Option (Int×Int):=
(if(ah (d=0))then
ae
else(if(ah (d<=k))then
ae
else(if(ah (k=0))then
ai7 (yq i d) λo=>ai7 (EK i d) λp=>aa (ajc.wrap o,p)
else
ai7 (M.gA N d) λf=>ai7 (IA .u64 d (ajc.wrap f)) λa=>ai7 (IA .u64 k (ajc.wrap f)) λg=>ai7 (Cc .u64 i (ajc.wrap (64-(ajc.wrap f)))) λh=>ai7 (IA .u64 i (ajc.wrap f)) λe=>ai7 (yq (fI .or .u64 g h) (gF .u64 a 32)) λl=>ai7 (ai7 (Loop (S:=Int×Int) (X:=Int) (λb=>ai7 (if(ah (4294967296<=b.1))then
aa af
else
aa (ah ((ajc.wrap ((ajc.wrap (4294967296*b.2))+(gF .u64 e 32)))<(ajc.wrap (b.1*(fI .and .u64 a 4294967295)))))) λq=>(if q then(if(ah (4294967296<=(ajc.wrap (b.2+(gF .u64 a 32)))))then
aa (.inr (ajc.wrap (b.1-1)))
else
aa (.inl (ajc.wrap (b.1-1),ajc.wrap (b.2+(gF .u64 a 32)))))
else
aa (.inr b.1))) N (ajc.wrap l,ajc.wrap ((fI .or .u64 g h)-(ajc.wrap ((ajc.wrap l)*(gF .u64 a 32))))):Option Int) λr=>aa r:Option Int) λj=>ai7 (yq (ajc.wrap ((ajc.wrap ((ajc.wrap ((fI .or .u64 g h)*4294967296))+(gF .u64 e 32)))-(ajc.wrap (j*a)))) (gF .u64 a 32)) λm=>ai7 (ai7 (Loop (S:=Int×Int) (X:=Int) (λc=>ai7 (if(ah (4294967296<=c.2))then
aa af
else
aa (ah ((ajc.wrap ((ajc.wrap (4294967296*c.1))+(fI .and .u64 e 4294967295)))<(ajc.wrap (c.2*(fI .and .u64 a 4294967295)))))) λs=>(if s then(if(ah (4294967296<=(ajc.wrap (c.1+(gF .u64 a 32)))))then
aa (.inr (ajc.wrap (c.2-1)))
else
aa (.inl (ajc.wrap (c.1+(gF .u64 a 32)),ajc.wrap (c.2-1))))
else
aa (.inr c.2))) N (ajc.wrap ((ajc.wrap ((ajc.wrap ((ajc.wrap ((fI .or .u64 g h)*4294967296))+(gF .u64 e 32)))-(ajc.wrap (j*a))))-(ajc.wrap ((ajc.wrap m)*(gF .u64 a 32)))),ajc.wrap m):Option Int) λt=>aa t:Option Int) λn=>ai7 (Cc .u64 (ajc.wrap ((ajc.wrap ((ajc.wrap ((ajc.wrap ((ajc.wrap ((ajc.wrap ((fI .or .u64 g h)*4294967296))+(gF .u64 e 32)))-(ajc.wrap (j*a))))*4294967296))+(fI .and .u64 e 4294967295)))-(ajc.wrap (n*a)))) (ajc.wrap f)) λu=>aa (ajc.wrap ((ajc.wrap (j*4294967296))+n),u))))
def SJ:Fo 144 (.i1 [.l (.int .u64), .l (.int .u64), .l (.int .u64)]) (.i1 [.l (.int .u64), .l (.int .u64)]) (u3 (M.dW N)):=fz N [aa0 N] [O,O,O,O,O,O,O,O,O,O,O,O,O,O,R ⟨[(15, .l (.int .u64))],[],[],832⟩,R ⟨[(15, .l (.int .u64))],[],[],832⟩,P ⟨[(15, .l (.int .u64)),(16, .l (.int .u64))],[],[],832⟩,T,B 78 832,X,X,O,O,O,R ⟨[(18, .l (.int .u64))],[],[],1136⟩,R ⟨[(18, .l (.int .u64))],[],[],1136⟩,P ⟨[(16, .l (.int .u64)),(18, .l (.int .u64))],[],[],1136⟩,T,B 113 1136] Tryz.func144
def M.ir(d:Int)(b:Int):Option (Int×Int×Bool):=
ai7 ((if(ah (b<0))then
aa (ajc.wrap (0-(ajc.wrap b)))
else
aa (ajc.wrap b)):Option Int) λe=>ai7 (M.eT N (ajc.wrap d) e) λc=>(if(ah (1000000<=c.1))then
aa (0,0,ag)
else
ai7 (M.dW N c.1 c.2 1000000) λa=>(if(ah (1000000000000000<a.1))then
aa (0,0,ag)
else(if(ah (b<0))then
aa (ai9.wrap (0-(ai9.wrap a.1)),ai9.wrap (0-(ai9.wrap a.2)),af)
else
aa (ai9.wrap a.1,ai9.wrap a.2,af))))
def aa1:Fo 272 (.i1 [.l aB, .l aB]) (.i1 [.l aB, .l aB, .l .bool]) (u2 (M.ir N)):=fz N [O2 N,SJ N] [O,O,R ⟨[(7, .l (.int .u64))],[],[],96⟩] Tryz.func272
def M.fQ(N:Nat)(a:Int):Option Bool:=
ai7 (if(ah (0<=a))then
aa (ah (a<=5))
else
aa ag) λb=>aa b
def SK:Fo 124 (.i1 [.l aB]) (.i1 [.l .bool]) (M.fQ N):=fz N [] [O,B 2 16] Tryz.func124
def M.eB(N:Nat)(a:Int)(b:Int):Option Bool:=
ai7 (if(ah (b<a))then
aa af
else
aa (ah (a<(ai9.wrap (0-b))))) λc=>aa c
def SL:Fo 125 (.i1 [.l aB, .l aB]) (.i1 [.l .bool]) (u2 (M.eB N)):=fz N [] [O,B 4 16] Tryz.func125
def M.dX(N:Nat)(a:Int):Option Int:=
(if(ah (a<0))then
aa (ajc.wrap (0-(ajc.wrap a)))
else
aa (ajc.wrap a))
def Ww:Fo 126 (.i1 [.l aB]) (.i1 [.l (.int .u64)]) (M.dX N):=fz N [] [] Tryz.func126
def M.cW(N:Nat)(c:Int)(a:Int)(d:Int)(e:Bool)(b:Int):Option Int:=
(if(ah (a=0))then
aa c
else
ai7 (if(ah (b=0))then
aa e
else(if(ah (b=1))then
aa (!e)
else(if(ah (b=3))then
aa af
else(if(ah (b=4))then
aa (ah ((ajc.wrap (d-a))<=a))
else(if(ah (b=5))then(if(ah ((ajc.wrap (d-a))<a))then
aa af
else(if(ah (a=(ajc.wrap (d-a))))then
aa (ah ((ajH c 2)=1))
else
aa ag))
else
aa ag))))) λf=>ai7 ((if f then
aa (ajc.wrap (c+1))
else
aa c):Option Int) λg=>aa g)
def Wx:Fo 127 (.i1 [.l (.int .u64), .l (.int .u64), .l (.int .u64), .l .bool, .l aB]) (.i1 [.l (.int .u64)]) (u5 (M.cW N)):=fz N [] [O,O,O,T,O,B 11 80,R ⟨[(0, .l (.int .u64))],[],[],80⟩] Tryz.func127
def M.jP(N:Nat)(a:Int)(b:Bool):Option Int:=
(if b then
aa (ai9.wrap (0-(ai9.wrap a)))
else
aa (ai9.wrap a))
def Wy:Fo 128 (.i1 [.l (.int .u64), .l .bool]) (.i1 [.l aB]) (u2 (M.jP N)):=fz N [] [] Tryz.func128
def M.dm(b:Int)(a:Int)(d:Int):Option (Int×Int):=
ai7 (M.fQ N d) λf=>(if(!f)then
aa (0,1)
else(if(ah (a=0))then
aa (0,12)
else
ai7 (ai7 (M.eB N b 4611686018427387904) λg=>(if g then
aa af
else
ai7 (M.eB N a 4611686018427387904) λh=>aa h):Option Bool) λi=>(if i then
aa (0,3)
else
ai7 (M.dX N b) λe=>ai7 (M.dX N a) λc=>ai7 (yq e c) λj=>ai7 (EK e c) λk=>ai7 (M.cW N (ajc.wrap j) k c (!ah ((ah (b<0))=(ah (a<0)))) d) λl=>ai7 (M.jP N l (!ah ((ah (b<0))=(ah (a<0))))) λm=>aa (m,0))))
def Wz:Fo 86 (.i1 [.l aB, .l aB, .l aB]) (.i1 [.l aB, .l aB]) (u3 (M.dm N)):=fz N [SK N,SL N,Ww N,Wx N,Wy N] [O,O,O,T,B 22 112] Tryz.func86
def M.jH(b:Int)(a:Int)(e:Int):Option (Int×Int):=
ai7 (if(ah ((ai9.wrap (b+(ai9.wrap (ajl a 1000000))))<(-2000000000000000)))then
aa af
else
aa (ah (2000000000000000<(ai9.wrap (b+(ai9.wrap (ajl a 1000000))))))) λf=>(if f then
aa (0,3)
else
ai7 ((if(ah (1<(ai9.wrap (b+(ai9.wrap (ajl a 1000000))))))then
aa (ai9.wrap ((ajH (ai9.wrap (b+(ai9.wrap (ajl a 1000000)))) 2)+2))
else(if(ah ((ai9.wrap (b+(ai9.wrap (ajl a 1000000))))<(-1)))then
aa (ai9.wrap ((ajH (ai9.wrap (b+(ai9.wrap (ajl a 1000000)))) 2)-2))
else
aa (ajH (ai9.wrap (b+(ai9.wrap (ajl a 1000000)))) 2))):Option Int) λd=>ai7 (M.dm N (ai9.wrap ((ai9.wrap (d*1000000))+(ajH a 1000000))) 1000000 e) λc=>(if(!ah (c.2=0))then
aa (0,c.2)
else
ai7 (if(ah ((ai9.wrap ((ai9.wrap ((ai9.wrap (b+(ai9.wrap (ajl a 1000000))))-d))+c.1))<(-1000000000000000)))then
aa af
else
aa (ah (1000000000000000<(ai9.wrap ((ai9.wrap ((ai9.wrap (b+(ai9.wrap (ajl a 1000000))))-d))+c.1))))) λg=>(if g then
aa (0,3)
else
aa (ai9.wrap ((ai9.wrap ((ai9.wrap (b+(ai9.wrap (ajl a 1000000))))-d))+c.1),0))))
def aa2:Fo 273 (.i1 [.l aB, .l aB, .l aB]) (.i1 [.l aB, .l aB]) (u3 (M.jH N)):=fz N [Wz N] [O,O,O,T,B 23 160,O,T,R ⟨[(8, .l aB)],[],[],208⟩,X,X,O,O,O,T,B 58 512] Tryz.func273
end
end
end Go.Proofs.YtleifhfeahnocaaGreatDoor
