/- Joined texts: LD Model. -/
import Derived.Test.YtleifhfeahnocaaGreatDoorU8
import Derived.Test.YtleifhfeahnocaaGreatDoorU6
import Derived.Test.YtleifhfeahnocaaGreatDoorU4
import Derived.Test.YtleifhfeahnocaaGreatDoorProg
import Derived.Test.YtleifhfeahnocaaGreatDoorU5
import Derived.Test.YtleifhfeahnocaaGreatDoorU7
set_option linter.defProp false
open _root_.Bool renaming false->ag,true->af
open _root_.Go.Value renaming int->ajm
open _root_.Decidable renaming decide->ah
open _root_.Option renaming none->ae,some->aa,bind->aiC
open _root_.Int renaming tdiv->aiQ,tmod->ajd
open _root_.Go.IntKind renaming i64->aiE,u64->aiH
open _root_.List renaming forall_mem_cons->aj6
open _root_.Nat renaming beq->aiK
namespace Go.Proofs.YtleifhfeahnocaaGreatDoor
open Go Go.RowKit
set_option maxRecDepth 100000
set_option linter.unusedSimpArgs false
set_option linter.unusedVariables false
set_option linter.defProp false
section
open Go Go.RowKit Go.Shelf Go.Lib Go.Sort
def zj(x:Int):Bool:=decide (x<1)||decide (109572<x)
def LX(x:Int)(W:World):FnGives Tryz.prog 134 #[] #[.int .i64 x] (.bool (zj x)) W:=by
 show Calls Tryz.prog 134 #[.int .i64 x] W _
 go_enter Tryz.func134,Tryz.ntmps134
 go_wp2
 all_goals (go_ret;exact⟨by simp_all[zj],0,rfl⟩)
def Fs:fN Tryz.prog 133 ⟨⟨[(0, .val ag (.own 0)),(1, .fn 134 [])],[(0, .own 3 aB)],[],1⟩,⟨[(0, .val ag (.own 1))],[(1, .own 3 aB)],[],2⟩,λx=>pq zj x⟩:=by
 refine Jh (g:=134) (p:=zj) ⟨_,Tryz.func133,by kernel_rfl,by kernel_rfl⟩ (λny off cap zs w hH kP vg=>?_) (λw=>?_)
 .have eg:∀args w,(callFunc 134 args).run Tryz.prog w= .ok (.enter 134 args) w:=enters_of Tryz.func134 (by kernel_rfl) rfl;have:=Tryz.slices_DeleteFunc (ajm .i64) (λ_=>rfl) zj 134 #[] eg 0 Tryz.zeroValue3 ny off cap zs.toArray w (λW x _=>LX x W) (λn os dk x _=>LX x _) hH (by simpa using kP) (by simpa using vg);simpa using this
 .exact Fp Tryz.qh _ w
end
section
noncomputable section
open Tk
variable (N:Nat)
set_option maxRecDepth 100000
set_option linter.unusedVariables false
@[reducible] def aD:Row:= .pair aB aB
@[reducible] def bA:Row:= .pair .str aD
@[reducible] def da:Row:= .pair .str (.pair aB (.pair aB (.pair aB (.pair aD (.pair (.slice aD) (.pair (.slice aD) .str))))))
@[reducible] def aM:Row:= .pair .str (.pair aB (.pair (.slice bA) (.pair (.slice bA) (.slice da))))
@[reducible] def dY:Row:= .pair .str (.slice .str)
@[reducible] def ki:Row:= .pair aD (.pair aB aD)
@[reducible] def bm:Row:= .pair .str (.pair aD (.pair aD (.slice ki)))
@[reducible] def bV:Row:= .pair (.slice dY) (.pair (.slice bm) (.slice aM))
@[reducible] def aE:Row:= .pair aB aD
@[reducible] def bj:Row:= .pair aB (.pair aB (.pair aB (.pair aE (.pair aD aB))))
@[reducible] def bB:Row:= .pair aB (.pair aB (.pair aB (.slice bj)))
@[reducible] def cO:Row:= .pair aB (.slice aB)
@[reducible] def aS:Row:= .pair aB (.pair aB (.pair aB (.pair aB (.pair aB (.pair aB (.pair aB cO))))))
@[reducible] def b7:Row:= .pair aB (.pair aB (.pair aB (.pair aB (.pair aB (.pair aB (.pair aB (.pair aB bj)))))))
@[reducible] def aC:Row:= .pair aB aE
@[reducible] def aP:Row:= .pair aB (.pair aB (.pair aB aC))
@[reducible] def bH:Row:= .pair bB (.pair (.slice aC) (.pair (.slice aP) aD))
@[reducible] def bT:Row:= .pair (.slice dY) (.pair (.slice bm) (.pair (.slice aD) (.pair (.slice aD) (.pair (.slice aD) .bool))))
@[reducible] def nV:Row:= .pair aB (.pair (.slice aE) (.slice (.slice aE)))
@[reducible] def rp:Row:= .pair aM (.pair aM (.pair (.slice .bool) (.slice .bool)))
@[reducible] def kj:Row:= .pair aB (.pair (.slice aE) (.pair (.slice aE) (.pair (.slice (.slice aE)) (.pair (.slice aD) (.slice bm)))))
@[reducible] def bJ:Row:= .pair (.slice aD) (.pair (.slice aB) kj)
@[reducible] def gF:Row:= .pair (.slice aB) (.pair (.slice aB) (.slice aB))
@[reducible] def bY:Row:= .pair (.slice aE) (.slice aB)
@[reducible] def G5:Row:= .pair (.slice aE) (.pair (.slice aB) (.slice bY))
def uP:TI Tryz.prog 3 aB:=TI.mk (k:=1) (by kernel_rfl) rfl
def Ti4:TI Tryz.prog 4 .bool:=TI.mk (k:=1) (by kernel_rfl) rfl
def Ti9:TI Tryz.prog 9 .str:=TI.mk (k:=1) (by kernel_rfl) rfl
def Y3:TI Tryz.prog 22 (.slice dY):=TI.mk (k:=1) (by kernel_rfl) rfl
def Y4:TI Tryz.prog 23 (.slice bm):=TI.mk (k:=1) (by kernel_rfl) rfl
def Y5:TI Tryz.prog 24 (.slice aM):=TI.mk (k:=1) (by kernel_rfl) rfl
def Y6:TI Tryz.prog 26 bV:=TI.mk (k:=3) (by kernel_rfl) rfl
def Y7:TI Tryz.prog 27 (.slice aB):=TI.mk (k:=1) (by kernel_rfl) rfl
def Y8:TI Tryz.prog 29 cO:=TI.mk (k:=2) (by kernel_rfl) rfl
def Y9:TI Tryz.prog 31 aS:=TI.mk (k:=9) (by kernel_rfl) rfl
def Za:TI Tryz.prog 32 (.slice bj):=TI.mk (k:=1) (by kernel_rfl) rfl
def Zb:TI Tryz.prog 34 bB:=TI.mk (k:=4) (by kernel_rfl) rfl
def Zc:TI Tryz.prog 40 (.slice aC):=TI.mk (k:=1) (by kernel_rfl) rfl
def Zd:TI Tryz.prog 41 (.slice aP):=TI.mk (k:=1) (by kernel_rfl) rfl
def Ze:TI Tryz.prog 43 bH:=TI.mk (k:=8) (by kernel_rfl) rfl
def U7:TI Tryz.prog 45 aB:=TI.mk (k:=1) (by kernel_rfl) rfl
def U8:TI Tryz.prog 49 aE:=TI.mk (k:=3) (by kernel_rfl) rfl
def U9:TI Tryz.prog 51 aD:=TI.mk (k:=2) (by kernel_rfl) rfl
def Zf:TI Tryz.prog 53 bj:=TI.mk (k:=9) (by kernel_rfl) rfl
def Zg:TI Tryz.prog 55 b7:=TI.mk (k:=17) (by kernel_rfl) rfl
def Zh:TI Tryz.prog 67 aE:=TI.mk (k:=3) (by kernel_rfl) rfl
def Zi:TI Tryz.prog 70 (.slice .str):=TI.mk (k:=1) (by kernel_rfl) rfl
def Zj:TI Tryz.prog 72 dY:=TI.mk (k:=2) (by kernel_rfl) rfl
def Zk:TI Tryz.prog 74 aD:=TI.mk (k:=2) (by kernel_rfl) rfl
def Zl:TI Tryz.prog 75 (.slice ki):=TI.mk (k:=1) (by kernel_rfl) rfl
def Zm:TI Tryz.prog 77 bm:=TI.mk (k:=6) (by kernel_rfl) rfl
def Zn:TI Tryz.prog 78 (.slice bA):=TI.mk (k:=1) (by kernel_rfl) rfl
def Zo:TI Tryz.prog 79 (.slice da):=TI.mk (k:=1) (by kernel_rfl) rfl
def Zp:TI Tryz.prog 81 aM:=TI.mk (k:=5) (by kernel_rfl) rfl
def Zq:TI Tryz.prog 87 aC:=TI.mk (k:=4) (by kernel_rfl) rfl
def Va:TI Tryz.prog 103 aP:=TI.mk (k:=7) (by kernel_rfl) rfl
def Vb:TI Tryz.prog 114 aC:=TI.mk (k:=4) (by kernel_rfl) rfl
def Vc:TI Tryz.prog 127 bA:=TI.mk (k:=3) (by kernel_rfl) rfl
def Vd:TI Tryz.prog 128 (.slice aD):=TI.mk (k:=1) (by kernel_rfl) rfl
def Ve:TI Tryz.prog 130 da:=TI.mk (k:=9) (by kernel_rfl) rfl
def Vf:TI Tryz.prog 133 aD:=TI.mk (k:=2) (by kernel_rfl) rfl
def Vg:TI Tryz.prog 163 (.slice aE):=TI.mk (k:=1) (by kernel_rfl) rfl
def Vh:TI Tryz.prog 164 (.slice (.slice aE)):=TI.mk (k:=1) (by kernel_rfl) rfl
def Vi:TI Tryz.prog 166 nV:=TI.mk (k:=3) (by kernel_rfl) rfl
def Vj:TI Tryz.prog 170 aC:=TI.mk (k:=4) (by kernel_rfl) rfl
def Vk:TI Tryz.prog 180 aC:=TI.mk (k:=4) (by kernel_rfl) rfl
def Vm:TI Tryz.prog 216 (.slice bY):=TI.mk (k:=1) (by kernel_rfl) rfl
def Vn:TI Tryz.prog 218 G5:=TI.mk (k:=3) (by kernel_rfl) rfl
def Vo:TI Tryz.prog 219 (.slice aD):=TI.mk (k:=1) (by kernel_rfl) rfl
def Vp:TI Tryz.prog 221 kj:=TI.mk (k:=6) (by kernel_rfl) rfl
def Vq:TI Tryz.prog 232 ki:=TI.mk (k:=5) (by kernel_rfl) rfl
def Vr:TI Tryz.prog 241 (.int .u64):=TI.mk (k:=1) (by kernel_rfl) rfl
def Vs:TI Tryz.prog 252 (.slice .bool):=TI.mk (k:=1) (by kernel_rfl) rfl
def Vt:TI Tryz.prog 254 rp:=TI.mk (k:=12) (by kernel_rfl) rfl
def Vu:TI Tryz.prog 260 bY:=TI.mk (k:=2) (by kernel_rfl) rfl
def Vv:TI Tryz.prog 301 bT:=TI.mk (k:=6) (by kernel_rfl) rfl
def Vw:TI Tryz.prog 308 (.slice aB):=TI.mk (k:=1) (by kernel_rfl) rfl
def Vx:TI Tryz.prog 316 bJ:=TI.mk (k:=8) (by kernel_rfl) rfl
def Vy:TI Tryz.prog 343 gF:=TI.mk (k:=3) (by kernel_rfl) rfl
def xQ:oq Tryz.prog 3 aB 1:=Gr Tryz.underlying3
def Zr:oq Tryz.prog 74 aD 2:=kQ Tryz.underlying74 (by kernel_rfl) (dh rfl rfl Tryz.underlying3 (by simp[fA]) uP xQ (nA rfl rfl Tryz.underlying3 (by simp[fA]) uP xQ))
def Zs:oq Tryz.prog 45 aB 1:=Gr Tryz.underlying45
def Vz:oq Tryz.prog 180 aC 2:=kQ Tryz.underlying180 (by kernel_rfl) (dh rfl rfl Tryz.underlying45 (by simp[fA]) U7 Zs (dh rfl rfl Tryz.underlying3 (by simp[fA]) uP xQ (dh rfl rfl Tryz.underlying3 (by simp[fA]) uP xQ (nA rfl rfl Tryz.underlying3 (by simp[fA]) uP xQ))))
def VA:oq Tryz.prog 49 aE 2:=kQ Tryz.underlying49 (by kernel_rfl) (dh rfl rfl Tryz.underlying3 (by simp[fA]) uP xQ (dh rfl rfl Tryz.underlying3 (by simp[fA]) uP xQ (nA rfl rfl Tryz.underlying3 (by simp[fA]) uP xQ)))
def VB:oq Tryz.prog 51 aD 2:=kQ Tryz.underlying51 (by kernel_rfl) (dh rfl rfl Tryz.underlying3 (by simp[fA]) uP xQ (nA rfl rfl Tryz.underlying3 (by simp[fA]) uP xQ))
def G6:oq Tryz.prog 3 aB 2:=xQ.lift 1
def Zt:oq Tryz.prog 53 bj 3:=kQ Tryz.underlying53 (by kernel_rfl) (dh rfl rfl Tryz.underlying3 (by simp[fA]) uP G6 (dh rfl rfl Tryz.underlying3 (by simp[fA]) uP G6 (dh rfl rfl Tryz.underlying3 (by simp[fA]) uP G6 (dh rfl rfl Tryz.underlying49 (by intro h;cases h) U8 VA (dh rfl rfl Tryz.underlying51 (by intro h;cases h) U9 VB (nA rfl rfl Tryz.underlying3 (by simp[fA]) uP G6))))))
def Zu:oq Tryz.prog 87 aC 2:=kQ Tryz.underlying87 (by kernel_rfl) (dh rfl rfl Tryz.underlying3 (by simp[fA]) uP xQ (dh rfl rfl Tryz.underlying3 (by simp[fA]) uP xQ (dh rfl rfl Tryz.underlying3 (by simp[fA]) uP xQ (nA rfl rfl Tryz.underlying3 (by simp[fA]) uP xQ))))
def VC:oq Tryz.prog 103 aP 2:=kQ Tryz.underlying103 (by kernel_rfl) (dh rfl rfl Tryz.underlying3 (by simp[fA]) uP xQ (dh rfl rfl Tryz.underlying3 (by simp[fA]) uP xQ (dh rfl rfl Tryz.underlying3 (by simp[fA]) uP xQ (dh rfl rfl Tryz.underlying3 (by simp[fA]) uP xQ (dh rfl rfl Tryz.underlying3 (by simp[fA]) uP xQ (dh rfl rfl Tryz.underlying3 (by simp[fA]) uP xQ (nA rfl rfl Tryz.underlying3 (by simp[fA]) uP xQ)))))))
def tu:∀p∈([(3, .int .i64),(4, .bool),(5, .int .u8),(9, .str),(20, .other),(22, .slice 72),(23, .slice 77),(24, .slice 81),(26, .struct [(22,0),(23,1),(24,2)]),(27, .slice 3),(29, .struct [(3,0),(27,1)]),(31, .struct [(3,0),(3,1),(3,2),(3,3),(3,4),(3,5),(3,6),(29,7)]),(32, .slice 53),(34, .struct [(3,0),(3,1),(3,2),(32,3)]),(35, .slice 55),(40, .slice 87),(41, .slice 103),(43, .struct [(34,0),(40,4),(41,5),(3,6),(3,7)]),(45, .int .i64),(49, .struct [(3,0),(3,1),(3,2)]),(51, .struct [(3,0),(3,1)]),(53, .struct [(3,0),(3,1),(3,2),(49,3),(51,6),(3,8)]),(55, .struct [(3,0),(3,1),(3,2),(3,3),(3,4),(3,5),(3,6),(3,7),(53,8)]),(67, .struct [(3,0),(3,1),(45,2)]),(70, .slice 9),(72, .struct [(9,0),(70,1)]),(74, .struct [(3,0),(3,1)]),(75, .slice 232),(77, .struct [(9,0),(74,1),(74,3),(75,5)]),(78, .slice 127),(79, .slice 130),(81, .struct [(9,0),(3,1),(78,2),(78,3),(79,4)]),(82, .other),(87, .struct [(3,0),(3,1),(3,2),(3,3)]),(91, .other),(94, .ptr 43),(103, .struct [(3,0),(3,1),(3,2),(3,3),(3,4),(3,5),(3,6)]),(111, .slice 114),(114, .struct [(3,0),(3,1),(3,2),(3,3)]),(121, .slice 51),(127, .struct [(9,0),(74,1)]),(128, .slice 133),(130, .struct [(9,0),(3,1),(3,2),(3,3),(51,4),(128,6),(128,7),(9,8)]),(133, .struct [(3,0),(3,1)]),(151, .other),(156, .int .u64),(157, .other),(158, .slice 67),(163, .slice 49),(164, .slice 163),(166, .struct [(3,0),(163,1),(164,2)]),(170, .struct [(45,0),(3,1),(3,2),(3,3)]),(180, .struct [(45,0),(3,1),(3,2),(3,3)]),(187, .map 3 3),(200, .int .u32),(202, .int .u64),(203, .map 3 40),(205, .map 3 114),(213, .ptr 254),(216, .slice 260),(218, .struct [(163,0),(27,1),(216,2)]),(219, .slice 74),(221, .struct [(3,0),(163,1),(163,2),(164,3),(219,4),(23,5)]),(227, .slice 27),(232, .struct [(51,0),(3,2),(3,3),(3,4)]),(234, .map 3 4),(241, .int .u64),(245, .ptr 3),(247, .array 12 3),(252, .slice 4),(254, .struct [(81,0),(81,5),(252,10),(252,11)]),(258, .ptr 221),(260, .struct [(163,0),(27,1)]),(272, .ptr 241),(291, .other),(295, .other),(297, .other),(301, .struct [(22,0),(23,1),(219,2),(219,3),(219,4),(4,5)]),(307, .ptr 308),(308, .slice 3),(316, .struct [(128,0),(27,1),(221,2)]),(324, .other),(328, .other),(332, .other),(343, .struct [(27,0),(27,1),(27,2)])]:List (Nat×J7)),yC Tryz.prog p.1 p.2:=by
 simp only[aj6];exact⟨Tryz.underlying3,Tryz.underlying4,Tryz.underlying5,Tryz.underlying9,⟨_,Tryz.underlying20,rfl⟩,Tryz.underlying22,Tryz.underlying23,Tryz.underlying24,⟨_,Tryz.underlying26,rfl⟩,Tryz.underlying27,⟨_,Tryz.underlying29,rfl⟩,⟨_,Tryz.underlying31,rfl⟩,Tryz.underlying32,⟨_,Tryz.underlying34,rfl⟩,Tryz.underlying35,Tryz.underlying40,Tryz.underlying41,⟨_,Tryz.underlying43,rfl⟩,Tryz.underlying45,⟨_,Tryz.underlying49,rfl⟩,⟨_,Tryz.underlying51,rfl⟩,⟨_,Tryz.underlying53,rfl⟩,⟨_,Tryz.underlying55,rfl⟩,⟨_,Tryz.underlying67,rfl⟩,Tryz.underlying70,⟨_,Tryz.underlying72,rfl⟩,⟨_,Tryz.underlying74,rfl⟩,Tryz.underlying75,⟨_,Tryz.underlying77,rfl⟩,Tryz.underlying78,Tryz.underlying79,⟨_,Tryz.underlying81,rfl⟩,⟨_,Tryz.underlying82,rfl⟩,⟨_,Tryz.underlying87,rfl⟩,⟨_,Tryz.underlying91,rfl⟩,Tryz.underlying94,⟨_,Tryz.underlying103,rfl⟩,Tryz.underlying111,⟨_,Tryz.underlying114,rfl⟩,Tryz.underlying121,⟨_,Tryz.underlying127,rfl⟩,Tryz.underlying128,⟨_,Tryz.underlying130,rfl⟩,⟨_,Tryz.underlying133,rfl⟩,⟨_,Tryz.underlying151,rfl⟩,Tryz.underlying156,⟨_,Tryz.underlying157,rfl⟩,Tryz.underlying158,Tryz.underlying163,Tryz.underlying164,⟨_,Tryz.underlying166,rfl⟩,⟨_,Tryz.underlying170,rfl⟩,⟨_,Tryz.underlying180,rfl⟩,Tryz.underlying187,Tryz.underlying200,Tryz.underlying202,Tryz.underlying203,Tryz.underlying205,Tryz.underlying213,Tryz.underlying216,⟨_,Tryz.underlying218,rfl⟩,Tryz.underlying219,⟨_,Tryz.underlying221,rfl⟩,Tryz.underlying227,⟨_,Tryz.underlying232,rfl⟩,Tryz.underlying234,Tryz.underlying241,Tryz.underlying245,Tryz.underlying247,Tryz.underlying252,⟨_,Tryz.underlying254,rfl⟩,Tryz.underlying258,⟨_,Tryz.underlying260,rfl⟩,Tryz.underlying272,⟨_,Tryz.underlying291,rfl⟩,⟨_,Tryz.underlying295,rfl⟩,⟨_,Tryz.underlying297,rfl⟩,⟨_,Tryz.underlying301,rfl⟩,Tryz.underlying307,Tryz.underlying308,⟨_,Tryz.underlying316,rfl⟩,⟨_,Tryz.underlying324,rfl⟩,⟨_,Tryz.underlying328,rfl⟩,⟨_,Tryz.underlying332,rfl⟩,⟨_,Tryz.underlying343,rfl⟩,λ_ h=>absurd h (by simp)⟩
def tr:∀p∈([(3,aB),(4, .bool),(9, .str),(22,(.slice dY)),(23,(.slice bm)),(24,(.slice aM)),(26,bV),(27,(.slice aB)),(29,cO),(31,aS),(32,(.slice bj)),(34,bB),(40,(.slice aC)),(41,(.slice aP)),(43,bH),(45,aB),(49,aE),(51,aD),(53,bj),(55,b7),(67,aE),(70,(.slice .str)),(72,dY),(74,aD),(75,(.slice ki)),(77,bm),(78,(.slice bA)),(79,(.slice da)),(81,aM),(87,aC),(103,aP),(114,aC),(127,bA),(128,(.slice aD)),(130,da),(133,aD),(163,(.slice aE)),(164,(.slice (.slice aE))),(166,nV),(170,aC),(180,aC),(216,(.slice bY)),(218,G5),(219,(.slice aD)),(221,kj),(232,ki),(241,(.int .u64)),(252,(.slice .bool)),(254,rp),(260,bY),(301,bT),(308,(.slice aB)),(316,bJ),(343,gF)]:List (Nat×Row)),TI Tryz.prog p.1 p.2:=by
 simp only[aj6];exact⟨uP,Ti4,Ti9,Y3,Y4,Y5,Y6,Y7,Y8,Y9,Za,Zb,Zc,Zd,Ze,U7,U8,U9,Zf,Zg,Zh,Zi,Zj,Zk,Zl,Zm,Zn,Zo,Zp,Zq,Va,Vb,Vc,Vd,Ve,Vf,Vg,Vh,Vi,Vj,Vk,Vm,Vn,Vo,Vp,Vq,Vr,Vs,Vt,Vu,Vv,Vw,Vx,Vy,λ_ h=>absurd h (by simp)⟩
def te:∀p∈([(49,aE),(51,aD),(53,bj),(74,aD),(87,aC),(103,aP),(180,aC)]:List (Nat×Row)),∃K d,oq Tryz.prog p.1 p.2 K/\d+K=10000/\Tryz.prog.eqGuardType Tryz.prog.depth p.1=ag/\(Tryz.prog.underlying p.1).any fA=af:=by
 simp only[aj6];exact⟨⟨2,9998,VA,rfl,by kernel_rfl,by kernel_rfl⟩,⟨2,9998,VB,rfl,by kernel_rfl,by kernel_rfl⟩,⟨3,9997,Zt,rfl,by kernel_rfl,by kernel_rfl⟩,⟨2,9998,Zr,rfl,by kernel_rfl,by kernel_rfl⟩,⟨2,9998,Zu,rfl,by kernel_rfl,by kernel_rfl⟩,⟨2,9998,VC,rfl,by kernel_rfl,by kernel_rfl⟩,⟨2,9998,Vz,rfl,by kernel_rfl,by kernel_rfl⟩,λ_ h=>absurd h (by simp)⟩
def tz:∀p∈([(3,(ag,aB)),(4,(ag, .bool)),(40,(ag,(.slice aC))),(114,(af,aC))]:List (Nat×(Bool×Row))),Ab Tryz.prog p.1 p.2.1 p.2.2:=by
 simp only[aj6];exact⟨⟨_,by kernel_rfl,rfl⟩,⟨_,by kernel_rfl,rfl⟩,⟨_,by kernel_rfl,rfl⟩,⟨_,by kernel_rfl,rfl⟩,λ_ h=>absurd h (by simp)⟩
def tm:∀p∈([(307,("Len",(202,ag))),(307,("Less",(310,ag))),(307,("Pop",(311,af))),(307,("Push",(312,af))),(307,("Swap",(313,ag)))]:List (TypeId×(String×(FuncId×Bool)))),ri Tryz.prog p.1 p.2.1 p.2.2.1 p.2.2.2:=by
 simp only[aj6];exact⟨(by unfold ri;kernel_rfl),(by unfold ri;kernel_rfl),(by unfold ri;kernel_rfl),(by unfold ri;kernel_rfl),(by unfold ri;kernel_rfl),λ_ h=>absurd h (by simp)⟩
def Zv:bk Tryz.prog:=⟨_,_,_,_,nP tu,nP tr,nP te,λt a r h=>nP (Q:=λt p=>Ab Tryz.prog t p.1 p.2) tz t (a,r) h,_,tm⟩
def mixed:Tryz.prog.follows .mixedOrders=af:=by kernel_rfl
def en(l:List (CT Tryz.prog))(d p:Bool):Env Tryz.prog:=⟨Zv,CT.tab l,CT.AV,mixed,d,p⟩
abbrev Fo(f:Nat)(a b:JS)(g:dA a.rows->Option (dA b.rows)):Prop:=fN Tryz.prog f ⟨a,b,g⟩
def fz{f:FuncId}{fn:Func}{sg:oB}(N:Nat)(l:List (CT Tryz.prog))(a:List Tk)(hf:Tryz.prog.funcs[f]? =aa fn)(hc:YV fn sg=af:=by kernel_rfl)(BJ:∀x,sg.fn x=Rq (en l ag ag) fn.ntmps N (fn.body.getD .skip) fn.results.toList (ak a) sg.inn sg.out x:=by intro x;kernel_rfl):fN Tryz.prog f sg:=fw (en l ag ag) (N:=N) (ak a) hf hc BJ
def M.kA(a:aM.den):Option Bool:=
aiC (if(ah (80<(a.1.size:Int)))then
aa af
else(if(ah (14<(a.2.2.1.length:Int)))then
aa af
else(if(ah (14<(a.2.2.2.1.length:Int)))then
aa af
else
aa (ah (60<(a.2.2.2.2.length:Int)))))) λf=>(if f then
aa ag
else
b9 (J:=Unit) (R:=Bool) (Loop (S:=Int) (X:=Unit⊕Bool) (λc=>(if(ah (c<(a.2.2.1.length:Int)))then
aiC (idx a.2.2.1 c) λg=>(if(ah (80<(g.1.size:Int)))then
aa (.inr (.inr ag))
else
aa (.inl (aiE.wrap (c+1))))
else
aa (.inr (.inl ())))) N 0) λj=>b9 (J:=Unit) (R:=Bool) (Loop (S:=Int) (X:=Unit⊕Bool) (λd=>(if(ah (d<(a.2.2.2.1.length:Int)))then
aiC (idx a.2.2.2.1 d) λh=>(if(ah (80<(h.1.size:Int)))then
aa (.inr (.inr ag))
else
aa (.inl (aiE.wrap (d+1))))
else
aa (.inr (.inl ())))) N 0) λk=>Loop (S:=Int) (X:=Bool) (λe=>(if(ah (e<(a.2.2.2.2.length:Int)))then
aiC (idx a.2.2.2.2 e) λb=>aiC (if(ah (80<(b.1.size:Int)))then
aa af
else(if(ah (80<(b.2.2.2.2.2.2.2.size:Int)))then
aa af
else(if(ah (50<(b.2.2.2.2.2.1.length:Int)))then
aa af
else
aa (ah (50<(b.2.2.2.2.2.2.1.length:Int)))))) λi=>(if i then
aa (.inr ag)
else
aa (.inl (aiE.wrap (e+1))))
else
aa (.inr af))) N 0)
def W21:Fo 21 (.i1 [.g aM]) (.i1 [.l .bool]) (M.kA N):=fz N [] [O,T,B 28 32,E 32,O,T,L 3 48,X,X,E 32,O,T,L 4 48,X,X,T,O,T,L 5 48,O,T,T,O,B 92 240] Tryz.func21
def M.iH(a:bV.den):Option Bool:=
aiC (if(ah (9<(a.1.length:Int)))then
aa af
else(if(ah (9<(a.2.1.length:Int)))then
aa af
else
aa (ah (5<(a.2.2.length:Int))))) λh=>(if h then
aa ag
else
b9 (J:=Unit) (R:=Bool) (Loop (S:=Int) (X:=Unit⊕Bool) (λb=>(if(ah (b<(a.1.length:Int)))then
b9 (J:=Unit) (R:=Int⊕(Unit⊕Bool)) (aiC (aiC (idx a.1 b) λi=>(if(ah (80<(i.1.size:Int)))then
aa af
else
aiC (idx a.1 b) λj=>aa (ah (20<(j.2.length:Int)))):Option Bool) λk=>(if k then
aa (.inr (.inr (.inr ag)))
else
Loop (S:=Int) (X:=Unit⊕(Int⊕(Unit⊕Bool))) (λe=>aiC (idx a.1 b) λl=>(if(ah (e<(l.2.length:Int)))then
aiC (idx a.1 b) λm=>aiC (idx m.2 e) λn=>(if(ah (80<(n.size:Int)))then
aa (.inr (.inr (.inr (.inr ag))))
else
aa (.inl (aiE.wrap (e+1))))
else
aa (.inr (.inl ())))) N 0)) λt=>aa (.inl (aiE.wrap (b+1)))
else
aa (.inr (.inl ())))) N 0) λu=>b9 (J:=Unit) (R:=Bool) (Loop (S:=Int×Int) (X:=Unit⊕Bool) (λc=>(if(ah (c.2<(a.2.1.length:Int)))then
aiC (idx a.2.1 c.2) λf=>aiC (aiC (idx a.2.1 c.2) λo=>(if(ah (80<(o.1.size:Int)))then
aa af
else
aa (ah (150<(aiE.wrap (c.1+(f.2.2.2.length:Int)))))):Option Bool) λp=>(if p then
aa (.inr (.inr ag))
else
aa (.inl (aiE.wrap (c.1+(f.2.2.2.length:Int)),aiE.wrap (c.2+1))))
else
aa (.inr (.inl ())))) N (0,0)) λv=>Loop (S:=Int×Int) (X:=Bool) (λd=>(if(ah (d.2<(a.2.2.length:Int)))then
aiC (idx a.2.2 d.2) λg=>aiC (if(ah (60<(aiE.wrap (d.1+(g.2.2.2.2.length:Int)))))then
aa af
else
aiC (idx a.2.2 d.2) λq=>aiC (M.kA N q) λr=>aa (!r)) λs=>(if s then
aa (.inr ag)
else
aa (.inl (aiE.wrap (d.1+(g.2.2.2.2.length:Int)),aiE.wrap (d.2+1))))
else
aa (.inr af))) N (0,0))
def W5:Fo 5 (.i1 [.g bV]) (.i1 [.l .bool]) (M.iH N):=fz N [W21 N] [O,T,B 24 32,O,O,E 64,O,T,L 5 80,O,E 160,T,T,B 49 160,O,T,L 6 176,X,X,X,X,X,E 64,O,T,P ⟨[(3, .l aB),(7, .l aB)],[],[],80⟩,O,T,T,O,B 99 320,X,X,X,T,O,T,P ⟨[(4, .l aB),(8, .l aB)],[],[],80⟩,O,T,T,O,B 126 320] Tryz.func5
def M.gx(N:Nat)(a:bB.den):Option Bool:=
aa (ah ((a.2.2.2.length:Int)<=40))
def W6:Fo 6 (.i1 [.g bB]) (.i1 [.l .bool]) (M.gx N):=fz N [] [] Tryz.func6
def M.ma(N:Nat)(a:aS.den):Option Bool:=
aa (ah ((a.2.2.2.2.2.2.2.2.length:Int)<=70))
def W22:Fo 22 (.i1 [.g aS]) (.i1 [.l .bool]) (M.ma N):=fz N [] [] Tryz.func22
def M.mH(b:aS.den)(c:List b7.den):Option Bool:=
b9 (J:=Unit) (R:=Bool) (Loop (S:=Int) (X:=Unit⊕Bool) (λa=>aiC (if(ah (a<(c.length:Int)))then
aa (ah (a<20))
else
aa ag) λe=>(if e then
aiC (idx c a) λd=>aiC (aiC (idx c a) λf=>(if(ah (f.1=2))then(if(ah (d.2.2.1<=3599))then(if(ah (b.2.2.2.2.2.1<=d.2.2.1))then
aa (ah (7<(aiE.wrap (d.2.2.1-b.2.2.2.2.2.1))))
else
aa ag)
else
aa ag)
else
aa ag):Option Bool) λg=>(if g then
aa (.inr (.inr ag))
else
aa (.inl (aiE.wrap (a+1))))
else
aa (.inr (.inl ())))) N 0) λj=>aiC (if(ah ((c.length:Int)<=12))then(if(ah (0<=b.2.2.2.2.2.1))then
aiC (M.ma N b) λh=>aa h
else
aa ag)
else
aa ag) λi=>aa i
def W7:Fo 7 (.i1 [.g aS, .l (.slice b7)]) (.i1 [.l .bool]) (u2 (M.mH N)):=fz N [W22 N] [O,E 32,O,T,L 5 48,T,B 14 48,T,T,O,B 44 144,X,X,X,B 4 32] Tryz.func7
def M.bP(N:Nat)(a:List bj.den):Option (List bj.den):=
(if aiK (a).length 0 then
yg (aa ([]:List bj.den))
(aiC (cA ([]:List bj.den) a) λb=>aa b)
else
aiC (cA ([]:List bj.den) a) λc=>aa c)
def W26:Fo 26 (.i1 [.l (.slice bj)]) (.w1 53 bj) (M.bP N):=fz N [] [] Tryz.func26
def M.jm(c:bB.den):Option (Int×Int×Int×aD.den×List bj.den):=
aiC (M.bP N c.2.2.2) λd=>aiC (Loop (S:=Int×(List bj.den)×Int×Int×Int×aD.den) (X:=(List bj.den)×Int×Int×Int×aD.den) (λa=>(if(ah (a.1<(d.length:Int)))then
aiC (idx a.2.1 a.1) λe=>aa (.inl (aiE.wrap (a.1+1),a.2.1,a.2.2.1,a.2.2.2.1,a.2.2.2.2.1,(if a.2.2.2.2.2.1<e.2.2.2.2.2 then e.2.2.2.2.2 else a.2.2.2.2.2.1,a.2.2.2.2.2.2)))
else
aa (.inr (a.2.1,a.2.2.1,a.2.2.2.1,a.2.2.2.2.1,a.2.2.2.2.2)))) N (0,d,c.1,c.2.1,c.2.2.1,(0,(-1))):Option ((List bj.den)×Int×Int×Int×aD.den)) λb=>aa (b.2.1,b.2.2.1,b.2.2.2.1,b.2.2.2.2,b.1)
def W9:Fo 9 (.i1 [.g bB]) (.j1 [.val af (.pair (.pair (.leaf aB) (.pair (.leaf aB) (.pair (.leaf aB) (.own 0)))) (.pair .nil (.pair .nil (.leaf aD))))] [.own 53 bj] 1) (M.jm N):=fz N [W26 N] [O,O,O,R ⟨[],[(64, .own 53 bj),(144, .box 43 (.pair (.pair (.leaf aB) (.pair (.leaf aB) (.pair (.leaf aB) (.own 64)))) (.pair .nil (.pair .nil (.leaf aD)))))],[],178⟩,O,T,P ⟨[(15, .l aB)],[(64, .own 53 bj),(144, .box 43 (.pair (.pair (.leaf aB) (.pair (.leaf aB) (.pair (.leaf aB) (.own 64)))) (.pair .nil (.pair .nil (.leaf aD)))))],[],242⟩] Tryz.func9
def M.bN(N:Nat)(a:List Int):Option (List Int):=zh a
def S40:oB:=⟨.w1 3 aB, .j1 [] [.own 3 aB] 2,M.bN N⟩
def VD(N:Nat):fN Tryz.prog 40 (S40 N):=OC ⟨_,Tryz.func40,by kernel_rfl,by kernel_rfl⟩ Tryz.slices_Sort_int Tryz.slices_Sort_int_none
def M.bz(N:Nat)(a:List Int):Option (List Int):=oV a
def S41:oB:=⟨.w1 3 aB,⟨[(0, .val ag (.own 1))],[(1, .own 3 aB)],[],2⟩,M.bz N⟩
def VE(N:Nat):fN Tryz.prog 41 (S41 N):=Fl ⟨_,Tryz.func41,by kernel_rfl,by kernel_rfl⟩ Tryz.slices_Compact_int Tryz.slices_Compact_int_empty
def M.kl(b:List aC.den):Option (List Int):=
aiC (Loop (S:=Int×List Int) (X:=List Int) (λa=>(if(ah (a.1<(b.length:Int)))then
aiC (idx b a.1) λc=>aiC (cA a.2 ([c.2.1]:List Int)) λd=>aa (.inl (aiE.wrap (a.1+1),d))
else
aa (.inr a.2))) N (0,([]:List Int)):Option (List Int)) λe=>aiC (M.bN N e) λf=>aiC (M.bz N f) λg=>aa g
def W14:Fo 14 (.i1 [.l (.slice aC)]) (.w1 3 aB) (M.kl N):=fz N [VD N,VE N] [O,O,R ⟨[(3, .val ag (.own 32))],[(32, .own 3 aB)],[],33⟩,O,T,P ⟨[(3, .val ag (.own 80)),(8, .l aB)],[(80, .own 3 aB)],[],81⟩] Tryz.func14
def M.dR(N:Nat)(a:List aC.den)(b:Int):Option Int:=RG a b
def S15:oB:=⟨.i1 [.l (.slice aC), .l aB], .i1 [.l aB],u2 (M.dR N)⟩
def Zw(N:Nat):fN Tryz.prog 15 (S15 N):=Dc
def M.jn(N:Nat)(a:Int):Option Bool:=
aiC (if(ah (0<=a))then
aa (ah (a<=109572))
else
aa ag) λb=>aa b
def W28:Fo 28 (.i1 [.l aB]) (.i1 [.l .bool]) (M.jn N):=fz N [] [O,B 2 16] Tryz.func28
def M.ko(N:Nat)(a:Int):Option Bool:=
aiC (if(ah (97<=a))then
aa (ah (a<=122))
else
aa ag) λb=>aa b
def VF:Fo 185 (.i1 [.l (.int .u8)]) (.i1 [.l .bool]) (M.ko N):=fz N [] [O,B 2 16] Tryz.func185
def M.ml(N:Nat)(a:Int):Option Bool:=
aiC (if(ah (48<=a))then
aa (ah (a<=57))
else
aa ag) λb=>aa b
def Zx:Fo 210 (.i1 [.l (.int .u8)]) (.i1 [.l .bool]) (M.ml N):=fz N [] [O,B 2 16] Tryz.func210
def M.jG(b:ByteArray):Option Int:=
Loop (S:=Int) (X:=Int) (λa=>aiC (if(ah (a<(b.size:Int)))then
aiC (lW b a) λc=>aiC (M.ko N c) λd=>(if d then
aa af
else
aiC (lW b a) λe=>aiC (M.ml N e) λf=>(if f then
aa af
else
aiC (lW b a) λg=>aa (ah (g=95))))
else
aa ag) λh=>(if h then
aa (.inl (aiE.wrap (a+1)))
else
aa (.inr a))) N 0
def Zy:Fo 186 (.i1 [.l .str]) (.i1 [.l aB]) (M.jG N):=fz N [VF N,Zx N] [O,O,T,T,L 3 32,T,B 25 32] Tryz.func186
def M.ln(N:Nat)(a:ByteArray):Option Bool:=
aiC (if(ah (a=⟨#[105,102]⟩))then
aa (ah (a=⟨#[105,102]⟩))
else(if(ah (a=⟨#[116,104,101,110]⟩))then
aa (ah (a=⟨#[116,104,101,110]⟩))
else(if(ah (a=⟨#[101,108,115,101]⟩))then
aa (ah (a=⟨#[101,108,115,101]⟩))
else(if(ah (a=⟨#[111,114]⟩))then
aa (ah (a=⟨#[111,114]⟩))
else(if(ah (a=⟨#[97,110,100]⟩))then
aa (ah (a=⟨#[97,110,100]⟩))
else(if(ah (a=⟨#[110,111,116]⟩))then
aa (ah (a=⟨#[110,111,116]⟩))
else(if(ah (a=⟨#[116,114,117,101]⟩))then
aa (ah (a=⟨#[116,114,117,101]⟩))
else(if(ah (a=⟨#[102,97,108,115,101]⟩))then
aa (ah (a=⟨#[102,97,108,115,101]⟩))
else(if(ah (a=⟨#[116,111,100,97,121]⟩))then
aa (ah (a=⟨#[116,111,100,97,121]⟩))
else(if(ah (a=⟨#[115,104,97,114,101]⟩))then
aa (ah (a=⟨#[115,104,97,114,101]⟩))
else(if(ah (a=⟨#[100,105,118]⟩))then
aa (ah (a=⟨#[100,105,118]⟩))
else(if(ah (a=⟨#[114,111,117,110,100]⟩))then
aa (ah (a=⟨#[114,111,117,110,100]⟩))
else(if(ah (a=⟨#[109,105,110]⟩))then
aa (ah (a=⟨#[109,105,110]⟩))
else(if(ah (a=⟨#[109,97,120]⟩))then
aa (ah (a=⟨#[109,97,120]⟩))
else(if(ah (a=⟨#[112,108,117,115]⟩))then
aa (ah (a=⟨#[112,108,117,115]⟩))
else(if(ah (a=⟨#[109,111,110,116,104,115]⟩))then
aa (ah (a=⟨#[109,111,110,116,104,115]⟩))
else(if(ah (a=⟨#[100,97,121,115]⟩))then
aa (ah (a=⟨#[100,97,121,115]⟩))
else(if(ah (a=⟨#[121,101,97,114,115]⟩))then
aa (ah (a=⟨#[121,101,97,114,115]⟩))
else(if(ah (a=⟨#[121,101,97,114]⟩))then
aa (ah (a=⟨#[121,101,97,114]⟩))
else(if(ah (a=⟨#[109,111,110,116,104]⟩))then
aa (ah (a=⟨#[109,111,110,116,104]⟩))
else(if(ah (a=⟨#[116,97,98]⟩))then
aa (ah (a=⟨#[116,97,98]⟩))
else(if(ah (a=⟨#[98,97,110,100]⟩))then
aa (ah (a=⟨#[98,97,110,100]⟩))
else(if(ah (a=⟨#[99,111,117,110,116]⟩))then
aa (ah (a=⟨#[99,111,117,110,116]⟩))
else(if(ah (a=⟨#[115,117,109]⟩))then
aa (ah (a=⟨#[115,117,109]⟩))
else(if(ah (a=⟨#[97,108,108]⟩))then
aa (ah (a=⟨#[97,108,108]⟩))
else(if(ah (a=⟨#[97,110,121]⟩))then
aa (ah (a=⟨#[97,110,121]⟩))
else(if(ah (a=⟨#[109,111,115,116]⟩))then
aa (ah (a=⟨#[109,111,115,116]⟩))
else(if(ah (a=⟨#[101,110,117,109]⟩))then
aa (ah (a=⟨#[101,110,117,109]⟩))
else(if(ah (a=⟨#[116,97,98,108,101]⟩))then
aa (ah (a=⟨#[116,97,98,108,101]⟩))
else(if(ah (a=⟨#[114,111,119]⟩))then
aa (ah (a=⟨#[114,111,119]⟩))
else(if(ah (a=⟨#[115,99,111,112,101]⟩))then
aa (ah (a=⟨#[115,99,111,112,101]⟩))
else(if(ah (a=⟨#[109,101,109,98,101,114,115]⟩))then
aa (ah (a=⟨#[109,101,109,98,101,114,115]⟩))
else(if(ah (a=⟨#[105,110,112,117,116]⟩))then
aa (ah (a=⟨#[105,110,112,117,116]⟩))
else(if(ah (a=⟨#[100,101,102]⟩))then
aa (ah (a=⟨#[100,101,102]⟩))
else(if(ah (a=⟨#[114,117,108,101]⟩))then
aa (ah (a=⟨#[114,117,108,101]⟩))
else(if(ah (a=⟨#[111,102]⟩))then
aa (ah (a=⟨#[111,102]⟩))
else(if(ah (a=⟨#[111,118,101,114]⟩))then
aa (ah (a=⟨#[111,118,101,114]⟩))
else(if(ah (a=⟨#[112,114,105,111]⟩))then
aa (ah (a=⟨#[112,114,105,111]⟩))
else(if(ah (a=⟨#[102,114,111,109]⟩))then
aa (ah (a=⟨#[102,114,111,109]⟩))
else(if(ah (a=⟨#[116,111]⟩))then
aa (ah (a=⟨#[116,111]⟩))
else(if(ah (a=⟨#[101,110,100]⟩))then
aa (ah (a=⟨#[101,110,100]⟩))
else(if(ah (a=⟨#[119,104,101,110]⟩))then
aa (ah (a=⟨#[119,104,101,110]⟩))
else(if(ah (a=⟨#[105,115]⟩))then
aa (ah (a=⟨#[105,115]⟩))
else(if(ah (a=⟨#[115,114,99]⟩))then
aa (ah (a=⟨#[115,114,99]⟩))
else(if(ah (a=⟨#[98,111,111,108]⟩))then
aa (ah (a=⟨#[98,111,111,108]⟩))
else(if(ah (a=⟨#[105,110,116]⟩))then
aa (ah (a=⟨#[105,110,116]⟩))
else(if(ah (a=⟨#[109,111,110,101,121]⟩))then
aa (ah (a=⟨#[109,111,110,101,121]⟩))
else(if(ah (a=⟨#[114,97,116,101]⟩))then
aa (ah (a=⟨#[114,97,116,101]⟩))
else(if(ah (a=⟨#[100,97,116,101]⟩))then
aa (ah (a=⟨#[100,97,116,101]⟩))
else(if(ah (a=⟨#[100,111,119,110]⟩))then
aa (ah (a=⟨#[100,111,119,110]⟩))
else(if(ah (a=⟨#[117,112]⟩))then
aa (ah (a=⟨#[117,112]⟩))
else(if(ah (a=⟨#[122,101,114,111]⟩))then
aa (ah (a=⟨#[122,101,114,111]⟩))
else(if(ah (a=⟨#[97,119,97,121]⟩))then
aa (ah (a=⟨#[97,119,97,121]⟩))
else(if(ah (a=⟨#[104,97,108,102]⟩))then
aa (ah (a=⟨#[104,97,108,102]⟩))
else
aa (ah (a=⟨#[101,118,101,110]⟩)))))))))))))))))))))))))))))))))))))))))))))))))))))))) λb=>(if b then
aa af
else
aa ag)
def Zz:Fo 187 (.i1 [.l .str]) (.i1 [.l .bool]) (M.ln N):=fz N [] [O,T,O,T,B 4 32] Tryz.func187
def M.cu(a:ByteArray):Option Bool:=
aiC (if(!ah (a=⟨#[]⟩))then
aiC (lW a 0) λb=>aiC (M.ko N b) λc=>(if c then
aiC (M.jG N a) λd=>(if(ah (d=(a.size:Int)))then(if(ah ((a.size:Int)<=16))then
aiC (M.ln N a) λe=>aa (!e)
else
aa ag)
else
aa ag)
else
aa ag)
else
aa ag) λf=>aa f
def LY:Fo 163 (.i1 [.l .str]) (.i1 [.l .bool]) (M.cu N):=fz N [VF N,Zy N,Zz N] [O,B 2 16] Tryz.func163
def M.lp(N:Nat)(b:dY.den)(a:ByteArray):Option (Bool×ByteArray):=
aa (ah (b.1=a),a)
def RJ:Fo 189 (.j1 [.g dY, .ptr 0 [] 0] [.box 9 (.leaf .str)] 1) (.j1 [.l .bool] [.box 9 (.leaf .str)] 2) (u2 (M.lp N)):=fz N [] [] Tryz.func189
def M.bC(c:List dY.den)(d:ByteArray):Option (Int×ByteArray):=
Loop (S:=Int×ByteArray) (X:=Int×ByteArray) (λa=>(if(ah (a.1<(c.length:Int)))then
aiC (idx c a.1) λe=>aiC (M.lp N e a.2) λb=>(if b.1 then
aa (.inr (a.1,b.2))
else
aa (.inl (aiE.wrap (a.1+1),b.2)))
else
aa (.inr ((-1),a.2)))) N (0,d)
def RL:Fo 211 (.j1 [.l (.slice dY), .fn 189 [(0,[],0)]] [.box 9 (.leaf .str)] 1) (.j1 [.l aB] [.box 9 (.leaf .str)] 2) (u2 (M.bC N)):=fz N [RJ N] [O,T,O,T,P ⟨[(8, .l aB)],[(0, .box 9 (.leaf .str))],[],66⟩] Tryz.func211
def M.bU(b:List dY.den)(c:ByteArray):Option (Bool×ByteArray):=
aiC (M.bC N b c) λa=>aa (ah (0<=a.1),a.2)
def RM:Fo 188 (.j1 [.l (.slice dY), .fn 189 [(0,[],0)]] [.box 9 (.leaf .str)] 1) (.j1 [.l .bool] [.box 9 (.leaf .str)] 2) (u2 (M.bU N)):=fz N [RL N] [] Tryz.func188
def M.jo(a:List dY.den)(b:ByteArray):Option Bool:=
aiC (M.bU N a b) λc=>aa c.1
def RN:Fo 164 (.i1 [.l (.slice dY), .l .str]) (.i1 [.l .bool]) (u2 (M.jo N)):=fz N [RM N] [] Tryz.func164
def M.dK(b:List ByteArray)(c:ByteArray):Option Int:=
Loop (S:=Int) (X:=Int) (λa=>(if(ah (a<(b.length:Int)))then
aiC (idx b a) λd=>(if(ah (c=d))then
aa (.inr a)
else
aa (.inl (aiE.wrap (a+1))))
else
aa (.inr (-1)))) N 0
def ZA:Fo 208 (.i1 [.l (.slice .str), .l .str]) (.i1 [.l aB]) (u2 (M.dK N)):=fz N [] [O,T,O,T,L 8 64] Tryz.func208
def M.db(a:List ByteArray)(b:ByteArray):Option Bool:=
aiC (M.dK N a b) λc=>aa (ah (0<=c))
def ZB:Fo 181 (.i1 [.l (.slice .str), .l .str]) (.i1 [.l .bool]) (u2 (M.db N)):=fz N [ZA N] [] Tryz.func181
def M.mm(d:bV.den)(e:Int)(a:dY.den):Option (Int×Int):=
aiC (M.cu N a.1) λf=>(if(!f)then
aa (2,0)
else
aiC (fX d.1 0 e) λg=>aiC (M.jo N g a.1) λh=>(if h then
aa (7,0)
else(if(ah ((a.2.length:Int)=0))then
aa (5,0)
else(if(ah (16<(a.2.length:Int)))then
aa (4,116)
else
Loop (S:=Int) (X:=Int×Int) (λb=>(if(ah (b<(a.2.length:Int)))then
aiC (idx a.2 b) λc=>aiC (M.cu N c) λi=>(if(!i)then
aa (.inr (2,aiE.wrap (100+b)))
else
aiC (fX a.2 0 b) λj=>aiC (M.db N j c) λk=>(if k then
aa (.inr (7,aiE.wrap (100+b)))
else
aa (.inl (aiE.wrap (b+1)))))
else
aa (.inr (0,0)))) N 0))))
def ZC:Fo 161 (.i1 [.g bV, .l aB, .g dY]) (.i1 [.l aB, .l aB]) (u3 (M.mm N)):=fz N [LY N,RN N,ZB N] [O,O,T,O,T,L 36 496] Tryz.func161
def M.lq(b:bV.den):Option (aC.den):=
(if(ah (8<(b.1.length:Int)))then
aa (4,(1,(8,0)))
else
b9 (J:=Unit) (R:=aC.den) (Loop (S:=Int) (X:=Unit⊕(aC.den)) (λa=>(if(ah (a<(b.1.length:Int)))then
aiC (idx b.1 a) λd=>aiC (M.mm N b a d) λc=>(if(!ah (c.1=0))then
aa (.inr (.inr (c.1,(1,(a,c.2)))))
else
aa (.inl (aiE.wrap (a+1))))
else
aa (.inr (.inl ())))) N 0) λe=>aa (0,(0,(0,0))))
def ZD:Fo 136 (.i1 [.g bV]) (.i1 [.g aC]) (M.lq N):=fz N [ZC N] [O,O,E 96,O,T,L 15 160] Tryz.func136
def M.cW(N:Nat)(a:aD.den)(b:List dY.den):Option Bool:=
aiC (if(ah (a.1=1))then
aa (ah (a.1=1))
else(if(ah (a.1=2))then
aa (ah (a.1=2))
else(if(ah (a.1=3))then
aa (ah (a.1=3))
else(if(ah (a.1=4))then
aa (ah (a.1=4))
else
aa (ah (a.1=5)))))) λc=>(if c then
aa (ah (a.2=0))
else(if(ah (a.1=6))then
aiC (if(ah (0<=a.2))then
aa (ah (a.2<(b.length:Int)))
else
aa ag) λd=>aa d
else
aa ag))
def LZ:Fo 141 (.i1 [.g aD, .l (.slice dY)]) (.i1 [.l .bool]) (u2 (M.cW N)):=fz N [] [O,T,O,T,R ⟨[(7, .l .bool)],[],[],64⟩,X,O,O,T,B 4 96] Tryz.func141
def M.fO(a:aD.den)(b:List dY.den):Option (Int×Int):=
aiC (M.cW N a b) λc=>(if(!c)then
aa (0,(-1))
else(if(ah (a.1=1))then
aa (0,1)
else(if(ah (a.1=2))then
aa ((-1000000000000),1000000000000)
else(if(ah (a.1=3))then
aa ((-1000000000000000),1000000000000000)
else(if(ah (a.1=4))then
aa ((-1000000000),1000000000)
else(if(ah (a.1=5))then
aa (0,109572)
else
aiC (idx b a.2) λd=>aa (0,aiE.wrap ((d.2.length:Int)-1))))))))
def Xz:Fo 96 (.i1 [.g aD, .l (.slice dY)]) (.i1 [.l aB, .l aB]) (u2 (M.fO N)):=fz N [LZ N] [] Tryz.func96
def M.dS(N:Nat)(a:aD.den):Option Bool:=
aiC (if(ah (0<=a.1))then(if(ah (a.1<=a.2))then
aa (ah (a.2<=109573))
else
aa ag)
else
aa ag) λb=>aa b
def OI:Fo 135 (.i1 [.g aD]) (.i1 [.l .bool]) (M.dS N):=fz N [] [O,B 2 32] Tryz.func135
def M.dL(a:aD.den):Option Bool:=
aiC (aiC (M.dS N a) λb=>(if b then
aa (ah (a.1<a.2))
else
aa ag):Option Bool) λc=>aa c
def VG:Fo 159 (.i1 [.g aD]) (.i1 [.l .bool]) (M.dL N):=fz N [OI N] [O,B 2 32] Tryz.func159
def M.jY(a:aD.den)(b:aD.den):Option (aD.den×Bool):=
aiC (aiC (M.dL N a) λc=>(if(!c)then
aa af
else
aiC (M.dL N b) λd=>aa (!d)):Option Bool) λe=>(if e then
aa ((0,0),ag)
else(if(ah ((if b.2<a.2 then b.2 else a.2)<=(if a.1<b.1 then b.1 else a.1)))then
aa ((0,0),ag)
else
aa ((if a.1<b.1 then b.1 else a.1,if b.2<a.2 then b.2 else a.2),af)))
def ZE:Fo 209 (.i1 [.g aD, .g aD]) (.i1 [.g aD, .l .bool]) (u2 (M.jY N)):=fz N [VG N] [O,T,B 14 64] Tryz.func209
def M.lr(a:ki.den)(b:ki.den):Option Bool:=
aiC (M.jY N a.1 b.1) λc=>aiC (if c.2 then
aa (ah ((if a.2.1<b.2.1 then b.2.1 else a.2.1)<(if b.2.2.1<a.2.2.1 then b.2.2.1 else a.2.2.1)))
else
aa ag) λd=>aa d
def ZF:Fo 184 (.i1 [.g ki, .g ki]) (.i1 [.l .bool]) (u2 (M.lr N)):=fz N [ZE N] [O,O,B 4 224] Tryz.func184
def M.jq(b:ki.den)(a:ki.den):Option (Bool×ki.den):=
aiC (M.lr N b a) λc=>aa (c,a)
def RO:Fo 183 (.j1 [.g ki, .ptr 0 [] 0] [.box 232 (.leaf ki)] 1) (.j1 [.l .bool] [.box 232 (.leaf ki)] 2) (u2 (M.jq N)):=fz N [ZF N] [] Tryz.func183
def M.cx(c:List ki.den)(d:ki.den):Option (Int×Bool×ki.den):=
Loop (S:=Int×ki.den) (X:=Int×Bool×ki.den) (λa=>(if(ah (a.1<(c.length:Int)))then
aiC (idx c a.1) λe=>aiC (M.jq N e a.2) λb=>(if b.1 then
aa (.inr (a.1,af,b.2))
else
aa (.inl (aiE.wrap (a.1+1),b.2)))
else
aa (.inr (0,ag,a.2)))) N (0,d)
def RP:Fo 182 (.j1 [.l (.slice ki), .fn 183 [(0,[],0)]] [.box 232 (.leaf ki)] 1) (.j1 [.l aB, .l .bool] [.box 232 (.leaf ki)] 2) (u2 (M.cx N)):=fz N [RO N] [O,T,O,T,P ⟨[(10, .l aB)],[(0, .box 232 (.leaf ki))],[],82⟩] Tryz.func182
def M.lu(b:bm.den)(d:List dY.den):Option (Int×Int):=
(if(ah (64<(b.2.2.2.length:Int)))then
aa (64,4)
else
aiC (aiC (M.cW N b.2.1 d) λg=>(if(!g)then
aa af
else
aiC (M.cW N b.2.2.1 d) λh=>aa (!h)):Option Bool) λi=>(if i then
aa ((-1),8)
else
aiC (M.fO N b.2.1 d) λe=>aiC (M.fO N b.2.2.1 d) λf=>Loop (S:=Int) (X:=Int×Int) (λc=>(if(ah (c<(b.2.2.2.length:Int)))then
aiC (idx b.2.2.2 c) λa=>aiC (aiC (M.dS N a.1) λj=>(if(!j)then
aa af
else(if(ah (a.1.1=a.1.2))then
aa af
else
aa (ah (a.2.2.1<=a.2.1)))):Option Bool) λk=>(if k then
aa (.inr (c,3))
else
aiC (if(ah (a.2.1<e.1))then
aa af
else(if(ah (e.2<a.2.1))then
aa af
else(if(ah ((aiE.wrap (a.2.2.1-1))<e.1))then
aa af
else
aa (ah (e.2<(aiE.wrap (a.2.2.1-1))))))) λl=>(if l then
aa (.inr (c,3))
else
aiC (if(ah (a.2.2.2<f.1))then
aa af
else
aa (ah (f.2<a.2.2.2))) λm=>(if m then
aa (.inr (c,3))
else
aiC (fX b.2.2.2 0 c) λn=>aiC (M.cx N n a) λo=>(if o.2.1 then
aa (.inr (c,11))
else
aa (.inl (aiE.wrap (c+1)))))))
else
aa (.inr (0,0)))) N 0))
def ZG:Fo 162 (.i1 [.g bm, .l (.slice dY)]) (.i1 [.l aB, .l aB]) (u2 (M.lu N)):=fz N [Xz N,OI N,LZ N,RP N] [O,O,T,B 29 112,O,O,T,O,T,L 47 464,O,O,T,T,O,T,B 71 576,T,B 96 576,T,B 107 576] Tryz.func162
def M.kU(N:Nat)(b:bm.den)(a:ByteArray):Option (Bool×ByteArray):=
aa (ah (b.1=a),a)
def RQ:Fo 191 (.j1 [.g bm, .ptr 0 [] 0] [.box 9 (.leaf .str)] 1) (.j1 [.l .bool] [.box 9 (.leaf .str)] 2) (u2 (M.kU N)):=fz N [] [] Tryz.func191
def M.bt(c:List bm.den)(d:ByteArray):Option (Int×ByteArray):=
Loop (S:=Int×ByteArray) (X:=Int×ByteArray) (λa=>(if(ah (a.1<(c.length:Int)))then
aiC (idx c a.1) λe=>aiC (M.kU N e a.2) λb=>(if b.1 then
aa (.inr (a.1,b.2))
else
aa (.inl (aiE.wrap (a.1+1),b.2)))
else
aa (.inr ((-1),a.2)))) N (0,d)
def RR:Fo 212 (.j1 [.l (.slice bm), .fn 191 [(0,[],0)]] [.box 9 (.leaf .str)] 1) (.j1 [.l aB] [.box 9 (.leaf .str)] 2) (u2 (M.bt N)):=fz N [RQ N] [O,T,O,T,P ⟨[(8, .l aB)],[(0, .box 9 (.leaf .str))],[],66⟩] Tryz.func212
def M.bI(b:List bm.den)(c:ByteArray):Option (Bool×ByteArray):=
aiC (M.bt N b c) λa=>aa (ah (0<=a.1),a.2)
def RS:Fo 190 (.j1 [.l (.slice bm), .fn 191 [(0,[],0)]] [.box 9 (.leaf .str)] 1) (.j1 [.l .bool] [.box 9 (.leaf .str)] 2) (u2 (M.bI N)):=fz N [RR N] [] Tryz.func190
def M.jH(a:List bm.den)(b:ByteArray):Option Bool:=
aiC (M.bI N a b) λc=>aa c.1
def VH:Fo 165 (.i1 [.l (.slice bm), .l .str]) (.i1 [.l .bool]) (u2 (M.jH N)):=fz N [RS N] [] Tryz.func165
def M.kB(b:bV.den):Option (aC.den):=
(if(ah (8<(b.2.1.length:Int)))then
aa (4,(2,(8,0)))
else
b9 (J:=Unit) (R:=aC.den) (Loop (S:=Int) (X:=Unit⊕(aC.den)) (λa=>(if(ah (a<(b.2.1.length:Int)))then
aiC (idx b.2.1 a) λd=>aiC (M.lu N d b.1) λc=>aiC (aiC (M.cu N d.1) λf=>(if(!f)then
aa (2,(2,(a,0)))
else
aiC (aiC (M.jo N b.1 d.1) λg=>(if g then
aa af
else
aiC (fX b.2.1 0 a) λh=>aiC (M.jH N h d.1) λi=>aa i):Option Bool) λj=>(if j then
aa (7,(2,(a,0)))
else(if(!ah (c.2=0))then(if(!ah (c.1=(-1)))then
aa (c.2,(2,(a,aiE.wrap (100+c.1))))
else
aa (c.2,(2,(a,0))))
else
aa (0,(2,(a,0)))))):Option (aC.den)) λe=>(if(!ah (e.1=0))then
aa (.inr (.inr e))
else
aa (.inl (aiE.wrap (a+1))))
else
aa (.inr (.inl ())))) N 0) λk=>aa (0,(0,(0,0))))
def ZH:Fo 137 (.i1 [.g bV]) (.i1 [.g aC]) (M.kB N):=fz N [ZG N,LY N,RN N,VH N] [O,O,E 96,O,T,L 16 160,O,O,T,T,O,O,O,T,R ⟨[],[(304, .box 180 (.leaf aC))],[],481⟩,O,O,B 36 560] Tryz.func137
def M.lv(e:List (List Int))(i:Int):Option (List Int):=
aiC (pT (e.length:Int) ag) λj=>aiC (Loop (S:=(List Bool)×List Int) (X:=List Bool) (λc=>(if(ah (0<(c.2.length:Int)))then
aiC (idx c.2 0) λk=>aiC (fX c.2 1 (c.2.length:Int)) λl=>aiC (idx e k) λf=>Loop (S:=Int×(List Bool)×List Int) (X:=((List Bool)×List Int)⊕(List Bool)) (λa=>(if(ah (a.1<(f.length:Int)))then
aiC (aiC (idx f a.1) λd=>aiC (idx a.2.1 d) λm=>(if(!m)then
aiC (idx a.2.1 d) λr=>aiC (cA a.2.2 ([d]:List Int)) λn=>aa (b8 a.2.1 d af,n)
else
aa (a.2.1,a.2.2)):Option ((List Bool)×List Int)) λg=>aa (.inl (aiE.wrap (a.1+1),g.1,g.2))
else
aa (.inr (.inl (a.2.1,a.2.2))))) N (0,c.1,l)
else
aa (.inr c.1))) N (j,([i]:List Int)):Option (List Bool)) λh=>Loop (S:=Int×List Int) (X:=List Int) (λb=>(if(ah (b.1<(h.length:Int)))then
aiC (aiC (idx h b.1) λo=>(if o then
aiC (cA b.2 ([b.1]:List Int)) λp=>aa p
else
aa b.2):Option (List Int)) λq=>aa (.inl (aiE.wrap (b.1+1),q))
else
aa (.inr b.2))) N (0,([]:List Int))
def ZI:oB:=⟨.i1 [.l (.slice (.slice aB)), .l aB], .w1 3 aB,u2 (M.lv N)⟩
def VI(N:Nat):fN Tryz.prog 174 (ZI N):=fw (en [] ag af) (N:=N) (.o (.o (.o (.meet ⟨[],[(48, .own 4 .bool)],[96],129⟩ (.two (.loop ⟨[(6, .val ag (.own 128))],[(48, .own 4 .bool),(128, .own 3 aB)],[96],130⟩ (.o (.two (.o (.o (.o (.two (.loop ⟨[(6, .val ag (.own 386)),(31, .l aB)],[(48, .own 4 .bool),(386, .own 3 aB)],[258],388⟩ (.o (.o (.two (.meet ⟨[(6, .val ag (.own 404))],[(48, .own 4 .bool),(404, .own 3 aB)],[386],406⟩ .nil .nil) .nil)))) .nil)))) .nil))) .nil) (.o (.two (.o (.two (.loop ⟨[(10, .val ag (.own 193)),(50, .l aB)],[(193, .own 3 aB)],[],194⟩ (.o (.o (.two (.meet ⟨[(10, .val ag (.own 210))],[(210, .own 3 aB)],[193],211⟩ .nil .nil) .nil)))) .nil)) .nil)))))) Tryz.func174 (by kernel_rfl) λx=>by kernel_rfl
def M.gG(a:List Int):Option (List Int):=
aiC (M.bN N a) λb=>aiC (M.bz N b) λc=>aa c
def RT:Fo 200 (.w1 3 aB) ⟨[(0, .val ag (.own 1))],[(1, .own 3 aB)],[],2⟩ (M.gG N):=fz N [VD N,VE N] [] Tryz.func200
def M.dw(e:List aD.den):Option ((List Int)×(List Int)×List Int):=
aiC (Loop (S:=Int×(List Int)×(List Int)×List Int) (X:=(List Int)×(List Int)×List Int) (λa=>(if(ah (a.1<(e.length:Int)))then
aiC (idx e a.1) λb=>aiC ((if(ah (b.1=7))then
aiC (cA a.2.1 ([b.2]:List Int)) λf=>aa (f,a.2.2.1,a.2.2.2)
else(if(ah (b.1=8))then
aiC (cA a.2.2.1 ([b.2]:List Int)) λg=>aa (a.2.1,g,a.2.2.2)
else
aiC (if(ah (b.1=36))then
aa (ah (b.1=36))
else(if(ah (b.1=37))then
aa (ah (b.1=37))
else(if(ah (b.1=38))then
aa (ah (b.1=38))
else
aa (ah (b.1=39))))) λh=>(if h then
aiC (cA a.2.2.2 ([b.2]:List Int)) λi=>aa (a.2.1,a.2.2.1,i)
else
aa (a.2.1,a.2.2.1,a.2.2.2)))):Option ((List Int)×(List Int)×List Int)) λc=>aa (.inl (aiE.wrap (a.1+1),c.1,c.2.1,c.2.2))
else
aa (.inr (a.2.1,a.2.2.1,a.2.2.2)))) N (0,([]:List Int),([]:List Int),([]:List Int)):Option ((List Int)×(List Int)×List Int)) λd=>aiC (M.gG N d.1) λj=>aiC (M.gG N d.2.1) λk=>aiC (M.gG N d.2.2) λl=>aa (j,k,l)
def VJ:Fo 176 (.i1 [.l (.slice aD)]) (.j1 [.val ag (.own 0), .val ag (.own 1), .val ag (.own 2)] [.own 3 aB, .own 3 aB, .own 3 aB] 3) (M.dw N):=fz N [RT N] [O,O,R ⟨[(5, .val ag (.own 96)),(6, .val ag (.own 97)),(7, .val ag (.own 98))],[(96, .own 3 aB),(97, .own 3 aB),(98, .own 3 aB)],[],99⟩,O,T,P ⟨[(5, .val ag (.own 144)),(6, .val ag (.own 145)),(7, .val ag (.own 146)),(12, .l aB)],[(144, .own 3 aB),(145, .own 3 aB),(146, .own 3 aB)],[],147⟩,O,O,T,T,O,O,R ⟨[(5, .val ag (.own 259)),(6, .val ag (.own 260)),(7, .val ag (.own 261))],[(259, .own 3 aB),(260, .own 3 aB),(261, .own 3 aB)],[144,145,146],262⟩,O,O,O,O,B 32 323] Tryz.func176
def M.fh(e:da.den)(f:Int):Option (List Int):=
aiC (M.dw N e.2.2.2.2.2.1) λg=>aiC (M.dw N e.2.2.2.2.2.2.1) λh=>aiC (Loop (S:=Int×List Int) (X:=List Int) (λa=>(if(ah (a.1<(g.2.1.length:Int)))then
aiC (aiC (idx g.2.1 a.1) λc=>aiC (if(ah (0<=c))then
aa (ah (c<f))
else
aa ag) λi=>(if i then
aiC (cA a.2 ([c]:List Int)) λj=>aa j
else
aa a.2):Option (List Int)) λk=>aa (.inl (aiE.wrap (a.1+1),k))
else
aa (.inr a.2))) N (0,([]:List Int)):Option (List Int)) λl=>Loop (S:=Int×List Int) (X:=List Int) (λb=>(if(ah (b.1<(h.2.1.length:Int)))then
aiC (aiC (idx h.2.1 b.1) λd=>aiC (if(ah (0<=d))then
aa (ah (d<f))
else
aa ag) λm=>(if m then
aiC (cA b.2 ([d]:List Int)) λn=>aa n
else
aa b.2):Option (List Int)) λo=>aa (.inl (aiE.wrap (b.1+1),o))
else
aa (.inr b.2))) N (0,l)
def VK:Fo 199 (.i1 [.g da, .l aB]) (.w1 3 aB) (u2 (M.fh N)):=fz N [VJ N] [O,O,O,O,R ⟨[(5, .val ag (.own 368))],[(368, .own 3 aB)],[],369⟩,O,T,P ⟨[(5, .val ag (.own 416)),(32, .l aB)],[(416, .own 3 aB)],[],417⟩,O,O,T,R ⟨[(5, .val ag (.own 433))],[(433, .own 3 aB)],[416],434⟩,O,B 42 481,X,X,X,T,O,T,P ⟨[(5, .val ag (.own 417)),(50, .l aB)],[(417, .own 3 aB)],[368],418⟩,O,O,T,R ⟨[(5, .val ag (.own 434))],[(434, .own 3 aB)],[417],435⟩,O,B 60 482] Tryz.func199
def M.fP(a:List Int):Option (List Int):=
aiC (M.bN N a) λb=>aiC (M.bz N b) λc=>aa c
def Ft:Fo 177 (.w1 3 aB) ⟨[(0, .val ag (.own 1))],[(1, .own 3 aB)],[],2⟩ (M.fP N):=fz N [VD N,VE N] [] Tryz.func177
def M.gH(d:aM.den):Option (List (List Int)):=
aiC (pT (d.2.2.2.1.length:Int) ([]:List Int)) λf=>aiC (Loop (S:=Int×List (List Int)) (X:=List (List Int)) (λb=>(if(ah (b.1<(d.2.2.2.2.length:Int)))then
aiC (aiC (idx d.2.2.2.2 b.1) λc=>aiC (if(ah (0<=c.2.1))then
aa (ah (c.2.1<(b.2.length:Int)))
else
aa ag) λg=>(if g then
aiC (idx b.2 c.2.1) λn=>aiC (idx b.2 c.2.1) λh=>aiC (M.fh N c (b.2.length:Int)) λi=>aiC (cA h i) λj=>aiC (idx b.2 c.2.1) λo=>(if ah (c.2.1=c.2.1)then
aiC (idx b.2 c.2.1) λp=>aa (sD b.2 c.2.1 (λq=>j))
else ae)
else
aa b.2):Option (List (List Int))) λk=>aa (.inl (aiE.wrap (b.1+1),k))
else
aa (.inr b.2))) N (0,f):Option (List (List Int))) λe=>Loop (S:=Int×List (List Int)) (X:=List (List Int)) (λa=>(if(ah (a.1<(e.length:Int)))then
aiC (idx a.2 a.1) λr=>aiC (idx a.2 a.1) λl=>aiC (M.fP N l) λm=>aiC (idx a.2 a.1) λs=>(if ah (a.1=a.1)then
aiC (idx a.2 a.1) λt=>aa (.inl (aiE.wrap (a.1+1),sD a.2 a.1 (λu=>m)))
else ae)
else
aa (.inr a.2))) N (0,e)
def ZJ:oB:=⟨.i1 [.g aM], .j1 [.val ag (.own 0)] [.deep 27 (.sl 3 (.leaf aB))] 1,M.gH N⟩
def VL(N:Nat):fN Tryz.prog 175 (ZJ N):=fw (en [ck (Ft N),ck (VK N)] af ag) (N:=N) (.o (.o (.meet ⟨[],[(80, .deep 27 (.sl 3 (.leaf aB)))],[],113⟩ (.o (.two (.loop ⟨[(15, .l aB)],[(80, .deep 27 (.sl 3 (.leaf aB)))],[],177⟩ (.o (.o (.two (.meet ⟨[],[(80, .deep 27 (.sl 3 (.leaf aB)))],[],194⟩ (.o (.meet ⟨[(28, .l .bool)],[],[],257⟩ .nil .nil)) .nil) .nil)))) .nil)) (.two (.o (.two (.loop ⟨[(46, .l aB)],[(80, .deep 27 (.sl 3 (.leaf aB)))],[],162⟩ .nil) .nil)) .nil)))) Tryz.func175 (by kernel_rfl) λx=>by kernel_rfl
def M.dx(b:aM.den)(a:Int):Option (List Int):=
aiC (if(ah (a<0))then
aa af
else
aa (ah ((b.2.2.2.1.length:Int)<=a))) λc=>(if c then
aa ([]:List Int)
else
aiC (M.gH N b) λd=>aiC (M.lv N d a) λe=>aa e)
def RU:Fo 155 (.i1 [.g aM, .l aB]) (.w1 3 aB) (u2 (M.dx N)):=fz N [VI N,VL N] [O,T,B 13 32] Tryz.func155
def M.jr(N:Nat)(b:bA.den)(a:bA.den):Option (Bool×bA.den):=
aa (ah (b.1=a.1),a)
def RV:Fo 214 (.j1 [.g bA, .ptr 0 [] 0] [.box 127 (.leaf bA)] 1) (.j1 [.l .bool] [.box 127 (.leaf bA)] 2) (u2 (M.jr N)):=fz N [] [] Tryz.func214
def M.bu(c:List bA.den)(d:bA.den):Option (Int×bA.den):=
Loop (S:=Int×bA.den) (X:=Int×bA.den) (λa=>(if(ah (a.1<(c.length:Int)))then
aiC (idx c a.1) λe=>aiC (M.jr N e a.2) λb=>(if b.1 then
aa (.inr (a.1,b.2))
else
aa (.inl (aiE.wrap (a.1+1),b.2)))
else
aa (.inr ((-1),a.2)))) N (0,d)
def RW:Fo 234 (.j1 [.l (.slice bA), .fn 214 [(0,[],0)]] [.box 127 (.leaf bA)] 1) (.j1 [.l aB] [.box 127 (.leaf bA)] 2) (u2 (M.bu N)):=fz N [RV N] [O,T,O,T,P ⟨[(8, .l aB)],[(0, .box 127 (.leaf bA))],[],66⟩] Tryz.func234
def M.bd(b:List bA.den)(c:bA.den):Option (Bool×bA.den):=
aiC (M.bu N b c) λa=>aa (ah (0<=a.1),a.2)
def RX:Fo 215 (.j1 [.l (.slice bA), .fn 214 [(0,[],0)]] [.box 127 (.leaf bA)] 1) (.j1 [.l .bool] [.box 127 (.leaf bA)] 2) (u2 (M.bd N)):=fz N [RW N] [] Tryz.func215
def M.jt(e:bV.den)(b:bA.den)(f:List bA.den)(g:List bA.den):Option Int:=
aiC (M.cu N b.1) λh=>(if(!h)then
aa 2
else
aiC (aiC (M.bd N f b) λa=>(if a.1 then
aa (af,a.2)
else
aiC (M.bd N g a.2) λc=>aa (c.1,c.2)):Option (Bool×bA.den)) λd=>(if d.1 then
aa 7
else
aiC (M.cW N d.2.2 e.1) λi=>(if(!i)then
aa 8
else
aa 0)))
def ZK:Fo 194 (.i1 [.g bV, .g bA, .l (.slice bA), .l (.slice bA)]) (.i1 [.l aB]) (u4 (M.jt N)):=fz N [LZ N,LY N,RX N] [O,O,T,T,O,O,R ⟨[(16, .l .bool)],[(16, .box 127 (.leaf bA))],[],161⟩] Tryz.func194
def M.lz(b:List bA.den):Option (List aD.den):=
Loop (S:=Int×List aD.den) (X:=List aD.den) (λa=>(if(ah (a.1<(b.length:Int)))then
aiC (idx b a.1) λc=>aiC (cA a.2 ([c.2]:List aD.den)) λd=>aa (.inl (aiE.wrap (a.1+1),d))
else
aa (.inr a.2))) N (0,([]:List aD.den))
def ZL:Fo 216 (.i1 [.l (.slice bA)]) (.w1 74 aD) (M.lz N):=fz N [] [O,O,T,O,T,P ⟨[(3, .val ag (.own 80)),(8, .l aB)],[(80, .own 74 aD)],[],81⟩] Tryz.func216
def M.jZ(a:bV.den)(f:Int):Option ((List dY.den)×(List bm.den)×Bool×(List aD.den)×(List aD.den)×List aD.den):=
aiC (idx a.2.2 f) λc=>aiC (M.lz N c.2.2.1) λd=>aiC (M.lz N c.2.2.2.1) λe=>aiC (aiC (if(ah (0<=c.2.1))then
aa (ah (c.2.1<(a.2.2.length:Int)))
else
aa ag) λg=>(if g then
aiC (idx a.2.2 c.2.1) λh=>aiC (M.lz N h.2.2.2.1) λi=>aa (d,e,a.1,a.2.1,af,i)
else
aa (d,e,a.1,a.2.1,ag,([]:List aD.den))):Option ((List aD.den)×(List aD.den)×(List dY.den)×(List bm.den)×Bool×List aD.den)) λb=>aa (b.2.2.1,b.2.2.2.1,b.2.2.2.2.1,b.1,b.2.1,b.2.2.2.2.2)
def ZM:Fo 195 (.i1 [.g bV, .l aB]) (.j1 [.val af (.pair (.leaf (.slice dY)) (.pair (.leaf (.slice bm)) (.pair (.own 0) (.pair (.own 1) (.pair (.own 2) (.leaf .bool))))))] [.own 74 aD, .own 74 aD, .own 74 aD] 3) (u2 (M.jZ N)):=fz N [ZL N] [O,O,O,R ⟨[],[(240, .own 74 aD),(288, .own 74 aD),(320, .box 301 (.pair (.leaf (.slice dY)) (.pair (.leaf (.slice bm)) (.pair (.own 240) (.pair (.own 288) (.pair (.own 352) (.leaf .bool))))))),(352, .own 74 aD)],[],356⟩,B 33 352] Tryz.func195
def M.strings_Contains(N:Nat)(a:ByteArray)(b:ByteArray):Option Bool:=qT (a,b)
def ZN:oB:=⟨.i1 [.l .str, .l .str], .i1 [.l .bool],u2 (M.strings_Contains N)⟩
def ZO(N:Nat):fN Tryz.prog 236 (ZN N):=C5 ⟨_,Tryz.func236,by kernel_rfl,by kernel_rfl⟩ Tryz.strings_Contains_one
def M.kC(a:ByteArray):Option Bool:=
aiC (if(ah (64<(a.size:Int)))then
aa af
else
aiC (M.strings_Contains N a (⟨#[34]⟩:ByteArray)) λc=>aa c) λd=>(if d then
aa ag
else
Loop (S:=Int) (X:=Bool) (λb=>(if(ah (b<(a.size:Int)))then
aiC (aiC (lW a b) λe=>(if(ah (e<32))then
aa af
else
aiC (lW a b) λf=>aa (ah (126<f))):Option Bool) λg=>(if g then
aa (.inr ag)
else
aa (.inl (aiE.wrap (b+1))))
else
aa (.inr af))) N 0)
def ZP:Fo 219 (.i1 [.l .str]) (.i1 [.l .bool]) (M.kC N):=fz N [ZO N] [O,T,B 10 16,T,O,T,L 13 64,O,O,T,T,O,B 25 112] Tryz.func219
def M.fZ(N:Nat)(a:Int):Option Int:=
aiC (if(ah (a=1))then
aa (ah (a=1))
else(if(ah (a=2))then
aa (ah (a=2))
else(if(ah (a=3))then
aa (ah (a=3))
else(if(ah (a=4))then
aa (ah (a=4))
else(if(ah (a=5))then
aa (ah (a=5))
else(if(ah (a=6))then
aa (ah (a=6))
else(if(ah (a=7))then
aa (ah (a=7))
else(if(ah (a=8))then
aa (ah (a=8))
else(if(ah (a=9))then
aa (ah (a=9))
else(if(ah (a=35))then
aa (ah (a=35))
else(if(ah (a=36))then
aa (ah (a=36))
else(if(ah (a=37))then
aa (ah (a=37))
else(if(ah (a=38))then
aa (ah (a=38))
else
aa (ah (a=39))))))))))))))) λb=>(if b then
aa 0
else
aiC (if(ah (a=10))then
aa (ah (a=10))
else(if(ah (a=25))then
aa (ah (a=25))
else(if(ah (a=31))then
aa (ah (a=31))
else(if(ah (a=32))then
aa (ah (a=32))
else(if(ah (a=33))then
aa (ah (a=33))
else
aa (ah (a=34))))))) λc=>(if c then
aa 1
else
aiC (if(ah (a=11))then
aa (ah (a=11))
else(if(ah (a=12))then
aa (ah (a=12))
else(if(ah (a=13))then
aa (ah (a=13))
else(if(ah (a=14))then
aa (ah (a=14))
else(if(ah (a=15))then
aa (ah (a=15))
else(if(ah (a=16))then
aa (ah (a=16))
else(if(ah (a=17))then
aa (ah (a=17))
else(if(ah (a=18))then
aa (ah (a=18))
else(if(ah (a=19))then
aa (ah (a=19))
else(if(ah (a=20))then
aa (ah (a=20))
else(if(ah (a=21))then
aa (ah (a=21))
else(if(ah (a=22))then
aa (ah (a=22))
else(if(ah (a=23))then
aa (ah (a=23))
else(if(ah (a=24))then
aa (ah (a=24))
else(if(ah (a=27))then
aa (ah (a=27))
else(if(ah (a=28))then
aa (ah (a=28))
else(if(ah (a=29))then
aa (ah (a=29))
else
aa (ah (a=30))))))))))))))))))) λd=>(if d then
aa 2
else(if(ah (a=26))then
aa 3
else
aa (-1)))))
def L2:Fo 240 (.i1 [.l aB]) (.i1 [.l aB]) (M.fZ N):=fz N [] [O,T,O,T,R ⟨[(4, .l .bool)],[],[],32⟩,X,O,R ⟨[(19, .l .bool)],[],[],32⟩,X,O,B 26 32] Tryz.func240
def M.fi(b:List aD.den):Option (Int×Int×List Int):=
(if(ah (48<(b.length:Int)))then
aa (0,4,([]:List Int))
else(if(ah ((b.length:Int)=0))then
aa (0,5,([]:List Int))
else
aiC (pT (b.length:Int) 0) λg=>b9 (J:=(List Int)×List Int) (R:=Int×Int×List Int) (Loop (S:=Int×(List Int)×List Int) (X:=((List Int)×List Int)⊕(Int×Int×List Int)) (λa=>(if(ah (a.1<(b.length:Int)))then
aiC (idx b a.1) λh=>aiC (M.fZ N h.1) λc=>(if(ah (c<0))then
aa (.inr (.inr (a.1,2,([]:List Int))))
else(if(ah ((a.2.2.length:Int)<c))then
aa (.inr (.inr (a.1,5,([]:List Int))))
else
aiC (idx a.2.1 a.1) λl=>aiC ((if(ah (0<c))then
aiC (idx a.2.2 (aiE.wrap ((a.2.2.length:Int)-c))) λi=>aiC (idx (b8 a.2.1 a.1 a.1) a.1) λm=>aa (b8 (b8 a.2.1 a.1 a.1) a.1 i)
else
aa (b8 a.2.1 a.1 a.1)):Option (List Int)) λd=>aiC (fX a.2.2 0 (aiE.wrap ((a.2.2.length:Int)-c))) λj=>aiC (idx d a.1) λk=>aiC (cA j ([k]:List Int)) λe=>(if(ah (12<(e.length:Int)))then
aa (.inr (.inr (a.1,16,([]:List Int))))
else
aa (.inl (aiE.wrap (a.1+1),d,e)))))
else
aa (.inr (.inl (a.2.1,a.2.2))))) N (0,g,([]:List Int))) λf=>(if(ah (1<(f.2.length:Int)))then
aa ((b.length:Int),4,([]:List Int))
else
aa (0,0,f.1))))
def VM:Fo 230 (.i1 [.l (.slice aD)]) (.j1 [.val ag (.own 0), .l aB, .l aB] [.own 3 aB] 1) (M.fi N):=fz N [L2 N] [O,O,O,O,O,J ⟨[(6, .val ag (.own 224))],[(176, .own 3 aB),(224, .own 3 aB)],[],226⟩,O,T,P ⟨[(6, .val ag (.own 272)),(21, .l aB)],[(176, .own 3 aB),(272, .own 3 aB)],[],274⟩,O,O,T,T,O,O,O,O,O,R ⟨[],[(176, .own 3 aB)],[],627⟩] Tryz.func230
def M.kV(N:Nat)(a:Int):Option Bool:=
aiC (if(ah (a=1))then
aa (ah (a=1))
else(if(ah (a=2))then
aa (ah (a=2))
else(if(ah (a=3))then
aa (ah (a=3))
else(if(ah (a=4))then
aa (ah (a=4))
else(if(ah (a=5))then
aa (ah (a=5))
else(if(ah (a=6))then
aa (ah (a=6))
else(if(ah (a=7))then
aa (ah (a=7))
else(if(ah (a=8))then
aa (ah (a=8))
else(if(ah (a=14))then
aa (ah (a=14))
else(if(ah (a=15))then
aa (ah (a=15))
else(if(ah (a=16))then
aa (ah (a=16))
else(if(ah (a=33))then
aa (ah (a=33))
else(if(ah (a=34))then
aa (ah (a=34))
else(if(ah (a=36))then
aa (ah (a=36))
else(if(ah (a=37))then
aa (ah (a=37))
else(if(ah (a=38))then
aa (ah (a=38))
else
aa (ah (a=39)))))))))))))))))) λb=>(if b then
aa af
else
aa ag)
def VN:Fo 249 (.i1 [.l aB]) (.i1 [.l .bool]) (M.kV N):=fz N [] [O,T,O,T,B 4 32] Tryz.func249
def M.dH(a:Int)(b:Int)(d:bT.den):Option (aD.den×Int):=
aiC (M.fO N (b,0) d.1) λc=>aiC (if(ah (a<c.1))then
aa af
else
aa (ah (c.2<a))) λe=>(if e then
aa ((0,0),3)
else
aa ((b,0),0))
def ZQ:Fo 263 (.i1 [.l aB, .l aB, .g bT]) (.i1 [.g aD, .l aB]) (u3 (M.dH N)):=fz N [Xz N] [O,O,T,O,B 27 256] Tryz.func263
def M.ct(N:Nat)(a:Int)(b:bT.den):Option (aD.den×Int):=
(if(ah (a<0))then
aa ((0,0),3)
else
aiC (if(ah ((b.1.length:Int)<=(aiE.wrap (aiQ a 16))))then
aa af
else
aiC (idx b.1 (aiE.wrap (aiQ a 16))) λc=>aa (ah ((c.2.length:Int)<=(ajd a 16)))) λd=>(if d then
aa ((0,0),6)
else
aa ((6,aiE.wrap (aiQ a 16)),0)))
def ZR:Fo 264 (.i1 [.l aB, .g bT]) (.i1 [.g aD, .l aB]) (u2 (M.ct N)):=fz N [] [O,O,O,T,B 30 176] Tryz.func264
def M.fG(a:Int)(b:List aD.den)(c:bT.den):Option (aD.den×Int):=
aiC (if(ah (a<0))then
aa af
else
aa (ah ((b.length:Int)<=a))) λd=>(if d then
aa ((0,0),6)
else
aiC (idx b a) λe=>aiC (M.cW N e c.1) λf=>(if(!f)then
aa ((0,0),8)
else
aiC (idx b a) λg=>aa (g,0)))
def VO:Fo 265 (.i1 [.l aB, .l (.slice aD), .g bT]) (.i1 [.g aD, .l aB]) (u3 (M.fG N)):=fz N [LZ N] [O,T,B 15 48] Tryz.func265
def M.ju(N:Nat)(a:Int):Option Bool:=
aiC (if(ah (0<=a))then
aa (ah (a<=5))
else
aa ag) λb=>aa b
def VP:Fo 268 (.i1 [.l aB]) (.i1 [.l .bool]) (M.ju N):=fz N [] [O,B 2 16] Tryz.func268
def M.lA(a:aD.den)(f:aD.den)(b:bT.den):Option (aD.den×Int):=
b9 (J:=Int) (R:=aD.den×Int) ((if(ah (a.1=34))then
aiC (if(ah (a.2<0))then
aa af
else
aiC (M.ju N (ajd a.2 8)) λg=>aa (!g)) λh=>(if h then
aa (.inr ((0,0),3))
else
aa (.inl (aiE.wrap (aiQ a.2 8))))
else
aa (.inl a.2))) λc=>aiC (if(ah (c<0))then
aa af
else
aa (ah ((b.2.1.length:Int)<=c))) λi=>(if i then
aa ((0,0),6)
else
aiC (idx b.2.1 c) λd=>aiC (idx b.2.1 c) λe=>aiC (aiC (M.cW N d.2.1 b.1) λj=>(if(!j)then
aa af
else
aiC (M.cW N e.2.2.1 b.1) λk=>(if(!k)then
aa af
else
aa (!(oo aD f d.2.1)))):Option Bool) λl=>(if l then
aa ((0,0),8)
else(if(ah (a.1=34))then
aiC (if(!ah (d.2.1.1=3))then
aa af
else
aa (!ah (e.2.2.1.1=4))) λm=>(if m then
aa ((0,0),8)
else
aa (d.2.1,0))
else
aa (e.2.2.1,0))))
def ZS:Fo 266 (.i1 [.g aD, .g aD, .g bT]) (.i1 [.g aD, .l aB]) (u3 (M.lA N)):=fz N [LZ N,VP N] [O,O,J ⟨[(8, .l aB)],[],[],128⟩,O,T,T,B 25 176,X,X,T,B 38 128,O,T,B 68 384,T,O,T,T,B 80 432] Tryz.func266
def M.fa(N:Nat)(a:Int):Option Bool:=
aiC (if(ah (a=2))then
aa af
else(if(ah (a=3))then
aa af
else
aa (ah (a=4)))) λb=>aa b
def VQ:Fo 283 (.i1 [.l aB]) (.i1 [.l .bool]) (M.fa N):=fz N [] [O,B 2 16] Tryz.func283
def M.bO(b:aD.den)(c:bT.den):Option (aD.den×Int):=
(if(!c.2.2.2.2.2)then
aa ((0,0),6)
else(if(ah (b.1=35))then
aa ((2,0),0)
else
aiC (M.fG N b.2 c.2.2.2.2.1 c) λa=>(if(!ah (a.2=0))then
aa ((0,0),a.2)
else
aiC (if(ah (b.1=36))then(if(ah (a.1.1=2))then
aa af
else
aa (ah (a.1.1=3)))
else
aiC (if(ah (b.1=37))then
aa (ah (b.1=37))
else
aa (ah (b.1=38))) λd=>(if d then
aa (ah (a.1.1=1))
else(if(ah (b.1=39))then
aiC (M.fa N a.1.1) λe=>(if e then
aa af
else
aa (ah (a.1.1=5)))
else
aa ag))) λf=>(if(!f)then
aa ((0,0),8)
else
aa (a.1,0)))))
def ZT:Fo 267 (.i1 [.g aD, .g bT]) (.i1 [.g aD, .l aB]) (u2 (M.bO N)):=fz N [VO N,VQ N] [O,O,O,O,O,O,T,O,R ⟨[(8, .l .bool)],[],[],432⟩,O,O,B 42 464] Tryz.func267
def M.mc(N:Nat)(c:Int)(a:Int)(b:Int):Option (aD.den×Bool):=
(if(ah (c=14))then
aiC ((if(ah (b=4))then(if(ah (a=3))then
aa (af,(a,0))
else
aa (ah (a=4),(a,0)))
else
aa (ag,(a,0))):Option (Bool×aD.den)) λd=>aa (d.2,d.1)
else(if(ah (b=2))then
aiC ((if(ah (a=2))then
aa (af,(a,0))
else
aa (ah (a=3),(a,0))):Option (Bool×aD.den)) λe=>aa (e.2,e.1)
else
aiC (if(ah (c=15))then(if(ah (a=3))then
aa (ah (b=3))
else
aa ag)
else
aa ag) λf=>(if f then
aa ((4,0),af)
else
aa ((0,0),ag))))
def ZU:Fo 284 (.i1 [.l aB, .l aB, .l aB]) (.i1 [.g aD, .l .bool]) (u3 (M.mc N)):=fz N [] [O,T,T,O,T,R ⟨[(7, .l .bool)],[(0, .box 74 (.leaf aD))],[],81⟩,X,X,O,T,R ⟨[(7, .l .bool)],[(0, .box 74 (.leaf aD))],[],129⟩,X,X,B 34 128] Tryz.func284
def M.dT(b:Int)(a:List aD.den):Option (aD.den×Bool):=
(if(ah (b=10))then
aiC (idx a 0) λq=>aiC (idx a 0) λr=>aiC (M.fa N r.1) λs=>aa (q,s)
else(if(ah (b=25))then
aiC (idx a 0) λt=>aa ((1,0),ah (t.1=1))
else
aiC (if(ah (b=11))then
aa (ah (b=11))
else
aa (ah (b=12))) λu=>(if u then
aiC (aiC (idx a 0) λd=>aiC (idx a 0) λv=>aiC (idx a 1) λw=>(if(oo aD v w)then
aiC (idx a 0) λx=>aiC (M.fa N x.1) λy=>aa (y,d)
else
aa (ag,d)):Option (Bool×aD.den)) λe=>aa (e.2,e.1)
else
aiC (if(ah (b=13))then
aa (ah (b=13))
else(if(ah (b=14))then
aa (ah (b=14))
else
aa (ah (b=15)))) λz=>(if z then
aiC (idx a 0) λA=>aiC (idx a 1) λC=>aiC (M.mc N b A.1 C.1) λf=>aa (f.1,f.2)
else(if(ah (b=16))then
aiC (aiC (idx a 0) λg=>aiC (idx a 0) λD=>(if(ah (D.1=3))then
aiC (idx a 1) λF=>aa (ah (F.1=3),g)
else
aa (ag,g)):Option (Bool×aD.den)) λh=>aa (h.2,h.1)
else
aiC (if(ah (b=17))then
aa (ah (b=17))
else
aa (ah (b=18))) λG=>(if G then
aiC (aiC (idx a 0) λc=>aiC (idx a 0) λH=>aiC (idx a 1) λI=>(if(oo aD H I)then
aiC (idx a 0) λQ=>aiC (M.fa N Q.1) λU=>(if U then
aa (af,c)
else
aiC (idx a 0) λV=>aa (ah (V.1=5),c))
else
aa (ag,c)):Option (Bool×aD.den)) λi=>aa (i.2,i.1)
else
aiC (if(ah (b=19))then
aa (ah (b=19))
else
aa (ah (b=20))) λW=>(if W then
aiC (idx a 0) λY=>aiC (idx a 1) λZ=>aa ((1,0),(oo aD Y Z))
else
aiC (if(ah (b=21))then
aa (ah (b=21))
else
aa (ah (b=22))) λj31=>(if j31 then
aiC (aiC (idx a 0) λQc=>aiC (idx a 1) λVS=>(if(oo aD Qc VS)then
aiC (idx a 0) λx35=>aiC (M.fa N x35.1) λy36=>(if y36 then
aa (af,(1,0))
else
aiC (idx a 0) λx37=>aa (ah (x37.1=5),(1,0)))
else
aa (ag,(1,0))):Option (Bool×aD.den)) λj=>aa (j.2,j.1)
else
aiC (if(ah (b=23))then
aa (ah (b=23))
else
aa (ah (b=24))) λj38=>(if j38 then
aiC (aiC (idx a 0) λx40=>(if(ah (x40.1=1))then
aiC (idx a 1) λx41=>aa (ah (x41.1=1),(1,0))
else
aa (ag,(1,0))):Option (Bool×aD.den)) λk=>aa (k.2,k.1)
else(if(ah (b=26))then
aiC (aiC (idx a 1) λl=>aiC (idx a 0) λx44=>(if(ah (x44.1=1))then
aiC (idx a 1) λx45=>aiC (idx a 2) λx46=>aa ((oo aD x45 x46),l)
else
aa (ag,l)):Option (Bool×aD.den)) λm=>aa (m.2,m.1)
else
aiC (if(ah (b=27))then
aa (ah (b=27))
else
aa (ah (b=28))) λj47=>(if j47 then
aiC (aiC (idx a 0) λn=>aiC (idx a 0) λx50=>(if(ah (x50.1=5))then
aiC (idx a 1) λx51=>aa (ah (x51.1=2),n)
else
aa (ag,n)):Option (Bool×aD.den)) λo=>aa (o.2,o.1)
else
aiC (if(ah (b=29))then
aa (ah (b=29))
else
aa (ah (b=30))) λj52=>(if j52 then
aiC (aiC (idx a 0) λx54=>(if(ah (x54.1=5))then
aiC (idx a 1) λx55=>aa (ah (x55.1=5),(2,0))
else
aa (ag,(2,0))):Option (Bool×aD.den)) λp=>aa (p.2,p.1)
else
aiC (if(ah (b=31))then
aa (ah (b=31))
else
aa (ah (b=32))) λj56=>(if j56 then
aiC (idx a 0) λx57=>aa ((2,0),ah (x57.1=5))
else
aa ((0,0),ag))))))))))))))
def ZV:Fo 269 (.i1 [.l aB, .l (.slice aD)]) (.i1 [.g aD, .l .bool]) (u2 (M.dT N)):=fz N [VQ N,ZU N] [O,O,T,O,T,O,O,O,O,R ⟨[(27, .l .bool)],[],[],160⟩,X,T,R ⟨[(5, .l .bool)],[(0, .box 74 (.leaf aD))],[],161⟩,X,X,R ⟨[(47, .l .bool)],[],[],160⟩,X,O,O,T,R ⟨[(5, .l .bool)],[(0, .box 74 (.leaf aD))],[],193⟩,X,X,R ⟨[(80, .l .bool)],[],[],192⟩,X,T,R ⟨[(5, .l .bool)],[(0, .box 74 (.leaf aD))],[],193⟩,X,X,R ⟨[(107, .l .bool)],[],[],192⟩,X,O,R ⟨[(118, .l .bool)],[],[],192⟩,X,T,R ⟨[(5, .l .bool)],[(0, .box 74 (.leaf aD))],[],193⟩,X,X,R ⟨[(143, .l .bool)],[],[],192⟩,X,T,R ⟨[(5, .l .bool)],[(0, .box 74 (.leaf aD))],[],193⟩,X,X,O,T,R ⟨[(5, .l .bool)],[(0, .box 74 (.leaf aD))],[],225⟩,X,X,R ⟨[(178, .l .bool)],[],[],224⟩,X,T,R ⟨[(5, .l .bool)],[(0, .box 74 (.leaf aD))],[],225⟩,X,X,R ⟨[(196, .l .bool)],[],[],224⟩,X,T,R ⟨[(5, .l .bool)],[(0, .box 74 (.leaf aD))],[],225⟩,X,X,B 212 224] Tryz.func269
def M.bi(a:aD.den)(c:List aD.den)(b:bT.den):Option (aD.den×Int):=
b9 (J:=Unit) (R:=aD.den×Int) ((if(ah (a.1=1))then
aiC (M.dH N a.2 1 b) λd=>aa (.inr (d.1,d.2))
else(if(ah (a.1=2))then
aiC (M.dH N a.2 2 b) λe=>aa (.inr (e.1,e.2))
else(if(ah (a.1=3))then
aiC (M.dH N a.2 3 b) λf=>aa (.inr (f.1,f.2))
else(if(ah (a.1=4))then
aiC (M.dH N a.2 4 b) λg=>aa (.inr (g.1,g.2))
else(if(ah (a.1=5))then
aiC (M.dH N a.2 5 b) λh=>aa (.inr (h.1,h.2))
else(if(ah (a.1=6))then
aiC (M.ct N a.2 b) λi=>aa (.inr (i.1,i.2))
else(if(ah (a.1=7))then
aiC (M.fG N a.2 b.2.2.1 b) λj=>aa (.inr (j.1,j.2))
else(if(ah (a.1=8))then
aiC (M.fG N a.2 b.2.2.2.1 b) λk=>aa (.inr (k.1,k.2))
else(if(ah (a.1=9))then
aa (.inr ((5,0),0))
else
aiC (if(ah (a.1=33))then
aa (ah (a.1=33))
else
aa (ah (a.1=34))) λo=>(if o then
aiC (idx c 0) λp=>aiC (M.lA N a p b) λl=>aa (.inr (l.1,l.2))
else
aiC (if(ah (a.1=35))then
aa (ah (a.1=35))
else(if(ah (a.1=36))then
aa (ah (a.1=36))
else(if(ah (a.1=37))then
aa (ah (a.1=37))
else(if(ah (a.1=38))then
aa (ah (a.1=38))
else
aa (ah (a.1=39)))))) λq=>(if q then
aiC (M.bO N a b) λm=>aa (.inr (m.1,m.2))
else
aiC (if(ah (a.1=14))then
aa (ah (a.1=14))
else(if(ah (a.1=15))then
aa (ah (a.1=15))
else
aa (ah (a.1=16)))) λr=>(if r then
aiC (M.ju N a.2) λs=>(if(!s)then
aa (.inr ((0,0),3))
else
aa (.inl ()))
else
aa (.inl ())))))))))))))) λt=>aiC (M.dT N a.1 c) λn=>(if(!n.2)then
aa ((0,0),8)
else
aa (n.1,0))
def ZW:Fo 250 (.i1 [.g aD, .l (.slice aD), .g bT]) (.i1 [.g aD, .l aB]) (u3 (M.bi N)):=fz N [ZQ N,ZR N,VO N,ZS N,ZT N,VP N,ZV N] [O,T,O,E 96,O,O,O,O,O,O,O,O,O,O,O,O,O,O,O,O,O,O,R ⟨[(83, .l .bool)],[],[],384⟩,X,O,R ⟨[(94, .l .bool)],[],[],384⟩,X,O,B 105 384] Tryz.func250
def M.nW(c:List aD.den)(g:bT.den):Option (aD.den×Int×Int):=
aiC (M.fi N c) λd=>(if(!ah (d.2.1=0))then
aa ((0,0),d.1,d.2.1)
else
b9 (J:=List aD.den) (R:=aD.den×Int×Int) (Loop (S:=Int×List aD.den) (X:=(List aD.den)⊕(aD.den×Int×Int)) (λa=>(if(ah (a.1<(c.length:Int)))then
aiC (idx c a.1) λb=>aiC (if(!ah (b.2=0))then
aiC (M.kV N b.1) λh=>aa (!h)
else
aa ag) λi=>(if i then
aa (.inr (.inr ((0,0),a.1,2)))
else
aiC (M.fZ N b.1) λf=>aiC (fX a.2 (aiE.wrap ((a.2.length:Int)-f)) (a.2.length:Int)) λj=>aiC (M.bi N b j g) λe=>(if(!ah (e.2=0))then
aa (.inr (.inr ((0,0),a.1,e.2)))
else
aiC (fX a.2 0 (aiE.wrap ((a.2.length:Int)-f))) λk=>aiC (cA k ([e.1]:List aD.den)) λl=>aa (.inl (aiE.wrap (a.1+1),l))))
else
aa (.inr (.inl a.2)))) N (0,([]:List aD.den))) λm=>aiC (idx m 0) λn=>aa (n,0,0))
def ZX:Fo 237 (.i1 [.l (.slice aD), .g bT]) (.i1 [.g aD, .l aB, .l aB]) (u2 (M.nW N)):=fz N [VM N,L2 N,VN N,ZW N] [O,O,O,O,J ⟨[(10, .val ag (.own 256))],[(256, .own 74 aD)],[],257⟩,O,T,P ⟨[(10, .val ag (.own 304)),(29, .l aB)],[(304, .own 74 aD)],[],305⟩,O,O,T,T,O,T,B 42 417] Tryz.func237
def M.ga(b:List aD.den)(c:bT.den)(d:aD.den):Option Int:=
aiC (M.nW N b c) λa=>(if(!ah (a.2.2=0))then
aa a.2.2
else(if(!(oo aD a.1 d))then
aa 8
else
aa 0))
def ZY:Fo 220 (.i1 [.l (.slice aD), .g bT, .g aD]) (.i1 [.l aB]) (u3 (M.ga N)):=fz N [ZX N] [] Tryz.func220
def M.ke(N:Nat)(b:da.den)(a:da.den):Option (Bool×da.den):=
aa (ah (b.1=a.1),a)
def RY:Fo 218 (.j1 [.g da, .ptr 0 [] 0] [.box 130 (.leaf da)] 1) (.j1 [.l .bool] [.box 130 (.leaf da)] 2) (u2 (M.ke N)):=fz N [] [] Tryz.func218
def M.bD(c:List da.den)(d:da.den):Option (Int×da.den):=
Loop (S:=Int×da.den) (X:=Int×da.den) (λa=>(if(ah (a.1<(c.length:Int)))then
aiC (idx c a.1) λe=>aiC (M.ke N e a.2) λb=>(if b.1 then
aa (.inr (a.1,b.2))
else
aa (.inl (aiE.wrap (a.1+1),b.2)))
else
aa (.inr ((-1),a.2)))) N (0,d)
def RZ:Fo 235 (.j1 [.l (.slice da), .fn 218 [(0,[],0)]] [.box 130 (.leaf da)] 1) (.j1 [.l aB] [.box 130 (.leaf da)] 2) (u2 (M.bD N)):=fz N [RY N] [O,T,O,T,P ⟨[(8, .l aB)],[(0, .box 130 (.leaf da))],[],66⟩] Tryz.func235
def M.bp(b:List da.den)(c:da.den):Option (Bool×da.den):=
aiC (M.bD N b c) λa=>aa (ah (0<=a.1),a.2)
def R0:Fo 217 (.j1 [.l (.slice da), .fn 218 [(0,[],0)]] [.box 130 (.leaf da)] 1) (.j1 [.l .bool] [.box 130 (.leaf da)] 2) (u2 (M.bp N)):=fz N [RZ N] [] Tryz.func217
def M.kr(b:aM.den)(d:Int)(f:bT.den):Option Int:=
aiC (idx b.2.2.2.2 d) λe=>aiC (aiC (fX b.2.2.2.2 0 d) λg=>Loop (S:=Int×Int) (X:=Int) (λc=>(if(ah (c.2<(g.length:Int)))then
aiC (aiC (idx g c.2) λi=>(if(ah (i.2.1=e.2.1))then
aa (aiE.wrap (c.1+1))
else
aa c.1):Option Int) λj=>aa (.inl (j,aiE.wrap (c.2+1)))
else
aa (.inr c.1))) N (0,0):Option Int) λk=>aiC (M.cu N e.1) λl=>(if(!l)then
aa 2
else
aiC (fX b.2.2.2.2 0 d) λm=>aiC (M.bp N m e) λa=>(if a.1 then
aa 7
else
aiC (if(ah (a.2.2.1<0))then
aa af
else
aa (ah ((b.2.2.2.1.length:Int)<=a.2.2.1))) λn=>(if n then
aa 6
else
aiC (if(!ah (a.2.2.2.1=(-1)))then(if(ah (a.2.2.2.1<0))then
aa af
else(if(ah (d<=a.2.2.2.1))then
aa af
else
aiC (idx b.2.2.2.2 a.2.2.2.1) λo=>aa (!ah (o.2.1=a.2.2.1))))
else
aa ag) λp=>(if p then
aa 9
else
aiC (if(ah (a.2.2.2.2.1<0))then
aa af
else
aa (ah (9<a.2.2.2.2.1))) λq=>(if q then
aa 3
else
aiC (if(ah (a.2.2.2.2.2.1.1<0))then
aa af
else(if(ah (a.2.2.2.2.2.1.2<=a.2.2.2.2.2.1.1))then
aa af
else
aa (ah (109573<a.2.2.2.2.2.1.2)))) λr=>(if r then
aa 3
else(if(ah (8<=k))then
aa 4
else
aiC (M.kC N a.2.2.2.2.2.2.2.2) λs=>(if(!s)then
aa 2
else
b9 (J:=Unit) (R:=Int) ((if(ah (0<(a.2.2.2.2.2.2.1.length:Int)))then
aiC (M.ga N a.2.2.2.2.2.2.1 f (1,0)) λh=>(if(!ah (h=0))then
aa (.inr h)
else
aa (.inl ()))
else
aa (.inl ()))) λv=>aiC (idx b.2.2.2.1 a.2.2.1) λt=>aiC (M.ga N a.2.2.2.2.2.2.2.1 f t.2) λu=>aa u))))))))
def ZZ:Fo 196 (.i1 [.g aM, .l aB, .g bT]) (.i1 [.l aB]) (u3 (M.kr N)):=fz N [LY N,R0 N,ZP N,ZY N] [O,O,O,R ⟨[(8, .l aB)],[],[],176⟩,O,T,P ⟨[(8, .l aB),(22, .l aB)],[],[],272⟩,O,O,T,R ⟨[(8, .l aB)],[],[],288⟩,X,X,X,X,T,T,O,O,O,O,R ⟨[(46, .l .bool)],[],[],368⟩,X,O,R ⟨[(58, .l .bool)],[],[],368⟩,X,O,R ⟨[(85, .l .bool)],[],[],368⟩,X,O,B 94 368,X,E 496] Tryz.func196
def M.fQ(b:List Int)(c:Int):Option Int:=
Loop (S:=Int) (X:=Int) (λa=>(if(ah (a<(b.length:Int)))then
aiC (idx b a) λd=>(if(ah (c=d))then
aa (.inr a)
else
aa (.inl (aiE.wrap (a+1))))
else
aa (.inr (-1)))) N 0
def Z0:Fo 221 (.i1 [.l (.slice aB), .l aB]) (.i1 [.l aB]) (u2 (M.fQ N)):=fz N [] [O,T,O,T,L 8 64] Tryz.func221
def M.eI(a:List Int)(b:Int):Option Bool:=
aiC (M.fQ N a b) λc=>aa (ah (0<=c))
def Z1:Fo 197 (.i1 [.l (.slice aB), .l aB]) (.i1 [.l .bool]) (u2 (M.eI N)):=fz N [Z0 N] [] Tryz.func197
def M.jv(N:Nat)(b:aM.den)(a:aM.den):Option (Bool×aM.den):=
aa (ah (b.1=a.1),a)
def R1:Fo 193 (.j1 [.g aM, .ptr 0 [] 0] [.box 81 (.leaf aM)] 1) (.j1 [.l .bool] [.box 81 (.leaf aM)] 2) (u2 (M.jv N)):=fz N [] [] Tryz.func193
def M.bw(c:List aM.den)(d:aM.den):Option (Int×aM.den):=
Loop (S:=Int×aM.den) (X:=Int×aM.den) (λa=>(if(ah (a.1<(c.length:Int)))then
aiC (idx c a.1) λe=>aiC (M.jv N e a.2) λb=>(if b.1 then
aa (.inr (a.1,b.2))
else
aa (.inl (aiE.wrap (a.1+1),b.2)))
else
aa (.inr ((-1),a.2)))) N (0,d)
def R2:Fo 213 (.j1 [.l (.slice aM), .fn 193 [(0,[],0)]] [.box 81 (.leaf aM)] 1) (.j1 [.l aB] [.box 81 (.leaf aM)] 2) (u2 (M.bw N)):=fz N [R1 N] [O,T,O,T,P ⟨[(8, .l aB)],[(0, .box 81 (.leaf aM))],[],66⟩] Tryz.func213
def M.be(b:List aM.den)(c:aM.den):Option (Bool×aM.den):=
aiC (M.bw N b c) λa=>aa (ah (0<=a.1),a.2)
def R3:Fo 192 (.j1 [.l (.slice aM), .fn 193 [(0,[],0)]] [.box 81 (.leaf aM)] 1) (.j1 [.l .bool] [.box 81 (.leaf aM)] 2) (u2 (M.be N)):=fz N [R2 N] [] Tryz.func192
def M.lB(b:bV.den)(h:Int):Option (Int×Int):=
aiC (idx b.2.2 h) λd=>aiC (fX b.2.2 0 h) λj=>aiC (aiC (M.jo N b.1 d.1) λo=>(if o then
aa (af,d)
else
aiC (M.jH N b.2.1 d.1) λp=>(if p then
aa (af,d)
else
aiC (M.be N j d) λk=>aa (k.1,k.2))):Option (Bool×aM.den)) λa=>aiC (M.cu N a.2.1) λq=>(if(!q)then
aa (2,0)
else(if a.1 then
aa (7,0)
else
aiC (if(!ah (a.2.2.1=(-1)))then(if(ah (a.2.2.1<0))then
aa af
else(if(ah (h<=a.2.2.1))then
aa af
else
aiC (idx j a.2.2.1) λr=>aa (!ah (r.2.1=(-1)))))
else
aa ag) λs=>(if s then
aa (6,0)
else(if(ah (12<(a.2.2.2.1.length:Int)))then
aa (4,112)
else(if(ah (12<(a.2.2.2.2.1.length:Int)))then
aa (4,212)
else
b9 (J:=Unit) (R:=Int×Int) (Loop (S:=Int) (X:=Unit⊕(Int×Int)) (λe=>(if(ah (e<(a.2.2.2.1.length:Int)))then
aiC (idx a.2.2.2.1 e) λt=>aiC (fX a.2.2.2.1 0 e) λu=>aiC (M.jt N b t u ([]:List bA.den)) λl=>(if(!ah (l=0))then
aa (.inr (.inr (l,aiE.wrap (100+e))))
else
aa (.inl (aiE.wrap (e+1))))
else
aa (.inr (.inl ())))) N 0) λz=>b9 (J:=Unit) (R:=Int×Int) (Loop (S:=Int) (X:=Unit⊕(Int×Int)) (λf=>(if(ah (f<(a.2.2.2.2.1.length:Int)))then
aiC (idx a.2.2.2.2.1 f) λv=>aiC (fX a.2.2.2.2.1 0 f) λw=>aiC (M.jt N b v a.2.2.2.1 w) λm=>(if(!ah (m=0))then
aa (.inr (.inr (m,aiE.wrap (200+f))))
else
aa (.inl (aiE.wrap (f+1))))
else
aa (.inr (.inl ())))) N 0) λA=>aiC (M.jZ N b h) λc=>b9 (J:=Unit) (R:=Int×Int) (Loop (S:=Int) (X:=Unit⊕(Int×Int)) (λi=>(if(ah (i<(a.2.2.2.2.2.length:Int)))then
aiC (M.kr N a.2 i (c.1,(c.2.1,(c.2.2.2.1,(c.2.2.2.2.1,(c.2.2.2.2.2,c.2.2.1)))))) λn=>(if(!ah (n=0))then
aa (.inr (.inr (n,aiE.wrap (300+i))))
else
aa (.inl (aiE.wrap (i+1))))
else
aa (.inr (.inl ())))) N 0) λC=>Loop (S:=Int) (X:=Int×Int) (λg=>(if(ah (g<(a.2.2.2.2.1.length:Int)))then
aiC (M.dx N a.2 g) λx=>aiC (M.eI N x g) λy=>(if y then
aa (.inr (9,aiE.wrap (200+g)))
else
aa (.inl (aiE.wrap (g+1))))
else
aa (.inr (0,0)))) N 0)))))
def Z2:Fo 166 (.i1 [.g bV, .l aB]) (.i1 [.l aB, .l aB]) (u2 (M.lB N)):=fz N [RU N,LY N,RN N,VH N,R3 N,ZK N,ZM N,ZZ N,Z1 N] [O,O,O,R ⟨[(8, .l .bool)],[(128, .box 81 (.leaf aM))],[],241⟩,X,T,T,O,O,O,O,B 52 353,X,E 513,O,T,L 89 577,X,X,E 513,O,T,L 110 577,X,X,O,E 593,O,T,L 136 657,X,X,T,O,T,L 152 657] Tryz.func166
def M.kD(b:bV.den):Option (aC.den):=
(if(ah (4<(b.2.2.length:Int)))then
aa (4,(3,(4,0)))
else
b9 (J:=Unit) (R:=aC.den) (Loop (S:=Int) (X:=Unit⊕(aC.den)) (λa=>(if(ah (a<(b.2.2.length:Int)))then
aiC (M.lB N b a) λc=>(if(!ah (c.1=0))then
aa (.inr (.inr (c.1,(3,(a,c.2)))))
else
aa (.inl (aiE.wrap (a+1))))
else
aa (.inr (.inl ())))) N 0) λd=>aa (0,(0,(0,0))))
def Z3:Fo 138 (.i1 [.g bV]) (.i1 [.g aC]) (M.kD N):=fz N [Z2 N] [O,O,E 96,O,T,L 14 160] Tryz.func138
def M.gU(a:bV.den):Option (aC.den):=
aiC (M.lq N a) λb=>(if(!ah (b.1=0))then
aa b
else
aiC (M.kB N a) λc=>(if(!ah (c.1=0))then
aa c
else
aiC (M.kD N a) λd=>aa d))
def Z4:Fo 92 (.i1 [.g bV]) (.i1 [.g aC]) (M.gU N):=fz N [ZD N,ZH N,Z3 N] [] Tryz.func92
def M.eJ(N:Nat)(a:Int):Option Bool:=
aiC (if(ah (0<=a))then
aa (ah (a<=109572))
else
aa ag) λb=>aa b
def R4:Fo 139 (.i1 [.l aB]) (.i1 [.l .bool]) (M.eJ N):=fz N [] [O,B 2 16] Tryz.func139
def M.gb(a:cO.den):Option Bool:=
aiC (if(ah (a.1<0))then
aa af
else(if(ah (126<a.1))then
aa af
else
aa (ah (64<(a.2.length:Int))))) λd=>(if d then
aa ag
else
Loop (S:=Int) (X:=Bool) (λb=>(if(ah (b<(a.2.length:Int)))then
aiC (idx a.2 b) λc=>aiC (aiC (M.eJ N c) λe=>(if(!e)then
aa af
else(if(ah (0<b))then
aiC (idx a.2 (aiE.wrap (b-1))) λf=>aa (ah (c<=f))
else
aa ag)):Option Bool) λg=>(if g then
aa (.inr ag)
else
aa (.inl (aiE.wrap (b+1))))
else
aa (.inr af))) N 0)
def XA:Fo 93 (.i1 [.g cO]) (.i1 [.l .bool]) (M.gb N):=fz N [R4 N] [O,T,B 18 32,T,O,T,L 22 96,O,O,T,T,O,B 43 192] Tryz.func93
def M.cR(b:bV.den)(c:Int)(a:aS.den):Option Int:=
aiC (M.gU N b) λh=>(if(!(oo aC h (0,(0,(0,0)))))then
aa 1
else
aiC (if(ah (c<0))then
aa af
else(if(ah ((b.2.2.length:Int)<=c))then
aa af
else(if(ah (a.1<0))then
aa af
else
aiC (idx b.2.2 c) λi=>aa (ah ((i.2.2.2.1.length:Int)<=a.1))))) λj=>(if j then
aa 6
else
aiC (idx b.2.2 c) λk=>aiC (idx k.2.2.2.1 a.1) λl=>(if(!(oo aD l.2 (3,0)))then
aa 8
else
aiC (if(ah (a.2.1<0))then
aa af
else(if(ah (5<a.2.1))then
aa af
else
aiC (M.gb N a.2.2.2.2.2.2.2) λm=>aa (!m))) λn=>(if n then
aa 1
else
aiC (aiC (if(ah (a.2.2.1<1))then
aa af
else
aa (ah (28<a.2.2.1))) λd=>(if d then
aa d
else
aiC (if(ah (a.2.2.2.1<0))then
aa af
else
aa (ah (1000000<a.2.2.2.1))) λe=>(if e then
aa e
else
aiC (if(ah (a.2.2.2.2.1<0))then
aa af
else
aa (ah (1000000000000000<a.2.2.2.2.1))) λf=>(if f then
aa f
else
aiC (if(ah (a.2.2.2.2.2.1<0))then
aa af
else
aa (ah (3599<a.2.2.2.2.2.1))) λg=>(if g then
aa g
else(if(ah (a.2.2.2.2.2.2.1<0))then
aa af
else
aa (ah (365<a.2.2.2.2.2.2.1))))))):Option Bool) λo=>(if o then
aa 3
else
aa 0)))))
def W57:Fo 57 (.i1 [.g bV, .l aB, .g aS]) (.i1 [.l aB]) (u3 (M.cR N)):=fz N [Z4 N,XA N] [O,O,T,B 36 112,O,T,B 63 320,T,T,R ⟨[(64, .l .bool)],[],[],320⟩,R ⟨[(64, .l .bool)],[],[],320⟩,X,O,R ⟨[(64, .l .bool)],[],[],320⟩,X,O,R ⟨[(64, .l .bool)],[],[],320⟩,X,O,B 64 320] Tryz.func57
def M.dM(N:Nat)(a:bV.den)(c:Int):Option ((List bA.den)×Bool):=
aiC (idx a.2.2 c) λb=>aiC (if(ah (b.2.1<0))then
aa af
else
aa (ah ((a.2.2.length:Int)<=b.2.1))) λd=>(if d then
aa (([]:List bA.den),ag)
else
aiC (idx a.2.2 b.2.1) λe=>aa (e.2.2.1,af))
def W94:Fo 94 (.i1 [.g bV, .l aB]) (.i1 [.l (.slice bA), .l .bool]) (u2 (M.dM N)):=fz N [] [O,O,T,B 21 160] Tryz.func94
def M.jw(a:aD.den):Option Bool:=
aiC (aiC (M.dS N a) λb=>(if b then
aa (ah (a.1<a.2))
else
aa ag):Option Bool) λc=>aa c
def VT:Fo 131 (.i1 [.g aD]) (.i1 [.l .bool]) (M.jw N):=fz N [OI N] [O,B 2 32] Tryz.func131
def M.kE(a:bj.den):Option Int:=
(if(ah (a.1<0))then
aa 3
else
aiC (if(ah (a.2.1<(-1)))then
aa af
else
aa (ah (8<=a.2.1))) λb=>(if b then
aa 3
else
aiC (if(ah (a.2.2.1<(-1)))then
aa af
else
aa (ah (12<=a.2.2.1))) λc=>(if c then
aa 3
else
aiC (if(ah (a.2.1=(-1)))then
aa (ah (a.2.2.1=(-1)))
else
aa ag) λd=>(if d then
aa 3
else
aiC (M.jw N a.2.2.2.2.1) λe=>(if(!e)then
aa 3
else
aiC (if(ah (a.2.2.2.2.2<0))then
aa af
else
aa (ah (109572<a.2.2.2.2.2))) λf=>(if f then
aa 3
else
aiC (if(ah (a.2.2.2.1.1<1))then
aa af
else
aa (ah (6<a.2.2.2.1.1))) λg=>(if g then
aa 8
else
aiC (if(ah (a.2.2.1=(-1)))then
aa (!ah (a.2.2.2.1.1=1))
else
aa ag) λh=>(if h then
aa 8
else
aa 0))))))))
def Z5:Fo 140 (.i1 [.g bj]) (.i1 [.l aB]) (M.kE N):=fz N [VT N] [O,T,T,O,O,R ⟨[(7, .l .bool)],[],[],96⟩,X,O,R ⟨[(16, .l .bool)],[],[],96⟩,X,O,R ⟨[(25, .l .bool)],[],[],96⟩,X,O,O,O,R ⟨[(39, .l .bool)],[],[],176⟩,X,O,R ⟨[(48, .l .bool)],[],[],176⟩,X,O,B 59 176] Tryz.func140
def M.lC(b:List bj.den):Option (Int×Int):=
(if(ah (128<(b.length:Int)))then
aa (0,4)
else
Loop (S:=Int×List (Int×Bool)) (X:=Int×Int) (λa=>(if(ah (a.1<(b.length:Int)))then
aiC (idx b a.1) λc=>aiC (M.kE N c) λd=>(if(!ah (d=0))then
aa (.inr (a.1,d))
else(if((bo aB a.2 c.1).getD ag)then
aa (.inr (a.1,7))
else
aa (.inl (aiE.wrap (a.1+1),fC aB a.2 c.1 af))))
else
aa (.inr (0,0)))) N (0,([]:List (Int×Bool))))
def W95:Fo 95 (.i1 [.l (.slice bj)]) (.i1 [.l aB, .l aB]) (M.lC N):=fz N [Z5 N] [O,O,O,T,O,T,P ⟨[(14, .l aB)],[(80, .map 234 aB ag .bool)],[],161⟩] Tryz.func95
def M.dC(d:bV.den)(a:bB.den):Option (Int×Int):=
aiC (if(ah (a.2.1<0))then
aa af
else
aa (ah ((d.2.2.length:Int)<=a.2.1))) λj=>(if j then
aa ((-1),6)
else
aiC (M.dM N d a.2.1) λg=>aiC (if(ah (a.1<0))then
aa af
else(if(ah (a.2.2.1<0))then
aa af
else(if(ah (8<a.2.2.1))then
aa af
else(if(!ah (a.2.2.1=0))then
aa (!g.2)
else
aa ag)))) λk=>(if k then
aa ((-1),3)
else
aiC (M.lC N a.2.2.2) λe=>(if(!ah (e.2=0))then
aa (e.1,e.2)
else
Loop (S:=Int) (X:=Int×Int) (λc=>(if(ah (c<(a.2.2.2.length:Int)))then
aiC (idx a.2.2.2 c) λb=>(if(ah (a.2.2.1<=b.2.1))then
aa (.inr (c,6))
else
aiC ((if(ah (b.2.1=(-1)))then
aiC (idx d.2.2 a.2.1) λl=>aa l.2.2.1
else
aa g.1):Option (List bA.den)) λh=>b9 (J:=aD.den) (R:=Int⊕(Int×Int)) ((if(!ah (b.2.2.1=(-1)))then
aiC (if(ah (b.2.2.1<0))then
aa af
else
aa (ah ((h.length:Int)<=b.2.2.1))) λm=>(if m then
aa (.inr (.inr (c,6)))
else
aiC (idx h b.2.2.1) λn=>aa (.inl n.2))
else
aa (.inl (1,0)))) λf=>aiC (if(!ah (b.2.2.2.1.1=f.1))then
aa af
else
aa (!ah (b.2.2.2.1.2.1=f.2))) λo=>(if o then
aa (.inr (c,8))
else
aiC (M.fO N f d.1) λi=>aiC (if(ah (b.2.2.2.1.2.2<i.1))then
aa af
else
aa (ah (i.2<b.2.2.2.1.2.2))) λp=>(if p then
aa (.inr (c,3))
else
aa (.inl (aiE.wrap (c+1))))))
else
aa (.inr (0,0)))) N 0)))
def XB:Fo 58 (.i1 [.g bV, .g bB]) (.i1 [.l aB, .l aB]) (u2 (M.dC N)):=fz N [W94 N,W95 N,Xz N] [O,T,B 26 64,O,T,B 55 208,O,T,O,T,L 69 432,O,O,T,T,O,O,O,R ⟨[(12, .l (.slice bA))],[],[],656⟩,X,O,J ⟨[],[(672, .box 74 (.leaf aD))],[],705⟩,O,T,T,B 104 752,X,X,T,B 125 705,O,B 145 849] Tryz.func58
def M.iC(N:Nat)(a:aS.den)(b:Int):Option Bool:=
aiC (if(ah (a.2.2.2.2.2.1<=b))then
aa (ah (b<=(if(aiE.wrap ((aiE.wrap (a.2.2.2.2.2.1+120))-1))<3599 then(aiE.wrap ((aiE.wrap (a.2.2.2.2.2.1+120))-1))else 3599)))
else
aa ag) λc=>aa c
def W59:Fo 59 (.i1 [.g aS, .l aB]) (.i1 [.l .bool]) (u2 (M.iC N)):=fz N [] [O,B 4 32] Tryz.func59
def M.mo(N:Nat)(a:aC.den):Option Int:=
(if(ah (a.2.2.1=1))then
aa a.2.2.2
else
aiC (if(ah (a.2.2.1=2))then
aa (ah (a.2.2.1=2))
else
aa (ah (a.2.2.1=3))) λb=>(if b then
aa (aiE.wrap (0-a.2.2.2))
else
aa 0))
def W43:Fo 43 (.i1 [.g aC]) (.i1 [.l aB]) (M.mo N):=fz N [] [O,T,O,T,O,O,B 9 96] Tryz.func43
def M.kF(c:List aC.den):Option (Int×Int):=
(if(ah (4096<(c.length:Int)))then
aa (4096,4)
else
Loop (S:=Int×List aD.den) (X:=Int×Int) (λb=>(if(ah (b.1<(c.length:Int)))then
aiC (idx c b.1) λa=>aiC (aiC (if(ah (a.1<0))then
aa af
else
aa (ah (109572<a.1))) λd=>(if d then
aa d
else
aiC (if(ah (a.2.1<0))then
aa af
else
aa (ah (3599<a.2.1))) λe=>(if e then
aa e
else(if(ah (a.2.2.2<1))then
aa af
else
aa (ah (1000000000000000<a.2.2.2))))):Option Bool) λg=>(if g then
aa (.inr (b.1,3))
else
aiC (if(ah (a.2.2.1<1))then
aa af
else
aa (ah (4<a.2.2.1))) λh=>(if h then
aa (.inr (b.1,1))
else
aiC (if(ah (0<b.1))then
aiC (idx c (aiE.wrap (b.1-1))) λi=>aa (ah (a.1<i.1))
else
aa ag) λj=>(if j then
aa (.inr (b.1,9))
else
aiC (M.mo N a) λf=>(if(ah (((bo aB (fC aB b.2 a.2.1 (aiE.wrap (((bo aB b.2 a.2.1).getD 0)+f))) a.2.1).getD 0)<0))then
aa (.inr (b.1,13))
else
aa (.inl (aiE.wrap (b.1+1),fC aB b.2 a.2.1 (aiE.wrap (((bo aB b.2 a.2.1).getD 0)+f))))))))
else
aa (.inr (0,0)))) N (0,([]:List (Int×Int))))
def W60:Fo 60 (.i1 [.l (.slice aC)]) (.i1 [.l aB, .l aB]) (M.kF N):=fz N [W43 N] [O,O,O,T,O,T,P ⟨[(13, .l aB)],[(80, .map 187 aB ag aB)],[],161⟩,O,O,T,T,O,T,T,R ⟨[(18, .l .bool)],[],[],273⟩,R ⟨[(18, .l .bool)],[],[],273⟩,X,O,B 18 273,O,R ⟨[(44, .l .bool)],[],[],273⟩,X,O,B 54 273] Tryz.func60
def M.gh(N:Nat)(a:List aC.den)(b:Int):Option Int:=RH a b
def S61:oB:=⟨.i1 [.l (.slice aC), .l aB], .i1 [.l aB],u2 (M.gh N)⟩
def W61(N:Nat):fN Tryz.prog 61 (S61 N):=Jg
def M.fj(N:Nat)(a:Int)(b:Int):Option Bool:=
aiC (if(ah (0<=a))then(if(ah (a<b))then(if(ah (b<=3600))then
aa (ah ((aiE.wrap (b-a))<=120))
else
aa ag)
else
aa ag)
else
aa ag) λc=>aa c
def W97:Fo 97 (.i1 [.l aB, .l aB]) (.i1 [.l .bool]) (u2 (M.fj N)):=fz N [] [O,B 4 16] Tryz.func97
def M.nc(a:aP.den):Option Bool:=
aiC (if(ah (a.1<0))then
aa af
else
aiC (M.fj N a.2.1 a.2.2.1) λb=>aa (!b)) λc=>(if c then
aa ag
else
aiC (if(ah (a.2.2.2.1<0))then
aa af
else(if(ah (a.2.2.2.2.1<a.2.2.2.1))then
aa af
else
aa (ah (109572<a.2.2.2.2.1)))) λd=>(if d then
aa ag
else
aiC (if(ah (a.2.2.2.2.2.1<1))then
aa af
else
aa (ah (6<a.2.2.2.2.2.1))) λe=>(if e then
aa ag
else
aiC (if(ah (0<=a.2.2.2.2.2.2))then(if(ah (a.2.2.2.2.2.2<=1000000000000000))then(if(ah (a.2.2.2.2.2.2=0))then
aa af
else
aa (ah (a.2.2.2.2.2.1=3)))
else
aa ag)
else
aa ag) λf=>aa f)))
def W62:Fo 62 (.i1 [.g aP]) (.i1 [.l .bool]) (M.nc N):=fz N [W97 N] [O,T,B 13 32,T,B 28 32,T,B 36 32,B 2 32] Tryz.func62
def M.lD(a:bH.den):Option Bool:=
b9 (J:=Unit) (R:=Bool) (Loop (S:=Int) (X:=Unit⊕Bool) (λb=>(if(ah (b<(a.1.2.2.2.length:Int)))then
aiC (idx a.1.2.2.2 b) λe=>(if(ah (a.2.2.2.1<e.2.2.2.2.2))then
aa (.inr (.inr ag))
else
aa (.inl (aiE.wrap (b+1))))
else
aa (.inr (.inl ())))) N 0) λh=>b9 (J:=Unit) (R:=Bool) (Loop (S:=Int) (X:=Unit⊕Bool) (λc=>(if(ah (c<(a.2.1.length:Int)))then
aiC (idx a.2.1 c) λf=>(if(ah (a.2.2.2.1<f.1))then
aa (.inr (.inr ag))
else
aa (.inl (aiE.wrap (c+1))))
else
aa (.inr (.inl ())))) N 0) λi=>Loop (S:=Int) (X:=Bool) (λd=>(if(ah (d<(a.2.2.1.length:Int)))then
aiC (idx a.2.2.1 d) λg=>(if(ah (a.2.2.2.1<g.2.2.2.1))then
aa (.inr ag)
else
aa (.inl (aiE.wrap (d+1))))
else
aa (.inr af))) N 0
def W63:Fo 63 (.i1 [.g bH]) (.i1 [.l .bool]) (M.lD N):=fz N [] [O,E 32,O,T,L 13 112,X,X,E 32,O,T,L 26 96,X,X,T,O,T,L 39 96] Tryz.func63
def M.gI(f:bV.den)(d:aS.den)(a:bH.den):Option Int:=
aiC (M.cR N f a.1.2.1 d) λk=>(if(!ah (k=0))then
aa 1
else
aiC (M.dC N f a.1) λg=>(if(!ah (g.2=0))then
aa g.2
else
aiC (aiC (M.jn N a.2.2.2.1) λl=>(if(!l)then
aa af
else(if(!ah (a.2.2.2.2=(-1)))then
aiC (M.iC N d a.2.2.2.2) λm=>aa (!m)
else
aa ag)):Option Bool) λn=>(if n then
aa 3
else
aiC (M.kF N a.2.1) λh=>(if(!ah (h.2=0))then
aa h.2
else
b9 (J:=Unit) (R:=Int) (aiC (M.kl N a.2.1) λi=>Loop (S:=Int) (X:=Unit⊕Int) (λe=>(if(ah (e<(i.length:Int)))then
aiC (idx i e) λb=>aiC (if(ah (b<d.2.2.2.2.2.1))then
aa af
else
aa (ah (a.2.2.2.2<b))) λo=>(if o then
aa (.inr (.inr 3))
else
aiC (aiC (M.dR N a.2.1 b) λp=>(if(ah (1000000000000000<p))then
aa af
else
aiC (M.gh N a.2.1 b) λq=>aa (ah (1000000000000000<q))):Option Bool) λr=>(if r then
aa (.inr (.inr 3))
else
aa (.inl (aiE.wrap (e+1)))))
else
aa (.inr (.inl ())))) N 0) λv=>(if(ah (16<(a.2.2.1.length:Int)))then
aa 4
else
b9 (J:=Unit) (R:=Int) (Loop (S:=Int) (X:=Unit⊕Int) (λc=>(if(ah (c<(a.2.2.1.length:Int)))then
aiC (idx a.2.2.1 c) λj=>aiC (aiC (M.nc N j) λs=>(if(!s)then
aa af
else
aa (!ah (j.1=c))):Option Bool) λt=>(if t then
aa (.inr (.inr 13))
else
aa (.inl (aiE.wrap (c+1))))
else
aa (.inr (.inl ())))) N 0) λw=>aiC (M.lD N a) λu=>(if(!u)then
aa 9
else
aa 0))))))
def W27:Fo 27 (.i1 [.g bV, .g aS, .g bH]) (.i1 [.l aB]) (u3 (M.gI N)):=fz N [W14 N,Zw N,W28 N,W57 N,XB N,W59 N,W60 N,W61 N,W62 N,W63 N] [O,O,O,T,B 47 352,O,E 512,O,T,L 61 592,O,O,T,T,O,T,B 74 656,B 86 656,X,X,X,O,E 576,O,T,L 95 640,O,O,T,T,O,B 108 752] Tryz.func27
def M.cd(N:Nat)(a:List aC.den):Option (List aC.den):=
(if aiK (a).length 0 then
yg (aa ([]:List aC.den))
(aiC (cA ([]:List aC.den) a) λb=>aa b)
else
aiC (cA ([]:List aC.den) a) λc=>aa c)
def W64:Fo 64 (.i1 [.l (.slice aC)]) (.w1 87 aC) (M.cd N):=fz N [] [] Tryz.func64
def M.cg(N:Nat)(a:List aP.den):Option (List aP.den):=
(if aiK (a).length 0 then
yg (aa ([]:List aP.den))
(aiC (cA ([]:List aP.den) a) λb=>aa b)
else
aiC (cA ([]:List aP.den) a) λc=>aa c)
def W65:Fo 65 (.i1 [.l (.slice aP)]) (.w1 103 aP) (M.cg N):=fz N [] [] Tryz.func65
def M.mq(a:bH.den):Option (Int×Int×Int×aD.den×(List bj.den)×(List aC.den)×List aP.den):=
aiC (M.bP N a.1.2.2.2) λb=>aiC (M.cd N a.2.1) λc=>aiC (M.cg N a.2.2.1) λd=>aa (a.1.1,a.1.2.1,a.1.2.2.1,a.2.2.2,b,c,d)
def W29:Fo 29 (.i1 [.g bH]) (.j1 [.val af (.pair (.pair (.leaf aB) (.pair (.leaf aB) (.pair (.leaf aB) (.own 0)))) (.pair (.own 1) (.pair (.own 2) (.leaf aD))))] [.own 53 bj, .own 87 aC, .own 103 aP] 3) (M.mq N):=fz N [W26 N,W64 N,W65 N] [] Tryz.func29
def M.iR(j:bV.den)(a:b7.den)(b:Int)(c:Int)(d:Int)(e:aD.den)(f:List bj.den)(g:List aC.den)(h:List aP.den):Option (Int×Int×Int×Int×aD.den×(List aC.den)×(List aP.den)×List bj.den):=
(if(!ah (a.2.2.2.2.2.2.2.2.2.2.2.2.2=a.2.1))then
aa (1,b,c,d,e,g,h,f)
else
aiC (cA f ([a.2.2.2.2.2.2.2.2]:List bj.den)) λi=>aiC (M.dC N j (b,(c,(d,i)))) λk=>aa (k.2,b,c,d,e,g,h,i))
def W30:Fo 30 (.j1 [.g bV, .ptr 0 [] 0, .g b7] [.box 43 (.pair (.pair (.leaf aB) (.pair (.leaf aB) (.pair (.leaf aB) (.own 1)))) (.pair (.own 2) (.pair (.own 3) (.leaf aD)))), .own 53 bj, .own 87 aC, .own 103 aP] 4) ⟨[(0, .l aB)],[(0, .box 43 (.pair (.pair (.leaf aB) (.pair (.leaf aB) (.pair (.leaf aB) (.own 4)))) (.pair (.own 2) (.pair (.own 3) (.leaf aD))))),(2, .own 87 aC),(3, .own 103 aP),(4, .own 53 bj)],[],8⟩ (λ(x:bV.den×b7.den×Int×Int×Int×aD.den×(List bj.den)×(List aC.den)×List aP.den)=>M.iR N x.1 x.2.1 x.2.2.1 x.2.2.2.1 x.2.2.2.2.1 x.2.2.2.2.2.1 x.2.2.2.2.2.2.1 x.2.2.2.2.2.2.2.1 x.2.2.2.2.2.2.2.2):=fz N [XB N] [] Tryz.func30
def M.dP(f:List aP.den):Option (List Int):=
aiC (pT 3601 0) λh=>aiC (Loop (S:=Int×List Int) (X:=List Int) (λb=>(if(ah (b.1<(f.length:Int)))then
aiC (aiC (idx f b.1) λa=>aiC (if(!ah (a.2.2.2.2.2.1=1))then
aa (!ah (a.2.2.2.2.2.1=2))
else
aa ag) λi=>(if i then
aa b.2
else(if(ah ((if a.2.1<0 then 0 else a.2.1)<(if 3600<a.2.2.1 then 3600 else a.2.2.1)))then
aiC (idx b.2 (if a.2.1<0 then 0 else a.2.1)) λd=>aiC (idx b.2 (if a.2.1<0 then 0 else a.2.1)) λn=>aiC (idx (b8 b.2 (if a.2.1<0 then 0 else a.2.1) (aiE.wrap (d+1))) (if 3600<a.2.2.1 then 3600 else a.2.2.1)) λj=>aiC (idx (b8 b.2 (if a.2.1<0 then 0 else a.2.1) (aiE.wrap (d+1))) (if 3600<a.2.2.1 then 3600 else a.2.2.1)) λo=>aa (b8 (b8 b.2 (if a.2.1<0 then 0 else a.2.1) (aiE.wrap (d+1))) (if 3600<a.2.2.1 then 3600 else a.2.2.1) (aiE.wrap (j-1)))
else
aa b.2)):Option (List Int)) λk=>aa (.inl (aiE.wrap (b.1+1),k))
else
aa (.inr b.2))) N (0,h):Option (List Int)) λl=>Loop (S:=Int×Int×List Int) (X:=List Int) (λc=>(if(ah (c.2.1<3600))then
aiC (aiC (idx l c.2.1) λe=>(if(ah (0<(aiE.wrap (c.1+e))))then
aiC (cA c.2.2 ([c.2.1]:List Int)) λm=>aa (aiE.wrap (c.1+e),m)
else
aa (aiE.wrap (c.1+e),c.2.2)):Option (Int×List Int)) λg=>aa (.inl (g.1,aiE.wrap (c.2.1+1),g.2))
else
aa (.inr c.2.2))) N (0,0,([]:List Int))
def W13:Fo 13 (.i1 [.l (.slice aP)]) (.w1 3 aB) (M.dP N):=fz N [] [O,O,R ⟨[],[(16, .own 3 aB)],[],49⟩,O,T,P ⟨[(14, .l aB)],[(16, .own 3 aB)],[],97⟩,O,O,T,R ⟨[],[(16, .own 3 aB)],[],114⟩,O,T,B 25 177,X,X,X,X,O,O,T,O,T,P ⟨[(8, .val ag (.own 97)),(9, .l aB),(48, .l aB)],[(97, .own 3 aB)],[],98⟩,O,O,T,R ⟨[(8, .val ag (.own 114)),(9, .l aB)],[(114, .own 3 aB)],[97],115⟩] Tryz.func13
def M.mI(N:Nat)(a:Int):Option Bool:=
aiC (if(ah (0<=a))then
aa (ah (a<=3599))
else
aa ag) λb=>aa b
def W81:Fo 81 (.i1 [.l aB]) (.i1 [.l .bool]) (M.mI N):=fz N [] [O,B 2 16] Tryz.func81
def M.nX(N:Nat)(a:Int):Option Bool:=
aiC (if(ah ((ajd a 4)=0))then(if(!ah ((ajd a 100)=0))then
aa af
else
aa (ah ((ajd a 400)=0)))
else
aa ag) λb=>aa b
def Z6:Fo 151 (.i1 [.l aB]) (.i1 [.l .bool]) (M.nX N):=fz N [] [O,B 2 16] Tryz.func151
def M.cI(b:Int)(a:Int):Option Int:=
aiC (if(ah (a<1))then
aa af
else
aa (ah (12<a))) λc=>(if c then
aa 0
else
aiC (if(ah (a=2))then
aiC (M.nX N b) λd=>aa d
else
aa ag) λe=>(if e then
aa 29
else
aiC (idx ([31,28,31,30,31,30,31,31,30,31,30,31]:List Int) (aiE.wrap (a-1))) λf=>aa f))
def OJ:Fo 116 (.i1 [.l aB, .l aB]) (.i1 [.l aB]) (u2 (M.cI N)):=fz N [Z6 N] [O,T,B 10 16,T,B 16 16] Tryz.func116
def M.jx(N:Nat)(a:Int):Option Int:=
aa (aiE.wrap ((aiE.wrap ((aiE.wrap (aiQ a 4))-(aiE.wrap (aiQ a 100))))+(aiE.wrap (aiQ a 400))))
def Z7:Fo 152 (.i1 [.l aB]) (.i1 [.l aB]) (M.jx N):=fz N [] [] Tryz.func152
def M.eF(a:Int):Option Int:=
aiC (M.jx N (aiE.wrap (a-1))) λb=>aiC (M.jx N 1899) λc=>aa (aiE.wrap ((aiE.wrap ((aiE.wrap ((aiE.wrap (a-1900))*365))+b))-c))
def VU:Fo 117 (.i1 [.l aB]) (.i1 [.l aB]) (M.eF N):=fz N [Z7 N] [] Tryz.func117
def M.gV(a:Int)(c:Int)(d:Int):Option (Int×Int):=
aiC (if(ah (a<1900))then
aa af
else(if(ah (2199<a))then
aa af
else(if(ah (c<1))then
aa af
else(if(ah (12<c))then
aa af
else(if(ah (d<1))then
aa af
else
aiC (M.cI N a c) λe=>aa (ah (e<d))))))) λf=>(if f then
aa (0,3)
else
aiC (M.eF N a) λg=>aiC (Loop (S:=Int×Int) (X:=Int) (λb=>(if(ah (b.2<(aiE.wrap (c-1))))then
aiC (M.cI N a (aiE.wrap (b.2+1))) λh=>aa (.inl (aiE.wrap (b.1+h),aiE.wrap (b.2+1)))
else
aa (.inr b.1))) N (g,0):Option Int) λi=>aa (aiE.wrap ((aiE.wrap (i+d))-1),0))
def W82:Fo 82 (.i1 [.l aB, .l aB, .l aB]) (.i1 [.l aB, .l aB]) (u3 (M.gV N)):=fz N [OJ N,VU N] [O,T,B 34 32,O,R ⟨[(8, .l aB)],[],[],80⟩,O,T,P ⟨[(8, .l aB),(39, .l aB)],[],[],128⟩] Tryz.func82
def M.pt(a:Int):Option Int:=
aiC (M.mI N a) λb=>(if(!b)then
aa 0
else
aiC (M.cI N (aiE.wrap (1900+(aiE.wrap (aiQ a 12)))) (aiE.wrap ((ajd a 12)+1))) λc=>aa c)
def W83:Fo 83 (.i1 [.l aB]) (.i1 [.l aB]) (M.pt N):=fz N [W81 N,OJ N] [] Tryz.func83
def M.lg(a:Int):Option (aD.den×Int):=
aiC (M.mI N a) λc=>(if(!c)then
aa ((0,0),3)
else
aiC (M.gV N (aiE.wrap (1900+(aiE.wrap (aiQ a 12)))) (aiE.wrap ((ajd a 12)+1)) 1) λb=>(if(!ah (b.2=0))then
aa ((0,0),b.2)
else
aiC (M.pt N a) λd=>aa ((b.1,aiE.wrap (b.1+d)),0)))
def W48:Fo 48 (.i1 [.l aB]) (.i1 [.g aD, .l aB]) (M.lg N):=fz N [W81 N,W82 N,W83 N] [] Tryz.func48
def M.gJ(a:bV.den)(b:bB.den)(c:aS.den):Option Bool:=
aiC (M.cR N a b.2.1 c) λd=>(if(!ah (d=0))then
aa ag
else
aiC (M.dC N a b) λe=>aa (ah (e.2=0)))
def W49:Fo 49 (.i1 [.g bV, .g bB, .g aS]) (.i1 [.l .bool]) (u3 (M.gJ N)):=fz N [W57 N,XB N] [] Tryz.func49
def M.ch(a:aD.den)(b:Int):Option Bool:=
aiC (aiC (M.dS N a) λc=>(if c then(if(ah (a.1<=b))then
aa (ah (b<a.2))
else
aa ag)
else
aa ag):Option Bool) λd=>aa d
def XC:Fo 91 (.i1 [.g aD, .l aB]) (.i1 [.l .bool]) (u2 (M.ch N)):=fz N [OI N] [O,B 4 32] Tryz.func91
def M.pu(N:Nat)(a:bj.den)(b:bj.den):Option Bool:=
(if(!ah (a.2.2.2.2.2=b.2.2.2.2.2))then
aa (ah (b.2.2.2.2.2<a.2.2.2.2.2))
else
aa (ah (b.1<a.1)))
def Z8:Fo 171 (.i1 [.g bj, .g bj]) (.i1 [.l .bool]) (u2 (M.pu N)):=fz N [] [] Tryz.func171
def M.nF(c:List bj.den)(e:Int)(f:Int)(g:Int)(h:Int):Option (aE.den×Bool):=
aiC (Loop (S:=Int×Int) (X:=Int) (λa=>(if(ah (a.2<(c.length:Int)))then
aiC (aiC (idx c a.2) λb=>aiC (if(!ah (b.2.1=e))then
aa af
else(if(!ah (b.2.2.1=f))then
aa af
else(if(ah (h<b.2.2.2.2.2))then
aa af
else
aiC (M.ch N b.2.2.2.2.1 g) λi=>aa (!i)))) λj=>(if j then
aa a.1
else
aiC (if(ah (a.1<0))then
aa af
else
aiC (idx c a.1) λk=>aiC (M.pu N b k) λl=>aa l) λm=>(if m then
aa a.2
else
aa a.1)):Option Int) λn=>aa (.inl (n,aiE.wrap (a.2+1)))
else
aa (.inr a.1))) N ((-1),0):Option Int) λd=>(if(ah (d<0))then
aa ((0,(0,0)),ag)
else
aiC (idx c d) λo=>aa (o.2.2.2.1,af))
def VV:Fo 153 (.i1 [.l (.slice bj), .l aB, .l aB, .l aB, .l aB]) (.i1 [.g aE, .l .bool]) (u5 (M.nF N)):=fz N [XC N,Z8 N] [O,O,R ⟨[(12, .l aB)],[],[],48⟩,O,T,P ⟨[(12, .l aB),(17, .l aB)],[],[],96⟩,O,O,T,R ⟨[(12, .l aB)],[],[],112⟩,O,T,B 44 208,B 54 208] Tryz.func153
def M.fk(d:List bj.den)(e:Int)(f:Int)(g:Int)(h:Int):Option (Bool×List aE.den):=
aiC (pT f (0,(0,0))) λb=>Loop (S:=Int×List aE.den) (X:=Bool×List aE.den) (λa=>(if(ah (a.1<(b.length:Int)))then
aiC (M.nF N d e a.1 g h) λc=>(if(!c.2)then
aa (.inr (ag,([]:List aE.den)))
else
aiC (idx a.2 a.1) λi=>aa (.inl (aiE.wrap (a.1+1),b8 a.2 a.1 c.1)))
else
aa (.inr (af,a.2)))) N (0,b)
def Z9:Fo 118 (.i1 [.l (.slice bj), .l aB, .l aB, .l aB, .l aB]) (.j1 [.val ag (.own 0), .l .bool] [.own 49 aE] 1) (u5 (M.fk N)):=fz N [VV N] [O,O,T,O,T,P ⟨[(20, .l aB)],[(48, .own 49 aE)],[],129⟩] Tryz.func118
def M.gy(b:bB.den)(d:Int)(e:Int):Option (List Int):=
Loop (S:=Int×List Int) (X:=List Int) (λa=>(if(ah (a.1<(if 8<(if b.2.2.1<0 then 0 else b.2.2.1)then 8 else(if b.2.2.1<0 then 0 else b.2.2.1))))then
aiC (aiC (M.nF N b.2.2.2 a.1 (-1) d e) λc=>aiC (if c.2 then(if(ah (c.1.1=1))then
aa (ah (c.1.2.2=1))
else
aa ag)
else
aa ag) λf=>(if f then
aiC (cA a.2 ([a.1]:List Int)) λg=>aa g
else
aa a.2):Option (List Int)) λh=>aa (.inl (aiE.wrap (a.1+1),h))
else
aa (.inr a.2))) N (0,([]:List Int))
def aaa:Fo 119 (.i1 [.g bB, .l aB, .l aB]) (.w1 3 aB) (u3 (M.gy N)):=fz N [VV N] [O,O,T,O,T,P ⟨[(7, .val ag (.own 128)),(15, .l aB)],[(128, .own 3 aB)],[],129⟩,O,O,T,R ⟨[(7, .val ag (.own 145))],[(145, .own 3 aB)],[128],146⟩,O,O,B 37 369] Tryz.func119
def M.jI(d:bV.den)(b:bB.den)(c:Int)(e:Int):Option (Int×Int×(List aE.den)×List (List aE.den)):=
aiC (M.gU N d) λj=>(if(!(oo aC j (0,(0,(0,0)))))then
aa (0,1,([]:List aE.den),([]:List (List aE.den)))
else
aiC (M.dC N d b) λk=>(if(!ah (k.2=0))then
aa (0,1,([]:List aE.den),([]:List (List aE.den)))
else
aiC (if(ah (c<0))then
aa af
else
aa (ah (109572<c))) λl=>(if l then
aa (0,3,([]:List aE.den),([]:List (List aE.den)))
else
aiC (idx d.2.2 b.2.1) λm=>aiC (M.fk N b.2.2.2 (-1) (m.2.2.1.length:Int) c e) λg=>(if(!g.1)then
aa (0,6,([]:List aE.den),([]:List (List aE.den)))
else
aiC (M.dM N d b.2.1) λn=>b9 (J:=Int×(List aE.den)×List (List aE.den)) (R:=Int×Int×(List aE.den)×List (List aE.den)) (aiC (M.gy N b c e) λh=>Loop (S:=Int×Int×(List aE.den)×List (List aE.den)) (X:=(Int×(List aE.den)×List (List aE.den))⊕(Int×Int×(List aE.den)×List (List aE.den))) (λa=>(if(ah (a.1<(h.length:Int)))then
aiC (idx h a.1) λo=>aiC (M.fk N b.2.2.2 o (n.1.length:Int) c e) λi=>(if(!i.1)then
aa (.inr (.inr (0,6,([]:List aE.den),([]:List (List aE.den)))))
else
aiC (cA a.2.2.2 ([i.2]:List (List aE.den))) λp=>aa (.inl (aiE.wrap (a.1+1),a.2.1,a.2.2.1,p)))
else
aa (.inr (.inl (a.2.1,a.2.2.1,a.2.2.2))))) N (0,c,g.2,([]:List (List aE.den)))) λf=>aa (f.1,0,f.2.1,f.2.2)))))
def W84:Fo 84 (.i1 [.g bV, .g bB, .l aB, .l aB]) (.j1 [.val af (.pair (.leaf aB) (.pair (.own 0) (.own 1))), .l aB] [.own 49 aE, .own 163 (.slice aE)] 2) (u4 (M.jI N)):=fz N [XB N,Z4 N,W94 N,Z9 N,aaa N] [O,O,O,T,B 40 288,O,O,O,O,O,J ⟨[],[(320, .box 166 (.pair (.leaf aB) (.pair (.own 544) (.own 864)))),(544, .own 49 aE),(864, .own 163 (.slice aE))],[],867⟩,O,T,P ⟨[(77, .l aB)],[(320, .box 166 (.pair (.leaf aB) (.pair (.own 544) (.own 960)))),(544, .own 49 aE),(960, .own 163 (.slice aE))],[],963⟩] Tryz.func84
def M.eG(g:bV.den)(b:List aE.den)(c:List bA.den):Option (Int×Int):=
(if(ah ((b.length:Int)<(c.length:Int)))then
aa ((b.length:Int),5)
else(if(ah ((c.length:Int)<(b.length:Int)))then
aa ((c.length:Int),4)
else
Loop (S:=Int) (X:=Int×Int) (λa=>(if(ah (a<(b.length:Int)))then
aiC (idx b a) λd=>aiC (idx c a) λe=>aiC (if(!ah (d.1=e.2.1))then
aa af
else
aa (!ah (d.2.1=e.2.2))) λh=>(if h then
aa (.inr (a,8))
else
aiC (M.fO N e.2 g.1) λf=>aiC (if(ah (d.2.2<f.1))then
aa af
else
aa (ah (f.2<d.2.2))) λi=>(if i then
aa (.inr (a,3))
else
aa (.inl (aiE.wrap (a+1)))))
else
aa (.inr (0,0)))) N 0))
def aab:Fo 172 (.i1 [.g bV, .l (.slice aE), .l (.slice bA)]) (.i1 [.l aB, .l aB]) (u3 (M.eG N)):=fz N [Xz N] [O,O,O,T,O,T,L 29 256,O,O,T,T,O,O,T,B 50 480,O,B 68 624] Tryz.func172
def M.fq(N:Nat)(a:bV.den)(c:Int):Option ((List bA.den)×Int):=
aiC (idx a.2.2 c) λb=>aiC (if(ah (b.2.1<0))then
aa af
else
aa (ah ((a.2.2.length:Int)<=b.2.1))) λd=>(if d then
aa (([]:List bA.den),0)
else
aiC (idx a.2.2 b.2.1) λe=>aa (e.2.2.1,8))
def aac:Fo 173 (.i1 [.g bV, .l aB]) (.i1 [.l (.slice bA), .l aB]) (u2 (M.fq N)):=fz N [] [O,O,T,B 21 160] Tryz.func173
def M.iS(b:bV.den)(c:Int)(a:nV.den):Option (Int×Int×Int):=
aiC (if(ah (c<0))then
aa af
else
aa (ah ((b.2.2.length:Int)<=c))) λh=>(if h then
aa ((-1),(-1),6)
else
aiC (if(ah (a.1<0))then
aa af
else
aa (ah (109572<a.1))) λi=>(if i then
aa ((-1),(-1),3)
else
aiC (idx b.2.2 c) λj=>aiC (M.eG N b a.2.1 j.2.2.1) λe=>(if(!ah (e.2=0))then
aa ((-1),e.1,e.2)
else
aiC (M.fq N b c) λf=>(if(ah (f.2<(a.2.2.length:Int)))then
aa (f.2,(-1),4)
else
Loop (S:=Int) (X:=Int×Int×Int) (λd=>(if(ah (d<(a.2.2.length:Int)))then
aiC (idx a.2.2 d) λk=>aiC (M.eG N b k f.1) λg=>(if(!ah (g.2=0))then
aa (.inr (d,g.1,g.2))
else
aa (.inl (aiE.wrap (d+1))))
else
aa (.inr (0,0,0)))) N 0))))
def aad:Fo 154 (.i1 [.g bV, .l aB, .g nV]) (.i1 [.l aB, .l aB, .l aB]) (u3 (M.iS N)):=fz N [aab N,aac N] [O,T,B 25 80,T,B 33 80,O,O,O,T,O,T,L 66 624] Tryz.func154
def M.iO(a:bV.den)(b:Int)(e:nV.den)(f:Bool)(d:Int):Option (aC.den):=
aiC (M.gU N a) λg=>(if(!ah (g.1=0))then
aa (1,((-1),((-1),(-1))))
else
aiC (if(ah (b<0))then
aa af
else(if(ah ((a.2.2.length:Int)<=b))then
aa af
else(if f then(if(ah (d<0))then
aa af
else
aiC (idx a.2.2 b) λh=>aa (ah ((h.2.2.2.1.length:Int)<=d)))
else
aa ag))) λi=>(if i then
aa (6,((-1),((-1),(-1))))
else
aiC (M.iS N a b e) λc=>(if(!ah (c.2.2=0))then
aa (c.2.2,(c.1,((-1),(-1))))
else
aa (0,(0,(0,0))))))
def aae:Fo 120 (.i1 [.g bV, .l aB, .g nV, .l .bool, .l aB]) (.i1 [.g aC]) (u5 (M.iO N)):=fz N [Z4 N,aad N] [O,O,T,B 47 160] Tryz.func120
def M.kG(N:Nat)(d:bV.den)(f:Int):Option (aM.den×aM.den×(List Bool)×List Bool):=
aiC (idx d.2.2 f) λc=>aiC (pT (c.2.2.2.1.length:Int) ag) λe=>aiC ((if(ah (0<=c.2.1))then
aiC (idx d.2.2 c.2.1) λb=>aiC (pT (b.2.2.2.1.length:Int) ag) λg=>aa (c,b.1,b.2.1,b.2.2.1,b.2.2.2.1,b.2.2.2.2,e,g)
else
aa (c,ByteArray.empty,0,([]:List bA.den),([]:List bA.den),([]:List da.den),e,([]:List Bool))):Option (aM.den×ByteArray×Int×(List bA.den)×(List bA.den)×(List da.den)×(List Bool)×List Bool)) λa=>aa (a.1,(a.2.1,(a.2.2.1,(a.2.2.2.1,(a.2.2.2.2.1,a.2.2.2.2.2.1)))),a.2.2.2.2.2.2.1,a.2.2.2.2.2.2.2)
def aaf:Fo 121 (.i1 [.g bV, .l aB]) (.j1 [.ptr 0 [] 0] [.box 254 (.pair (.leaf aM) (.pair (.leaf aM) (.pair (.own 1) (.own 2)))), .own 4 .bool, .own 4 .bool] 3) (u2 (M.kG N)):=fz N [] [O,O,O,R ⟨[],[(128, .box 254 (.pair (.leaf aM) (.pair (.pair (.leaf .str) (.pair (.leaf aB) (.pair (.leaf (.slice bA)) (.pair (.leaf (.slice bA)) (.leaf (.slice da)))))) (.pair (.own 272) (.own 336))))),(272, .own 4 .bool),(336, .own 4 .bool)],[],339⟩] Tryz.func121
def M.kH(a:aM.den)(d:Int):Option (List Int):=
aiC (if(ah (d<0))then
aa af
else
aa (ah ((a.2.2.2.1.length:Int)<=d))) λi=>(if i then
aa ([]:List Int)
else
aiC (pT (a.2.2.2.1.length:Int) ag) λf=>aiC (idx f d) λu=>aiC (aiC (M.gH N a) λj=>aiC (M.lv N j d) λg=>Loop (S:=Int×List Bool) (X:=List Bool) (λb=>(if(ah (b.1<(g.length:Int)))then
aiC (idx g b.1) λh=>aiC (idx b.2 h) λv=>aa (.inl (aiE.wrap (b.1+1),b8 b.2 h af))
else
aa (.inr b.2))) N (0,b8 f d af):Option (List Bool)) λk=>aiC (Loop (S:=Int×List Int) (X:=List Int) (λc=>(if(ah (c.1<(a.2.2.2.2.length:Int)))then
aiC (aiC (idx a.2.2.2.2 c.1) λe=>aiC (if(ah (e.2.1<0))then
aa af
else(if(ah ((a.2.2.2.1.length:Int)<=e.2.1))then
aa af
else
aiC (idx k e.2.1) λl=>aa (!l))) λm=>(if m then
aa c.2
else
aiC (M.dw N e.2.2.2.2.2.1) λn=>aiC (M.dw N e.2.2.2.2.2.2.1) λo=>aiC (cA c.2 n.2.2) λp=>aiC (cA p o.2.2) λq=>aa q):Option (List Int)) λr=>aa (.inl (aiE.wrap (c.1+1),r))
else
aa (.inr c.2))) N (0,([]:List Int)):Option (List Int)) λs=>aiC (M.fP N s) λt=>aa t)
def aag:Fo 156 (.i1 [.g aM, .l aB]) (.w1 3 aB) (u2 (M.kH N)):=fz N [VI N,VL N,VJ N,Ft N] [O,T,B 25 32,O,O,R ⟨[],[(80, .own 4 .bool)],[],177⟩,O,T,P ⟨[(38, .l aB)],[(80, .own 4 .bool)],[],273⟩,X,X,O,R ⟨[(8, .val ag (.own 193))],[(193, .own 3 aB)],[],194⟩,O,T,P ⟨[(8, .val ag (.own 257)),(49, .l aB)],[(257, .own 3 aB)],[],258⟩,O,O,T,R ⟨[(8, .val ag (.own 274))],[(274, .own 3 aB)],[257],275⟩,O,T,B 71 338] Tryz.func156
def M.ef(N:Nat)(a:List Int):Option Int:=
aa (a.length:Int)
def R5:Fo 202 (.i1 [.l (.slice aB)]) (.i1 [.l aB]) (M.ef N):=fz N [] [] Tryz.func202
def M.dN(N:Nat)(a:List Int)(b:Int)(c:Int):Option Bool:=
aiC (idx a b) λd=>aiC (idx a c) λe=>aa (ah (d<e))
def VW:Fo 310 (.i1 [.l (.slice aB), .l aB, .l aB]) (.i1 [.l .bool]) (u3 (M.dN N)):=fz N [] [] Tryz.func310
def M.me(N:Nat)(a:List Int):Option (Int×List Int):=
aiC (idx a (aiE.wrap ((a.length:Int)-1))) λb=>aiC (fX a 0 (aiE.wrap ((a.length:Int)-1))) λc=>aa (b,c)
def aah:Fo 311 (.j1 [.ptr 0 [] 0] [.box 308 (.own 1), .own 3 aB] 2) ⟨[(0, .ifc 3 (.l aB))],[(0, .box 308 (.own 2)),(2, .own 3 aB)],[],4⟩ (M.me N):=fz N [] [] Tryz.func311
def M.lE(d:aM.den):Option (List (List Int)):=
aiC (pT (d.2.2.2.1.length:Int) ([]:List Int)) λf=>aiC (Loop (S:=Int×List (List Int)) (X:=List (List Int)) (λb=>(if(ah (b.1<(d.2.2.2.2.length:Int)))then
aiC (aiC (idx d.2.2.2.2 b.1) λc=>aiC (if(ah (0<=c.2.1))then
aa (ah (c.2.1<(b.2.length:Int)))
else
aa ag) λg=>(if g then
aiC (idx b.2 c.2.1) λn=>aiC (idx b.2 c.2.1) λh=>aiC (M.fh N c (b.2.length:Int)) λi=>aiC (cA h i) λj=>aiC (idx b.2 c.2.1) λo=>(if ah (c.2.1=c.2.1)then
aiC (idx b.2 c.2.1) λp=>aa (sD b.2 c.2.1 (λq=>j))
else ae)
else
aa b.2):Option (List (List Int))) λk=>aa (.inl (aiE.wrap (b.1+1),k))
else
aa (.inr b.2))) N (0,f):Option (List (List Int))) λe=>Loop (S:=Int×List (List Int)) (X:=List (List Int)) (λa=>(if(ah (a.1<(e.length:Int)))then
aiC (idx a.2 a.1) λr=>aiC (idx a.2 a.1) λl=>aiC (M.fP N l) λm=>aiC (idx a.2 a.1) λs=>(if ah (a.1=a.1)then
aiC (idx a.2 a.1) λt=>aa (.inl (aiE.wrap (a.1+1),sD a.2 a.1 (λu=>m)))
else ae)
else
aa (.inr a.2))) N (0,e)
def R6:oB:=⟨.i1 [.g aM], .j1 [.val ag (.own 0)] [.deep 27 (.sl 3 (.leaf aB))] 1,M.lE N⟩
def R7(N:Nat):fN Tryz.prog 175 (R6 N):=fw (en [ck (Ft N),ck (VK N)] af ag) (N:=N) (.o (.o (.meet ⟨[],[(80, .deep 27 (.sl 3 (.leaf aB)))],[],113⟩ (.o (.two (.loop ⟨[(15, .l aB)],[(80, .deep 27 (.sl 3 (.leaf aB)))],[],177⟩ (.o (.o (.two (.meet ⟨[],[(80, .deep 27 (.sl 3 (.leaf aB)))],[],194⟩ (.o (.meet ⟨[(28, .l .bool)],[],[],257⟩ .nil .nil)) .nil) .nil)))) .nil)) (.two (.o (.two (.loop ⟨[(46, .l aB)],[(80, .deep 27 (.sl 3 (.leaf aB)))],[],162⟩ .nil) .nil)) .nil)))) Tryz.func175 (by kernel_rfl) λx=>by kernel_rfl
def M.jy(N:Nat)(a:Int)(b:List Int):Option (List Int):=
aiC (cA b ([a]:List Int)) λc=>aa c
def R8:Fo 312 (.j1 [.ptr 0 [] 0, .ifc 3 (.l aB)] [.box 308 (.own 1), .own 3 aB] 2) ⟨[],[(0, .box 308 (.own 2)),(2, .own 3 aB)],[],4⟩ (u2 (M.jy N)):=fz N [] [] Tryz.func312
def M.cT(N:Nat)(b:Int)(c:Int)(a:List Int):Option (List Int):=
aiC (idx a c) λd=>aiC (idx a b) λe=>aiC (idx a b) λf=>aiC (idx (b8 a b d) c) λg=>aa (b8 (b8 a b d) c e)
def Fu:Fo 313 (.j1 [.val ag (.own 0), .l aB, .l aB] [.own 3 aB] 1) (.j1 [] [.own 3 aB] 2) (u3 (M.cT N)):=fz N [] [] Tryz.func313
def M.fT(b:Int)(c:List Int):Option (List Int):=
Loop (S:=Int×List Int) (X:=List Int) (λa=>aiC (if(ah ((aiE.wrap (aiQ (aiE.wrap (a.1-1)) 2))=a.1))then
aa af
else
aiC (M.dN N a.2 a.1 (aiE.wrap (aiQ (aiE.wrap (a.1-1)) 2))) λd=>aa (!d)) λe=>(if e then
aa (.inr a.2)
else
aiC (M.cT N (aiE.wrap (aiQ (aiE.wrap (a.1-1)) 2)) a.1 a.2) λf=>aa (.inl (aiE.wrap (aiQ (aiE.wrap (a.1-1)) 2),f)))) N (b,c)
def R9:Fo 223 (.j1 [.ifc 307 (.ptr 0 [] 0), .l aB] [.box 308 (.own 1), .own 3 aB] 2) (.j1 [] [.box 308 (.own 1), .own 3 aB] 4) (u2 (M.fT N)):=fz N [VW N,Fu N] [T,P ⟨[(1, .l aB)],[(1, .own 3 aB)],[],3⟩,T,O,T,B 17 67] Tryz.func223
def M.cX(b:Int)(c:List Int):Option (List Int):=
aiC (M.jy N b c) λa=>aiC (M.ef N a) λd=>aiC (M.fT N (aiE.wrap (d-1)) a) λe=>aa e
def Sa:Fo 201 (.j1 [.ifc 307 (.ptr 0 [] 0), .ifc 3 (.l aB)] [.box 308 (.own 1), .own 3 aB] 2) ⟨[],[(0, .box 308 (.own 2)),(2, .own 3 aB)],[],4⟩ (u2 (M.cX N)):=fz N [R5 N,R9 N,R8 N] [] Tryz.func201
def M.eW(c:Int)(d:Int)(f:List Int):Option (Bool×List Int):=
aiC (Loop (S:=Int×List Int) (X:=Int×List Int) (λa=>aiC (if(ah (d<=(aiE.wrap ((aiE.wrap (2*a.1))+1))))then
aa af
else
aa (ah ((aiE.wrap ((aiE.wrap (2*a.1))+1))<0))) λg=>(if g then
aa (.inr (a.1,a.2))
else
aiC (aiC (if(ah ((aiE.wrap ((aiE.wrap ((aiE.wrap (2*a.1))+1))+1))<d))then
aiC (M.dN N a.2 (aiE.wrap ((aiE.wrap ((aiE.wrap (2*a.1))+1))+1)) (aiE.wrap ((aiE.wrap (2*a.1))+1))) λh=>aa h
else
aa ag) λi=>(if i then
aa (aiE.wrap ((aiE.wrap ((aiE.wrap (2*a.1))+1))+1))
else
aa (aiE.wrap ((aiE.wrap (2*a.1))+1))):Option Int) λb=>aiC (M.dN N a.2 b a.1) λj=>(if(!j)then
aa (.inr (a.1,a.2))
else
aiC (M.cT N a.1 b a.2) λk=>aa (.inl (b,k))))) N (c,f):Option (Int×List Int)) λe=>aa (ah (c<e.1),e.2)
def Sb:Fo 224 (.j1 [.ifc 307 (.ptr 0 [] 0), .l aB, .l aB] [.box 308 (.own 1), .own 3 aB] 2) (.j1 [.l .bool] [.box 308 (.own 1), .own 3 aB] 4) (u3 (M.eW N)):=fz N [VW N,Fu N] [O,O,T,R ⟨[(7, .l aB)],[(1, .own 3 aB)],[],51⟩,P ⟨[(7, .l aB)],[(1, .own 3 aB)],[],51⟩,T,O,T,B 21 115,O,R ⟨[(9, .l aB)],[],[],147⟩,O,B 33 195] Tryz.func224
def M.fu(a:List Int):Option (Int×List Int):=
aiC (M.ef N a) λb=>aiC (M.cT N 0 (aiE.wrap (b-1)) a) λd=>aiC (M.eW N 0 (aiE.wrap (b-1)) d) λe=>aiC (M.me N e.2) λc=>aa (c.1,c.2)
def Sc:Fo 203 (.j1 [.ifc 307 (.ptr 0 [] 0)] [.box 308 (.own 1), .own 3 aB] 2) ⟨[(0, .ifc 3 (.l aB))],[(0, .box 308 (.own 2)),(2, .own 3 aB)],[],4⟩ (M.fu N):=fz N [R5 N,Sb N,aah N,Fu N] [] Tryz.func203
def M.dI(s:aM.den):Option (Int×List Int):=
aiC (aiC (M.lE N s) λt=>aa t:Option (List (List Int))) λg=>aiC (pT (g.length:Int) ([]:List Int)) λu=>aiC (pT (g.length:Int) 0) λv=>aiC (aiC (Loop (S:=Int×(List (List Int))×(List Int)×List Int) (X:=(List (List Int))×(List Int)×List Int) (λa=>(if(ah (a.1<(g.length:Int)))then
aiC (aiC (aiC (idx g a.1) λh=>aiC (idx a.2.2.1 a.1) λF=>aiC (Loop (S:=Int×List (List Int)) (X:=List (List Int)) (λc=>(if(ah (c.1<(h.length:Int)))then
aiC (idx h c.1) λd=>aiC (idx c.2 d) λG=>aiC (idx c.2 d) λw=>aiC (cA w ([a.1]:List Int)) λx=>aiC (idx c.2 d) λH=>(if ah (d=d)then
aiC (idx c.2 d) λI=>aa (.inl (aiE.wrap (c.1+1),sD c.2 d (λQ=>x)))
else ae)
else
aa (.inr c.2))) N (0,a.2.1):Option (List (List Int))) λo=>(if(ah ((h.length:Int)=0))then
aiC (M.cX N a.1 a.2.2.2) λy=>aa (o,b8 a.2.2.1 a.1 (h.length:Int),y)
else
aa (o,b8 a.2.2.1 a.1 (h.length:Int),a.2.2.2)):Option ((List (List Int))×(List Int)×List Int)) λi=>aa (i.1,i.2.1,i.2.2):Option ((List (List Int))×(List Int)×List Int)) λj=>aa (.inl (aiE.wrap (a.1+1),j.1,j.2.1,j.2.2))
else
aa (.inr (a.2.1,a.2.2.1,a.2.2.2)))) N (0,u,v,([]:List Int)):Option ((List (List Int))×(List Int)×List Int)) λk=>aa (k.1,k.2.1,k.2.2):Option ((List (List Int))×(List Int)×List Int)) λl=>aiC (Loop (S:=(List Int)×(List Int)×List Int) (X:=(List Int)×List Int) (λf=>aiC (M.ef N f.2.2) λz=>(if(ah (0<z))then
aiC (M.fu N f.2.2) λm=>aiC (cA f.2.1 ([m.1]:List Int)) λA=>aiC (idx l.1 m.1) λp=>Loop (S:=Int×(List Int)×List Int) (X:=((List Int)×(List Int)×List Int)⊕((List Int)×List Int)) (λb=>(if(ah (b.1<(p.length:Int)))then
aiC (aiC (idx p b.1) λe=>aiC (idx b.2.1 e) λn=>aiC (idx b.2.1 e) λU=>aiC (idx (b8 b.2.1 e (aiE.wrap (n-1))) e) λC=>(if(ah (C=0))then
aiC (M.cX N e b.2.2) λD=>aa (b8 b.2.1 e (aiE.wrap (n-1)),D)
else
aa (b8 b.2.1 e (aiE.wrap (n-1)),b.2.2)):Option ((List Int)×List Int)) λq=>aa (.inl (aiE.wrap (b.1+1),q.1,q.2))
else
aa (.inr (.inl (b.2.1,A,b.2.2))))) N (0,f.1,m.2)
else
aa (.inr (f.2.1,f.2.2)))) N (l.2.1,([]:List Int),l.2.2):Option ((List Int)×List Int)) λr=>(if(ah ((r.1.length:Int)<(g.length:Int)))then
aa (9,([]:List Int))
else
aa (0,r.1))
def aai:oB:=⟨.i1 [.g aM], .j1 [.val ag (.own 0), .l aB] [.own 3 aB] 1,M.dI N⟩
def VX(N:Nat):fN Tryz.prog 178 (aai N):=fw (en [ck (R7 N),ck (Sa N),ck (R5 N),ck (Sc N)] af ag) (N:=N) (.o (.meet ⟨[(4, .l (.slice (.slice aB)))],[],[],48⟩ .nil (.o (.o (.o (.meet ⟨[(5, .l (.slice (.slice aB)))],[(144, .own 3 aB),(192, .box 308 (.own 224)),(224, .own 3 aB)],[80,176],227⟩ (.o (.meet ⟨[(5, .l (.slice (.slice aB)))],[(144, .own 3 aB),(192, .box 308 (.own 272)),(272, .own 3 aB)],[80,176],275⟩ (.loop ⟨[(29, .l aB)],[(80, .deep 27 (.sl 3 (.leaf aB))),(144, .own 3 aB),(192, .box 308 (.own 272)),(272, .own 3 aB)],[176],276⟩ (.o (.o (.meet ⟨[],[(80, .deep 27 (.sl 3 (.leaf aB))),(144, .own 3 aB),(192, .box 308 (.own 292)),(292, .own 3 aB)],[272],296⟩ (.meet ⟨[],[(80, .deep 27 (.sl 3 (.leaf aB))),(144, .own 3 aB),(192, .box 308 (.own 292)),(292, .own 3 aB)],[272],296⟩ (.o (.o (.meet ⟨[],[(80, .deep 27 (.sl 3 (.leaf aB)))],[],469⟩ (.o (.two (.loop ⟨[(41, .l aB)],[(80, .deep 27 (.sl 3 (.leaf aB)))],[],517⟩ .nil) .nil)) .nil))) .nil) .nil)))) .nil)) (.o (.meet ⟨[(12, .val ag (.own 243))],[(192, .box 308 (.own 244)),(243, .own 3 aB),(244, .own 3 aB)],[144,224],246⟩ (.two (.loop ⟨[(12, .val ag (.own 243))],[(144, .own 3 aB),(192, .box 308 (.own 244)),(243, .own 3 aB),(244, .own 3 aB)],[224],247⟩ (.o (.two (.o (.o (.o (.two (.loop ⟨[(86, .l aB)],[(144, .own 3 aB),(192, .box 308 (.own 647)),(647, .own 3 aB)],[361],650⟩ (.o (.o (.two (.meet ⟨[],[(144, .own 3 aB),(192, .box 308 (.own 666)),(666, .own 3 aB)],[647],669⟩ .nil .nil) .nil)))) .nil)))) .nil))) .nil) .nil)))))))) Tryz.func178 (by kernel_rfl) λx=>by kernel_rfl
def M.nY(b:List aD.den):Option (Int×List Int):=
aiC (M.fi N b) λa=>aa (a.2.1,a.2.2)
def aaj:Fo 206 (.i1 [.l (.slice aD)]) (.j1 [.val ag (.own 0), .l aB] [.own 3 aB] 1) (M.nY N):=fz N [VM N] [] Tryz.func206
def M.eK(b:bJ.den)(c:Int):Option (List Int):=
aiC (idx b.1 c) λe=>aiC (M.fZ N e.1) λf=>aiC (pT f 0) λd=>Loop (S:=Int×Int×List Int) (X:=List Int) (λa=>(if(ah (0<=a.2.1))then
aiC (idx a.2.2 a.2.1) λh=>aiC (idx b.2.1 a.1) λg=>aa (.inl (aiE.wrap (g-1),aiE.wrap (a.2.1-1),b8 a.2.2 a.2.1 a.1))
else
aa (.inr a.2.2))) N (aiE.wrap (c-1),aiE.wrap ((d.length:Int)-1),d)
def aak:Fo 231 (.i1 [.g bJ, .l aB]) (.w1 3 aB) (u2 (M.eK N)):=fz N [L2 N] [O,O,O,T,O,T,P ⟨[(6, .l aB),(7, .l aB)],[(144, .own 3 aB)],[],289⟩] Tryz.func231
def M.kI(a:aD.den):Option Bool:=
aiC (aiC (M.fZ N a.1) λb=>(if(ah (b<0))then
aa af
else(if(!ah (a.2=0))then
aiC (M.kV N a.1) λc=>aa (!c)
else
aa ag)):Option Bool) λd=>(if d then
aa ag
else
aiC (if(ah (a.1=14))then
aa (ah (a.1=14))
else(if(ah (a.1=15))then
aa (ah (a.1=15))
else
aa (ah (a.1=16)))) λe=>(if e then
aiC (if(ah (0<=a.2))then
aa (ah (a.2<=5))
else
aa ag) λf=>aa f
else(if(ah (a.1=34))then
aiC (if(ah (0<=a.2))then
aa (ah ((ajd a.2 8)<=5))
else
aa ag) λg=>aa g
else(if(ah (a.1=6))then
aa (ah (0<=a.2))
else
aa af))))
def aal:Fo 242 (.i1 [.g aD]) (.i1 [.l .bool]) (M.kI N):=fz N [L2 N,VN N] [O,T,B 17 32,T,O,T,R ⟨[(20, .l .bool)],[],[],64⟩,X,T,B 2 64,O,T,B 2 96] Tryz.func242
def M.nZ(N:Nat)(a:aD.den)(b:kj.den):Option Bool:=
(if(ah (a.1=7))then
aiC (if(ah (0<=a.2))then
aa (ah (a.2<(b.2.1.length:Int)))
else
aa ag) λc=>aa c
else(if(ah (a.1=8))then
aiC (if(ah (0<=a.2))then(if(ah (a.2<(b.2.2.1.length:Int)))then
aiC (idx b.2.2.1 a.2) λd=>aa (!ah (d.1=0))
else
aa ag)
else
aa ag) λe=>aa e
else(if(ah (a.1=33))then
aiC (if(ah (0<=a.2))then
aa (ah (a.2<(b.2.2.2.2.2.length:Int)))
else
aa ag) λf=>aa f
else(if(ah (a.1=34))then
aa (ah ((aiE.wrap (aiQ a.2 8))<(b.2.2.2.2.2.length:Int)))
else
aiC (if(ah (a.1=36))then
aa (ah (a.1=36))
else(if(ah (a.1=37))then
aa (ah (a.1=37))
else(if(ah (a.1=38))then
aa (ah (a.1=38))
else
aa (ah (a.1=39))))) λg=>(if g then
aiC (if(ah (0<=a.2))then
aa (ah (a.2<(b.2.2.2.2.1.length:Int)))
else
aa ag) λh=>aa h
else
aa af)))))
def aam:Fo 243 (.i1 [.g aD, .g kj]) (.i1 [.l .bool]) (u2 (M.nZ N)):=fz N [] [O,T,O,T,O,T,B 4 112,O,T,B 4 144,O,T,B 4 176,O,O,R ⟨[(65, .l .bool)],[],[],208⟩,X,T,B 4 208] Tryz.func243
def M.di(N:Nat)(a:aE.den):Option Bool:=
aiC (if(!ah (a.1=6))then
aa (!ah (a.2.1=0))
else
aa ag) λb=>(if b then
aa ag
else(if(ah (a.1=1))then
aiC (if(ah (a.2.2=0))then
aa af
else
aa (ah (a.2.2=1))) λc=>aa c
else(if(ah (a.1=2))then
aiC (if(ah ((-1000000000000)<=a.2.2))then
aa (ah (a.2.2<=1000000000000))
else
aa ag) λd=>aa d
else(if(ah (a.1=3))then
aiC (if(ah ((-1000000000000000)<=a.2.2))then
aa (ah (a.2.2<=1000000000000000))
else
aa ag) λe=>aa e
else(if(ah (a.1=4))then
aiC (if(ah ((-1000000000)<=a.2.2))then
aa (ah (a.2.2<=1000000000))
else
aa ag) λf=>aa f
else(if(ah (a.1=5))then
aiC (if(ah (0<=a.2.2))then
aa (ah (a.2.2<=109572))
else
aa ag) λg=>aa g
else(if(ah (a.1=6))then
aiC (if(ah (0<=a.2.1))then(if(ah (a.2.1<8))then(if(ah (0<=a.2.2))then
aa (ah (a.2.2<16))
else
aa ag)
else
aa ag)
else
aa ag) λh=>aa h
else
aa ag)))))))
def Ji:Fo 247 (.i1 [.g aE]) (.i1 [.l .bool]) (M.di N):=fz N [] [O,T,B 10 32,T,O,T,O,T,B 2 96,O,T,B 2 128,O,T,B 2 160,O,T,B 2 192,O,T,B 2 224,O,T,B 2 256] Tryz.func247
def M.iT(b:List aE.den):Option Bool:=
Loop (S:=Int) (X:=Bool) (λa=>(if(ah (a<(b.length:Int)))then
aiC (idx b a) λc=>aiC (M.di N c) λd=>(if(!d)then
aa (.inr ag)
else
aa (.inl (aiE.wrap (a+1))))
else
aa (.inr af))) N 0
def aan:Fo 244 (.i1 [.l (.slice aE)]) (.i1 [.l .bool]) (M.iT N):=fz N [Ji N] [O,T,O,T,L 7 64] Tryz.func244
def M.lF(a:aE.den)(b:aD.den):Option Bool:=
aiC (aiC (M.di N a) λc=>(if c then(if(ah (a.1=b.1))then
aa (ah (a.2.1=b.2))
else
aa ag)
else
aa ag):Option Bool) λd=>aa d
def VY:Fo 252 (.i1 [.g aE, .g aD]) (.i1 [.l .bool]) (u2 (M.lF N)):=fz N [Ji N] [O,B 4 48] Tryz.func252
def M.gi(N:Nat)(a:Int):Option Bool:=
aiC (if(ah (a=2))then
aa af
else(if(ah (a=3))then
aa af
else
aa (ah (a=4)))) λb=>aa b
def Sd:Fo 270 (.i1 [.l aB]) (.i1 [.l .bool]) (M.gi N):=fz N [] [O,B 2 16] Tryz.func270
def M.gW(b:Int)(a:aD.den):Option Bool:=
(if(!ah (a.2=0))then
aa ag
else(if(ah (b=36))then
aiC (if(ah (a.1=2))then
aa af
else
aa (ah (a.1=3))) λc=>aa c
else(if(ah (b=39))then
aiC (aiC (M.gi N a.1) λd=>(if d then
aa af
else
aa (ah (a.1=5))):Option Bool) λe=>aa e
else
aa (ah (a.1=1)))))
def aao:Fo 253 (.i1 [.l aB, .g aD]) (.i1 [.l .bool]) (u2 (M.gW N)):=fz N [Sd N] [O,O,T,O,T,O,T,B 4 128,O,T,B 4 160] Tryz.func253
def M.iU(b:Int)(a:Int):Option Bool:=
(if(ah (b=10))then
aiC (M.gi N a) λc=>aa c
else(if(ah (b=25))then
aa (ah (a=1))
else
aa (ah (a=5))))
def aap:Fo 254 (.i1 [.l aB, .l aB]) (.i1 [.l .bool]) (u2 (M.iU N)):=fz N [Sd N] [] Tryz.func254
def M.fb(N:Nat)(a:aE.den)(b:aE.den):Option Bool:=
aiC (if(ah (a.1=b.1))then
aa (ah (a.2.1=b.2.1))
else
aa ag) λc=>aa c
def VZ:Fo 256 (.i1 [.g aE, .g aE]) (.i1 [.l .bool]) (u2 (M.fb N)):=fz N [] [O,B 4 48] Tryz.func256
def M.gX(a:Int)(b:aE.den)(c:aE.den):Option Bool:=
aiC (if(ah (a=11))then
aa (ah (a=11))
else
aa (ah (a=12))) λd=>(if d then
aiC (aiC (M.fb N b c) λe=>(if e then
aiC (M.gi N b.1) λf=>aa f
else
aa ag):Option Bool) λg=>aa g
else(if(ah (a=13))then
aiC (if(ah (c.1=2))then(if(ah (b.1=2))then
aa af
else
aa (ah (b.1=3)))
else
aa ag) λh=>aa h
else(if(ah (a=14))then
aiC (if(ah (c.1=4))then(if(ah (b.1=3))then
aa af
else
aa (ah (b.1=4)))
else
aa ag) λi=>aa i
else(if(ah (a=15))then(if(ah (c.1=2))then
aiC (if(ah (b.1=2))then
aa af
else
aa (ah (b.1=3))) λj=>aa j
else
aiC (if(ah (b.1=3))then
aa (ah (c.1=3))
else
aa ag) λk=>aa k)
else(if(ah (a=16))then
aiC (if(ah (b.1=3))then
aa (ah (c.1=3))
else
aa ag) λl=>aa l
else
aiC (if(ah (a=17))then
aa (ah (a=17))
else(if(ah (a=18))then
aa (ah (a=18))
else(if(ah (a=21))then
aa (ah (a=21))
else
aa (ah (a=22))))) λm=>(if m then
aiC (aiC (M.fb N b c) λn=>(if n then
aiC (M.gi N b.1) λo=>(if o then
aa af
else
aa (ah (b.1=5)))
else
aa ag):Option Bool) λp=>aa p
else
aiC (if(ah (a=19))then
aa (ah (a=19))
else
aa (ah (a=20))) λq=>(if q then
aiC (M.fb N b c) λr=>aa r
else
aiC (if(ah (a=23))then
aa (ah (a=23))
else
aa (ah (a=24))) λs=>(if s then
aiC (if(ah (b.1=1))then
aa (ah (c.1=1))
else
aa ag) λt=>aa t
else
aiC (if(ah (a=27))then
aa (ah (a=27))
else
aa (ah (a=28))) λu=>(if u then
aiC (if(ah (b.1=5))then
aa (ah (c.1=2))
else
aa ag) λv=>aa v
else
aiC (if(ah (b.1=5))then
aa (ah (c.1=5))
else
aa ag) λw=>aa w)))))))))
def aaq:Fo 255 (.i1 [.l aB, .g aE, .g aE]) (.i1 [.l .bool]) (u3 (M.gX N)):=fz N [VZ N,Sd N] [O,T,O,T,R ⟨[(8, .l .bool)],[],[],64⟩,X,T,B 6 64,O,T,B 6 96,O,T,B 6 128,O,T,T,O,T,B 6 208,X,B 6 208,O,T,B 6 192,R ⟨[(80, .l .bool)],[],[],192⟩,X,T,B 6 192,R ⟨[(98, .l .bool)],[],[],192⟩,X,O,R ⟨[(104, .l .bool)],[],[],192⟩,X,T,B 6 192,R ⟨[(115, .l .bool)],[],[],192⟩,X,T,B 6 192,X,X,B 6 192] Tryz.func255
def M.nf(a:aD.den)(b:List aE.den)(c:kj.den):Option Bool:=
(if(ah (a.1=7))then
aiC (idx c.2.1 a.2) λf=>aiC (M.di N f) λg=>aa g
else(if(ah (a.1=8))then
aiC (idx c.2.2.1 a.2) λh=>aiC (M.di N h) λi=>aa i
else(if(ah (a.1=33))then
aiC (idx c.2.2.2.2.2 a.2) λd=>aiC (aiC (idx b 0) λj=>aiC (M.lF N j d.2.1) λk=>(if k then(if(ah (1<=d.2.2.1.1))then
aa (ah (d.2.2.1.1<=6))
else
aa ag)
else
aa ag):Option Bool) λl=>aa l
else(if(ah (a.1=34))then
aiC (idx c.2.2.2.2.2 (aiE.wrap (aiQ a.2 8))) λe=>aiC (aiC (idx b 0) λm=>(if(ah (m.1=3))then(if(oo aD e.2.1 (3,0))then
aa (oo aD e.2.2.1 (4,0))
else
aa ag)
else
aa ag):Option Bool) λn=>aa n
else
aiC (if(ah (a.1=36))then
aa (ah (a.1=36))
else(if(ah (a.1=37))then
aa (ah (a.1=37))
else(if(ah (a.1=38))then
aa (ah (a.1=38))
else
aa (ah (a.1=39))))) λo=>(if o then
aiC (idx c.2.2.2.2.1 a.2) λp=>aiC (M.gW N a.1 p) λq=>aa q
else(if(ah ((b.length:Int)=1))then
aiC (idx b 0) λr=>aiC (M.iU N a.1 r.1) λs=>aa s
else(if(ah ((b.length:Int)=2))then
aiC (idx b 0) λt=>aiC (idx b 1) λu=>aiC (M.gX N a.1 t u) λv=>aa v
else(if(ah ((b.length:Int)=3))then
aiC (aiC (idx b 0) λw=>(if(ah (w.1=1))then
aiC (idx b 1) λx=>aiC (idx b 2) λy=>aiC (M.fb N x y) λz=>aa z
else
aa ag):Option Bool) λA=>aa A
else
aa af))))))))
def aar:Fo 245 (.i1 [.g aD, .l (.slice aE), .g kj]) (.i1 [.l .bool]) (u3 (M.nf N)):=fz N [Ji N,VY N,aao N,aap N,aaq N,VZ N] [O,T,O,T,O,O,O,O,O,T,O,B 6 304,O,T,O,B 6 352,B 81 208,X,T,O,T,O,O,O,O,O,T,B 6 336] Tryz.func245
def M.jJ(b:aD.den)(e:kj.den):Option (aE.den×Int):=
aiC (idx e.2.2.2.2.1 b.2) λd=>aiC ((if(ah (b.1=37))then
aa (d.1,(d.2,1))
else
aa (d.1,(d.2,0))):Option (aE.den)) λg=>aiC (if(ah (b.1=39))then
aa (ah ((e.2.2.2.1.length:Int)=0))
else
aa ag) λh=>(if h then
aa ((0,(0,0)),6)
else
b9 (J:=aE.den) (R:=aE.den×Int) (Loop (S:=Int×aE.den) (X:=(aE.den)⊕(aE.den×Int)) (λa=>(if(ah (a.1<(e.2.2.2.1.length:Int)))then
aiC (idx e.2.2.2.1 a.1) λf=>aiC (if(ah ((f.length:Int)<=b.2))then
aa af
else
aiC (idx f b.2) λi=>aa (ah (i.1=0))) λj=>(if j then
aa (.inr (.inr ((0,(0,0)),6)))
else
aiC (idx f b.2) λc=>aiC (M.lF N c d) λk=>(if(!k)then
aa (.inr (.inr ((0,(0,0)),8)))
else
b9 (J:=aE.den) (R:=(Int×aE.den)⊕((aE.den)⊕(aE.den×Int))) ((if(ah (b.1=36))then
aiC (M.di N (a.2.1,(a.2.2.1,aiE.wrap (a.2.2.2+c.2.2)))) λl=>(if(!l)then
aa (.inr (.inr (.inr ((0,(0,0)),3))))
else
aa (.inl (a.2.1,(a.2.2.1,aiE.wrap (a.2.2.2+c.2.2)))))
else(if(ah (b.1=37))then
aa (.inl (a.2.1,(a.2.2.1,if c.2.2<a.2.2.2 then c.2.2 else a.2.2.2)))
else(if(ah (b.1=38))then
aa (.inl (a.2.1,(a.2.2.1,if a.2.2.2<c.2.2 then c.2.2 else a.2.2.2)))
else(if(ah (b.1=39))then
aiC (if(ah (a.1=0))then
aa af
else
aa (ah (a.2.2.2<c.2.2))) λm=>(if m then
aa (.inl c)
else
aa (.inl a.2))
else
aa (.inl a.2)))))) λn=>aa (.inl (aiE.wrap (a.1+1),n))))
else
aa (.inr (.inl a.2)))) N (0,g)) λo=>aa (o,0))
def aas:Fo 257 (.i1 [.g aD, .g kj]) (.i1 [.g aE, .l aB]) (u2 (M.jJ N)):=fz N [Ji N,VY N] [O,O,O,R ⟨[],[(272, .box 49 (.leaf aE))],[],305⟩,X,T,B 34 305,J ⟨[],[(272, .box 49 (.leaf aE))],[],306⟩,O,T,P ⟨[(39, .l aB)],[(272, .box 49 (.leaf aE))],[],370⟩,O,O,T,T,O,T,B 57 466,O,O,O,J ⟨[],[(272, .box 49 (.leaf aE))],[],675⟩,O,O,O,O,O,O,O,T,B 109 802] Tryz.func257
def M.kW(a:ki.den)(c:Int)(b:Int):Option (Bool×Int×Int):=
aiC (aiC (M.ch N a.1 c) λd=>(if d then(if(ah (a.2.1<=b))then
aa (ah (b<a.2.2.1))
else
aa ag)
else
aa ag):Option Bool) λe=>aa (e,c,b)
def Se:Fo 271 (.j1 [.g ki, .ptr 0 [] 0, .ptr 1 [] 0] [.box 3 (.leaf aB), .box 3 (.leaf aB)] 2) (.j1 [.l .bool] [.box 3 (.leaf aB), .box 3 (.leaf aB)] 4) (u3 (M.kW N)):=fz N [XC N] [O,B 4 34] Tryz.func271
def M.cY(c:List ki.den)(d:Int)(e:Int):Option (Int×Bool×Int×Int):=
Loop (S:=Int×Int×Int) (X:=Int×Bool×Int×Int) (λa=>(if(ah (a.1<(c.length:Int)))then
aiC (idx c a.1) λf=>aiC (M.kW N f a.2.1 a.2.2) λb=>(if b.1 then
aa (.inr (a.1,af,b.2.1,b.2.2))
else
aa (.inl (aiE.wrap (a.1+1),b.2.1,b.2.2)))
else
aa (.inr (0,ag,a.2.1,a.2.2)))) N (0,d,e)
def Sf:Fo 182 (.j1 [.l (.slice ki), .fn 271 [(0,[],0),(1,[],0)]] [.box 3 (.leaf aB), .box 3 (.leaf aB)] 2) (.j1 [.l aB, .l .bool] [.box 3 (.leaf aB), .box 3 (.leaf aB)] 4) (u3 (M.cY N)):=fz N [Se N] [O,T,O,T,P ⟨[(10, .l aB)],[(0, .box 3 (.leaf aB)),(1, .box 3 (.leaf aB))],[],84⟩] Tryz.func182
def M.ng(b:bm.den)(c:Int)(d:Int):Option (Int×Bool):=
aiC (M.cY N b.2.2.2 c d) λa=>aa (a.1,a.2.1)
def aat:Fo 258 (.i1 [.g bm, .l aB, .l aB]) (.i1 [.l aB, .l .bool]) (u3 (M.ng N)):=fz N [Sf N] [] Tryz.func258
def M.eN(N:Nat)(a:Int)(b:Int):Option (Int×Int):=
aa (aiH.wrap ((aiH.wrap ((aiH.wrap ((gu .u64 a 32)*(gu .u64 b 32)))+(gu .u64 (aiH.wrap ((aiH.wrap ((gu .u64 a 32)*(fy .and .u64 b 4294967295)))+(gu .u64 (aiH.wrap ((fy .and .u64 a 4294967295)*(fy .and .u64 b 4294967295))) 32))) 32)))+(gu .u64 (aiH.wrap ((fy .and .u64 (aiH.wrap ((aiH.wrap ((gu .u64 a 32)*(fy .and .u64 b 4294967295)))+(gu .u64 (aiH.wrap ((fy .and .u64 a 4294967295)*(fy .and .u64 b 4294967295))) 32))) 4294967295)+(aiH.wrap ((fy .and .u64 a 4294967295)*(gu .u64 b 32))))) 32)),aiH.wrap (a*b))
def OK:Fo 143 (.i1 [.l (.int .u64), .l (.int .u64)]) (.i1 [.l (.int .u64), .l (.int .u64)]) (u2 (M.eN N)):=fz N [] [] Tryz.func143
def M.kJ(N:Nat)(c:Int):Option Int:=
aiC ((if(ah (4294967296<=c))then
aa (gu .u64 c 32,32)
else
aa (c,0)):Option (Int×Int)) λa=>aiC ((if(ah (65536<=a.1))then
aa (gu .u64 a.1 16,aiE.wrap (a.2+16))
else
aa (a.1,a.2)):Option (Int×Int)) λb=>aiC ((if(ah (256<=b.1))then
aa (gu .u64 b.1 8,aiE.wrap (b.2+8))
else
aa (b.1,b.2)):Option (Int×Int)) λd=>aiC (lW (⟨#[0,1,2,2,3,3,3,3,4,4,4,4,4,4,4,4,5,5,5,5,5,5,5,5,5,5,5,5,5,5,5,5,6,6,6,6,6,6,6,6,6,6,6,6,6,6,6,6,6,6,6,6,6,6,6,6,6,6,6,6,6,6,6,6,7,7,7,7,7,7,7,7,7,7,7,7,7,7,7,7,7,7,7,7,7,7,7,7,7,7,7,7,7,7,7,7,7,7,7,7,7,7,7,7,7,7,7,7,7,7,7,7,7,7,7,7,7,7,7,7,7,7,7,7,7,7,7,7,8,8,8,8,8,8,8,8,8,8,8,8,8,8,8,8,8,8,8,8,8,8,8,8,8,8,8,8,8,8,8,8,8,8,8,8,8,8,8,8,8,8,8,8,8,8,8,8,8,8,8,8,8,8,8,8,8,8,8,8,8,8,8,8,8,8,8,8,8,8,8,8,8,8,8,8,8,8,8,8,8,8,8,8,8,8,8,8,8,8,8,8,8,8,8,8,8,8,8,8,8,8,8,8,8,8,8,8,8,8,8,8,8,8,8,8,8,8,8,8,8,8,8,8,8,8,8,8]⟩:ByteArray) (IntKind.u8.wrap d.1)) λe=>aa (aiE.wrap (d.2+(aiE.wrap e)))
def aau:Fo 114 (.i1 [.l (.int .u64)]) (.i1 [.l aB]) (M.kJ N):=fz N [] [O,R ⟨[(0, .l (.int .u64)),(2, .l aB)],[],[],16⟩,X,R ⟨[(0, .l (.int .u64)),(2, .l aB)],[],[],16⟩,X,R ⟨[(0, .l (.int .u64)),(2, .l aB)],[],[],16⟩] Tryz.func114
def M.gj(a:Int):Option Int:=
aiC (M.kJ N a) λb=>aa (aiE.wrap (64-b))
def aav:Fo 169 (.i1 [.l (.int .u64)]) (.i1 [.l aB]) (M.gj N):=fz N [aau N] [] Tryz.func169
def M.dU(k:Int)(i:Int)(d:Int):Option (Int×Int):=
(if(ah (d=0))then
ae
else(if(ah (d<=k))then
ae
else(if(ah (k=0))then
aiC (xV i d) λo=>aiC (Er i d) λp=>aa (aiH.wrap o,p)
else
aiC (M.gj N d) λf=>aiC (Ij .u64 d (aiH.wrap f)) λa=>aiC (Ij .u64 k (aiH.wrap f)) λg=>aiC (BU .u64 i (aiH.wrap (64-(aiH.wrap f)))) λh=>aiC (Ij .u64 i (aiH.wrap f)) λe=>aiC (xV (fy .or .u64 g h) (gu .u64 a 32)) λl=>aiC (aiC (Loop (S:=Int×Int) (X:=Int) (λb=>aiC (if(ah (4294967296<=b.1))then
aa af
else
aa (ah ((aiH.wrap ((aiH.wrap (4294967296*b.2))+(gu .u64 e 32)))<(aiH.wrap (b.1*(fy .and .u64 a 4294967295)))))) λq=>(if q then(if(ah (4294967296<=(aiH.wrap (b.2+(gu .u64 a 32)))))then
aa (.inr (aiH.wrap (b.1-1)))
else
aa (.inl (aiH.wrap (b.1-1),aiH.wrap (b.2+(gu .u64 a 32)))))
else
aa (.inr b.1))) N (aiH.wrap l,aiH.wrap ((fy .or .u64 g h)-(aiH.wrap ((aiH.wrap l)*(gu .u64 a 32))))):Option Int) λr=>aa r:Option Int) λj=>aiC (xV (aiH.wrap ((aiH.wrap ((aiH.wrap ((fy .or .u64 g h)*4294967296))+(gu .u64 e 32)))-(aiH.wrap (j*a)))) (gu .u64 a 32)) λm=>aiC (aiC (Loop (S:=Int×Int) (X:=Int) (λc=>aiC (if(ah (4294967296<=c.2))then
aa af
else
aa (ah ((aiH.wrap ((aiH.wrap (4294967296*c.1))+(fy .and .u64 e 4294967295)))<(aiH.wrap (c.2*(fy .and .u64 a 4294967295)))))) λs=>(if s then(if(ah (4294967296<=(aiH.wrap (c.1+(gu .u64 a 32)))))then
aa (.inr (aiH.wrap (c.2-1)))
else
aa (.inl (aiH.wrap (c.1+(gu .u64 a 32)),aiH.wrap (c.2-1))))
else
aa (.inr c.2))) N (aiH.wrap ((aiH.wrap ((aiH.wrap ((aiH.wrap ((fy .or .u64 g h)*4294967296))+(gu .u64 e 32)))-(aiH.wrap (j*a))))-(aiH.wrap ((aiH.wrap m)*(gu .u64 a 32)))),aiH.wrap m):Option Int) λt=>aa t:Option Int) λn=>aiC (BU .u64 (aiH.wrap ((aiH.wrap ((aiH.wrap ((aiH.wrap ((aiH.wrap ((aiH.wrap ((fy .or .u64 g h)*4294967296))+(gu .u64 e 32)))-(aiH.wrap (j*a))))*4294967296))+(fy .and .u64 e 4294967295)))-(aiH.wrap (n*a)))) (aiH.wrap f)) λu=>aa (aiH.wrap ((aiH.wrap (j*4294967296))+n),u))))
def Sg:Fo 144 (.i1 [.l (.int .u64), .l (.int .u64), .l (.int .u64)]) (.i1 [.l (.int .u64), .l (.int .u64)]) (u3 (M.dU N)):=fz N [aav N] [O,O,O,O,O,O,O,O,O,O,O,O,O,O,R ⟨[(15, .l (.int .u64))],[],[],832⟩,R ⟨[(15, .l (.int .u64))],[],[],832⟩,P ⟨[(15, .l (.int .u64)),(16, .l (.int .u64))],[],[],832⟩,T,B 78 832,X,X,O,O,O,R ⟨[(18, .l (.int .u64))],[],[],1136⟩,R ⟨[(18, .l (.int .u64))],[],[],1136⟩,P ⟨[(16, .l (.int .u64)),(18, .l (.int .u64))],[],[],1136⟩,T,B 113 1136] Tryz.func144
def M.gY(d:Int)(b:Int):Option (Int×Int×Bool):=
aiC ((if(ah (b<0))then
aa (aiH.wrap (0-(aiH.wrap b)))
else
aa (aiH.wrap b)):Option Int) λe=>aiC (M.eN N (aiH.wrap d) e) λc=>(if(ah (1000000<=c.1))then
aa (0,0,ag)
else
aiC (M.dU N c.1 c.2 1000000) λa=>(if(ah (1000000000000000<a.1))then
aa (0,0,ag)
else(if(ah (b<0))then
aa (aiE.wrap (0-(aiE.wrap a.1)),aiE.wrap (0-(aiE.wrap a.2)),af)
else
aa (aiE.wrap a.1,aiE.wrap a.2,af))))
def aaw:Fo 272 (.i1 [.l aB, .l aB]) (.i1 [.l aB, .l aB, .l .bool]) (u2 (M.gY N)):=fz N [OK N,Sg N] [O,O,R ⟨[(7, .l (.int .u64))],[],[],96⟩] Tryz.func272
def M.fH(N:Nat)(a:Int):Option Bool:=
aiC (if(ah (0<=a))then
aa (ah (a<=5))
else
aa ag) λb=>aa b
def Si:Fo 124 (.i1 [.l aB]) (.i1 [.l .bool]) (M.fH N):=fz N [] [O,B 2 16] Tryz.func124
def M.eA(N:Nat)(a:Int)(b:Int):Option Bool:=
aiC (if(ah (b<a))then
aa af
else
aa (ah (a<(aiE.wrap (0-b))))) λc=>aa c
def Sj:Fo 125 (.i1 [.l aB, .l aB]) (.i1 [.l .bool]) (u2 (M.eA N)):=fz N [] [O,B 4 16] Tryz.func125
def M.dV(N:Nat)(a:Int):Option Int:=
(if(ah (a<0))then
aa (aiH.wrap (0-(aiH.wrap a)))
else
aa (aiH.wrap a))
def V0:Fo 126 (.i1 [.l aB]) (.i1 [.l (.int .u64)]) (M.dV N):=fz N [] [] Tryz.func126
def M.cU(N:Nat)(c:Int)(a:Int)(d:Int)(e:Bool)(b:Int):Option Int:=
(if(ah (a=0))then
aa c
else
aiC (if(ah (b=0))then
aa e
else(if(ah (b=1))then
aa (!e)
else(if(ah (b=3))then
aa af
else(if(ah (b=4))then
aa (ah ((aiH.wrap (d-a))<=a))
else(if(ah (b=5))then(if(ah ((aiH.wrap (d-a))<a))then
aa af
else(if(ah (a=(aiH.wrap (d-a))))then
aa (ah ((ajd c 2)=1))
else
aa ag))
else
aa ag))))) λf=>aiC ((if f then
aa (aiH.wrap (c+1))
else
aa c):Option Int) λg=>aa g)
def V2:Fo 127 (.i1 [.l (.int .u64), .l (.int .u64), .l (.int .u64), .l .bool, .l aB]) (.i1 [.l (.int .u64)]) (u5 (M.cU N)):=fz N [] [O,O,O,T,O,B 11 80,R ⟨[(0, .l (.int .u64))],[],[],80⟩] Tryz.func127
def M.jK(N:Nat)(a:Int)(b:Bool):Option Int:=
(if b then
aa (aiE.wrap (0-(aiE.wrap a)))
else
aa (aiE.wrap a))
def V3:Fo 128 (.i1 [.l (.int .u64), .l .bool]) (.i1 [.l aB]) (u2 (M.jK N)):=fz N [] [] Tryz.func128
def M.dj(b:Int)(a:Int)(d:Int):Option (Int×Int):=
aiC (M.fH N d) λf=>(if(!f)then
aa (0,1)
else(if(ah (a=0))then
aa (0,12)
else
aiC (aiC (M.eA N b 4611686018427387904) λg=>(if g then
aa af
else
aiC (M.eA N a 4611686018427387904) λh=>aa h):Option Bool) λi=>(if i then
aa (0,3)
else
aiC (M.dV N b) λe=>aiC (M.dV N a) λc=>aiC (xV e c) λj=>aiC (Er e c) λk=>aiC (M.cU N (aiH.wrap j) k c (!ah ((ah (b<0))=(ah (a<0)))) d) λl=>aiC (M.jK N l (!ah ((ah (b<0))=(ah (a<0))))) λm=>aa (m,0))))
def V4:Fo 86 (.i1 [.l aB, .l aB, .l aB]) (.i1 [.l aB, .l aB]) (u3 (M.dj N)):=fz N [Si N,Sj N,V0 N,V2 N,V3 N] [O,O,O,T,B 22 112] Tryz.func86
def M.jz(b:Int)(a:Int)(e:Int):Option (Int×Int):=
aiC (if(ah ((aiE.wrap (b+(aiE.wrap (aiQ a 1000000))))<(-2000000000000000)))then
aa af
else
aa (ah (2000000000000000<(aiE.wrap (b+(aiE.wrap (aiQ a 1000000))))))) λf=>(if f then
aa (0,3)
else
aiC ((if(ah (1<(aiE.wrap (b+(aiE.wrap (aiQ a 1000000))))))then
aa (aiE.wrap ((ajd (aiE.wrap (b+(aiE.wrap (aiQ a 1000000)))) 2)+2))
else(if(ah ((aiE.wrap (b+(aiE.wrap (aiQ a 1000000))))<(-1)))then
aa (aiE.wrap ((ajd (aiE.wrap (b+(aiE.wrap (aiQ a 1000000)))) 2)-2))
else
aa (ajd (aiE.wrap (b+(aiE.wrap (aiQ a 1000000)))) 2))):Option Int) λd=>aiC (M.dj N (aiE.wrap ((aiE.wrap (d*1000000))+(ajd a 1000000))) 1000000 e) λc=>(if(!ah (c.2=0))then
aa (0,c.2)
else
aiC (if(ah ((aiE.wrap ((aiE.wrap ((aiE.wrap (b+(aiE.wrap (aiQ a 1000000))))-d))+c.1))<(-1000000000000000)))then
aa af
else
aa (ah (1000000000000000<(aiE.wrap ((aiE.wrap ((aiE.wrap (b+(aiE.wrap (aiQ a 1000000))))-d))+c.1))))) λg=>(if g then
aa (0,3)
else
aa (aiE.wrap ((aiE.wrap ((aiE.wrap (b+(aiE.wrap (aiQ a 1000000))))-d))+c.1),0))))
def aax:Fo 273 (.i1 [.l aB, .l aB, .l aB]) (.i1 [.l aB, .l aB]) (u3 (M.jz N)):=fz N [V4 N] [O,O,O,T,B 23 160,O,T,R ⟨[(8, .l aB)],[],[],208⟩,X,X,O,O,O,T,B 58 512] Tryz.func273
end
end
end Go.Proofs.YtleifhfeahnocaaGreatDoor
