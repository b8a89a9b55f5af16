/- Joined texts: Model. -/
import Derived.Test.YtmihpkfkbfgigaaGreatDoorU6
import Derived.Test.YtmihpkfkbfgigaaGreatDoorProg
section
open _root_.Int renaming tdiv->amh,tmod->amy
open _root_.Go.IntKind renaming i64->alT,u64->al3
open _root_.List renaming forall_mem_cons->anD
open _root_.Nat renaming beq->al4
namespace Go.Proofs.YtmihpkfkbfgigaaGreatDoor
open Go Go.RowKit
noncomputable section
set_option maxRecDepth 100000
set_option linter.unusedVariables false
@[reducible] def aa:Row:= .pair ae ae
@[reducible] def aL:Row:= .pair .str aa
@[reducible] def aY:Row:= .pair .str (.pair ae (.pair ae (.pair ae (.pair aa (.pair (.slice aa) (.pair (.slice aa) .str))))))
@[reducible] def aw:Row:= .pair .str (.pair ae (.pair (.slice aL) (.pair (.slice aL) (.slice aY))))
@[reducible] def bu:Row:= .pair .str (.slice .str)
@[reducible] def dW:Row:= .pair aa (.pair ae aa)
@[reducible] def av:Row:= .pair .str (.pair aa (.pair aa (.slice dW)))
@[reducible] def bU:Row:= .pair (.slice bu) (.pair (.slice av) (.slice aw))
@[reducible] def au:Row:= .pair ae (.pair ae aa)
@[reducible] def aT:Row:= .pair (.slice bu) (.pair (.slice av) (.pair (.slice aa) (.pair (.slice aa) (.pair (.slice aa) .bool))))
@[reducible] def af:Row:= .pair ae aa
@[reducible] def cz:Row:= .pair ae (.pair (.slice af) (.pair (.slice af) (.pair (.slice (.slice af)) (.pair (.slice aa) (.slice av)))))
@[reducible] def wY:Row:= .pair (.slice ae) (.pair (.slice aY) (.pair (.slice (.slice aa)) (.slice (.slice aa))))
@[reducible] def eY:Row:= .pair ae (.pair (.slice af) (.slice (.slice af)))
@[reducible] def bc:Row:= .pair aw (.pair wY (.slice ae))
@[reducible] def eo:Row:= .pair (.slice ae) (.pair (.slice ae) (.slice ae))
@[reducible] def ai:Row:= .pair (.slice af) (.slice ae)
@[reducible] def nD:Row:= .pair (.slice af) (.pair (.slice ae) (.slice ai))
@[reducible] def qR:Row:= .pair aw (.pair aw (.pair (.slice .bool) (.slice .bool)))
@[reducible] def bq:Row:= .pair (.slice aa) (.pair (.slice ae) cz)
theorem LW:TI Tryz.prog 3 ae:=TI.mk (k:=1) (by kernel_rfl) rfl
theorem Ti4:TI Tryz.prog 4 .bool:=TI.mk (k:=1) (by kernel_rfl) rfl
theorem Ti9:TI Tryz.prog 9 .str:=TI.mk (k:=1) (by kernel_rfl) rfl
theorem Y9:TI Tryz.prog 22 (.slice bu):=TI.mk (k:=1) (by kernel_rfl) rfl
theorem Za:TI Tryz.prog 23 (.slice av):=TI.mk (k:=1) (by kernel_rfl) rfl
theorem Zb:TI Tryz.prog 24 (.slice aw):=TI.mk (k:=1) (by kernel_rfl) rfl
theorem Zc:TI Tryz.prog 26 bU:=TI.mk (k:=3) (by kernel_rfl) rfl
theorem Zd:TI Tryz.prog 29 (.slice ae):=TI.mk (k:=1) (by kernel_rfl) rfl
theorem Ze:TI Tryz.prog 30 (.slice aY):=TI.mk (k:=1) (by kernel_rfl) rfl
theorem Zf:TI Tryz.prog 31 (.slice (.slice aa)):=TI.mk (k:=1) (by kernel_rfl) rfl
theorem Zg:TI Tryz.prog 33 wY:=TI.mk (k:=4) (by kernel_rfl) rfl
theorem U1:TI Tryz.prog 34 ae:=TI.mk (k:=1) (by kernel_rfl) rfl
theorem Zh:TI Tryz.prog 38 aa:=TI.mk (k:=2) (by kernel_rfl) rfl
theorem Zi:TI Tryz.prog 39 (.slice aa):=TI.mk (k:=1) (by kernel_rfl) rfl
theorem Zj:TI Tryz.prog 41 aY:=TI.mk (k:=9) (by kernel_rfl) rfl
theorem Zk:TI Tryz.prog 45 (.slice af):=TI.mk (k:=1) (by kernel_rfl) rfl
theorem Zl:TI Tryz.prog 46 (.slice (.slice af)):=TI.mk (k:=1) (by kernel_rfl) rfl
theorem Zm:TI Tryz.prog 48 eY:=TI.mk (k:=3) (by kernel_rfl) rfl
theorem Zn:TI Tryz.prog 50 (.slice ai):=TI.mk (k:=1) (by kernel_rfl) rfl
theorem Zo:TI Tryz.prog 52 nD:=TI.mk (k:=3) (by kernel_rfl) rfl
theorem Zp:TI Tryz.prog 54 au:=TI.mk (k:=4) (by kernel_rfl) rfl
theorem Zq:TI Tryz.prog 59 (.slice .str):=TI.mk (k:=1) (by kernel_rfl) rfl
theorem Zr:TI Tryz.prog 61 bu:=TI.mk (k:=2) (by kernel_rfl) rfl
theorem Zs:TI Tryz.prog 63 aa:=TI.mk (k:=2) (by kernel_rfl) rfl
theorem Zt:TI Tryz.prog 64 (.slice dW):=TI.mk (k:=1) (by kernel_rfl) rfl
theorem Zu:TI Tryz.prog 66 av:=TI.mk (k:=6) (by kernel_rfl) rfl
theorem Zv:TI Tryz.prog 67 (.slice aL):=TI.mk (k:=1) (by kernel_rfl) rfl
theorem Zw:TI Tryz.prog 69 aw:=TI.mk (k:=5) (by kernel_rfl) rfl
theorem Zx:TI Tryz.prog 73 aa:=TI.mk (k:=2) (by kernel_rfl) rfl
theorem Zy:TI Tryz.prog 76 af:=TI.mk (k:=3) (by kernel_rfl) rfl
theorem Zz:TI Tryz.prog 78 au:=TI.mk (k:=4) (by kernel_rfl) rfl
theorem ZA:TI Tryz.prog 83 (.slice ae):=TI.mk (k:=1) (by kernel_rfl) rfl
theorem ZB:TI Tryz.prog 87 (.slice aa):=TI.mk (k:=1) (by kernel_rfl) rfl
theorem ZC:TI Tryz.prog 89 cz:=TI.mk (k:=6) (by kernel_rfl) rfl
theorem ZD:TI Tryz.prog 93 bc:=TI.mk (k:=10) (by kernel_rfl) rfl
theorem ZE:TI Tryz.prog 95 aL:=TI.mk (k:=3) (by kernel_rfl) rfl
theorem U2:TI Tryz.prog 100 ai:=TI.mk (k:=2) (by kernel_rfl) rfl
theorem U3:TI Tryz.prog 104 (.slice .bool):=TI.mk (k:=1) (by kernel_rfl) rfl
theorem U4:TI Tryz.prog 106 qR:=TI.mk (k:=12) (by kernel_rfl) rfl
theorem U5:TI Tryz.prog 140 (.slice ae):=TI.mk (k:=1) (by kernel_rfl) rfl
theorem U6:TI Tryz.prog 169 dW:=TI.mk (k:=5) (by kernel_rfl) rfl
theorem U7:TI Tryz.prog 183 aT:=TI.mk (k:=6) (by kernel_rfl) rfl
theorem U8:TI Tryz.prog 217 eo:=TI.mk (k:=3) (by kernel_rfl) rfl
theorem U9:TI Tryz.prog 224 bq:=TI.mk (k:=8) (by kernel_rfl) rfl
theorem Va:TI Tryz.prog 250 (.int .u64):=TI.mk (k:=1) (by kernel_rfl) rfl
theorem Ny:rR Tryz.prog 3 ae 1:=FO Tryz.underlying3
theorem ZF:rR Tryz.prog 63 aa 2:=oA Tryz.underlying63 (by kernel_rfl) (m5 rfl rfl Tryz.underlying3 (by simp[kP]) LW Ny (rU rfl rfl Tryz.underlying3 (by simp[kP]) LW Ny))
theorem ZG:rR Tryz.prog 73 aa 2:=oA Tryz.underlying73 (by kernel_rfl) (m5 rfl rfl Tryz.underlying3 (by simp[kP]) LW Ny (rU rfl rfl Tryz.underlying3 (by simp[kP]) LW Ny))
theorem ZH:rR Tryz.prog 34 ae 1:=FO Tryz.underlying34
theorem ZI:rR Tryz.prog 54 au 2:=oA Tryz.underlying54 (by kernel_rfl) (m5 rfl rfl Tryz.underlying34 (by simp[kP]) U1 ZH (m5 rfl rfl Tryz.underlying3 (by simp[kP]) LW Ny (m5 rfl rfl Tryz.underlying3 (by simp[kP]) LW Ny (rU rfl rfl Tryz.underlying3 (by simp[kP]) LW Ny))))
theorem ZJ:rR Tryz.prog 76 af 2:=oA Tryz.underlying76 (by kernel_rfl) (m5 rfl rfl Tryz.underlying3 (by simp[kP]) LW Ny (m5 rfl rfl Tryz.underlying3 (by simp[kP]) LW Ny (rU rfl rfl Tryz.underlying3 (by simp[kP]) LW Ny)))
theorem tu:∀p∈([(3, .int .i64),(4, .bool),(5, .int .u8),(9, .str),(20, .other),(22, .slice 61),(23, .slice 66),(24, .slice 69),(26, .struct [(22,0),(23,1),(24,2)]),(29, .slice 3),(30, .slice 41),(31, .slice 39),(33, .struct [(29,0),(30,1),(31,2),(31,3)]),(34, .int .i64),(38, .struct [(3,0),(3,1)]),(39, .slice 73),(41, .struct [(9,0),(3,1),(3,2),(3,3),(38,4),(39,6),(39,7),(9,8)]),(45, .slice 76),(46, .slice 45),(48, .struct [(3,0),(45,1),(46,2)]),(50, .slice 100),(52, .struct [(45,0),(29,1),(50,2)]),(54, .struct [(34,0),(3,1),(3,2),(3,3)]),(59, .slice 9),(61, .struct [(9,0),(59,1)]),(63, .struct [(3,0),(3,1)]),(64, .slice 169),(66, .struct [(9,0),(63,1),(63,3),(64,5)]),(67, .slice 95),(69, .struct [(9,0),(3,1),(67,2),(67,3),(30,4)]),(70, .other),(73, .struct [(3,0),(3,1)]),(76, .struct [(3,0),(3,1),(3,2)]),(78, .struct [(34,0),(3,1),(3,2),(3,3)]),(81, .ptr 83),(83, .struct [(29,0)]),(87, .slice 63),(89, .struct [(3,0),(45,1),(45,2),(46,3),(87,4),(23,5)]),(90, .ptr 93),(93, .struct [(69,0),(33,5),(29,9)]),(95, .struct [(9,0),(63,1)]),(98, .ptr 89),(100, .struct [(45,0),(29,1)]),(102, .ptr 106),(104, .slice 4),(106, .struct [(69,0),(69,5),(104,10),(104,11)]),(137, .slice 29),(139, .ptr 140),(140, .slice 3),(155, .other),(158, .int .u64),(169, .struct [(38,0),(3,2),(3,3),(3,4)]),(173, .other),(177, .other),(179, .other),(183, .struct [(22,0),(23,1),(87,2),(87,3),(87,4),(4,5)]),(191, .other),(210, .int .u32),(212, .int .u64),(217, .struct [(29,0),(29,1),(29,2)]),(224, .struct [(39,0),(29,1),(89,2)]),(232, .other),(250, .int .u64),(254, .ptr 3),(276, .ptr 250),(305, .array 12 3)]:List (Nat×JR)),yz Tryz.prog p.1 p.2:=by
 simp only[anD];exact⟨Tryz.underlying3,Tryz.underlying4,Tryz.underlying5,Tryz.underlying9,⟨_,Tryz.underlying20,rfl⟩,Tryz.underlying22,Tryz.underlying23,Tryz.underlying24,⟨_,Tryz.underlying26,rfl⟩,Tryz.underlying29,Tryz.underlying30,Tryz.underlying31,⟨_,Tryz.underlying33,rfl⟩,Tryz.underlying34,⟨_,Tryz.underlying38,rfl⟩,Tryz.underlying39,⟨_,Tryz.underlying41,rfl⟩,Tryz.underlying45,Tryz.underlying46,⟨_,Tryz.underlying48,rfl⟩,Tryz.underlying50,⟨_,Tryz.underlying52,rfl⟩,⟨_,Tryz.underlying54,rfl⟩,Tryz.underlying59,⟨_,Tryz.underlying61,rfl⟩,⟨_,Tryz.underlying63,rfl⟩,Tryz.underlying64,⟨_,Tryz.underlying66,rfl⟩,Tryz.underlying67,⟨_,Tryz.underlying69,rfl⟩,⟨_,Tryz.underlying70,rfl⟩,⟨_,Tryz.underlying73,rfl⟩,⟨_,Tryz.underlying76,rfl⟩,⟨_,Tryz.underlying78,rfl⟩,Tryz.underlying81,⟨_,Tryz.underlying83,rfl⟩,Tryz.underlying87,⟨_,Tryz.underlying89,rfl⟩,Tryz.underlying90,⟨_,Tryz.underlying93,rfl⟩,⟨_,Tryz.underlying95,rfl⟩,Tryz.underlying98,⟨_,Tryz.underlying100,rfl⟩,Tryz.underlying102,Tryz.underlying104,⟨_,Tryz.underlying106,rfl⟩,Tryz.underlying137,Tryz.underlying139,Tryz.underlying140,⟨_,Tryz.underlying155,rfl⟩,Tryz.underlying158,⟨_,Tryz.underlying169,rfl⟩,⟨_,Tryz.underlying173,rfl⟩,⟨_,Tryz.underlying177,rfl⟩,⟨_,Tryz.underlying179,rfl⟩,⟨_,Tryz.underlying183,rfl⟩,⟨_,Tryz.underlying191,rfl⟩,Tryz.underlying210,Tryz.underlying212,⟨_,Tryz.underlying217,rfl⟩,⟨_,Tryz.underlying224,rfl⟩,⟨_,Tryz.underlying232,rfl⟩,Tryz.underlying250,Tryz.underlying254,Tryz.underlying276,Tryz.underlying305,fun _ h=>absurd h (by simp)⟩
theorem tr:∀p∈([(3,ae),(4, .bool),(9, .str),(22,(.slice bu)),(23,(.slice av)),(24,(.slice aw)),(26,bU),(29,(.slice ae)),(30,(.slice aY)),(31,(.slice (.slice aa))),(33,wY),(34,ae),(38,aa),(39,(.slice aa)),(41,aY),(45,(.slice af)),(46,(.slice (.slice af))),(48,eY),(50,(.slice ai)),(52,nD),(54,au),(59,(.slice .str)),(61,bu),(63,aa),(64,(.slice dW)),(66,av),(67,(.slice aL)),(69,aw),(73,aa),(76,af),(78,au),(83,(.slice ae)),(87,(.slice aa)),(89,cz),(93,bc),(95,aL),(100,ai),(104,(.slice .bool)),(106,qR),(140,(.slice ae)),(169,dW),(183,aT),(217,eo),(224,bq),(250,(.int .u64))]:List (Nat×Row)),TI Tryz.prog p.1 p.2:=by
 simp only[anD];exact⟨LW,Ti4,Ti9,Y9,Za,Zb,Zc,Zd,Ze,Zf,Zg,U1,Zh,Zi,Zj,Zk,Zl,Zm,Zn,Zo,Zp,Zq,Zr,Zs,Zt,Zu,Zv,Zw,Zx,Zy,Zz,ZA,ZB,ZC,ZD,ZE,U2,U3,U4,U5,U6,U7,U8,U9,Va,fun _ h=>absurd h (by simp)⟩
theorem te:∀p∈([(54,au),(63,aa),(73,aa),(76,af)]:List (Nat×Row)),∃K d,rR Tryz.prog p.1 p.2 K/\d+K=10000/\Tryz.prog.eqGuardType Tryz.prog.depth p.1=false/\(Tryz.prog.underlying p.1).any kP=true:=by
 simp only[anD];exact⟨⟨2,9998,ZI,rfl,by kernel_rfl,by kernel_rfl⟩,⟨2,9998,ZF,rfl,by kernel_rfl,by kernel_rfl⟩,⟨2,9998,ZG,rfl,by kernel_rfl,by kernel_rfl⟩,⟨2,9998,ZJ,rfl,by kernel_rfl,by kernel_rfl⟩,fun _ h=>absurd h (by simp)⟩
theorem tm:∀p∈([(139,("Len",(54,false))),(139,("Less",(257,false))),(139,("Pop",(258,true))),(139,("Push",(259,true))),(139,("Swap",(260,false)))]:List (TypeId×(String×(FuncId×Bool)))),qJ Tryz.prog p.1 p.2.1 p.2.2.1 p.2.2.2:=by
 simp only[anD];exact⟨(by unfold qJ;kernel_rfl),(by unfold qJ;kernel_rfl),(by unfold qJ;kernel_rfl),(by unfold qJ;kernel_rfl),(by unfold qJ;kernel_rfl),fun _ h=>absurd h (by simp)⟩
def ZK:bg Tryz.prog:=⟨_,_,_,[],ph tu,ph tr,ph te,fun _ _ _ h=>(by cases h),_,tm⟩
theorem mixed:Tryz.prog.follows .mixedOrders=true:=by kernel_rfl
def en(l:List (CT Tryz.prog))(d p:Bool):Env Tryz.prog:=⟨ZK,CT.tab l,CT.AF,mixed,d,p⟩
def M.jW(N:Nat)(a0:aw.den):Option Bool:=
((if(decide (80<(a0.1.size:Int)))then
some true
else
(if(decide (14<(a0.2.2.1.length:Int)))then
some true
else
(if(decide (14<(a0.2.2.2.1.length:Int)))then
some true
else
some (decide (60<(a0.2.2.2.2.length:Int)))))):Option Bool).bind fun j1=>
(if j1 then
some false
else
bE (J:=Unit) (R:=Bool) (Loop (S:=Int) (X:=Unit⊕Bool) (fun s3=>
(if(decide (s3<(a0.2.2.1.length:Int)))then
(idx a0.2.2.1 s3).bind fun x4=>
(if(decide (80<(x4.1.size:Int)))then
some (.inr (.inr false))
else
some (.inl (alT.wrap (s3+1))))
else
some (.inr (.inl ())))) N 0) fun j2=>
bE (J:=Unit) (R:=Bool) (Loop (S:=Int) (X:=Unit⊕Bool) (fun s6=>
(if(decide (s6<(a0.2.2.2.1.length:Int)))then
(idx a0.2.2.2.1 s6).bind fun x7=>
(if(decide (80<(x7.1.size:Int)))then
some (.inr (.inr false))
else
some (.inl (alT.wrap (s6+1))))
else
some (.inr (.inl ())))) N 0) fun j5=>
Loop (S:=Int) (X:=Bool) (fun s8=>
(if(decide (s8<(a0.2.2.2.2.length:Int)))then
(idx a0.2.2.2.2 s8).bind fun x9=>
((if(decide (80<(x9.1.size:Int)))then
some true
else
(if(decide (80<(x9.2.2.2.2.2.2.2.size:Int)))then
some true
else
(if(decide (50<(x9.2.2.2.2.2.1.length:Int)))then
some true
else
some (decide (50<(x9.2.2.2.2.2.2.1.length:Int)))))):Option Bool).bind fun qS=>
(if qS then
some (.inr false)
else
some (.inl (alT.wrap (s8+1))))
else
some (.inr true))) N 0)
def S13(N:Nat):bp:=⟨⟨[(0, .g aw)],[],[],0⟩,⟨[(0, .l .bool)],[],[],0⟩,fun(x:aw.den)=>M.jW N x⟩
theorem W13(N:Nat):ax Tryz.prog 13 (S13 N):=fw (en [] false false) (N:=N) (.o (.two (.meet ⟨[(28, .l .bool)],[],[],32⟩ .nil .nil) (.join ⟨[],[],[],32⟩ (.o (.two (.loop ⟨[(3, .l ae)],[],[],48⟩ .nil) .nil)) (.join ⟨[],[],[],32⟩ (.o (.two (.loop ⟨[(4, .l ae)],[],[],48⟩ .nil) .nil)) (.two (.o (.two (.loop ⟨[(5, .l ae)],[],[],48⟩ (.o (.two (.two (.o (.meet ⟨[(92, .l .bool)],[],[],240⟩ .nil .nil)) .nil) .nil))) .nil)) .nil))))) Tryz.func13 (by kernel_rfl) fun x=>by kernel_rfl
def M.lW(N:Nat)(a0:bU.den):Option Bool:=
((if(decide (9<(a0.1.length:Int)))then
some true
else
(if(decide (9<(a0.2.1.length:Int)))then
some true
else
some (decide (5<(a0.2.2.length:Int))))):Option Bool).bind fun j1=>
(if j1 then
some false
else
bE (J:=Unit) (R:=Bool) (Loop (S:=Int) (X:=Unit⊕Bool) (fun s3=>
(if(decide (s3<(a0.1.length:Int)))then
bE (J:=Unit) (R:=Int⊕(Unit⊕Bool)) (((idx a0.1 s3).bind fun x6=>
(if(decide (80<(x6.1.size:Int)))then
some true
else
(idx a0.1 s3).bind fun x7=>
some (decide (20<(x7.2.length:Int)))):Option Bool).bind fun j5=>
(if j5 then
some (.inr (.inr (.inr false)))
else
Loop (S:=Int) (X:=Unit⊕(Int⊕(Unit⊕Bool))) (fun s8=>
(idx a0.1 s3).bind fun x9=>
(if(decide (s8<(x9.2.length:Int)))then
(idx a0.1 s3).bind fun qn=>
(idx qn.2 s8).bind fun o8=>
(if(decide (80<(o8.size:Int)))then
some (.inr (.inr (.inr (.inr false))))
else
some (.inl (alT.wrap (s8+1))))
else
some (.inr (.inl ())))) N 0)) fun j4=>
some (.inl (alT.wrap (s3+1)))
else
some (.inr (.inl ())))) N 0) fun j2=>
bE (J:=Unit) (R:=Bool) (Loop (S:=Int×Int) (X:=Unit⊕Bool) (fun qp=>
(if(decide (qp.2<(a0.2.1.length:Int)))then
(idx a0.2.1 qp.2).bind fun sW=>
((idx a0.2.1 qp.2).bind fun LX=>
(if(decide (80<(LX.1.size:Int)))then
some true
else
some (decide (150<(alT.wrap (qp.1+(sW.2.2.2.length:Int)))))):Option Bool).bind fun Qq=>
(if Qq then
some (.inr (.inr false))
else
some (.inl (alT.wrap (qp.1+(sW.2.2.2.length:Int)),alT.wrap (qp.2+1))))
else
some (.inr (.inl ())))) N (0,0)) fun AH=>
Loop (S:=Int×Int) (X:=Bool) (fun TG=>
(if(decide (TG.2<(a0.2.2.length:Int)))then
(idx a0.2.2 TG.2).bind fun DV=>
((if(decide (60<(alT.wrap (TG.1+(DV.2.2.2.2.length:Int)))))then
some true
else
(idx a0.2.2 TG.2).bind fun Vb=>
(M.jW N Vb).bind fun OP=>
some (!OP)):Option Bool).bind fun Qr=>
(if Qr then
some (.inr false)
else
some (.inl (alT.wrap (TG.1+(DV.2.2.2.2.length:Int)),alT.wrap (TG.2+1))))
else
some (.inr true))) N (0,0))
def S5(N:Nat):bp:=⟨⟨[(0, .g bU)],[],[],0⟩,⟨[(0, .l .bool)],[],[],0⟩,fun(x:bU.den)=>M.lW N x⟩
theorem W5(N:Nat):ax Tryz.prog 5 (S5 N):=fw (en [ck (W13 N)] false false) (N:=N) (.o (.two (.meet ⟨[(24, .l .bool)],[],[],32⟩ .nil .nil) (.o (.o (.join ⟨[],[],[],64⟩ (.o (.two (.loop ⟨[(5, .l ae)],[],[],80⟩ (.o (.join ⟨[],[],[],160⟩ (.two (.two (.meet ⟨[(49, .l .bool)],[],[],160⟩ .nil .nil) (.o (.two (.loop ⟨[(6, .l ae)],[],[],176⟩ .nil) .nil))) .nil) .nil))) .nil)) (.join ⟨[],[],[],64⟩ (.o (.two (.loop ⟨[(3, .l ae),(7, .l ae)],[],[],80⟩ (.o (.two (.two (.o (.meet ⟨[(99, .l .bool)],[],[],320⟩ .nil .nil)) .nil) .nil))) .nil)) (.two (.o (.two (.loop ⟨[(4, .l ae),(8, .l ae)],[],[],80⟩ (.o (.two (.two (.o (.meet ⟨[(126, .l .bool)],[],[],320⟩ .nil .nil)) .nil) .nil))) .nil)) .nil))))))) Tryz.func5 (by kernel_rfl) fun x=>by kernel_rfl
def M.jP(N:Nat)(a0:Int):Option Bool:=
((if(decide (97<=a0))then
some (decide (a0<=122))
else
some false):Option Bool).bind fun j1=>
some j1
def S80(N:Nat):bp:=⟨⟨[(0, .l (.int .u8))],[],[],0⟩,⟨[(0, .l .bool)],[],[],0⟩,fun(x:Int)=>M.jP N x⟩
theorem W80(N:Nat):ax Tryz.prog 80 (S80 N):=fw (en [] false false) (N:=N) (.o (.meet ⟨[(2, .l .bool)],[],[],16⟩ .nil .nil)) Tryz.func80 (by kernel_rfl) fun x=>by kernel_rfl
def M.lX(N:Nat)(a0:Int):Option Bool:=
((if(decide (48<=a0))then
some (decide (a0<=57))
else
some false):Option Bool).bind fun j1=>
some j1
def ZL(N:Nat):bp:=⟨⟨[(0, .l (.int .u8))],[],[],0⟩,⟨[(0, .l .bool)],[],[],0⟩,fun(x:Int)=>M.lX N x⟩
theorem ZM(N:Nat):ax Tryz.prog 132 (ZL N):=fw (en [] false false) (N:=N) (.o (.meet ⟨[(2, .l .bool)],[],[],16⟩ .nil .nil)) Tryz.func132 (by kernel_rfl) fun x=>by kernel_rfl
def M.jt(N:Nat)(a0:ByteArray):Option Int:=
Loop (S:=Int) (X:=Int) (fun s1=>
((if(decide (s1<(a0.size:Int)))then
(lI a0 s1).bind fun x3=>
(M.jP N x3).bind fun y4=>
(if y4 then
some true
else
(lI a0 s1).bind fun x5=>
(M.lX N x5).bind fun y6=>
(if y6 then
some true
else
(lI a0 s1).bind fun x7=>
some (decide (x7=95))))
else
some false):Option Bool).bind fun j2=>
(if j2 then
some (.inl (alT.wrap (s1+1)))
else
some (.inr s1))) N 0
def S81(N:Nat):bp:=⟨⟨[(0, .l .str)],[],[],0⟩,⟨[(0, .l ae)],[],[],0⟩,fun(x:ByteArray)=>M.jt N x⟩
theorem W81(N:Nat):ax Tryz.prog 81 (S81 N):=fw (en [ck (W80 N),ck (ZM N)] false false) (N:=N) (.o (.o (.two (.two (.loop ⟨[(3, .l ae)],[],[],32⟩ (.two (.meet ⟨[(25, .l .bool)],[],[],32⟩ .nil .nil) .nil)) .nil) .nil))) Tryz.func81 (by kernel_rfl) fun x=>by kernel_rfl
def M.kU(N:Nat)(a0:ByteArray):Option Bool:=
((if(decide (a0=(⟨#[105,102]⟩:ByteArray)))then
some (decide (a0=(⟨#[105,102]⟩:ByteArray)))
else
(if(decide (a0=(⟨#[116,104,101,110]⟩:ByteArray)))then
some (decide (a0=(⟨#[116,104,101,110]⟩:ByteArray)))
else
(if(decide (a0=(⟨#[101,108,115,101]⟩:ByteArray)))then
some (decide (a0=(⟨#[101,108,115,101]⟩:ByteArray)))
else
(if(decide (a0=(⟨#[111,114]⟩:ByteArray)))then
some (decide (a0=(⟨#[111,114]⟩:ByteArray)))
else
(if(decide (a0=(⟨#[97,110,100]⟩:ByteArray)))then
some (decide (a0=(⟨#[97,110,100]⟩:ByteArray)))
else
(if(decide (a0=(⟨#[110,111,116]⟩:ByteArray)))then
some (decide (a0=(⟨#[110,111,116]⟩:ByteArray)))
else
(if(decide (a0=(⟨#[116,114,117,101]⟩:ByteArray)))then
some (decide (a0=(⟨#[116,114,117,101]⟩:ByteArray)))
else
(if(decide (a0=(⟨#[102,97,108,115,101]⟩:ByteArray)))then
some (decide (a0=(⟨#[102,97,108,115,101]⟩:ByteArray)))
else
(if(decide (a0=(⟨#[116,111,100,97,121]⟩:ByteArray)))then
some (decide (a0=(⟨#[116,111,100,97,121]⟩:ByteArray)))
else
(if(decide (a0=(⟨#[115,104,97,114,101]⟩:ByteArray)))then
some (decide (a0=(⟨#[115,104,97,114,101]⟩:ByteArray)))
else
(if(decide (a0=(⟨#[100,105,118]⟩:ByteArray)))then
some (decide (a0=(⟨#[100,105,118]⟩:ByteArray)))
else
(if(decide (a0=(⟨#[114,111,117,110,100]⟩:ByteArray)))then
some (decide (a0=(⟨#[114,111,117,110,100]⟩:ByteArray)))
else
(if(decide (a0=(⟨#[109,105,110]⟩:ByteArray)))then
some (decide (a0=(⟨#[109,105,110]⟩:ByteArray)))
else
(if(decide (a0=(⟨#[109,97,120]⟩:ByteArray)))then
some (decide (a0=(⟨#[109,97,120]⟩:ByteArray)))
else
(if(decide (a0=(⟨#[112,108,117,115]⟩:ByteArray)))then
some (decide (a0=(⟨#[112,108,117,115]⟩:ByteArray)))
else
(if(decide (a0=(⟨#[109,111,110,116,104,115]⟩:ByteArray)))then
some (decide (a0=(⟨#[109,111,110,116,104,115]⟩:ByteArray)))
else
(if(decide (a0=(⟨#[100,97,121,115]⟩:ByteArray)))then
some (decide (a0=(⟨#[100,97,121,115]⟩:ByteArray)))
else
(if(decide (a0=(⟨#[121,101,97,114,115]⟩:ByteArray)))then
some (decide (a0=(⟨#[121,101,97,114,115]⟩:ByteArray)))
else
(if(decide (a0=(⟨#[121,101,97,114]⟩:ByteArray)))then
some (decide (a0=(⟨#[121,101,97,114]⟩:ByteArray)))
else
(if(decide (a0=(⟨#[109,111,110,116,104]⟩:ByteArray)))then
some (decide (a0=(⟨#[109,111,110,116,104]⟩:ByteArray)))
else
(if(decide (a0=(⟨#[116,97,98]⟩:ByteArray)))then
some (decide (a0=(⟨#[116,97,98]⟩:ByteArray)))
else
(if(decide (a0=(⟨#[98,97,110,100]⟩:ByteArray)))then
some (decide (a0=(⟨#[98,97,110,100]⟩:ByteArray)))
else
(if(decide (a0=(⟨#[99,111,117,110,116]⟩:ByteArray)))then
some (decide (a0=(⟨#[99,111,117,110,116]⟩:ByteArray)))
else
(if(decide (a0=(⟨#[115,117,109]⟩:ByteArray)))then
some (decide (a0=(⟨#[115,117,109]⟩:ByteArray)))
else
(if(decide (a0=(⟨#[97,108,108]⟩:ByteArray)))then
some (decide (a0=(⟨#[97,108,108]⟩:ByteArray)))
else
(if(decide (a0=(⟨#[97,110,121]⟩:ByteArray)))then
some (decide (a0=(⟨#[97,110,121]⟩:ByteArray)))
else
(if(decide (a0=(⟨#[109,111,115,116]⟩:ByteArray)))then
some (decide (a0=(⟨#[109,111,115,116]⟩:ByteArray)))
else
(if(decide (a0=(⟨#[101,110,117,109]⟩:ByteArray)))then
some (decide (a0=(⟨#[101,110,117,109]⟩:ByteArray)))
else
(if(decide (a0=(⟨#[116,97,98,108,101]⟩:ByteArray)))then
some (decide (a0=(⟨#[116,97,98,108,101]⟩:ByteArray)))
else
(if(decide (a0=(⟨#[114,111,119]⟩:ByteArray)))then
some (decide (a0=(⟨#[114,111,119]⟩:ByteArray)))
else
(if(decide (a0=(⟨#[115,99,111,112,101]⟩:ByteArray)))then
some (decide (a0=(⟨#[115,99,111,112,101]⟩:ByteArray)))
else
(if(decide (a0=(⟨#[109,101,109,98,101,114,115]⟩:ByteArray)))then
some (decide (a0=(⟨#[109,101,109,98,101,114,115]⟩:ByteArray)))
else
(if(decide (a0=(⟨#[105,110,112,117,116]⟩:ByteArray)))then
some (decide (a0=(⟨#[105,110,112,117,116]⟩:ByteArray)))
else
(if(decide (a0=(⟨#[100,101,102]⟩:ByteArray)))then
some (decide (a0=(⟨#[100,101,102]⟩:ByteArray)))
else
(if(decide (a0=(⟨#[114,117,108,101]⟩:ByteArray)))then
some (decide (a0=(⟨#[114,117,108,101]⟩:ByteArray)))
else
(if(decide (a0=(⟨#[111,102]⟩:ByteArray)))then
some (decide (a0=(⟨#[111,102]⟩:ByteArray)))
else
(if(decide (a0=(⟨#[111,118,101,114]⟩:ByteArray)))then
some (decide (a0=(⟨#[111,118,101,114]⟩:ByteArray)))
else
(if(decide (a0=(⟨#[112,114,105,111]⟩:ByteArray)))then
some (decide (a0=(⟨#[112,114,105,111]⟩:ByteArray)))
else
(if(decide (a0=(⟨#[102,114,111,109]⟩:ByteArray)))then
some (decide (a0=(⟨#[102,114,111,109]⟩:ByteArray)))
else
(if(decide (a0=(⟨#[116,111]⟩:ByteArray)))then
some (decide (a0=(⟨#[116,111]⟩:ByteArray)))
else
(if(decide (a0=(⟨#[101,110,100]⟩:ByteArray)))then
some (decide (a0=(⟨#[101,110,100]⟩:ByteArray)))
else
(if(decide (a0=(⟨#[119,104,101,110]⟩:ByteArray)))then
some (decide (a0=(⟨#[119,104,101,110]⟩:ByteArray)))
else
(if(decide (a0=(⟨#[105,115]⟩:ByteArray)))then
some (decide (a0=(⟨#[105,115]⟩:ByteArray)))
else
(if(decide (a0=(⟨#[115,114,99]⟩:ByteArray)))then
some (decide (a0=(⟨#[115,114,99]⟩:ByteArray)))
else
(if(decide (a0=(⟨#[98,111,111,108]⟩:ByteArray)))then
some (decide (a0=(⟨#[98,111,111,108]⟩:ByteArray)))
else
(if(decide (a0=(⟨#[105,110,116]⟩:ByteArray)))then
some (decide (a0=(⟨#[105,110,116]⟩:ByteArray)))
else
(if(decide (a0=(⟨#[109,111,110,101,121]⟩:ByteArray)))then
some (decide (a0=(⟨#[109,111,110,101,121]⟩:ByteArray)))
else
(if(decide (a0=(⟨#[114,97,116,101]⟩:ByteArray)))then
some (decide (a0=(⟨#[114,97,116,101]⟩:ByteArray)))
else
(if(decide (a0=(⟨#[100,97,116,101]⟩:ByteArray)))then
some (decide (a0=(⟨#[100,97,116,101]⟩:ByteArray)))
else
(if(decide (a0=(⟨#[100,111,119,110]⟩:ByteArray)))then
some (decide (a0=(⟨#[100,111,119,110]⟩:ByteArray)))
else
(if(decide (a0=(⟨#[117,112]⟩:ByteArray)))then
some (decide (a0=(⟨#[117,112]⟩:ByteArray)))
else
(if(decide (a0=(⟨#[122,101,114,111]⟩:ByteArray)))then
some (decide (a0=(⟨#[122,101,114,111]⟩:ByteArray)))
else
(if(decide (a0=(⟨#[97,119,97,121]⟩:ByteArray)))then
some (decide (a0=(⟨#[97,119,97,121]⟩:ByteArray)))
else
(if(decide (a0=(⟨#[104,97,108,102]⟩:ByteArray)))then
some (decide (a0=(⟨#[104,97,108,102]⟩:ByteArray)))
else
some (decide (a0=(⟨#[101,118,101,110]⟩:ByteArray))))))))))))))))))))))))))))))))))))))))))))))))))))))))):Option Bool).bind fun j1=>
(if j1 then
some true
else
some false)
def S82(N:Nat):bp:=⟨⟨[(0, .l .str)],[],[],0⟩,⟨[(0, .l .bool)],[],[],0⟩,fun(x:ByteArray)=>M.kU N x⟩
theorem W82(N:Nat):ax Tryz.prog 82 (S82 N):=fw (en [] false false) (N:=N) (.o (.two (.o (.two (.meet ⟨[(4, .l .bool)],[],[],32⟩ .nil .nil) .nil)) .nil)) Tryz.func82 (by kernel_rfl) fun x=>by kernel_rfl
def M.b8(N:Nat)(a0:ByteArray):Option Bool:=
((if(!decide (a0=(⟨#[]⟩:ByteArray)))then
(lI a0 0).bind fun x2=>
(M.jP N x2).bind fun y3=>
(if y3 then
(M.jt N a0).bind fun y4=>
(if(decide (y4=(a0.size:Int)))then
(if(decide ((a0.size:Int)<=16))then
(M.kU N a0).bind fun y5=>
some (!y5)
else
some false)
else
some false)
else
some false)
else
some false):Option Bool).bind fun j1=>
some j1
def S48(N:Nat):bp:=⟨⟨[(0, .l .str)],[],[],0⟩,⟨[(0, .l .bool)],[],[],0⟩,fun(x:ByteArray)=>M.b8 N x⟩
theorem Vc(N:Nat):ax Tryz.prog 48 (S48 N):=fw (en [ck (W80 N),ck (W81 N),ck (W82 N)] false false) (N:=N) (.o (.meet ⟨[(2, .l .bool)],[],[],16⟩ .nil .nil)) Tryz.func48 (by kernel_rfl) fun x=>by kernel_rfl
def M.kV(N:Nat)(a0:bu.den)(a1:ByteArray):Option (Bool×ByteArray):=
some (decide (a0.1=a1),a1)
def Vd(N:Nat):bp:=⟨⟨[(0, .g bu),(1, .ptr 0 [] 0)],[(0, .box 9 (.leaf .str))],[],1⟩,⟨[(0, .l .bool)],[(0, .box 9 (.leaf .str))],[],2⟩,fun(x:bu.den×ByteArray)=>M.kV N x.1 x.2⟩
theorem Ve(N:Nat):ax Tryz.prog 84 (Vd N):=fw (en [] false false) (N:=N) .nil Tryz.func84 (by kernel_rfl) fun x=>by kernel_rfl
def M.bn(N:Nat)(a0:List bu.den)(a1:ByteArray):Option (Int×ByteArray):=
Loop (S:=Int×ByteArray) (X:=Int×ByteArray) (fun s1=>
(if(decide (s1.1<(a0.length:Int)))then
(idx a0 s1.1).bind fun x2=>
(M.kV N x2 s1.2).bind fun y3=>
(if y3.1 then
some (.inr (s1.1,y3.2))
else
some (.inl (alT.wrap (s1.1+1),y3.2)))
else
some (.inr ((-1),s1.2)))) N (0,a1)
def RE(N:Nat):bp:=⟨⟨[(0, .l (.slice bu)),(1, .fn 84 [(0,[],0)])],[(0, .box 9 (.leaf .str))],[],1⟩,⟨[(0, .l ae)],[(0, .box 9 (.leaf .str))],[],2⟩,fun(x:(List bu.den)×ByteArray)=>M.bn N x.1 x.2⟩
theorem RF(N:Nat):ax Tryz.prog 133 (RE N):=fw (en [ck (Ve N)] false false) (N:=N) (.o (.two (.o (.two (.loop ⟨[(8, .l ae)],[(0, .box 9 (.leaf .str))],[],66⟩ .nil) .nil)) .nil)) Tryz.func133 (by kernel_rfl) fun x=>by kernel_rfl
def M.bF(N:Nat)(a0:List bu.den)(a1:ByteArray):Option (Bool×ByteArray):=
(M.bn N a0 a1).bind fun y1=>
some (decide (0<=y1.1),y1.2)
def Vf(N:Nat):bp:=⟨⟨[(0, .l (.slice bu)),(1, .fn 84 [(0,[],0)])],[(0, .box 9 (.leaf .str))],[],1⟩,⟨[(0, .l .bool)],[(0, .box 9 (.leaf .str))],[],2⟩,fun(x:(List bu.den)×ByteArray)=>M.bF N x.1 x.2⟩
theorem Vg(N:Nat):ax Tryz.prog 83 (Vf N):=fw (en [ck (RF N)] false false) (N:=N) .nil Tryz.func83 (by kernel_rfl) fun x=>by kernel_rfl
def M.iY(N:Nat)(a0:List bu.den)(a1:ByteArray):Option Bool:=
(M.bF N a0 a1).bind fun y1=>
some y1.1
def S49(N:Nat):bp:=⟨⟨[(0, .l (.slice bu)),(1, .l .str)],[],[],0⟩,⟨[(0, .l .bool)],[],[],0⟩,fun(x:(List bu.den)×ByteArray)=>M.iY N x.1 x.2⟩
theorem ZN(N:Nat):ax Tryz.prog 49 (S49 N):=fw (en [ck (Vg N)] false false) (N:=N) .nil Tryz.func49 (by kernel_rfl) fun x=>by kernel_rfl
def M.dI(N:Nat)(a0:List ByteArray)(a1:ByteArray):Option Int:=
Loop (S:=Int) (X:=Int) (fun s1=>
(if(decide (s1<(a0.length:Int)))then
(idx a0 s1).bind fun x2=>
(if(decide (a1=x2))then
some (.inr s1)
else
some (.inl (alT.wrap (s1+1))))
else
some (.inr (-1)))) N 0
def ZO(N:Nat):bp:=⟨⟨[(0, .l (.slice .str)),(1, .l .str)],[],[],0⟩,⟨[(0, .l ae)],[],[],0⟩,fun(x:(List ByteArray)×ByteArray)=>M.dI N x.1 x.2⟩
theorem ZP(N:Nat):ax Tryz.prog 130 (ZO N):=fw (en [] false false) (N:=N) (.o (.two (.o (.two (.loop ⟨[(8, .l ae)],[],[],64⟩ .nil) .nil)) .nil)) Tryz.func130 (by kernel_rfl) fun x=>by kernel_rfl
def M.dl(N:Nat)(a0:List ByteArray)(a1:ByteArray):Option Bool:=
(M.dI N a0 a1).bind fun y1=>
some (decide (0<=y1))
def S74(N:Nat):bp:=⟨⟨[(0, .l (.slice .str)),(1, .l .str)],[],[],0⟩,⟨[(0, .l .bool)],[],[],0⟩,fun(x:(List ByteArray)×ByteArray)=>M.dl N x.1 x.2⟩
theorem W74(N:Nat):ax Tryz.prog 74 (S74 N):=fw (en [ck (ZP N)] false false) (N:=N) .nil Tryz.func74 (by kernel_rfl) fun x=>by kernel_rfl
def M.lY(N:Nat)(a0:bU.den)(a1:Int)(a2:bu.den):Option (Int×Int):=
(M.b8 N a2.1).bind fun y1=>
(if(!y1)then
some (2,0)
else
(fH a0.1 0 a1).bind fun l2=>
(M.iY N l2 a2.1).bind fun y3=>
(if y3 then
some (7,0)
else
(if(decide ((a2.2.length:Int)=0))then
some (5,0)
else
(if(decide (16<(a2.2.length:Int)))then
some (4,116)
else
Loop (S:=Int) (X:=Int×Int) (fun s4=>
(if(decide (s4<(a2.2.length:Int)))then
(idx a2.2 s4).bind fun x5=>
(M.b8 N x5).bind fun y6=>
(if(!y6)then
some (.inr (2,alT.wrap (100+s4)))
else
(fH a2.2 0 s4).bind fun l7=>
(M.dl N l7 x5).bind fun y8=>
(if y8 then
some (.inr (7,alT.wrap (100+s4)))
else
some (.inl (alT.wrap (s4+1)))))
else
some (.inr (0,0)))) N 0))))
def S46(N:Nat):bp:=⟨⟨[(0, .g bU),(1, .l ae),(2, .g bu)],[],[],0⟩,⟨[(0, .l ae),(1, .l ae)],[],[],0⟩,fun(x:bU.den×Int×bu.den)=>M.lY N x.1 x.2.1 x.2.2⟩
theorem W46(N:Nat):ax Tryz.prog 46 (S46 N):=fw (en [ck (Vc N),ck (ZN N),ck (W74 N)] false false) (N:=N) (.o (.o (.two (.o (.two (.loop ⟨[(36, .l ae)],[],[],496⟩ .nil) .nil)) .nil))) Tryz.func46 (by kernel_rfl) fun x=>by kernel_rfl
def M.kW(N:Nat)(a0:bU.den):Option (au.den):=
(if(decide (8<(a0.1.length:Int)))then
some (4,(1,(8,0)))
else
bE (J:=Unit) (R:=au.den) (Loop (S:=Int) (X:=Unit⊕(au.den)) (fun s2=>
(if(decide (s2<(a0.1.length:Int)))then
(idx a0.1 s2).bind fun x3=>
(M.lY N a0 s2 x3).bind fun y4=>
(if(!decide (y4.1=0))then
some (.inr (.inr (y4.1,(1,(s2,y4.2)))))
else
some (.inl (alT.wrap (s2+1))))
else
some (.inr (.inl ())))) N 0) fun j1=>
some (0,(0,(0,0))))
def S28(N:Nat):bp:=⟨⟨[(0, .g bU)],[],[],0⟩,⟨[(0, .g au)],[],[],0⟩,fun(x:bU.den)=>M.kW N x⟩
theorem W28(N:Nat):ax Tryz.prog 28 (S28 N):=fw (en [ck (W46 N)] false false) (N:=N) (.o (.o (.join ⟨[],[],[],96⟩ (.o (.two (.loop ⟨[(15, .l ae)],[],[],160⟩ .nil) .nil)) .nil))) Tryz.func28 (by kernel_rfl) fun x=>by kernel_rfl
def M.cr(N:Nat)(a0:aa.den)(a1:List bu.den):Option Bool:=
((if(decide (a0.1=1))then
some (decide (a0.1=1))
else
(if(decide (a0.1=2))then
some (decide (a0.1=2))
else
(if(decide (a0.1=3))then
some (decide (a0.1=3))
else
(if(decide (a0.1=4))then
some (decide (a0.1=4))
else
some (decide (a0.1=5)))))):Option Bool).bind fun j1=>
(if j1 then
some (decide (a0.2=0))
else
(if(decide (a0.1=6))then
((if(decide (0<=a0.2))then
some (decide (a0.2<(a1.length:Int)))
else
some false):Option Bool).bind fun j2=>
some j2
else
some false))
def S75(N:Nat):bp:=⟨⟨[(0, .g aa),(1, .l (.slice bu))],[],[],0⟩,⟨[(0, .l .bool)],[],[],0⟩,fun(x:aa.den×List bu.den)=>M.cr N x.1 x.2⟩
theorem Vh(N:Nat):ax Tryz.prog 75 (S75 N):=fw (en [] false false) (N:=N) (.o (.two (.o (.two (.meet ⟨[(7, .l .bool)],[],[],64⟩ .nil (.o (.o (.two (.meet ⟨[(4, .l .bool)],[],[],96⟩ .nil .nil) .nil)))) .nil)) .nil)) Tryz.func75 (by kernel_rfl) fun x=>by kernel_rfl
def M.fR(N:Nat)(a0:aa.den)(a1:List bu.den):Option (Int×Int):=
(M.cr N a0 a1).bind fun y1=>
(if(!y1)then
some (0,(-1))
else
(if(decide (a0.1=1))then
some (0,1)
else
(if(decide (a0.1=2))then
some ((-1000000000000),1000000000000)
else
(if(decide (a0.1=3))then
some ((-1000000000000000),1000000000000000)
else
(if(decide (a0.1=4))then
some ((-1000000000),1000000000)
else
(if(decide (a0.1=5))then
some (0,109572)
else
(idx a1 a0.2).bind fun x2=>
some (0,alT.wrap ((x2.2.length:Int)-1))))))))
def S61(N:Nat):bp:=⟨⟨[(0, .g aa),(1, .l (.slice bu))],[],[],0⟩,⟨[(0, .l ae),(1, .l ae)],[],[],0⟩,fun(x:aa.den×List bu.den)=>M.fR N x.1 x.2⟩
theorem ZQ(N:Nat):ax Tryz.prog 61 (S61 N):=fw (en [ck (Vh N)] false false) (N:=N) .nil Tryz.func61 (by kernel_rfl) fun x=>by kernel_rfl
def M.eR(N:Nat)(a0:aa.den):Option Bool:=
((if(decide (0<=a0.1))then
(if(decide (a0.1<=a0.2))then
some (decide (a0.2<=109573))
else
some false)
else
some false):Option Bool).bind fun j1=>
some j1
def S76(N:Nat):bp:=⟨⟨[(0, .g aa)],[],[],0⟩,⟨[(0, .l .bool)],[],[],0⟩,fun(x:aa.den)=>M.eR N x⟩
theorem ZR(N:Nat):ax Tryz.prog 76 (S76 N):=fw (en [] false false) (N:=N) (.o (.meet ⟨[(2, .l .bool)],[],[],32⟩ .nil .nil)) Tryz.func76 (by kernel_rfl) fun x=>by kernel_rfl
def M.iF(N:Nat)(a0:aa.den):Option Bool:=
((M.eR N a0).bind fun y2=>
(if y2 then
some (decide (a0.1<a0.2))
else
some false):Option Bool).bind fun j1=>
some j1
def ZS(N:Nat):bp:=⟨⟨[(0, .g aa)],[],[],0⟩,⟨[(0, .l .bool)],[],[],0⟩,fun(x:aa.den)=>M.iF N x⟩
theorem ZT(N:Nat):ax Tryz.prog 177 (ZS N):=fw (en [ck (ZR N)] false false) (N:=N) (.o (.meet ⟨[(2, .l .bool)],[],[],32⟩ .nil .nil)) Tryz.func177 (by kernel_rfl) fun x=>by kernel_rfl
def M.jF(N:Nat)(a0:aa.den)(a1:aa.den):Option (aa.den×Bool):=
((M.iF N a0).bind fun y2=>
(if(!y2)then
some true
else
(M.iF N a1).bind fun y3=>
some (!y3)):Option Bool).bind fun j1=>
(if j1 then
some ((0,0),false)
else
(if(decide ((if a1.2<a0.2 then a1.2 else a0.2)<=(if a0.1<a1.1 then a1.1 else a0.1)))then
some ((0,0),false)
else
some ((if a0.1<a1.1 then a1.1 else a0.1,if a1.2<a0.2 then a1.2 else a0.2),true)))
def ZU(N:Nat):bp:=⟨⟨[(0, .g aa),(1, .g aa)],[],[],0⟩,⟨[(0, .g aa),(1, .l .bool)],[],[],0⟩,fun(x:aa.den×aa.den)=>M.jF N x.1 x.2⟩
theorem ZV(N:Nat):ax Tryz.prog 131 (ZU N):=fw (en [ck (ZT N)] false false) (N:=N) (.o (.two (.meet ⟨[(14, .l .bool)],[],[],64⟩ .nil .nil) .nil)) Tryz.func131 (by kernel_rfl) fun x=>by kernel_rfl
def M.kX(N:Nat)(a0:dW.den)(a1:dW.den):Option Bool:=
(M.jF N a0.1 a1.1).bind fun y1=>
((if y1.2 then
some (decide ((if a0.2.1<a1.2.1 then a1.2.1 else a0.2.1)<(if a1.2.2.1<a0.2.2.1 then a1.2.2.1 else a0.2.2.1)))
else
some false):Option Bool).bind fun j2=>
some j2
def S79(N:Nat):bp:=⟨⟨[(0, .g dW),(1, .g dW)],[],[],0⟩,⟨[(0, .l .bool)],[],[],0⟩,fun(x:dW.den×dW.den)=>M.kX N x.1 x.2⟩
theorem W79(N:Nat):ax Tryz.prog 79 (S79 N):=fw (en [ck (ZV N)] false false) (N:=N) (.o (.o (.meet ⟨[(4, .l .bool)],[],[],224⟩ .nil .nil))) Tryz.func79 (by kernel_rfl) fun x=>by kernel_rfl
def M.iZ(N:Nat)(a0:dW.den)(a1:dW.den):Option (Bool×dW.den):=
(M.kX N a0 a1).bind fun y1=>
some (y1,a1)
def Vi(N:Nat):bp:=⟨⟨[(0, .g dW),(1, .ptr 0 [] 0)],[(0, .box 169 (.leaf dW))],[],1⟩,⟨[(0, .l .bool)],[(0, .box 169 (.leaf dW))],[],2⟩,fun(x:dW.den×dW.den)=>M.iZ N x.1 x.2⟩
theorem Vj(N:Nat):ax Tryz.prog 78 (Vi N):=fw (en [ck (W79 N)] false false) (N:=N) .nil Tryz.func78 (by kernel_rfl) fun x=>by kernel_rfl
def M.bS(N:Nat)(a0:List dW.den)(a1:dW.den):Option (Int×Bool×dW.den):=
Loop (S:=Int×dW.den) (X:=Int×Bool×dW.den) (fun s1=>
(if(decide (s1.1<(a0.length:Int)))then
(idx a0 s1.1).bind fun x2=>
(M.iZ N x2 s1.2).bind fun y3=>
(if y3.1 then
some (.inr (s1.1,true,y3.2))
else
some (.inl (alT.wrap (s1.1+1),y3.2)))
else
some (.inr (0,false,s1.2)))) N (0,a1)
def Vk(N:Nat):bp:=⟨⟨[(0, .l (.slice dW)),(1, .fn 78 [(0,[],0)])],[(0, .box 169 (.leaf dW))],[],1⟩,⟨[(0, .l ae),(1, .l .bool)],[(0, .box 169 (.leaf dW))],[],2⟩,fun(x:(List dW.den)×dW.den)=>M.bS N x.1 x.2⟩
theorem Vm(N:Nat):ax Tryz.prog 77 (Vk N):=fw (en [ck (Vj N)] false false) (N:=N) (.o (.two (.o (.two (.loop ⟨[(10, .l ae)],[(0, .box 169 (.leaf dW))],[],82⟩ .nil) .nil)) .nil)) Tryz.func77 (by kernel_rfl) fun x=>by kernel_rfl
def M.kY(N:Nat)(a0:av.den)(a1:List bu.den):Option (Int×Int):=
(if(decide (64<(a0.2.2.2.length:Int)))then
some (64,4)
else
((M.cr N a0.2.1 a1).bind fun y2=>
(if(!y2)then
some true
else
(M.cr N a0.2.2.1 a1).bind fun y3=>
some (!y3)):Option Bool).bind fun j1=>
(if j1 then
some ((-1),8)
else
(M.fR N a0.2.1 a1).bind fun y4=>
(M.fR N a0.2.2.1 a1).bind fun y5=>
Loop (S:=Int) (X:=Int×Int) (fun s6=>
(if(decide (s6<(a0.2.2.2.length:Int)))then
(idx a0.2.2.2 s6).bind fun x7=>
((M.eR N x7.1).bind fun y9=>
(if(!y9)then
some true
else
(if(decide (x7.1.1=x7.1.2))then
some true
else
some (decide (x7.2.2.1<=x7.2.1)))):Option Bool).bind fun j8=>
(if j8 then
some (.inr (s6,3))
else
((if(decide (x7.2.1<y4.1))then
some true
else
(if(decide (y4.2<x7.2.1))then
some true
else
(if(decide ((alT.wrap (x7.2.2.1-1))<y4.1))then
some true
else
some (decide (y4.2<(alT.wrap (x7.2.2.1-1))))))):Option Bool).bind fun qS=>
(if qS then
some (.inr (s6,3))
else
((if(decide (x7.2.2.2<y5.1))then
some true
else
some (decide (y5.2<x7.2.2.2))):Option Bool).bind fun DW=>
(if DW then
some (.inr (s6,3))
else
(fH a0.2.2.2 0 s6).bind fun DX=>
(M.bS N DX x7).bind fun CP=>
(if CP.2.1 then
some (.inr (s6,11))
else
some (.inl (alT.wrap (s6+1)))))))
else
some (.inr (0,0)))) N 0))
def S47(N:Nat):bp:=⟨⟨[(0, .g av),(1, .l (.slice bu))],[],[],0⟩,⟨[(0, .l ae),(1, .l ae)],[],[],0⟩,fun(x:av.den×List bu.den)=>M.kY N x.1 x.2⟩
theorem W47(N:Nat):ax Tryz.prog 47 (S47 N):=fw (en [ck (ZQ N),ck (Vh N),ck (ZR N),ck (Vm N)] false false) (N:=N) (.o (.o (.two (.meet ⟨[(29, .l .bool)],[],[],112⟩ .nil .nil) (.o (.o (.two (.o (.two (.loop ⟨[(47, .l ae)],[],[],464⟩ (.o (.o (.two (.two (.o (.two (.meet ⟨[(71, .l .bool)],[],[],576⟩ .nil .nil) (.two (.meet ⟨[(96, .l .bool)],[],[],576⟩ .nil .nil) (.two (.meet ⟨[(107, .l .bool)],[],[],576⟩ .nil .nil) .nil)))) .nil) .nil)))) .nil)) .nil)))))) Tryz.func47 (by kernel_rfl) fun x=>by kernel_rfl
def M.ko(N:Nat)(a0:av.den)(a1:ByteArray):Option (Bool×ByteArray):=
some (decide (a0.1=a1),a1)
def Vn(N:Nat):bp:=⟨⟨[(0, .g av),(1, .ptr 0 [] 0)],[(0, .box 9 (.leaf .str))],[],1⟩,⟨[(0, .l .bool)],[(0, .box 9 (.leaf .str))],[],2⟩,fun(x:av.den×ByteArray)=>M.ko N x.1 x.2⟩
theorem Vo(N:Nat):ax Tryz.prog 86 (Vn N):=fw (en [] false false) (N:=N) .nil Tryz.func86 (by kernel_rfl) fun x=>by kernel_rfl
def M.bi(N:Nat)(a0:List av.den)(a1:ByteArray):Option (Int×ByteArray):=
Loop (S:=Int×ByteArray) (X:=Int×ByteArray) (fun s1=>
(if(decide (s1.1<(a0.length:Int)))then
(idx a0 s1.1).bind fun x2=>
(M.ko N x2 s1.2).bind fun y3=>
(if y3.1 then
some (.inr (s1.1,y3.2))
else
some (.inl (alT.wrap (s1.1+1),y3.2)))
else
some (.inr ((-1),s1.2)))) N (0,a1)
def RG(N:Nat):bp:=⟨⟨[(0, .l (.slice av)),(1, .fn 86 [(0,[],0)])],[(0, .box 9 (.leaf .str))],[],1⟩,⟨[(0, .l ae)],[(0, .box 9 (.leaf .str))],[],2⟩,fun(x:(List av.den)×ByteArray)=>M.bi N x.1 x.2⟩
theorem RH(N:Nat):ax Tryz.prog 134 (RG N):=fw (en [ck (Vo N)] false false) (N:=N) (.o (.two (.o (.two (.loop ⟨[(8, .l ae)],[(0, .box 9 (.leaf .str))],[],66⟩ .nil) .nil)) .nil)) Tryz.func134 (by kernel_rfl) fun x=>by kernel_rfl
def M.bB(N:Nat)(a0:List av.den)(a1:ByteArray):Option (Bool×ByteArray):=
(M.bi N a0 a1).bind fun y1=>
some (decide (0<=y1.1),y1.2)
def Vp(N:Nat):bp:=⟨⟨[(0, .l (.slice av)),(1, .fn 86 [(0,[],0)])],[(0, .box 9 (.leaf .str))],[],1⟩,⟨[(0, .l .bool)],[(0, .box 9 (.leaf .str))],[],2⟩,fun(x:(List av.den)×ByteArray)=>M.bB N x.1 x.2⟩
theorem Vq(N:Nat):ax Tryz.prog 85 (Vp N):=fw (en [ck (RH N)] false false) (N:=N) .nil Tryz.func85 (by kernel_rfl) fun x=>by kernel_rfl
def M.ju(N:Nat)(a0:List av.den)(a1:ByteArray):Option Bool:=
(M.bB N a0 a1).bind fun y1=>
some y1.1
def S50(N:Nat):bp:=⟨⟨[(0, .l (.slice av)),(1, .l .str)],[],[],0⟩,⟨[(0, .l .bool)],[],[],0⟩,fun(x:(List av.den)×ByteArray)=>M.ju N x.1 x.2⟩
theorem W50(N:Nat):ax Tryz.prog 50 (S50 N):=fw (en [ck (Vq N)] false false) (N:=N) .nil Tryz.func50 (by kernel_rfl) fun x=>by kernel_rfl
def M.jX(N:Nat)(a0:bU.den):Option (au.den):=
(if(decide (8<(a0.2.1.length:Int)))then
some (4,(2,(8,0)))
else
bE (J:=Unit) (R:=au.den) (Loop (S:=Int) (X:=Unit⊕(au.den)) (fun s2=>
(if(decide (s2<(a0.2.1.length:Int)))then
(idx a0.2.1 s2).bind fun x3=>
(M.kY N x3 a0.1).bind fun y4=>
((M.b8 N x3.1).bind fun y6=>
(if(!y6)then
some (2,(2,(s2,0)))
else
((M.iY N a0.1 x3.1).bind fun y8=>
(if y8 then
some true
else
(fH a0.2.1 0 s2).bind fun l9=>
(M.ju N l9 x3.1).bind fun oI=>
some oI):Option Bool).bind fun j7=>
(if j7 then
some (7,(2,(s2,0)))
else
(if(!decide (y4.2=0))then
(if(!decide (y4.1=(-1)))then
some (y4.2,(2,(s2,alT.wrap (100+y4.1))))
else
some (y4.2,(2,(s2,0))))
else
some (0,(2,(s2,0)))))):Option (au.den)).bind fun j5=>
(if(!decide (j5.1=0))then
some (.inr (.inr j5))
else
some (.inl (alT.wrap (s2+1))))
else
some (.inr (.inl ())))) N 0) fun j1=>
some (0,(0,(0,0))))
def S29(N:Nat):bp:=⟨⟨[(0, .g bU)],[],[],0⟩,⟨[(0, .g au)],[],[],0⟩,fun(x:bU.den)=>M.jX N x⟩
theorem W29(N:Nat):ax Tryz.prog 29 (S29 N):=fw (en [ck (W47 N),ck (Vc N),ck (ZN N),ck (W50 N)] false false) (N:=N) (.o (.o (.join ⟨[],[],[],96⟩ (.o (.two (.loop ⟨[(16, .l ae)],[],[],160⟩ (.o (.o (.two (.two (.o (.o (.o (.two (.meet ⟨[],[(304, .box 78 (.leaf au))],[],481⟩ (.o (.o (.meet ⟨[(36, .l .bool)],[],[],560⟩ .nil .nil))) .nil) .nil)))) .nil) .nil)))) .nil)) .nil))) Tryz.func29 (by kernel_rfl) fun x=>by kernel_rfl
def M.ja(N:Nat)(a0:aL.den)(a1:aL.den):Option (Bool×aL.den):=
some (decide (a0.1=a1.1),a1)
def RJ(N:Nat):bp:=⟨⟨[(0, .g aL),(1, .ptr 0 [] 0)],[(0, .box 95 (.leaf aL))],[],1⟩,⟨[(0, .l .bool)],[(0, .box 95 (.leaf aL))],[],2⟩,fun(x:aL.den×aL.den)=>M.ja N x.1 x.2⟩
theorem RM(N:Nat):ax Tryz.prog 136 (RJ N):=fw (en [] false false) (N:=N) .nil Tryz.func136 (by kernel_rfl) fun x=>by kernel_rfl
def M.bj(N:Nat)(a0:List aL.den)(a1:aL.den):Option (Int×aL.den):=
Loop (S:=Int×aL.den) (X:=Int×aL.den) (fun s1=>
(if(decide (s1.1<(a0.length:Int)))then
(idx a0 s1.1).bind fun x2=>
(M.ja N x2 s1.2).bind fun y3=>
(if y3.1 then
some (.inr (s1.1,y3.2))
else
some (.inl (alT.wrap (s1.1+1),y3.2)))
else
some (.inr ((-1),s1.2)))) N (0,a1)
def RN(N:Nat):bp:=⟨⟨[(0, .l (.slice aL)),(1, .fn 136 [(0,[],0)])],[(0, .box 95 (.leaf aL))],[],1⟩,⟨[(0, .l ae)],[(0, .box 95 (.leaf aL))],[],2⟩,fun(x:(List aL.den)×aL.den)=>M.bj N x.1 x.2⟩
theorem RO(N:Nat):ax Tryz.prog 178 (RN N):=fw (en [ck (RM N)] false false) (N:=N) (.o (.two (.o (.two (.loop ⟨[(8, .l ae)],[(0, .box 95 (.leaf aL))],[],66⟩ .nil) .nil)) .nil)) Tryz.func178 (by kernel_rfl) fun x=>by kernel_rfl
def M.aN(N:Nat)(a0:List aL.den)(a1:aL.den):Option (Bool×aL.den):=
(M.bj N a0 a1).bind fun y1=>
some (decide (0<=y1.1),y1.2)
def RP(N:Nat):bp:=⟨⟨[(0, .l (.slice aL)),(1, .fn 136 [(0,[],0)])],[(0, .box 95 (.leaf aL))],[],1⟩,⟨[(0, .l .bool)],[(0, .box 95 (.leaf aL))],[],2⟩,fun(x:(List aL.den)×aL.den)=>M.aN N x.1 x.2⟩
theorem RQ(N:Nat):ax Tryz.prog 137 (RP N):=fw (en [ck (RO N)] false false) (N:=N) .nil Tryz.func137 (by kernel_rfl) fun x=>by kernel_rfl
def M.jb(N:Nat)(a0:bU.den)(a1:aL.den)(a2:List aL.den)(a3:List aL.den):Option Int:=
(M.b8 N a1.1).bind fun y1=>
(if(!y1)then
some 2
else
((M.aN N a2 a1).bind fun y3=>
(if y3.1 then
some (true,y3.2)
else
(M.aN N a3 y3.2).bind fun y4=>
some (y4.1,y4.2)):Option (Bool×aL.den)).bind fun j2=>
(if j2.1 then
some 7
else
(M.cr N j2.2.2 a0.1).bind fun y5=>
(if(!y5)then
some 8
else
some 0)))
def S89(N:Nat):bp:=⟨⟨[(0, .g bU),(1, .g aL),(2, .l (.slice aL)),(3, .l (.slice aL))],[],[],0⟩,⟨[(0, .l ae)],[],[],0⟩,fun(x:bU.den×aL.den×(List aL.den)×List aL.den)=>M.jb N x.1 x.2.1 x.2.2.1 x.2.2.2⟩
theorem W89(N:Nat):ax Tryz.prog 89 (S89 N):=fw (en [ck (Vc N),ck (Vh N),ck (RQ N)] false false) (N:=N) (.o (.o (.two (.two (.o (.o (.meet ⟨[(16, .l .bool)],[(16, .box 95 (.leaf aL))],[],161⟩ .nil .nil))) .nil) .nil))) Tryz.func89 (by kernel_rfl) fun x=>by kernel_rfl
def M.kZ(N:Nat)(a0:List aL.den):Option (List aa.den):=
Loop (S:=Int×List aa.den) (X:=List aa.den) (fun s1=>
(if(decide (s1.1<(a0.length:Int)))then
(idx a0 s1.1).bind fun x2=>
(bZ s1.2 ([x2.2]:List aa.den)).bind fun l3=>
some (.inl (alT.wrap (s1.1+1),l3))
else
some (.inr s1.2))) N (0,([]:List aa.den))
def ZW(N:Nat):bp:=⟨⟨[(0, .l (.slice aL))],[],[],0⟩,⟨[(0, .val false (.own 0))],[(0, .own 63 aa)],[],1⟩,fun(x:List aL.den)=>M.kZ N x⟩
theorem ZX(N:Nat):ax Tryz.prog 138 (ZW N):=fw (en [] false false) (N:=N) (.o (.o (.two (.o (.two (.loop ⟨[(3, .val false (.own 80)),(8, .l ae)],[(80, .own 63 aa)],[],81⟩ .nil) .nil)) .nil))) Tryz.func138 (by kernel_rfl) fun x=>by kernel_rfl
def M.jG(N:Nat)(a0:bU.den)(a1:Int):Option ((List bu.den)×(List av.den)×Bool×(List aa.den)×(List aa.den)×List aa.den):=
(idx a0.2.2 a1).bind fun x1=>
(M.kZ N x1.2.2.1).bind fun y2=>
(M.kZ N x1.2.2.2.1).bind fun y3=>
(((if(decide (0<=x1.2.1))then
some (decide (x1.2.1<(a0.2.2.length:Int)))
else
some false):Option Bool).bind fun j5=>
(if j5 then
(idx a0.2.2 x1.2.1).bind fun x6=>
(M.kZ N x6.2.2.2.1).bind fun y7=>
some (y2,y3,a0.1,a0.2.1,true,y7)
else
some (y2,y3,a0.1,a0.2.1,false,([]:List aa.den))):Option ((List aa.den)×(List aa.den)×(List bu.den)×(List av.den)×Bool×List aa.den)).bind fun j4=>
some (j4.2.2.1,j4.2.2.2.1,j4.2.2.2.2.1,j4.1,j4.2.1,j4.2.2.2.2.2)
def S90(N:Nat):bp:=⟨⟨[(0, .g bU),(1, .l ae)],[],[],0⟩,⟨[(0, .val true (.pair (.leaf (.slice bu)) (.pair (.leaf (.slice av)) (.pair (.own 0) (.pair (.own 1) (.pair (.own 2) (.leaf .bool)))))))],[(0, .own 63 aa),(1, .own 63 aa),(2, .own 63 aa)],[],3⟩,fun(x:bU.den×Int)=>M.jG N x.1 x.2⟩
theorem W90(N:Nat):ax Tryz.prog 90 (S90 N):=fw (en [ck (ZX N)] false false) (N:=N) (.o (.o (.o (.meet ⟨[],[(240, .own 63 aa),(288, .own 63 aa),(320, .box 183 (.pair (.leaf (.slice bu)) (.pair (.leaf (.slice av)) (.pair (.own 240) (.pair (.own 288) (.pair (.own 352) (.leaf .bool))))))),(352, .own 63 aa)],[],356⟩ (.meet ⟨[(33, .l .bool)],[],[],352⟩ .nil .nil) .nil)))) Tryz.func90 (by kernel_rfl) fun x=>by kernel_rfl
def M.strings_Contains(N:Nat)(a0:ByteArray)(a1:ByteArray):Option Bool:=qm (a0,a1)
def ZY(N:Nat):bp:=⟨⟨[(0, .l .str),(1, .l .str)],[],[],0⟩,⟨[(0, .l .bool)],[],[],0⟩,fun(x:ByteArray×ByteArray)=>M.strings_Contains N x.1 x.2⟩
theorem ZZ(N:Nat):ax Tryz.prog 180 (ZY N):=CM ⟨_,Tryz.func180,by kernel_rfl,by kernel_rfl⟩ Tryz.strings_Contains_one
def M.jY(N:Nat)(a0:ByteArray):Option Bool:=
((if(decide (64<(a0.size:Int)))then
some true
else
(M.strings_Contains N a0 (⟨#[34]⟩:ByteArray)).bind fun y2=>
some y2):Option Bool).bind fun j1=>
(if j1 then
some false
else
Loop (S:=Int) (X:=Bool) (fun s3=>
(if(decide (s3<(a0.size:Int)))then
((lI a0 s3).bind fun x5=>
(if(decide (x5<32))then
some true
else
(lI a0 s3).bind fun x6=>
some (decide (126<x6))):Option Bool).bind fun j4=>
(if j4 then
some (.inr false)
else
some (.inl (alT.wrap (s3+1))))
else
some (.inr true))) N 0)
def Z0(N:Nat):bp:=⟨⟨[(0, .l .str)],[],[],0⟩,⟨[(0, .l .bool)],[],[],0⟩,fun(x:ByteArray)=>M.jY N x⟩
theorem Z1(N:Nat):ax Tryz.prog 141 (Z0 N):=fw (en [ck (ZZ N)] false false) (N:=N) (.o (.two (.meet ⟨[(10, .l .bool)],[],[],16⟩ .nil .nil) (.two (.o (.two (.loop ⟨[(13, .l ae)],[],[],64⟩ (.o (.o (.two (.two (.o (.meet ⟨[(25, .l .bool)],[],[],112⟩ .nil .nil)) .nil) .nil)))) .nil)) .nil))) Tryz.func141 (by kernel_rfl) fun x=>by kernel_rfl
def M.dC(N:Nat)(a0:Int):Option Int:=
((if(decide (a0=1))then
some (decide (a0=1))
else
(if(decide (a0=2))then
some (decide (a0=2))
else
(if(decide (a0=3))then
some (decide (a0=3))
else
(if(decide (a0=4))then
some (decide (a0=4))
else
(if(decide (a0=5))then
some (decide (a0=5))
else
(if(decide (a0=6))then
some (decide (a0=6))
else
(if(decide (a0=7))then
some (decide (a0=7))
else
(if(decide (a0=8))then
some (decide (a0=8))
else
(if(decide (a0=9))then
some (decide (a0=9))
else
(if(decide (a0=35))then
some (decide (a0=35))
else
(if(decide (a0=36))then
some (decide (a0=36))
else
(if(decide (a0=37))then
some (decide (a0=37))
else
(if(decide (a0=38))then
some (decide (a0=38))
else
some (decide (a0=39))))))))))))))):Option Bool).bind fun j1=>
(if j1 then
some 0
else
((if(decide (a0=10))then
some (decide (a0=10))
else
(if(decide (a0=25))then
some (decide (a0=25))
else
(if(decide (a0=31))then
some (decide (a0=31))
else
(if(decide (a0=32))then
some (decide (a0=32))
else
(if(decide (a0=33))then
some (decide (a0=33))
else
some (decide (a0=34))))))):Option Bool).bind fun j2=>
(if j2 then
some 1
else
((if(decide (a0=11))then
some (decide (a0=11))
else
(if(decide (a0=12))then
some (decide (a0=12))
else
(if(decide (a0=13))then
some (decide (a0=13))
else
(if(decide (a0=14))then
some (decide (a0=14))
else
(if(decide (a0=15))then
some (decide (a0=15))
else
(if(decide (a0=16))then
some (decide (a0=16))
else
(if(decide (a0=17))then
some (decide (a0=17))
else
(if(decide (a0=18))then
some (decide (a0=18))
else
(if(decide (a0=19))then
some (decide (a0=19))
else
(if(decide (a0=20))then
some (decide (a0=20))
else
(if(decide (a0=21))then
some (decide (a0=21))
else
(if(decide (a0=22))then
some (decide (a0=22))
else
(if(decide (a0=23))then
some (decide (a0=23))
else
(if(decide (a0=24))then
some (decide (a0=24))
else
(if(decide (a0=27))then
some (decide (a0=27))
else
(if(decide (a0=28))then
some (decide (a0=28))
else
(if(decide (a0=29))then
some (decide (a0=29))
else
some (decide (a0=30))))))))))))))))))):Option Bool).bind fun j3=>
(if j3 then
some 2
else
(if(decide (a0=26))then
some 3
else
some (-1)))))
def S37(N:Nat):bp:=⟨⟨[(0, .l ae)],[],[],0⟩,⟨[(0, .l ae)],[],[],0⟩,fun(x:Int)=>M.dC N x⟩
theorem Nz(N:Nat):ax Tryz.prog 37 (S37 N):=fw (en [] false false) (N:=N) (.o (.two (.o (.two (.meet ⟨[(4, .l .bool)],[],[],32⟩ .nil (.o (.meet ⟨[(19, .l .bool)],[],[],32⟩ .nil (.o (.meet ⟨[(26, .l .bool)],[],[],32⟩ .nil .nil))))) .nil)) .nil)) Tryz.func37 (by kernel_rfl) fun x=>by kernel_rfl
def M.fu(N:Nat)(a0:List aa.den):Option (Int×Int×List Int):=
(if(decide (48<(a0.length:Int)))then
some (0,4,([]:List Int))
else
(if(decide ((a0.length:Int)=0))then
some (0,5,([]:List Int))
else
(lB (a0.length:Int) 0).bind fun l1=>
bE (J:=(List Int)×List Int) (R:=Int×Int×List Int) (Loop (S:=Int×(List Int)×List Int) (X:=((List Int)×List Int)⊕(Int×Int×List Int)) (fun s3=>
(if(decide (s3.1<(a0.length:Int)))then
(idx a0 s3.1).bind fun x4=>
(M.dC N x4.1).bind fun y5=>
(if(decide (y5<0))then
some (.inr (.inr (s3.1,2,([]:List Int))))
else
(if(decide ((s3.2.2.length:Int)<y5))then
some (.inr (.inr (s3.1,5,([]:List Int))))
else
(idx s3.2.1 s3.1).bind fun x6=>
((if(decide (0<y5))then
(idx s3.2.2 (alT.wrap ((s3.2.2.length:Int)-y5))).bind fun x8=>
(idx (aH s3.2.1 s3.1 s3.1) s3.1).bind fun x9=>
some (aH (aH s3.2.1 s3.1 s3.1) s3.1 x8)
else
some (aH s3.2.1 s3.1 s3.1)):Option (List Int)).bind fun j7=>
(fH s3.2.2 0 (alT.wrap ((s3.2.2.length:Int)-y5))).bind fun u7=>
(idx j7 s3.1).bind fun o8=>
(bZ u7 ([o8]:List Int)).bind fun DX=>
(if(decide (12<(DX.length:Int)))then
some (.inr (.inr (s3.1,16,([]:List Int))))
else
some (.inl (alT.wrap (s3.1+1),j7,DX)))))
else
some (.inr (.inl (s3.2.1,s3.2.2))))) N (0,l1,([]:List Int))) fun j2=>
(if(decide (1<(j2.2.length:Int)))then
some ((a0.length:Int),4,([]:List Int))
else
some (0,0,j2.1))))
def Z2(N:Nat):bp:=⟨⟨[(0, .l (.slice aa))],[],[],0⟩,⟨[(0, .val false (.own 0)),(1, .l ae),(2, .l ae)],[(0, .own 3 ae)],[],1⟩,fun(x:List aa.den)=>M.fu N x⟩
theorem Vr(N:Nat):ax Tryz.prog 147 (Z2 N):=fw (en [ck (Nz N)] false false) (N:=N) (.o (.o (.o (.o (.o (.join ⟨[(6, .val false (.own 224))],[(176, .own 3 ae),(224, .own 3 ae)],[],226⟩ (.o (.two (.loop ⟨[(6, .val false (.own 272)),(21, .l ae)],[(176, .own 3 ae),(272, .own 3 ae)],[],274⟩ (.o (.o (.two (.two (.o (.o (.o (.o (.o (.meet ⟨[],[(176, .own 3 ae)],[],627⟩ .nil .nil)))))) .nil) .nil)))) .nil)) .nil)))))) Tryz.func147 (by kernel_rfl) fun x=>by kernel_rfl
def M.ga(N:Nat)(a0:Int):Option Bool:=
((if(decide (a0=1))then
some (decide (a0=1))
else
(if(decide (a0=2))then
some (decide (a0=2))
else
(if(decide (a0=3))then
some (decide (a0=3))
else
(if(decide (a0=4))then
some (decide (a0=4))
else
(if(decide (a0=5))then
some (decide (a0=5))
else
(if(decide (a0=6))then
some (decide (a0=6))
else
(if(decide (a0=7))then
some (decide (a0=7))
else
(if(decide (a0=8))then
some (decide (a0=8))
else
(if(decide (a0=14))then
some (decide (a0=14))
else
(if(decide (a0=15))then
some (decide (a0=15))
else
(if(decide (a0=16))then
some (decide (a0=16))
else
(if(decide (a0=33))then
some (decide (a0=33))
else
(if(decide (a0=34))then
some (decide (a0=34))
else
(if(decide (a0=36))then
some (decide (a0=36))
else
(if(decide (a0=37))then
some (decide (a0=37))
else
(if(decide (a0=38))then
some (decide (a0=38))
else
some (decide (a0=39)))))))))))))))))):Option Bool).bind fun j1=>
(if j1 then
some true
else
some false)
def Z3(N:Nat):bp:=⟨⟨[(0, .l ae)],[],[],0⟩,⟨[(0, .l .bool)],[],[],0⟩,fun(x:Int)=>M.ga N x⟩
theorem Vs(N:Nat):ax Tryz.prog 164 (Z3 N):=fw (en [] false false) (N:=N) (.o (.two (.o (.two (.meet ⟨[(4, .l .bool)],[],[],32⟩ .nil .nil) .nil)) .nil)) Tryz.func164 (by kernel_rfl) fun x=>by kernel_rfl
def M.cL(N:Nat)(a0:Int)(a1:Int)(a2:aT.den):Option (aa.den×Int):=
(M.fR N (a1,0) a2.1).bind fun y1=>
((if(decide (a0<y1.1))then
some true
else
some (decide (y1.2<a0))):Option Bool).bind fun j2=>
(if j2 then
some ((0,0),3)
else
some ((a1,0),0))
def Z4(N:Nat):bp:=⟨⟨[(0, .l ae),(1, .l ae),(2, .g aT)],[],[],0⟩,⟨[(0, .g aa),(1, .l ae)],[],[],0⟩,fun(x:Int×Int×aT.den)=>M.cL N x.1 x.2.1 x.2.2⟩
theorem Z5(N:Nat):ax Tryz.prog 213 (Z4 N):=fw (en [ck (ZQ N)] false false) (N:=N) (.o (.o (.two (.o (.meet ⟨[(27, .l .bool)],[],[],256⟩ .nil .nil)) .nil))) Tryz.func213 (by kernel_rfl) fun x=>by kernel_rfl
def M.bI(N:Nat)(a0:Int)(a1:aT.den):Option (aa.den×Int):=
(if(decide (a0<0))then
some ((0,0),3)
else
((if(decide ((a1.1.length:Int)<=(alT.wrap (amh a0 16))))then
some true
else
(idx a1.1 (alT.wrap (amh a0 16))).bind fun x2=>
some (decide ((x2.2.length:Int)<=(amy a0 16)))):Option Bool).bind fun j1=>
(if j1 then
some ((0,0),6)
else
some ((6,alT.wrap (amh a0 16)),0)))
def Z6(N:Nat):bp:=⟨⟨[(0, .l ae),(1, .g aT)],[],[],0⟩,⟨[(0, .g aa),(1, .l ae)],[],[],0⟩,fun(x:Int×aT.den)=>M.bI N x.1 x.2⟩
theorem Z7(N:Nat):ax Tryz.prog 214 (Z6 N):=fw (en [] false false) (N:=N) (.o (.o (.o (.two (.meet ⟨[(30, .l .bool)],[],[],176⟩ .nil .nil) .nil)))) Tryz.func214 (by kernel_rfl) fun x=>by kernel_rfl
def M.dP(N:Nat)(a0:Int)(a1:List aa.den)(a2:aT.den):Option (aa.den×Int):=
((if(decide (a0<0))then
some true
else
some (decide ((a1.length:Int)<=a0))):Option Bool).bind fun j1=>
(if j1 then
some ((0,0),6)
else
(idx a1 a0).bind fun x2=>
(M.cr N x2 a2.1).bind fun y3=>
(if(!y3)then
some ((0,0),8)
else
(idx a1 a0).bind fun x4=>
some (x4,0)))
def Z8(N:Nat):bp:=⟨⟨[(0, .l ae),(1, .l (.slice aa)),(2, .g aT)],[],[],0⟩,⟨[(0, .g aa),(1, .l ae)],[],[],0⟩,fun(x:Int×(List aa.den)×aT.den)=>M.dP N x.1 x.2.1 x.2.2⟩
theorem Vt(N:Nat):ax Tryz.prog 215 (Z8 N):=fw (en [ck (Vh N)] false false) (N:=N) (.o (.two (.meet ⟨[(15, .l .bool)],[],[],48⟩ .nil .nil) .nil)) Tryz.func215 (by kernel_rfl) fun x=>by kernel_rfl
def M.fx(N:Nat)(a0:Int):Option Bool:=
((if(decide (0<=a0))then
some (decide (a0<=5))
else
some false):Option Bool).bind fun j1=>
some j1
def Z9(N:Nat):bp:=⟨⟨[(0, .l ae)],[],[],0⟩,⟨[(0, .l .bool)],[],[],0⟩,fun(x:Int)=>M.fx N x⟩
theorem Vu(N:Nat):ax Tryz.prog 218 (Z9 N):=fw (en [] false false) (N:=N) (.o (.meet ⟨[(2, .l .bool)],[],[],16⟩ .nil .nil)) Tryz.func218 (by kernel_rfl) fun x=>by kernel_rfl
def M.gA(N:Nat)(a0:aa.den)(a1:aa.den)(a2:aT.den):Option (aa.den×Int):=
bE (J:=Int) (R:=aa.den×Int) ((if(decide (a0.1=34))then
((if(decide (a0.2<0))then
some true
else
(M.fx N (amy a0.2 8)).bind fun y3=>
some (!y3)):Option Bool).bind fun j2=>
(if j2 then
some (.inr ((0,0),3))
else
some (.inl (alT.wrap (amh a0.2 8))))
else
some (.inl a0.2))) fun j1=>
((if(decide (j1<0))then
some true
else
some (decide ((a2.2.1.length:Int)<=j1))):Option Bool).bind fun j4=>
(if j4 then
some ((0,0),6)
else
(idx a2.2.1 j1).bind fun x5=>
(idx a2.2.1 j1).bind fun x6=>
((M.cr N x5.2.1 a2.1).bind fun y8=>
(if(!y8)then
some true
else
(M.cr N x6.2.2.1 a2.1).bind fun y9=>
(if(!y9)then
some true
else
some (!(nW aa a1 x5.2.1)))):Option Bool).bind fun j7=>
(if j7 then
some ((0,0),8)
else
(if(decide (a0.1=34))then
((if(!decide (x5.2.1.1=3))then
some true
else
some (!decide (x6.2.2.1.1=4))):Option Bool).bind fun qS=>
(if qS then
some ((0,0),8)
else
some (x5.2.1,0))
else
some (x6.2.2.1,0))))
def aaa(N:Nat):bp:=⟨⟨[(0, .g aa),(1, .g aa),(2, .g aT)],[],[],0⟩,⟨[(0, .g aa),(1, .l ae)],[],[],0⟩,fun(x:aa.den×aa.den×aT.den)=>M.gA N x.1 x.2.1 x.2.2⟩
theorem aab(N:Nat):ax Tryz.prog 216 (aaa N):=fw (en [ck (Vh N),ck (Vu N)] false false) (N:=N) (.o (.o (.join ⟨[(8, .l ae)],[],[],128⟩ (.o (.two (.two (.meet ⟨[(25, .l .bool)],[],[],176⟩ .nil .nil) .nil) .nil)) (.two (.meet ⟨[(38, .l .bool)],[],[],128⟩ .nil .nil) (.o (.two (.meet ⟨[(68, .l .bool)],[],[],384⟩ .nil .nil) (.two (.o (.two (.two (.meet ⟨[(80, .l .bool)],[],[],432⟩ .nil .nil) .nil) .nil)) .nil))))))) Tryz.func216 (by kernel_rfl) fun x=>by kernel_rfl
def M.dH(N:Nat)(a0:Int):Option Bool:=
((if(decide (a0=2))then
some true
else
(if(decide (a0=3))then
some true
else
some (decide (a0=4)))):Option Bool).bind fun j1=>
some j1
def aac(N:Nat):bp:=⟨⟨[(0, .l ae)],[],[],0⟩,⟨[(0, .l .bool)],[],[],0⟩,fun(x:Int)=>M.dH N x⟩
theorem Vv(N:Nat):ax Tryz.prog 236 (aac N):=fw (en [] false false) (N:=N) (.o (.meet ⟨[(2, .l .bool)],[],[],16⟩ .nil .nil)) Tryz.func236 (by kernel_rfl) fun x=>by kernel_rfl
def M.br(N:Nat)(a0:aa.den)(a1:aT.den):Option (aa.den×Int):=
(if(!a1.2.2.2.2.2)then
some ((0,0),6)
else
(if(decide (a0.1=35))then
some ((2,0),0)
else
(M.dP N a0.2 a1.2.2.2.2.1 a1).bind fun y1=>
(if(!decide (y1.2=0))then
some ((0,0),y1.2)
else
((if(decide (a0.1=36))then
(if(decide (y1.1.1=2))then
some true
else
some (decide (y1.1.1=3)))
else
((if(decide (a0.1=37))then
some (decide (a0.1=37))
else
some (decide (a0.1=38))):Option Bool).bind fun j3=>
(if j3 then
some (decide (y1.1.1=1))
else
(if(decide (a0.1=39))then
(M.dH N y1.1.1).bind fun y4=>
(if y4 then
some true
else
some (decide (y1.1.1=5)))
else
some false))):Option Bool).bind fun j2=>
(if(!j2)then
some ((0,0),8)
else
some (y1.1,0)))))
def aad(N:Nat):bp:=⟨⟨[(0, .g aa),(1, .g aT)],[],[],0⟩,⟨[(0, .g aa),(1, .l ae)],[],[],0⟩,fun(x:aa.den×aT.den)=>M.br N x.1 x.2⟩
theorem aae(N:Nat):ax Tryz.prog 217 (aad N):=fw (en [ck (Vt N),ck (Vv N)] false false) (N:=N) (.o (.o (.o (.o (.o (.o (.two (.o (.meet ⟨[(8, .l .bool)],[],[],432⟩ (.o (.o (.meet ⟨[(42, .l .bool)],[],[],464⟩ .nil .nil))) .nil)) .nil))))))) Tryz.func217 (by kernel_rfl) fun x=>by kernel_rfl
def M.gB(N:Nat)(a0:Int)(a1:Int)(a2:Int):Option (aa.den×Bool):=
(if(decide (a0=14))then
((if(decide (a2=4))then
(if(decide (a1=3))then
some (true,(a1,0))
else
some (decide (a1=4),(a1,0)))
else
some (false,(a1,0))):Option (Bool×aa.den)).bind fun j1=>
some (j1.2,j1.1)
else
(if(decide (a2=2))then
((if(decide (a1=2))then
some (true,(a1,0))
else
some (decide (a1=3),(a1,0))):Option (Bool×aa.den)).bind fun j2=>
some (j2.2,j2.1)
else
((if(decide (a0=15))then
(if(decide (a1=3))then
some (decide (a2=3))
else
some false)
else
some false):Option Bool).bind fun j3=>
(if j3 then
some ((4,0),true)
else
some ((0,0),false))))
def aaf(N:Nat):bp:=⟨⟨[(0, .l ae),(1, .l ae),(2, .l ae)],[],[],0⟩,⟨[(0, .g aa),(1, .l .bool)],[],[],0⟩,fun(x:Int×Int×Int)=>M.gB N x.1 x.2.1 x.2.2⟩
theorem aag(N:Nat):ax Tryz.prog 237 (aaf N):=fw (en [] false false) (N:=N) (.o (.two (.two (.o (.two (.meet ⟨[(7, .l .bool)],[(0, .box 63 (.leaf aa))],[],81⟩ .nil .nil) (.o (.two (.meet ⟨[(7, .l .bool)],[(0, .box 63 (.leaf aa))],[],129⟩ .nil .nil) (.meet ⟨[(34, .l .bool)],[],[],128⟩ .nil .nil))))) .nil) .nil)) Tryz.func237 (by kernel_rfl) fun x=>by kernel_rfl
def M.cH(N:Nat)(a0:Int)(a1:List aa.den):Option (aa.den×Bool):=
(if(decide (a0=10))then
(idx a1 0).bind fun x1=>
(idx a1 0).bind fun x2=>
(M.dH N x2.1).bind fun y3=>
some (x1,y3)
else
(if(decide (a0=25))then
(idx a1 0).bind fun x4=>
some ((1,0),decide (x4.1=1))
else
((if(decide (a0=11))then
some (decide (a0=11))
else
some (decide (a0=12))):Option Bool).bind fun j5=>
(if j5 then
((idx a1 0).bind fun x7=>
(idx a1 0).bind fun x8=>
(idx a1 1).bind fun x9=>
(if(nW aa x8 x9)then
(idx a1 0).bind fun qn=>
(M.dH N qn.1).bind fun lJ=>
some (lJ,x7)
else
some (false,x7)):Option (Bool×aa.den)).bind fun j6=>
some (j6.2,j6.1)
else
((if(decide (a0=13))then
some (decide (a0=13))
else
(if(decide (a0=14))then
some (decide (a0=14))
else
some (decide (a0=15)))):Option Bool).bind fun AH=>
(if AH then
(idx a1 0).bind fun pe=>
(idx a1 1).bind fun sW=>
(M.gB N a0 pe.1 sW.1).bind fun I3=>
some (I3.1,I3.2)
else
(if(decide (a0=16))then
((idx a1 0).bind fun JX=>
(idx a1 0).bind fun DV=>
(if(decide (DV.1=3))then
(idx a1 1).bind fun RR=>
some (decide (RR.1=3),JX)
else
some (false,JX)):Option (Bool×aa.den)).bind fun RS=>
some (RS.2,RS.1)
else
((if(decide (a0=17))then
some (decide (a0=17))
else
some (decide (a0=18))):Option Bool).bind fun Qs=>
(if Qs then
((idx a1 0).bind fun RU=>
(idx a1 0).bind fun x23=>
(idx a1 1).bind fun x24=>
(if(nW aa x23 x24)then
(idx a1 0).bind fun x25=>
(M.dH N x25.1).bind fun y26=>
(if y26 then
some (true,RU)
else
(idx a1 0).bind fun XD=>
some (decide (XD.1=5),RU))
else
some (false,RU)):Option (Bool×aa.den)).bind fun j21=>
some (j21.2,j21.1)
else
((if(decide (a0=19))then
some (decide (a0=19))
else
some (decide (a0=20))):Option Bool).bind fun j28=>
(if j28 then
(idx a1 0).bind fun x29=>
(idx a1 1).bind fun CQ=>
some ((1,0),(nW aa x29 CQ))
else
((if(decide (a0=21))then
some (decide (a0=21))
else
some (decide (a0=22))):Option Bool).bind fun j31=>
(if j31 then
((idx a1 0).bind fun NA=>
(idx a1 1).bind fun Vw=>
(if(nW aa NA Vw)then
(idx a1 0).bind fun x35=>
(M.dH N x35.1).bind fun y36=>
(if y36 then
some (true,(1,0))
else
(idx a1 0).bind fun x37=>
some (decide (x37.1=5),(1,0)))
else
some (false,(1,0))):Option (Bool×aa.den)).bind fun j32=>
some (j32.2,j32.1)
else
((if(decide (a0=23))then
some (decide (a0=23))
else
some (decide (a0=24))):Option Bool).bind fun j38=>
(if j38 then
((idx a1 0).bind fun x40=>
(if(decide (x40.1=1))then
(idx a1 1).bind fun x41=>
some (decide (x41.1=1),(1,0))
else
some (false,(1,0))):Option (Bool×aa.den)).bind fun j39=>
some (j39.2,j39.1)
else
(if(decide (a0=26))then
((idx a1 1).bind fun x43=>
(idx a1 0).bind fun x44=>
(if(decide (x44.1=1))then
(idx a1 1).bind fun x45=>
(idx a1 2).bind fun x46=>
some ((nW aa x45 x46),x43)
else
some (false,x43)):Option (Bool×aa.den)).bind fun j42=>
some (j42.2,j42.1)
else
((if(decide (a0=27))then
some (decide (a0=27))
else
some (decide (a0=28))):Option Bool).bind fun j47=>
(if j47 then
((idx a1 0).bind fun x49=>
(idx a1 0).bind fun x50=>
(if(decide (x50.1=5))then
(idx a1 1).bind fun x51=>
some (decide (x51.1=2),x49)
else
some (false,x49)):Option (Bool×aa.den)).bind fun j48=>
some (j48.2,j48.1)
else
((if(decide (a0=29))then
some (decide (a0=29))
else
some (decide (a0=30))):Option Bool).bind fun j52=>
(if j52 then
((idx a1 0).bind fun x54=>
(if(decide (x54.1=5))then
(idx a1 1).bind fun x55=>
some (decide (x55.1=5),(2,0))
else
some (false,(2,0))):Option (Bool×aa.den)).bind fun j53=>
some (j53.2,j53.1)
else
((if(decide (a0=31))then
some (decide (a0=31))
else
some (decide (a0=32))):Option Bool).bind fun j56=>
(if j56 then
(idx a1 0).bind fun x57=>
some ((2,0),decide (x57.1=5))
else
some ((0,0),false))))))))))))))
def aal(N:Nat):bp:=⟨⟨[(0, .l ae),(1, .l (.slice aa))],[],[],0⟩,⟨[(0, .g aa),(1, .l .bool)],[],[],0⟩,fun(x:Int×List aa.den)=>M.cH N x.1 x.2⟩
theorem aam(N:Nat):ax Tryz.prog 219 (aal N):=fw (en [ck (Vv N),ck (aag N)] false false) (N:=N) (.o (.o (.two (.o (.two (.o (.o (.o (.o (.meet ⟨[(27, .l .bool)],[],[],160⟩ .nil (.two (.meet ⟨[(5, .l .bool)],[(0, .box 63 (.leaf aa))],[],161⟩ .nil .nil) (.meet ⟨[(47, .l .bool)],[],[],160⟩ .nil (.o (.o (.two (.meet ⟨[(5, .l .bool)],[(0, .box 63 (.leaf aa))],[],193⟩ .nil .nil) (.meet ⟨[(80, .l .bool)],[],[],192⟩ .nil (.two (.meet ⟨[(5, .l .bool)],[(0, .box 63 (.leaf aa))],[],193⟩ .nil .nil) (.meet ⟨[(107, .l .bool)],[],[],192⟩ .nil (.o (.meet ⟨[(118, .l .bool)],[],[],192⟩ .nil (.two (.meet ⟨[(5, .l .bool)],[(0, .box 63 (.leaf aa))],[],193⟩ .nil .nil) (.meet ⟨[(143, .l .bool)],[],[],192⟩ .nil (.two (.meet ⟨[(5, .l .bool)],[(0, .box 63 (.leaf aa))],[],193⟩ .nil .nil) (.o (.two (.meet ⟨[(5, .l .bool)],[(0, .box 63 (.leaf aa))],[],225⟩ .nil .nil) (.meet ⟨[(178, .l .bool)],[],[],224⟩ .nil (.two (.meet ⟨[(5, .l .bool)],[(0, .box 63 (.leaf aa))],[],225⟩ .nil .nil) (.meet ⟨[(196, .l .bool)],[],[],224⟩ .nil (.two (.meet ⟨[(5, .l .bool)],[(0, .box 63 (.leaf aa))],[],225⟩ .nil .nil) (.meet ⟨[(212, .l .bool)],[],[],224⟩ .nil .nil))))))))))))))))))))))))) .nil)) .nil))) Tryz.func219 (by kernel_rfl) fun x=>by kernel_rfl
def M.aP(N:Nat)(a0:aa.den)(a1:List aa.den)(a2:aT.den):Option (aa.den×Int):=
bE (J:=Unit) (R:=aa.den×Int) ((if(decide (a0.1=1))then
(M.cL N a0.2 1 a2).bind fun y2=>
some (.inr (y2.1,y2.2))
else
(if(decide (a0.1=2))then
(M.cL N a0.2 2 a2).bind fun y3=>
some (.inr (y3.1,y3.2))
else
(if(decide (a0.1=3))then
(M.cL N a0.2 3 a2).bind fun y4=>
some (.inr (y4.1,y4.2))
else
(if(decide (a0.1=4))then
(M.cL N a0.2 4 a2).bind fun y5=>
some (.inr (y5.1,y5.2))
else
(if(decide (a0.1=5))then
(M.cL N a0.2 5 a2).bind fun y6=>
some (.inr (y6.1,y6.2))
else
(if(decide (a0.1=6))then
(M.bI N a0.2 a2).bind fun y7=>
some (.inr (y7.1,y7.2))
else
(if(decide (a0.1=7))then
(M.dP N a0.2 a2.2.2.1 a2).bind fun y8=>
some (.inr (y8.1,y8.2))
else
(if(decide (a0.1=8))then
(M.dP N a0.2 a2.2.2.2.1 a2).bind fun y9=>
some (.inr (y9.1,y9.2))
else
(if(decide (a0.1=9))then
some (.inr ((5,0),0))
else
((if(decide (a0.1=33))then
some (decide (a0.1=33))
else
some (decide (a0.1=34))):Option Bool).bind fun qS=>
(if qS then
(idx a1 0).bind fun o8=>
(M.gA N a0 o8 a2).bind fun qs=>
some (.inr (qs.1,qs.2))
else
((if(decide (a0.1=35))then
some (decide (a0.1=35))
else
(if(decide (a0.1=36))then
some (decide (a0.1=36))
else
(if(decide (a0.1=37))then
some (decide (a0.1=37))
else
(if(decide (a0.1=38))then
some (decide (a0.1=38))
else
some (decide (a0.1=39)))))):Option Bool).bind fun NB=>
(if NB then
(M.br N a0 a2).bind fun sX=>
some (.inr (sX.1,sX.2))
else
((if(decide (a0.1=14))then
some (decide (a0.1=14))
else
(if(decide (a0.1=15))then
some (decide (a0.1=15))
else
some (decide (a0.1=16)))):Option Bool).bind fun Qq=>
(if Qq then
(M.fx N a0.2).bind fun NC=>
(if(!NC)then
some (.inr ((0,0),3))
else
some (.inl ()))
else
some (.inl ())))))))))))))) fun j1=>
(M.cH N a0.1 a1).bind fun xO=>
(if(!xO.2)then
some ((0,0),8)
else
some (xO.1,0))
def aan(N:Nat):bp:=⟨⟨[(0, .g aa),(1, .l (.slice aa)),(2, .g aT)],[],[],0⟩,⟨[(0, .g aa),(1, .l ae)],[],[],0⟩,fun(x:aa.den×(List aa.den)×aT.den)=>M.aP N x.1 x.2.1 x.2.2⟩
theorem aao(N:Nat):ax Tryz.prog 199 (aan N):=fw (en [ck (Z5 N),ck (Z7 N),ck (Vt N),ck (aab N),ck (aae N),ck (Vu N),ck (aam N)] false false) (N:=N) (.o (.two (.o (.join ⟨[],[],[],96⟩ (.o (.o (.o (.o (.o (.o (.o (.o (.o (.o (.o (.o (.o (.o (.o (.o (.o (.o (.meet ⟨[(83, .l .bool)],[],[],384⟩ .nil (.o (.meet ⟨[(94, .l .bool)],[],[],384⟩ .nil (.o (.meet ⟨[(105, .l .bool)],[],[],384⟩ .nil .nil))))))))))))))))))))))) .nil)) .nil)) Tryz.func199 (by kernel_rfl) fun x=>by kernel_rfl
def M.fS(N:Nat)(a0:List aa.den)(a1:aT.den):Option (aa.den×Int×Int):=
(M.fu N a0).bind fun y1=>
(if(!decide (y1.2.1=0))then
some ((0,0),y1.1,y1.2.1)
else
bE (J:=List aa.den) (R:=aa.den×Int×Int) (Loop (S:=Int×List aa.den) (X:=(List aa.den)⊕(aa.den×Int×Int)) (fun s3=>
(if(decide (s3.1<(a0.length:Int)))then
(idx a0 s3.1).bind fun x4=>
((if(!decide (x4.2=0))then
(M.ga N x4.1).bind fun y6=>
some (!y6)
else
some false):Option Bool).bind fun j5=>
(if j5 then
some (.inr (.inr ((0,0),s3.1,2)))
else
(M.dC N x4.1).bind fun y7=>
(fH s3.2 (alT.wrap ((s3.2.length:Int)-y7)) (s3.2.length:Int)).bind fun l8=>
(M.aP N x4 l8 a1).bind fun y9=>
(if(!decide (y9.2=0))then
some (.inr (.inr ((0,0),s3.1,y9.2)))
else
(fH s3.2 0 (alT.wrap ((s3.2.length:Int)-y7))).bind fun u7=>
(bZ u7 ([y9.1]:List aa.den)).bind fun E6=>
some (.inl (alT.wrap (s3.1+1),E6))))
else
some (.inr (.inl s3.2)))) N (0,([]:List aa.den))) fun j2=>
(idx j2 0).bind fun qA=>
some (qA,0,0))
def aap(N:Nat):bp:=⟨⟨[(0, .l (.slice aa)),(1, .g aT)],[],[],0⟩,⟨[(0, .g aa),(1, .l ae),(2, .l ae)],[],[],0⟩,fun(x:(List aa.den)×aT.den)=>M.fS N x.1 x.2⟩
theorem aaq(N:Nat):ax Tryz.prog 181 (aap N):=fw (en [ck (Nz N),ck (Vr N),ck (Vs N),ck (aao N)] false false) (N:=N) (.o (.o (.o (.o (.join ⟨[(10, .val false (.own 256))],[(256, .own 63 aa)],[],257⟩ (.o (.two (.loop ⟨[(10, .val false (.own 304)),(29, .l ae)],[(304, .own 63 aa)],[],305⟩ (.o (.o (.two (.two (.o (.two (.meet ⟨[(42, .l .bool)],[],[],417⟩ .nil .nil) .nil)) .nil) .nil)))) .nil)) .nil))))) Tryz.func181 (by kernel_rfl) fun x=>by kernel_rfl
def M.gf(N:Nat)(a0:List aa.den)(a1:aT.den)(a2:aa.den):Option Int:=
(M.fS N a0 a1).bind fun y1=>
(if(!decide (y1.2.2=0))then
some y1.2.2
else
(if(!(nW aa y1.1 a2))then
some 8
else
some 0))
def aar(N:Nat):bp:=⟨⟨[(0, .l (.slice aa)),(1, .g aT),(2, .g aa)],[],[],0⟩,⟨[(0, .l ae)],[],[],0⟩,fun(x:(List aa.den)×aT.den×aa.den)=>M.gf N x.1 x.2.1 x.2.2⟩
theorem aas(N:Nat):ax Tryz.prog 142 (aar N):=fw (en [ck (aaq N)] false false) (N:=N) .nil Tryz.func142 (by kernel_rfl) fun x=>by kernel_rfl
def M.jH(N:Nat)(a0:aY.den)(a1:aY.den):Option (Bool×aY.den):=
some (decide (a0.1=a1.1),a1)
def RV(N:Nat):bp:=⟨⟨[(0, .g aY),(1, .ptr 0 [] 0)],[(0, .box 41 (.leaf aY))],[],1⟩,⟨[(0, .l .bool)],[(0, .box 41 (.leaf aY))],[],2⟩,fun(x:aY.den×aY.den)=>M.jH N x.1 x.2⟩
theorem RW(N:Nat):ax Tryz.prog 140 (RV N):=fw (en [] false false) (N:=N) .nil Tryz.func140 (by kernel_rfl) fun x=>by kernel_rfl
def M.bo(N:Nat)(a0:List aY.den)(a1:aY.den):Option (Int×aY.den):=
Loop (S:=Int×aY.den) (X:=Int×aY.den) (fun s1=>
(if(decide (s1.1<(a0.length:Int)))then
(idx a0 s1.1).bind fun x2=>
(M.jH N x2 s1.2).bind fun y3=>
(if y3.1 then
some (.inr (s1.1,y3.2))
else
some (.inl (alT.wrap (s1.1+1),y3.2)))
else
some (.inr ((-1),s1.2)))) N (0,a1)
def RX(N:Nat):bp:=⟨⟨[(0, .l (.slice aY)),(1, .fn 140 [(0,[],0)])],[(0, .box 41 (.leaf aY))],[],1⟩,⟨[(0, .l ae)],[(0, .box 41 (.leaf aY))],[],2⟩,fun(x:(List aY.den)×aY.den)=>M.bo N x.1 x.2⟩
theorem RY(N:Nat):ax Tryz.prog 179 (RX N):=fw (en [ck (RW N)] false false) (N:=N) (.o (.two (.o (.two (.loop ⟨[(8, .l ae)],[(0, .box 41 (.leaf aY))],[],66⟩ .nil) .nil)) .nil)) Tryz.func179 (by kernel_rfl) fun x=>by kernel_rfl
def M.be(N:Nat)(a0:List aY.den)(a1:aY.den):Option (Bool×aY.den):=
(M.bo N a0 a1).bind fun y1=>
some (decide (0<=y1.1),y1.2)
def RZ(N:Nat):bp:=⟨⟨[(0, .l (.slice aY)),(1, .fn 140 [(0,[],0)])],[(0, .box 41 (.leaf aY))],[],1⟩,⟨[(0, .l .bool)],[(0, .box 41 (.leaf aY))],[],2⟩,fun(x:(List aY.den)×aY.den)=>M.be N x.1 x.2⟩
theorem R0(N:Nat):ax Tryz.prog 139 (RZ N):=fw (en [ck (RY N)] false false) (N:=N) .nil Tryz.func139 (by kernel_rfl) fun x=>by kernel_rfl
def M.jQ(N:Nat)(a0:aw.den)(a1:Int)(a2:aT.den):Option Int:=
(idx a0.2.2.2.2 a1).bind fun x1=>
((fH a0.2.2.2.2 0 a1).bind fun l3=>
Loop (S:=Int×Int) (X:=Int) (fun s4=>
(if(decide (s4.2<(l3.length:Int)))then
((idx l3 s4.2).bind fun x6=>
(if(decide (x6.2.1=x1.2.1))then
some (alT.wrap (s4.1+1))
else
some s4.1):Option Int).bind fun j5=>
some (.inl (j5,alT.wrap (s4.2+1)))
else
some (.inr s4.1))) N (0,0):Option Int).bind fun j2=>
(M.b8 N x1.1).bind fun y7=>
(if(!y7)then
some 2
else
(fH a0.2.2.2.2 0 a1).bind fun l8=>
(M.be N l8 x1).bind fun y9=>
(if y9.1 then
some 7
else
((if(decide (y9.2.2.1<0))then
some true
else
some (decide ((a0.2.2.2.1.length:Int)<=y9.2.2.1))):Option Bool).bind fun qS=>
(if qS then
some 6
else
((if(!decide (y9.2.2.2.1=(-1)))then
(if(decide (y9.2.2.2.1<0))then
some true
else
(if(decide (a1<=y9.2.2.2.1))then
some true
else
(idx a0.2.2.2.2 y9.2.2.2.1).bind fun qA=>
some (!decide (qA.2.1=y9.2.2.1))))
else
some false):Option Bool).bind fun DW=>
(if DW then
some 9
else
((if(decide (y9.2.2.2.2.1<0))then
some true
else
some (decide (9<y9.2.2.2.2.1))):Option Bool).bind fun NB=>
(if NB then
some 3
else
((if(decide (y9.2.2.2.2.2.1.1<0))then
some true
else
(if(decide (y9.2.2.2.2.2.1.2<=y9.2.2.2.2.2.1.1))then
some true
else
some (decide (109573<y9.2.2.2.2.2.1.2)))):Option Bool).bind fun GG=>
(if GG then
some 3
else
(if(decide (8<=j2))then
some 4
else
(M.jY N y9.2.2.2.2.2.2.2.2).bind fun I3=>
(if(!I3)then
some 2
else
bE (J:=Unit) (R:=Int) ((if(decide (0<(y9.2.2.2.2.2.2.1.length:Int)))then
(M.gf N y9.2.2.2.2.2.2.1 a2 (1,0)).bind fun xO=>
(if(!decide (xO=0))then
some (.inr xO)
else
some (.inl ()))
else
some (.inl ()))) fun RS=>
(idx a0.2.2.2.1 y9.2.2.1).bind fun DV=>
(M.gf N y9.2.2.2.2.2.2.2.1 a2 DV.2).bind fun TH=>
some TH))))))))
def S91(N:Nat):bp:=⟨⟨[(0, .g aw),(1, .l ae),(2, .g aT)],[],[],0⟩,⟨[(0, .l ae)],[],[],0⟩,fun(x:aw.den×Int×aT.den)=>M.jQ N x.1 x.2.1 x.2.2⟩
theorem W91(N:Nat):ax Tryz.prog 91 (S91 N):=fw (en [ck (Vc N),ck (R0 N),ck (Z1 N),ck (aas N)] false false) (N:=N) (.o (.o (.o (.meet ⟨[(8, .l ae)],[],[],176⟩ (.o (.two (.loop ⟨[(8, .l ae),(22, .l ae)],[],[],272⟩ (.o (.o (.two (.meet ⟨[(8, .l ae)],[],[],288⟩ .nil .nil) .nil)))) .nil)) (.two (.two (.o (.o (.o (.o (.meet ⟨[(46, .l .bool)],[],[],368⟩ .nil (.o (.meet ⟨[(58, .l .bool)],[],[],368⟩ .nil (.o (.meet ⟨[(85, .l .bool)],[],[],368⟩ .nil (.o (.meet ⟨[(94, .l .bool)],[],[],368⟩ .nil .nil))))))))))) .nil) (.join ⟨[],[],[],496⟩ .nil .nil)))))) Tryz.func91 (by kernel_rfl) fun x=>by kernel_rfl
def M.fT(N:Nat)(a0:List Int)(a1:Int):Option Int:=
Loop (S:=Int) (X:=Int) (fun s1=>
(if(decide (s1<(a0.length:Int)))then
(idx a0 s1).bind fun x2=>
(if(decide (a1=x2))then
some (.inr s1)
else
some (.inl (alT.wrap (s1+1))))
else
some (.inr (-1)))) N 0
def aat(N:Nat):bp:=⟨⟨[(0, .l (.slice ae)),(1, .l ae)],[],[],0⟩,⟨[(0, .l ae)],[],[],0⟩,fun(x:(List Int)×Int)=>M.fT N x.1 x.2⟩
theorem aau(N:Nat):ax Tryz.prog 143 (aat N):=fw (en [] false false) (N:=N) (.o (.two (.o (.two (.loop ⟨[(8, .l ae)],[],[],64⟩ .nil) .nil)) .nil)) Tryz.func143 (by kernel_rfl) fun x=>by kernel_rfl
def M.eG(N:Nat)(a0:List Int)(a1:Int):Option Bool:=
(M.fT N a0 a1).bind fun y1=>
some (decide (0<=y1))
def S92(N:Nat):bp:=⟨⟨[(0, .l (.slice ae)),(1, .l ae)],[],[],0⟩,⟨[(0, .l .bool)],[],[],0⟩,fun(x:(List Int)×Int)=>M.eG N x.1 x.2⟩
theorem W92(N:Nat):ax Tryz.prog 92 (S92 N):=fw (en [ck (aau N)] false false) (N:=N) .nil Tryz.func92 (by kernel_rfl) fun x=>by kernel_rfl
def M.cn(N:Nat)(a0:List Int):Option (List Int):=zg a0
def S41(N:Nat):bp:=⟨⟨[(0, .val false (.own 0))],[(0, .own 3 ae)],[],1⟩,⟨[],[(0, .own 3 ae)],[],2⟩,fun(x:List Int)=>M.cn N x⟩
theorem W41(N:Nat):ax Tryz.prog 41 (S41 N):=ON ⟨_,Tryz.func41,by kernel_rfl,by kernel_rfl⟩ Tryz.slices_Sort_int Tryz.slices_Sort_int_none
def M.cZ(N:Nat)(a0:List Int):Option (List Int):=pC a0
def aaw(N:Nat):bp:=⟨⟨[(0, .val false (.own 0))],[(0, .own 3 ae)],[],1⟩,⟨[(0, .val false (.own 1))],[(1, .own 3 ae)],[],2⟩,fun(x:List Int)=>M.cZ N x⟩
theorem Vx(N:Nat):ax Tryz.prog 146 (aaw N):=E5 ⟨_,Tryz.func146,by kernel_rfl,by kernel_rfl⟩ Tryz.slices_Compact_int Tryz.slices_Compact_int_empty
def M.gC(N:Nat)(a0:List Int):Option (List Int):=
(M.cn N a0).bind fun y1=>
(M.cZ N y1).bind fun y2=>
some y2
def R1(N:Nat):bp:=⟨⟨[(0, .val false (.own 0))],[(0, .own 3 ae)],[],1⟩,⟨[(0, .val false (.own 1))],[(1, .own 3 ae)],[],2⟩,fun(x:List Int)=>M.gC N x⟩
theorem R2(N:Nat):ax Tryz.prog 182 (R1 N):=fw (en [ck (W41 N),ck (Vx N)] false false) (N:=N) .nil Tryz.func182 (by kernel_rfl) fun x=>by kernel_rfl
def M.ie(N:Nat)(a0:List aa.den):Option ((List Int)×(List Int)×List Int):=
(Loop (S:=Int×(List Int)×(List Int)×List Int) (X:=(List Int)×(List Int)×List Int) (fun s2=>
(if(decide (s2.1<(a0.length:Int)))then
(idx a0 s2.1).bind fun x3=>
((if(decide (x3.1=7))then
(bZ s2.2.1 ([x3.2]:List Int)).bind fun l5=>
some (l5,s2.2.2.1,s2.2.2.2)
else
(if(decide (x3.1=8))then
(bZ s2.2.2.1 ([x3.2]:List Int)).bind fun l6=>
some (s2.2.1,l6,s2.2.2.2)
else
((if(decide (x3.1=36))then
some (decide (x3.1=36))
else
(if(decide (x3.1=37))then
some (decide (x3.1=37))
else
(if(decide (x3.1=38))then
some (decide (x3.1=38))
else
some (decide (x3.1=39))))):Option Bool).bind fun j7=>
(if j7 then
(bZ s2.2.2.2 ([x3.2]:List Int)).bind fun l8=>
some (s2.2.1,s2.2.2.1,l8)
else
some (s2.2.1,s2.2.2.1,s2.2.2.2)))):Option ((List Int)×(List Int)×List Int)).bind fun j4=>
some (.inl (alT.wrap (s2.1+1),j4.1,j4.2.1,j4.2.2))
else
some (.inr (s2.2.1,s2.2.2.1,s2.2.2.2)))) N (0,([]:List Int),([]:List Int),([]:List Int)):Option ((List Int)×(List Int)×List Int)).bind fun j1=>
(M.gC N j1.1).bind fun y9=>
(M.gC N j1.2.1).bind fun oI=>
(M.gC N j1.2.2).bind fun lJ=>
some (y9,oI,lJ)
def aax(N:Nat):bp:=⟨⟨[(0, .l (.slice aa))],[],[],0⟩,⟨[(0, .val false (.own 0)),(1, .val false (.own 1)),(2, .val false (.own 2))],[(0, .own 3 ae),(1, .own 3 ae),(2, .own 3 ae)],[],3⟩,fun(x:List aa.den)=>M.ie N x⟩
theorem aay(N:Nat):ax Tryz.prog 145 (aax N):=fw (en [ck (R2 N)] false false) (N:=N) (.o (.o (.meet ⟨[(5, .val false (.own 96)),(6, .val false (.own 97)),(7, .val false (.own 98))],[(96, .own 3 ae),(97, .own 3 ae),(98, .own 3 ae)],[],99⟩ (.o (.two (.loop ⟨[(5, .val false (.own 144)),(6, .val false (.own 145)),(7, .val false (.own 146)),(12, .l ae)],[(144, .own 3 ae),(145, .own 3 ae),(146, .own 3 ae)],[],147⟩ (.o (.o (.two (.two (.o (.o (.meet ⟨[(5, .val false (.own 259)),(6, .val false (.own 260)),(7, .val false (.own 261))],[(259, .own 3 ae),(260, .own 3 ae),(261, .own 3 ae)],[144,145,146],262⟩ (.o (.o (.o (.o (.meet ⟨[(32, .l .bool)],[],[],323⟩ .nil .nil))))) .nil))) .nil) .nil)))) .nil)) .nil))) Tryz.func145 (by kernel_rfl) fun x=>by kernel_rfl
def M.fy(N:Nat)(a0:aY.den)(a1:Int):Option (List Int):=
(M.ie N a0.2.2.2.2.2.1).bind fun y1=>
(M.ie N a0.2.2.2.2.2.2.1).bind fun y2=>
(Loop (S:=Int×List Int) (X:=List Int) (fun s4=>
(if(decide (s4.1<(y1.2.1.length:Int)))then
((idx y1.2.1 s4.1).bind fun x6=>
((if(decide (0<=x6))then
some (decide (x6<a1))
else
some false):Option Bool).bind fun j7=>
(if j7 then
(bZ s4.2 ([x6]:List Int)).bind fun l8=>
some l8
else
some s4.2):Option (List Int)).bind fun j5=>
some (.inl (alT.wrap (s4.1+1),j5))
else
some (.inr s4.2))) N (0,([]:List Int)):Option (List Int)).bind fun j3=>
Loop (S:=Int×List Int) (X:=List Int) (fun s9=>
(if(decide (s9.1<(y2.2.1.length:Int)))then
((idx y2.2.1 s9.1).bind fun o8=>
((if(decide (0<=o8))then
some (decide (o8<a1))
else
some false):Option Bool).bind fun AH=>
(if AH then
(bZ s9.2 ([o8]:List Int)).bind fun Vy=>
some Vy
else
some s9.2):Option (List Int)).bind fun qS=>
some (.inl (alT.wrap (s9.1+1),qS))
else
some (.inr s9.2))) N (0,j3)
def S94(N:Nat):bp:=⟨⟨[(0, .g aY),(1, .l ae)],[],[],0⟩,⟨[(0, .val false (.own 0))],[(0, .own 3 ae)],[],1⟩,fun(x:aY.den×Int)=>M.fy N x.1 x.2⟩
theorem W94(N:Nat):ax Tryz.prog 94 (S94 N):=fw (en [ck (aay N)] false false) (N:=N) (.o (.o (.o (.o (.meet ⟨[(5, .val false (.own 368))],[(368, .own 3 ae)],[],369⟩ (.o (.two (.loop ⟨[(5, .val false (.own 416)),(32, .l ae)],[(416, .own 3 ae)],[],417⟩ (.o (.o (.two (.meet ⟨[(5, .val false (.own 433))],[(433, .own 3 ae)],[416],434⟩ (.o (.meet ⟨[(42, .l .bool)],[],[],481⟩ .nil .nil)) .nil) .nil)))) .nil)) (.two (.o (.two (.loop ⟨[(5, .val false (.own 417)),(50, .l ae)],[(417, .own 3 ae)],[368],418⟩ (.o (.o (.two (.meet ⟨[(5, .val false (.own 434))],[(434, .own 3 ae)],[417],435⟩ (.o (.meet ⟨[(60, .l .bool)],[],[],482⟩ .nil .nil)) .nil) .nil)))) .nil)) .nil)))))) Tryz.func94 (by kernel_rfl) fun x=>by kernel_rfl
def M.iG(N:Nat)(a0:List Int):Option (List Int):=
(M.cn N a0).bind fun y1=>
(M.cZ N y1).bind fun y2=>
some y2
def Vz(N:Nat):bp:=⟨⟨[(0, .val false (.own 0))],[(0, .own 3 ae)],[],1⟩,⟨[(0, .val false (.own 1))],[(1, .own 3 ae)],[],2⟩,fun(x:List Int)=>M.iG N x⟩
theorem Qt(N:Nat):ax Tryz.prog 95 (Vz N):=fw (en [ck (W41 N),ck (Vx N)] false false) (N:=N) .nil Tryz.func95 (by kernel_rfl) fun x=>by kernel_rfl
def M.jc(N:Nat)(a0:aw.den):Option (List (List Int)):=
(lB (a0.2.2.2.1.length:Int) ([]:List Int)).bind fun l1=>
(Loop (S:=Int×List (List Int)) (X:=List (List Int)) (fun s3=>
(if(decide (s3.1<(a0.2.2.2.2.length:Int)))then
((idx a0.2.2.2.2 s3.1).bind fun x5=>
((if(decide (0<=x5.2.1))then
some (decide (x5.2.1<(s3.2.length:Int)))
else
some false):Option Bool).bind fun j6=>
(if j6 then
(idx s3.2 x5.2.1).bind fun x7=>
(idx s3.2 x5.2.1).bind fun x8=>
(M.fy N x5 (s3.2.length:Int)).bind fun y9=>
(bZ x8 y9).bind fun u7=>
(idx s3.2 x5.2.1).bind fun o8=>
(if decide (x5.2.1=x5.2.1)then
(idx s3.2 x5.2.1).bind fun qA=>
some (pn s3.2 x5.2.1 (fun m13=>u7))
else none)
else
some s3.2):Option (List (List Int))).bind fun j4=>
some (.inl (alT.wrap (s3.1+1),j4))
else
some (.inr s3.2))) N (0,l1):Option (List (List Int))).bind fun j2=>
Loop (S:=Int×List (List Int)) (X:=List (List Int)) (fun rn=>
(if(decide (rn.1<(j2.length:Int)))then
(idx rn.2 rn.1).bind fun E7=>
(idx rn.2 rn.1).bind fun LX=>
(M.iG N LX).bind fun xO=>
(idx rn.2 rn.1).bind fun DV=>
(if decide (rn.1=rn.1)then
(idx rn.2 rn.1).bind fun RR=>
some (.inl (alT.wrap (rn.1+1),pn rn.2 rn.1 (fun m20=>xO)))
else none)
else
some (.inr rn.2))) N (0,j2)
def S52(N:Nat):bp:=⟨⟨[(0, .g aw)],[],[],0⟩,⟨[(0, .val false (.own 0))],[(0, .deep 29 (.sl 3 (.leaf ae)))],[],1⟩,fun(x:aw.den)=>M.jc N x⟩
theorem W52(N:Nat):ax Tryz.prog 52 (S52 N):=fw (en [ck (W94 N),ck (Qt N)] true false) (N:=N) (.o (.o (.meet ⟨[],[(80, .deep 29 (.sl 3 (.leaf ae)))],[],113⟩ (.o (.two (.loop ⟨[(15, .l ae)],[(80, .deep 29 (.sl 3 (.leaf ae)))],[],177⟩ (.o (.o (.two (.meet ⟨[],[(80, .deep 29 (.sl 3 (.leaf ae)))],[],194⟩ (.o (.meet ⟨[(28, .l .bool)],[],[],257⟩ .nil .nil)) .nil) .nil)))) .nil)) (.two (.o (.two (.loop ⟨[(46, .l ae)],[(80, .deep 29 (.sl 3 (.leaf ae)))],[],162⟩ .nil) .nil)) .nil)))) Tryz.func52 (by kernel_rfl) fun x=>by kernel_rfl
def M.mK(N:Nat)(a0:List (List Int))(a1:Int):Option (List Int):=
(lB (a0.length:Int) false).bind fun l1=>
(Loop (S:=(List Bool)×List Int) (X:=List Bool) (fun s3=>
(if(decide (0<(s3.2.length:Int)))then
(idx s3.2 0).bind fun x4=>
(fH s3.2 1 (s3.2.length:Int)).bind fun l5=>
(idx a0 x4).bind fun x6=>
Loop (S:=Int×(List Bool)×List Int) (X:=((List Bool)×List Int)⊕(List Bool)) (fun s7=>
(if(decide (s7.1<(x6.length:Int)))then
((idx x6 s7.1).bind fun x9=>
(idx s7.2.1 x9).bind fun qn=>
(if(!qn)then
(idx s7.2.1 x9).bind fun o8=>
(bZ s7.2.2 ([x9]:List Int)).bind fun DX=>
some (aH s7.2.1 x9 true,DX)
else
some (s7.2.1,s7.2.2)):Option ((List Bool)×List Int)).bind fun j8=>
some (.inl (alT.wrap (s7.1+1),j8.1,j8.2))
else
some (.inr (.inl (s7.2.1,s7.2.2))))) N (0,s3.1,l5)
else
some (.inr s3.1))) N (l1,([a1]:List Int)):Option (List Bool)).bind fun j2=>
Loop (S:=Int×List Int) (X:=List Int) (fun qp=>
(if(decide (qp.1<(j2.length:Int)))then
((idx j2 qp.1).bind fun E7=>
(if E7 then
(bZ qp.2 ([qp.1]:List Int)).bind fun VA=>
some VA
else
some qp.2):Option (List Int)).bind fun GG=>
some (.inl (alT.wrap (qp.1+1),GG))
else
some (.inr qp.2))) N (0,([]:List Int))
def aaA(N:Nat):bp:=⟨⟨[(0, .l (.slice (.slice ae))),(1, .l ae)],[],[],0⟩,⟨[(0, .val false (.own 0))],[(0, .own 3 ae)],[],1⟩,fun(x:(List (List Int))×Int)=>M.mK N x.1 x.2⟩
theorem aaB(N:Nat):ax Tryz.prog 144 (aaA N):=fw (en [] false true) (N:=N) (.o (.o (.o (.meet ⟨[],[(48, .own 4 .bool)],[96],129⟩ (.two (.loop ⟨[(6, .val false (.own 128))],[(48, .own 4 .bool),(128, .own 3 ae)],[96],130⟩ (.o (.two (.o (.o (.o (.two (.loop ⟨[(6, .val false (.own 386)),(31, .l ae)],[(48, .own 4 .bool),(386, .own 3 ae)],[258],388⟩ (.o (.o (.two (.meet ⟨[(6, .val false (.own 404))],[(48, .own 4 .bool),(404, .own 3 ae)],[386],406⟩ .nil .nil) .nil)))) .nil)))) .nil))) .nil) (.o (.two (.o (.two (.loop ⟨[(10, .val false (.own 193)),(50, .l ae)],[(193, .own 3 ae)],[],194⟩ (.o (.o (.two (.meet ⟨[(10, .val false (.own 210))],[(210, .own 3 ae)],[193],211⟩ .nil .nil) .nil)))) .nil)) .nil)))))) Tryz.func144 (by kernel_rfl) fun x=>by kernel_rfl
def M.ig(N:Nat)(a0:aw.den)(a1:Int):Option (List Int):=
((if(decide (a1<0))then
some true
else
some (decide ((a0.2.2.2.1.length:Int)<=a1))):Option Bool).bind fun j1=>
(if j1 then
some ([]:List Int)
else
(M.jc N a0).bind fun y2=>
(M.mK N y2 a1).bind fun y3=>
some y3)
def S93(N:Nat):bp:=⟨⟨[(0, .g aw),(1, .l ae)],[],[],0⟩,⟨[(0, .val false (.own 0))],[(0, .own 3 ae)],[],1⟩,fun(x:aw.den×Int)=>M.ig N x.1 x.2⟩
theorem W93(N:Nat):ax Tryz.prog 93 (S93 N):=fw (en [ck (W52 N),ck (aaB N)] false false) (N:=N) (.o (.two (.meet ⟨[(13, .l .bool)],[],[],32⟩ .nil .nil) .nil)) Tryz.func93 (by kernel_rfl) fun x=>by kernel_rfl
def M.jd(N:Nat)(a0:aw.den)(a1:aw.den):Option (Bool×aw.den):=
some (decide (a0.1=a1.1),a1)
def VB(N:Nat):bp:=⟨⟨[(0, .g aw),(1, .ptr 0 [] 0)],[(0, .box 69 (.leaf aw))],[],1⟩,⟨[(0, .l .bool)],[(0, .box 69 (.leaf aw))],[],2⟩,fun(x:aw.den×aw.den)=>M.jd N x.1 x.2⟩
theorem VC(N:Nat):ax Tryz.prog 88 (VB N):=fw (en [] false false) (N:=N) .nil Tryz.func88 (by kernel_rfl) fun x=>by kernel_rfl
def M.bl(N:Nat)(a0:List aw.den)(a1:aw.den):Option (Int×aw.den):=
Loop (S:=Int×aw.den) (X:=Int×aw.den) (fun s1=>
(if(decide (s1.1<(a0.length:Int)))then
(idx a0 s1.1).bind fun x2=>
(M.jd N x2 s1.2).bind fun y3=>
(if y3.1 then
some (.inr (s1.1,y3.2))
else
some (.inl (alT.wrap (s1.1+1),y3.2)))
else
some (.inr ((-1),s1.2)))) N (0,a1)
def R3(N:Nat):bp:=⟨⟨[(0, .l (.slice aw)),(1, .fn 88 [(0,[],0)])],[(0, .box 69 (.leaf aw))],[],1⟩,⟨[(0, .l ae)],[(0, .box 69 (.leaf aw))],[],2⟩,fun(x:(List aw.den)×aw.den)=>M.bl N x.1 x.2⟩
theorem R4(N:Nat):ax Tryz.prog 135 (R3 N):=fw (en [ck (VC N)] false false) (N:=N) (.o (.two (.o (.two (.loop ⟨[(8, .l ae)],[(0, .box 69 (.leaf aw))],[],66⟩ .nil) .nil)) .nil)) Tryz.func135 (by kernel_rfl) fun x=>by kernel_rfl
def M.aO(N:Nat)(a0:List aw.den)(a1:aw.den):Option (Bool×aw.den):=
(M.bl N a0 a1).bind fun y1=>
some (decide (0<=y1.1),y1.2)
def VD(N:Nat):bp:=⟨⟨[(0, .l (.slice aw)),(1, .fn 88 [(0,[],0)])],[(0, .box 69 (.leaf aw))],[],1⟩,⟨[(0, .l .bool)],[(0, .box 69 (.leaf aw))],[],2⟩,fun(x:(List aw.den)×aw.den)=>M.aO N x.1 x.2⟩
theorem VE(N:Nat):ax Tryz.prog 87 (VD N):=fw (en [ck (R4 N)] false false) (N:=N) .nil Tryz.func87 (by kernel_rfl) fun x=>by kernel_rfl
def M.k6(N:Nat)(a0:bU.den)(a1:Int):Option (Int×Int):=
(idx a0.2.2 a1).bind fun x1=>
(fH a0.2.2 0 a1).bind fun l2=>
((M.iY N a0.1 x1.1).bind fun y4=>
(if y4 then
some (true,x1)
else
(M.ju N a0.2.1 x1.1).bind fun y5=>
(if y5 then
some (true,x1)
else
(M.aO N l2 x1).bind fun y6=>
some (y6.1,y6.2))):Option (Bool×aw.den)).bind fun j3=>
(M.b8 N j3.2.1).bind fun y7=>
(if(!y7)then
some (2,0)
else
(if j3.1 then
some (7,0)
else
((if(!decide (j3.2.2.1=(-1)))then
(if(decide (j3.2.2.1<0))then
some true
else
(if(decide (a1<=j3.2.2.1))then
some true
else
(idx l2 j3.2.2.1).bind fun x9=>
some (!decide (x9.2.1=(-1)))))
else
some false):Option Bool).bind fun j8=>
(if j8 then
some (6,0)
else
(if(decide (12<(j3.2.2.2.1.length:Int)))then
some (4,112)
else
(if(decide (12<(j3.2.2.2.2.1.length:Int)))then
some (4,212)
else
bE (J:=Unit) (R:=Int×Int) (Loop (S:=Int) (X:=Unit⊕(Int×Int)) (fun rp=>
(if(decide (rp<(j3.2.2.2.1.length:Int)))then
(idx j3.2.2.2.1 rp).bind fun qA=>
(fH j3.2.2.2.1 0 rp).bind fun Vy=>
(M.jb N a0 qA Vy ([]:List aL.den)).bind fun sX=>
(if(!decide (sX=0))then
some (.inr (.inr (sX,alT.wrap (100+rp))))
else
some (.inl (alT.wrap (rp+1))))
else
some (.inr (.inl ())))) N 0) fun qS=>
bE (J:=Unit) (R:=Int×Int) (Loop (S:=Int) (X:=Unit⊕(Int×Int)) (fun GH=>
(if(decide (GH<(j3.2.2.2.2.1.length:Int)))then
(idx j3.2.2.2.2.1 GH).bind fun JX=>
(fH j3.2.2.2.2.1 0 GH).bind fun l18=>
(M.jb N a0 JX j3.2.2.2.1 l18).bind fun TH=>
(if(!decide (TH=0))then
some (.inr (.inr (TH,alT.wrap (200+GH))))
else
some (.inl (alT.wrap (GH+1))))
else
some (.inr (.inl ())))) N 0) fun Qq=>
(M.jG N a0 a1).bind fun TJ=>
bE (J:=Unit) (R:=Int×Int) (Loop (S:=Int) (X:=Unit⊕(Int×Int)) (fun XE=>
(if(decide (XE<(j3.2.2.2.2.2.length:Int)))then
(M.jQ N j3.2 XE (TJ.1,(TJ.2.1,(TJ.2.2.2.1,(TJ.2.2.2.2.1,(TJ.2.2.2.2.2,TJ.2.2.1)))))).bind fun VF=>
(if(!decide (VF=0))then
some (.inr (.inr (VF,alT.wrap (300+XE))))
else
some (.inl (alT.wrap (XE+1))))
else
some (.inr (.inl ())))) N 0) fun j21=>
Loop (S:=Int) (X:=Int×Int) (fun VG=>
(if(decide (VG<(j3.2.2.2.2.1.length:Int)))then
(M.ig N j3.2 VG).bind fun VH=>
(M.eG N VH VG).bind fun y26=>
(if y26 then
some (.inr (9,alT.wrap (200+VG)))
else
some (.inl (alT.wrap (VG+1))))
else
some (.inr (0,0)))) N 0)))))
def S51(N:Nat):bp:=⟨⟨[(0, .g bU),(1, .l ae)],[],[],0⟩,⟨[(0, .l ae),(1, .l ae)],[],[],0⟩,fun(x:bU.den×Int)=>M.k6 N x.1 x.2⟩
theorem W51(N:Nat):ax Tryz.prog 51 (S51 N):=fw (en [ck (Vc N),ck (ZN N),ck (W50 N),ck (VE N),ck (W89 N),ck (W90 N),ck (W91 N),ck (W92 N),ck (W93 N)] false false) (N:=N) (.o (.o (.o (.meet ⟨[(8, .l .bool)],[(128, .box 69 (.leaf aw))],[],241⟩ .nil (.two (.two (.o (.o (.o (.o (.meet ⟨[(52, .l .bool)],[],[],353⟩ .nil .nil))))) .nil) (.join ⟨[],[],[],513⟩ (.o (.two (.loop ⟨[(89, .l ae)],[],[],577⟩ .nil) .nil)) (.join ⟨[],[],[],513⟩ (.o (.two (.loop ⟨[(110, .l ae)],[],[],577⟩ .nil) .nil)) (.o (.join ⟨[],[],[],593⟩ (.o (.two (.loop ⟨[(136, .l ae)],[],[],657⟩ .nil) .nil)) (.two (.o (.two (.loop ⟨[(152, .l ae)],[],[],657⟩ .nil) .nil)) .nil)))))))))) Tryz.func51 (by kernel_rfl) fun x=>by kernel_rfl
def M.jZ(N:Nat)(a0:bU.den):Option (au.den):=
(if(decide (4<(a0.2.2.length:Int)))then
some (4,(3,(4,0)))
else
bE (J:=Unit) (R:=au.den) (Loop (S:=Int) (X:=Unit⊕(au.den)) (fun s2=>
(if(decide (s2<(a0.2.2.length:Int)))then
(M.k6 N a0 s2).bind fun y3=>
(if(!decide (y3.1=0))then
some (.inr (.inr (y3.1,(3,(s2,y3.2)))))
else
some (.inl (alT.wrap (s2+1))))
else
some (.inr (.inl ())))) N 0) fun j1=>
some (0,(0,(0,0))))
def S30(N:Nat):bp:=⟨⟨[(0, .g bU)],[],[],0⟩,⟨[(0, .g au)],[],[],0⟩,fun(x:bU.den)=>M.jZ N x⟩
theorem W30(N:Nat):ax Tryz.prog 30 (S30 N):=fw (en [ck (W51 N)] false false) (N:=N) (.o (.o (.join ⟨[],[],[],96⟩ (.o (.two (.loop ⟨[(14, .l ae)],[],[],160⟩ .nil) .nil)) .nil))) Tryz.func30 (by kernel_rfl) fun x=>by kernel_rfl
def M.gP(N:Nat)(a0:bU.den):Option (au.den):=
(M.kW N a0).bind fun y1=>
(if(!decide (y1.1=0))then
some y1
else
(M.jX N a0).bind fun y2=>
(if(!decide (y2.1=0))then
some y2
else
(M.jZ N a0).bind fun y3=>
some y3))
def S16(N:Nat):bp:=⟨⟨[(0, .g bU)],[],[],0⟩,⟨[(0, .g au)],[],[],0⟩,fun(x:bU.den)=>M.gP N x⟩
theorem W16(N:Nat):ax Tryz.prog 16 (S16 N):=fw (en [ck (W28 N),ck (W29 N),ck (W30 N)] false false) (N:=N) .nil Tryz.func16 (by kernel_rfl) fun x=>by kernel_rfl
def M.dX(N:Nat)(a0:List Int):Option Int:=
some (a0.length:Int)
def S54(N:Nat):bp:=⟨⟨[(0, .l (.slice ae))],[],[],0⟩,⟨[(0, .l ae)],[],[],0⟩,fun(x:List Int)=>M.dX N x⟩
theorem W54(N:Nat):ax Tryz.prog 54 (S54 N):=fw (en [] false false) (N:=N) .nil Tryz.func54 (by kernel_rfl) fun x=>by kernel_rfl
def M.dJ(N:Nat)(a0:List Int)(a1:Int)(a2:Int):Option Bool:=
(idx a0 a1).bind fun x1=>
(idx a0 a2).bind fun x2=>
some (decide (x1<x2))
def aaE(N:Nat):bp:=⟨⟨[(0, .l (.slice ae)),(1, .l ae),(2, .l ae)],[],[],0⟩,⟨[(0, .l .bool)],[],[],0⟩,fun(x:(List Int)×Int×Int)=>M.dJ N x.1 x.2.1 x.2.2⟩
theorem VI(N:Nat):ax Tryz.prog 257 (aaE N):=fw (en [] false false) (N:=N) .nil Tryz.func257 (by kernel_rfl) fun x=>by kernel_rfl
def M.lO(N:Nat)(a0:List Int):Option (Int×List Int):=
(idx a0 (alT.wrap ((a0.length:Int)-1))).bind fun x1=>
(fH a0 0 (alT.wrap ((a0.length:Int)-1))).bind fun l2=>
some (x1,l2)
def aaF(N:Nat):bp:=⟨⟨[(0, .ptr 0 [] 0)],[(0, .box 140 (.own 1)),(1, .own 3 ae)],[],2⟩,⟨[(0, .ifc 3 (.l ae))],[(0, .box 140 (.own 2)),(2, .own 3 ae)],[],4⟩,fun(x:List Int)=>M.lO N x⟩
theorem aaG(N:Nat):ax Tryz.prog 258 (aaF N):=fw (en [] false false) (N:=N) .nil Tryz.func258 (by kernel_rfl) fun x=>by kernel_rfl
def M.k7(N:Nat)(a0:aw.den):Option (List (List Int)):=
(lB (a0.2.2.2.1.length:Int) ([]:List Int)).bind fun l1=>
(Loop (S:=Int×List (List Int)) (X:=List (List Int)) (fun s3=>
(if(decide (s3.1<(a0.2.2.2.2.length:Int)))then
((idx a0.2.2.2.2 s3.1).bind fun x5=>
((if(decide (0<=x5.2.1))then
some (decide (x5.2.1<(s3.2.length:Int)))
else
some false):Option Bool).bind fun j6=>
(if j6 then
(idx s3.2 x5.2.1).bind fun x7=>
(idx s3.2 x5.2.1).bind fun x8=>
(M.fy N x5 (s3.2.length:Int)).bind fun y9=>
(bZ x8 y9).bind fun u7=>
(idx s3.2 x5.2.1).bind fun o8=>
(if decide (x5.2.1=x5.2.1)then
(idx s3.2 x5.2.1).bind fun qA=>
some (pn s3.2 x5.2.1 (fun m13=>u7))
else none)
else
some s3.2):Option (List (List Int))).bind fun j4=>
some (.inl (alT.wrap (s3.1+1),j4))
else
some (.inr s3.2))) N (0,l1):Option (List (List Int))).bind fun j2=>
Loop (S:=Int×List (List Int)) (X:=List (List Int)) (fun rn=>
(if(decide (rn.1<(j2.length:Int)))then
(idx rn.2 rn.1).bind fun E7=>
(idx rn.2 rn.1).bind fun LX=>
(M.iG N LX).bind fun xO=>
(idx rn.2 rn.1).bind fun DV=>
(if decide (rn.1=rn.1)then
(idx rn.2 rn.1).bind fun RR=>
some (.inl (alT.wrap (rn.1+1),pn rn.2 rn.1 (fun m20=>xO)))
else none)
else
some (.inr rn.2))) N (0,j2)
def VJ(N:Nat):bp:=⟨⟨[(0, .g aw)],[],[],0⟩,⟨[(0, .val false (.own 0))],[(0, .deep 29 (.sl 3 (.leaf ae)))],[],1⟩,fun(x:aw.den)=>M.k7 N x⟩
theorem VK(N:Nat):ax Tryz.prog 52 (VJ N):=fw (en [ck (W94 N),ck (Qt N)] true false) (N:=N) (.o (.o (.meet ⟨[],[(80, .deep 29 (.sl 3 (.leaf ae)))],[],113⟩ (.o (.two (.loop ⟨[(15, .l ae)],[(80, .deep 29 (.sl 3 (.leaf ae)))],[],177⟩ (.o (.o (.two (.meet ⟨[],[(80, .deep 29 (.sl 3 (.leaf ae)))],[],194⟩ (.o (.meet ⟨[(28, .l .bool)],[],[],257⟩ .nil .nil)) .nil) .nil)))) .nil)) (.two (.o (.two (.loop ⟨[(46, .l ae)],[(80, .deep 29 (.sl 3 (.leaf ae)))],[],162⟩ .nil) .nil)) .nil)))) Tryz.func52 (by kernel_rfl) fun x=>by kernel_rfl
def M.je(N:Nat)(a0:Int)(a1:List Int):Option (List Int):=
(bZ a1 ([a0]:List Int)).bind fun l1=>
some l1
def R5(N:Nat):bp:=⟨⟨[(0, .ptr 0 [] 0),(1, .ifc 3 (.l ae))],[(0, .box 140 (.own 1)),(1, .own 3 ae)],[],2⟩,⟨[],[(0, .box 140 (.own 2)),(2, .own 3 ae)],[],4⟩,fun(x:Int×List Int)=>M.je N x.1 x.2⟩
theorem R6(N:Nat):ax Tryz.prog 259 (R5 N):=fw (en [] false false) (N:=N) .nil Tryz.func259 (by kernel_rfl) fun x=>by kernel_rfl
def M.cU(N:Nat)(a0:Int)(a1:Int)(a2:List Int):Option (List Int):=
(idx a2 a1).bind fun x1=>
(idx a2 a0).bind fun x2=>
(idx a2 a0).bind fun x3=>
(idx (aH a2 a0 x1) a1).bind fun x4=>
some (aH (aH a2 a0 x1) a1 x2)
def R7(N:Nat):bp:=⟨⟨[(0, .val false (.own 0)),(1, .l ae),(2, .l ae)],[(0, .own 3 ae)],[],1⟩,⟨[],[(0, .own 3 ae)],[],2⟩,fun(x:Int×Int×List Int)=>M.cU N x.1 x.2.1 x.2.2⟩
theorem E8(N:Nat):ax Tryz.prog 260 (R7 N):=fw (en [] false false) (N:=N) .nil Tryz.func260 (by kernel_rfl) fun x=>by kernel_rfl
def M.fU(N:Nat)(a0:Int)(a1:List Int):Option (List Int):=
Loop (S:=Int×List Int) (X:=List Int) (fun s1=>
((if(decide ((alT.wrap (amh (alT.wrap (s1.1-1)) 2))=s1.1))then
some true
else
(M.dJ N s1.2 s1.1 (alT.wrap (amh (alT.wrap (s1.1-1)) 2))).bind fun y3=>
some (!y3)):Option Bool).bind fun j2=>
(if j2 then
some (.inr s1.2)
else
(M.cU N (alT.wrap (amh (alT.wrap (s1.1-1)) 2)) s1.1 s1.2).bind fun y4=>
some (.inl (alT.wrap (amh (alT.wrap (s1.1-1)) 2),y4)))) N (a0,a1)
def VL(N:Nat):bp:=⟨⟨[(0, .ifc 139 (.ptr 0 [] 0)),(1, .l ae)],[(0, .box 140 (.own 1)),(1, .own 3 ae)],[],2⟩,⟨[],[(0, .box 140 (.own 1)),(1, .own 3 ae)],[],4⟩,fun(x:Int×List Int)=>M.fU N x.1 x.2⟩
theorem VM(N:Nat):ax Tryz.prog 96 (VL N):=fw (en [ck (VI N),ck (E8 N)] false false) (N:=N) (.two (.loop ⟨[(1, .l ae)],[(1, .own 3 ae)],[],3⟩ (.two (.o (.two (.meet ⟨[(17, .l .bool)],[],[],67⟩ .nil .nil) .nil)) .nil)) .nil) Tryz.func96 (by kernel_rfl) fun x=>by kernel_rfl
def M.c9(N:Nat)(a0:Int)(a1:List Int):Option (List Int):=
(M.je N a0 a1).bind fun y1=>
(M.dX N y1).bind fun y2=>
(M.fU N (alT.wrap (y2-1)) y1).bind fun y3=>
some y3
def VN(N:Nat):bp:=⟨⟨[(0, .ifc 139 (.ptr 0 [] 0)),(1, .ifc 3 (.l ae))],[(0, .box 140 (.own 1)),(1, .own 3 ae)],[],2⟩,⟨[],[(0, .box 140 (.own 2)),(2, .own 3 ae)],[],4⟩,fun(x:Int×List Int)=>M.c9 N x.1 x.2⟩
theorem VO(N:Nat):ax Tryz.prog 53 (VN N):=fw (en [ck (W54 N),ck (VM N),ck (R6 N)] false false) (N:=N) .nil Tryz.func53 (by kernel_rfl) fun x=>by kernel_rfl
def M.eZ(N:Nat)(a0:Int)(a1:Int)(a2:List Int):Option (Bool×List Int):=
(Loop (S:=Int×List Int) (X:=Int×List Int) (fun s2=>
((if(decide (a1<=(alT.wrap ((alT.wrap (2*s2.1))+1))))then
some true
else
some (decide ((alT.wrap ((alT.wrap (2*s2.1))+1))<0))):Option Bool).bind fun j3=>
(if j3 then
some (.inr (s2.1,s2.2))
else
(((if(decide ((alT.wrap ((alT.wrap ((alT.wrap (2*s2.1))+1))+1))<a1))then
(M.dJ N s2.2 (alT.wrap ((alT.wrap ((alT.wrap (2*s2.1))+1))+1)) (alT.wrap ((alT.wrap (2*s2.1))+1))).bind fun y6=>
some y6
else
some false):Option Bool).bind fun j5=>
(if j5 then
some (alT.wrap ((alT.wrap ((alT.wrap (2*s2.1))+1))+1))
else
some (alT.wrap ((alT.wrap (2*s2.1))+1))):Option Int).bind fun j4=>
(M.dJ N s2.2 j4 s2.1).bind fun y7=>
(if(!y7)then
some (.inr (s2.1,s2.2))
else
(M.cU N s2.1 j4 s2.2).bind fun y8=>
some (.inl (j4,y8))))) N (a0,a2):Option (Int×List Int)).bind fun j1=>
some (decide (a0<j1.1),j1.2)
def VP(N:Nat):bp:=⟨⟨[(0, .ifc 139 (.ptr 0 [] 0)),(1, .l ae),(2, .l ae)],[(0, .box 140 (.own 1)),(1, .own 3 ae)],[],2⟩,⟨[(0, .l .bool)],[(0, .box 140 (.own 1)),(1, .own 3 ae)],[],4⟩,fun(x:Int×Int×List Int)=>M.eZ N x.1 x.2.1 x.2.2⟩
theorem VQ(N:Nat):ax Tryz.prog 97 (VP N):=fw (en [ck (VI N),ck (E8 N)] false false) (N:=N) (.o (.o (.two (.meet ⟨[(7, .l ae)],[(1, .own 3 ae)],[],51⟩ (.loop ⟨[(7, .l ae)],[(1, .own 3 ae)],[],51⟩ (.two (.o (.two (.meet ⟨[(21, .l .bool)],[],[],115⟩ .nil .nil) (.o (.meet ⟨[(9, .l ae)],[],[],147⟩ (.o (.meet ⟨[(33, .l .bool)],[],[],195⟩ .nil .nil)) .nil)))) .nil)) .nil) .nil))) Tryz.func97 (by kernel_rfl) fun x=>by kernel_rfl
def M.fE(N:Nat)(a0:List Int):Option (Int×List Int):=
(M.dX N a0).bind fun y1=>
(M.cU N 0 (alT.wrap (y1-1)) a0).bind fun y2=>
(M.eZ N 0 (alT.wrap (y1-1)) y2).bind fun y3=>
(M.lO N y3.2).bind fun y4=>
some (y4.1,y4.2)
def VS(N:Nat):bp:=⟨⟨[(0, .ifc 139 (.ptr 0 [] 0))],[(0, .box 140 (.own 1)),(1, .own 3 ae)],[],2⟩,⟨[(0, .ifc 3 (.l ae))],[(0, .box 140 (.own 2)),(2, .own 3 ae)],[],4⟩,fun(x:List Int)=>M.fE N x⟩
theorem VT(N:Nat):ax Tryz.prog 55 (VS N):=fw (en [ck (W54 N),ck (VQ N),ck (aaG N),ck (E8 N)] false false) (N:=N) .nil Tryz.func55 (by kernel_rfl) fun x=>by kernel_rfl
def M.cA(N:Nat)(a0:aw.den):Option (Int×List Int):=
((M.k7 N a0).bind fun y2=>
some y2:Option (List (List Int))).bind fun j1=>
(lB (j1.length:Int) ([]:List Int)).bind fun l3=>
(lB (j1.length:Int) 0).bind fun l4=>
((Loop (S:=Int×(List (List Int))×(List Int)×List Int) (X:=(List (List Int))×(List Int)×List Int) (fun s7=>
(if(decide (s7.1<(j1.length:Int)))then
(((idx j1 s7.1).bind fun qn=>
(idx s7.2.2.1 s7.1).bind fun o8=>
(Loop (S:=Int×List (List Int)) (X:=List (List Int)) (fun qp=>
(if(decide (qp.1<(qn.length:Int)))then
(idx qn qp.1).bind fun sW=>
(idx qp.2 sW).bind fun E7=>
(idx qp.2 sW).bind fun LX=>
(bZ LX ([s7.1]:List Int)).bind fun l17=>
(idx qp.2 sW).bind fun DV=>
(if decide (sW=sW)then
(idx qp.2 sW).bind fun RR=>
some (.inl (alT.wrap (qp.1+1),pn qp.2 sW (fun m20=>l17)))
else none)
else
some (.inr qp.2))) N (0,s7.2.1):Option (List (List Int))).bind fun AH=>
(if(decide ((qn.length:Int)=0))then
(M.c9 N s7.1 s7.2.2.2).bind fun OP=>
some (AH,aH s7.2.2.1 s7.1 (qn.length:Int),OP)
else
some (AH,aH s7.2.2.1 s7.1 (qn.length:Int),s7.2.2.2)):Option ((List (List Int))×(List Int)×List Int)).bind fun j9=>
some (j9.1,j9.2.1,j9.2.2):Option ((List (List Int))×(List Int)×List Int)).bind fun j8=>
some (.inl (alT.wrap (s7.1+1),j8.1,j8.2.1,j8.2.2))
else
some (.inr (s7.2.1,s7.2.2.1,s7.2.2.2)))) N (0,l3,l4,([]:List Int)):Option ((List (List Int))×(List Int)×List Int)).bind fun j6=>
some (j6.1,j6.2.1,j6.2.2):Option ((List (List Int))×(List Int)×List Int)).bind fun j5=>
(Loop (S:=(List Int)×(List Int)×List Int) (X:=(List Int)×List Int) (fun TK=>
(M.dX N TK.2.2).bind fun y24=>
(if(decide (0<y24))then
(M.fE N TK.2.2).bind fun VH=>
(bZ TK.2.1 ([VH.1]:List Int)).bind fun l26=>
(idx j5.1 VH.1).bind fun XD=>
Loop (S:=Int×(List Int)×List Int) (X:=((List Int)×(List Int)×List Int)⊕((List Int)×List Int)) (fun u9=>
(if(decide (u9.1<(XD.length:Int)))then
((idx XD u9.1).bind fun CQ=>
(idx u9.2.1 CQ).bind fun R8=>
(idx u9.2.1 CQ).bind fun x32=>
(idx (aH u9.2.1 CQ (alT.wrap (R8-1))) CQ).bind fun NA=>
(if(decide (NA=0))then
(M.c9 N CQ u9.2.2).bind fun y34=>
some (aH u9.2.1 CQ (alT.wrap (R8-1)),y34)
else
some (aH u9.2.1 CQ (alT.wrap (R8-1)),u9.2.2)):Option ((List Int)×List Int)).bind fun VU=>
some (.inl (alT.wrap (u9.1+1),VU.1,VU.2))
else
some (.inr (.inl (u9.2.1,l26,u9.2.2))))) N (0,TK.1,VH.2)
else
some (.inr (TK.2.1,TK.2.2)))) N (j5.2.1,([]:List Int),j5.2.2):Option ((List Int)×List Int)).bind fun j22=>
(if(decide ((j22.1.length:Int)<(j1.length:Int)))then
some (9,([]:List Int))
else
some (0,j22.1))
def S31(N:Nat):bp:=⟨⟨[(0, .g aw)],[],[],0⟩,⟨[(0, .val false (.own 0)),(1, .l ae)],[(0, .own 3 ae)],[],1⟩,fun(x:aw.den)=>M.cA N x⟩
theorem W31(N:Nat):ax Tryz.prog 31 (S31 N):=fw (en [ck (VK N),ck (VO N),ck (W54 N),ck (VT N)] true false) (N:=N) (.o (.meet ⟨[(4, .l (.slice (.slice ae)))],[],[],48⟩ .nil (.o (.o (.o (.meet ⟨[(5, .l (.slice (.slice ae)))],[(144, .own 3 ae),(192, .box 140 (.own 224)),(224, .own 3 ae)],[80,176],227⟩ (.o (.meet ⟨[(5, .l (.slice (.slice ae)))],[(144, .own 3 ae),(192, .box 140 (.own 272)),(272, .own 3 ae)],[80,176],275⟩ (.loop ⟨[(29, .l ae)],[(80, .deep 29 (.sl 3 (.leaf ae))),(144, .own 3 ae),(192, .box 140 (.own 272)),(272, .own 3 ae)],[176],276⟩ (.o (.o (.meet ⟨[],[(80, .deep 29 (.sl 3 (.leaf ae))),(144, .own 3 ae),(192, .box 140 (.own 292)),(292, .own 3 ae)],[272],296⟩ (.meet ⟨[],[(80, .deep 29 (.sl 3 (.leaf ae))),(144, .own 3 ae),(192, .box 140 (.own 292)),(292, .own 3 ae)],[272],296⟩ (.o (.o (.meet ⟨[],[(80, .deep 29 (.sl 3 (.leaf ae)))],[],469⟩ (.o (.two (.loop ⟨[(41, .l ae)],[(80, .deep 29 (.sl 3 (.leaf ae)))],[],517⟩ .nil) .nil)) .nil))) .nil) .nil)))) .nil)) (.o (.meet ⟨[(12, .val false (.own 243))],[(192, .box 140 (.own 244)),(243, .own 3 ae),(244, .own 3 ae)],[144,224],246⟩ (.two (.loop ⟨[(12, .val false (.own 243))],[(144, .own 3 ae),(192, .box 140 (.own 244)),(243, .own 3 ae),(244, .own 3 ae)],[224],247⟩ (.o (.two (.o (.o (.o (.two (.loop ⟨[(86, .l ae)],[(144, .own 3 ae),(192, .box 140 (.own 647)),(647, .own 3 ae)],[361],650⟩ (.o (.o (.two (.meet ⟨[],[(144, .own 3 ae),(192, .box 140 (.own 666)),(666, .own 3 ae)],[647],669⟩ .nil .nil) .nil)))) .nil)))) .nil))) .nil) .nil)))))))) Tryz.func31 (by kernel_rfl) fun x=>by kernel_rfl
def M.cu(N:Nat)(a0:List ByteArray):Option (List ByteArray):=
(if al4 (a0).length 0 then
wN (some ([]:List ByteArray))
((bZ ([]:List ByteArray) a0).bind fun l1=>
some l1)
else
(bZ ([]:List ByteArray) a0).bind fun l2=>
some l2)
def S56(N:Nat):bp:=⟨⟨[(0, .l (.slice .str))],[],[],0⟩,⟨[(0, .val false (.own 0))],[(0, .own 9 .str)],[],1⟩,fun(x:List ByteArray)=>M.cu N x⟩
theorem W56(N:Nat):ax Tryz.prog 56 (S56 N):=fw (en [] false false) (N:=N) .nil Tryz.func56 (by kernel_rfl) fun x=>by kernel_rfl
def M.bK(N:Nat)(a0:aa.den)(a1:Int):Option Bool:=
((M.eR N a0).bind fun y2=>
(if y2 then
(if(decide (a0.1<=a1))then
some (decide (a1<a0.2))
else
some false)
else
some false):Option Bool).bind fun j1=>
some j1
def S64(N:Nat):bp:=⟨⟨[(0, .g aa),(1, .l ae)],[],[],0⟩,⟨[(0, .l .bool)],[],[],0⟩,fun(x:aa.den×Int)=>M.bK N x.1 x.2⟩
theorem TL(N:Nat):ax Tryz.prog 64 (S64 N):=fw (en [ck (ZR N)] false false) (N:=N) (.o (.meet ⟨[(4, .l .bool)],[],[],32⟩ .nil .nil)) Tryz.func64 (by kernel_rfl) fun x=>by kernel_rfl
def M.dD(N:Nat):Option (aa.den):=
some (0,109573)
def S98(N:Nat):bp:=⟨⟨[],[],[],0⟩,⟨[(0, .g aa)],[],[],0⟩,fun(x:Unit)=>M.dD N⟩
theorem W98(N:Nat):ax Tryz.prog 98 (S98 N):=fw (en [] false false) (N:=N) .nil Tryz.func98 (by kernel_rfl) fun x=>by kernel_rfl
def M.fV(N:Nat)(a0:av.den)(a1:Int):Option (ByteArray×aa.den×aa.den×List dW.den):=
(Loop (S:=Int×List dW.den) (X:=List dW.den) (fun s2=>
(if(decide (s2.1<(a0.2.2.2.length:Int)))then
((idx a0.2.2.2 s2.1).bind fun x4=>
(M.bK N x4.1 a1).bind fun y5=>
(if y5 then
(M.dD N).bind fun y6=>
(bZ s2.2 ([(y6,x4.2)]:List dW.den)).bind fun l7=>
some l7
else
some s2.2):Option (List dW.den)).bind fun j3=>
some (.inl (alT.wrap (s2.1+1),j3))
else
some (.inr s2.2))) N (0,([]:List dW.den)):Option (List dW.den)).bind fun j1=>
some (a0.1,a0.2.1,a0.2.2.1,j1)
def S57(N:Nat):bp:=⟨⟨[(0, .g av),(1, .l ae)],[],[],0⟩,⟨[(0, .val true (.pair (.leaf .str) (.pair (.leaf aa) (.pair (.leaf aa) (.own 0)))))],[(0, .own 169 dW)],[],1⟩,fun(x:av.den×Int)=>M.fV N x.1 x.2⟩
theorem W57(N:Nat):ax Tryz.prog 57 (S57 N):=fw (en [ck (TL N),ck (W98 N)] false false) (N:=N) (.o (.o (.meet ⟨[(5, .val false (.own 48))],[(48, .own 169 dW)],[],49⟩ (.o (.two (.loop ⟨[(5, .val false (.own 112)),(11, .l ae)],[(112, .own 169 dW)],[],113⟩ (.o (.o (.two (.meet ⟨[(5, .val false (.own 129))],[(129, .own 169 dW)],[112],130⟩ .nil .nil) .nil)))) .nil)) .nil))) Tryz.func57 (by kernel_rfl) fun x=>by kernel_rfl
def M.ao(N:Nat)(a0:List aa.den):Option (List aa.den):=
(if al4 (a0).length 0 then
wN (some ([]:List aa.den))
((bZ ([]:List aa.den) a0).bind fun l1=>
some l1)
else
(bZ ([]:List aa.den) a0).bind fun l2=>
some l2)
def aaL(N:Nat):bp:=⟨⟨[(0, .l (.slice aa))],[],[],0⟩,⟨[(0, .val false (.own 0))],[(0, .own 73 aa)],[],1⟩,fun(x:List aa.den)=>M.ao N x⟩
theorem OQ(N:Nat):ax Tryz.prog 100 (aaL N):=fw (en [] false false) (N:=N) .nil Tryz.func100 (by kernel_rfl) fun x=>by kernel_rfl
def M.aZ(N:Nat)(a0:List aL.den):Option (List aL.den):=
(if al4 (a0).length 0 then
wN (some ([]:List aL.den))
((bZ ([]:List aL.den) a0).bind fun l1=>
some l1)
else
(bZ ([]:List aL.den) a0).bind fun l2=>
some l2)
def aaM(N:Nat):bp:=⟨⟨[(0, .l (.slice aL))],[],[],0⟩,⟨[(0, .val false (.own 0))],[(0, .own 95 aL)],[],1⟩,fun(x:List aL.den)=>M.aZ N x⟩
theorem aaN(N:Nat):ax Tryz.prog 101 (aaM N):=fw (en [] false false) (N:=N) .nil Tryz.func101 (by kernel_rfl) fun x=>by kernel_rfl
def M.dF(N:Nat)(a0:aY.den)(a1:Int):Option (Bool×Int):=
(M.bK N a0.2.2.2.2.1 a1).bind fun y1=>
some (y1,a1)
def VV(N:Nat):bp:=⟨⟨[(0, .g aY),(1, .ptr 0 [] 0)],[(0, .box 3 (.leaf ae))],[],1⟩,⟨[(0, .l .bool)],[(0, .box 3 (.leaf ae))],[],2⟩,fun(x:aY.den×Int)=>M.dF N x.1 x.2⟩
theorem VW(N:Nat):ax Tryz.prog 99 (VV N):=fw (en [ck (TL N)] false false) (N:=N) .nil Tryz.func99 (by kernel_rfl) fun x=>by kernel_rfl
def M.fa(N:Nat)(a0:List aY.den)(a1:Int):Option (Int×(List Int)×List Int):=
(lB (a0.length:Int) 0).bind fun l1=>
Loop (S:=Int×Int×(List Int)×(List Int)×List Int) (X:=Int×(List Int)×List Int) (fun s2=>
(if(decide (s2.1<(a0.length:Int)))then
((idx a0 s2.1).bind fun x4=>
(((if(decide (0<=x4.2.2.1))then
some (decide (x4.2.2.1<s2.1))
else
some false):Option Bool).bind fun j6=>
(if j6 then
(idx s2.2.2.1 x4.2.2.1).bind fun x7=>
some x7
else
some (-1)):Option Int).bind fun j5=>
(idx s2.2.2.1 s2.1).bind fun x8=>
(M.dF N x4 s2.2.1).bind fun y9=>
(if y9.1 then
(idx (aH s2.2.2.1 s2.1 j5) s2.1).bind fun qn=>
(bZ s2.2.2.2.1 ([s2.1]:List Int)).bind fun E6=>
(bZ s2.2.2.2.2 ([j5]:List Int)).bind fun DX=>
some (y9.2,aH (aH s2.2.2.1 s2.1 j5) s2.1 (s2.2.2.2.1.length:Int),E6,DX)
else
some (y9.2,aH s2.2.2.1 s2.1 j5,s2.2.2.2.1,s2.2.2.2.2)):Option (Int×(List Int)×(List Int)×List Int)).bind fun j3=>
some (.inl (alT.wrap (s2.1+1),j3.1,j3.2.1,j3.2.2.1,j3.2.2.2))
else
some (.inr (s2.2.1,s2.2.2.2.1,s2.2.2.2.2)))) N (0,a1,l1,([]:List Int),([]:List Int))
def VX(N:Nat):bp:=⟨⟨[(0, .l (.slice aY)),(1, .fn 99 [(0,[],0)])],[(0, .box 3 (.leaf ae))],[],1⟩,⟨[(0, .val false (.own 1)),(1, .val false (.own 2))],[(0, .box 3 (.leaf ae)),(1, .own 3 ae),(2, .own 3 ae)],[],4⟩,fun(x:(List aY.den)×Int)=>M.fa N x.1 x.2⟩
theorem VY(N:Nat):ax Tryz.prog 62 (VX N):=fw (en [ck (VW N)] false false) (N:=N) (.o (.o (.o (.two (.o (.two (.loop ⟨[(6, .val false (.own 177)),(7, .val false (.own 178)),(17, .l ae)],[(0, .box 3 (.leaf ae)),(97, .own 3 ae),(177, .own 3 ae),(178, .own 3 ae)],[],181⟩ (.o (.o (.two (.meet ⟨[(6, .val false (.own 197)),(7, .val false (.own 198))],[(0, .box 3 (.leaf ae)),(97, .own 3 ae),(197, .own 3 ae),(198, .own 3 ae)],[177,178],201⟩ (.o (.o (.meet ⟨[(11, .l ae)],[],[],309⟩ (.meet ⟨[(30, .l .bool)],[],[],309⟩ .nil .nil) .nil))) .nil) .nil)))) .nil)) .nil)))) Tryz.func62 (by kernel_rfl) fun x=>by kernel_rfl
def M.fW(N:Nat)(a0:aw.den)(a1:Int):Option (ByteArray×Int×(List aL.den)×(List aL.den)×List aY.den):=
(M.fa N a0.2.2.2.2 a1).bind fun y1=>
(Loop (S:=Int×List aY.den) (X:=List aY.den) (fun s3=>
(if(decide (s3.1<(y1.2.1.length:Int)))then
(idx y1.2.1 s3.1).bind fun x4=>
(idx a0.2.2.2.2 x4).bind fun x5=>
(idx y1.2.2 s3.1).bind fun x6=>
(M.dD N).bind fun y7=>
(M.ao N x5.2.2.2.2.2.1).bind fun y8=>
(M.ao N x5.2.2.2.2.2.2.1).bind fun y9=>
(bZ s3.2 ([(x5.1,(x5.2.1,(x6,(x5.2.2.2.1,(y7,(y8,(y9,x5.2.2.2.2.2.2.2)))))))]:List aY.den)).bind fun u7=>
some (.inl (alT.wrap (s3.1+1),u7))
else
some (.inr s3.2))) N (0,([]:List aY.den)):Option (List aY.den)).bind fun j2=>
(M.aZ N a0.2.2.1).bind fun lJ=>
(M.aZ N a0.2.2.2.1).bind fun qs=>
some (a0.1,a0.2.1,lJ,qs,j2)
def S58(N:Nat):bp:=⟨⟨[(0, .g aw),(1, .l ae)],[],[],0⟩,⟨[(0, .val true (.pair (.leaf .str) (.pair (.leaf ae) (.pair (.own 0) (.pair (.own 1) (.own 2))))))],[(0, .own 95 aL),(1, .own 95 aL),(2, .own 41 aY)],[],3⟩,fun(x:aw.den×Int)=>M.fW N x.1 x.2⟩
theorem W58(N:Nat):ax Tryz.prog 58 (S58 N):=fw (en [ck (VY N),ck (W98 N),ck (OQ N),ck (aaN N)] false false) (N:=N) (.o (.o (.o (.meet ⟨[(7, .val false (.own 208))],[(208, .own 41 aY)],[],209⟩ (.o (.two (.loop ⟨[(7, .val false (.own 256)),(20, .l ae)],[(256, .own 41 aY)],[],257⟩ .nil) .nil)) .nil)))) Tryz.func58 (by kernel_rfl) fun x=>by kernel_rfl
def M.ij(N:Nat)(a0:bU.den)(a1:Int):Option ((List bu.den)×(List av.den)×List aw.den):=
(Loop (S:=Int×List bu.den) (X:=List bu.den) (fun s2=>
(if(decide (s2.1<(a0.1.length:Int)))then
(idx a0.1 s2.1).bind fun x3=>
(M.cu N x3.2).bind fun y4=>
(bZ s2.2 ([(x3.1,y4)]:List bu.den)).bind fun l5=>
some (.inl (alT.wrap (s2.1+1),l5))
else
some (.inr s2.2))) N (0,([]:List bu.den)):Option (List bu.den)).bind fun j1=>
(Loop (S:=Int×(List bu.den)×List av.den) (X:=(List bu.den)×List av.den) (fun s7=>
(if(decide (s7.1<(a0.2.1.length:Int)))then
(idx a0.2.1 s7.1).bind fun x8=>
(M.fV N x8 a1).bind fun y9=>
(bZ s7.2.2 ([(y9.1,(y9.2.1,(y9.2.2.1,y9.2.2.2)))]:List av.den)).bind fun u7=>
some (.inl (alT.wrap (s7.1+1),s7.2.1,u7))
else
some (.inr (s7.2.1,s7.2.2)))) N (0,j1,([]:List av.den)):Option ((List bu.den)×List av.den)).bind fun j6=>
(Loop (S:=Int×(List bu.den)×(List av.den)×List aw.den) (X:=(List bu.den)×(List av.den)×List aw.den) (fun wZ=>
(if(decide (wZ.1<(a0.2.2.length:Int)))then
(idx a0.2.2 wZ.1).bind fun pe=>
(M.fW N pe a1).bind fun sX=>
(bZ wZ.2.2.2 ([(sX.1,(sX.2.1,(sX.2.2.1,(sX.2.2.2.1,sX.2.2.2.2))))]:List aw.den)).bind fun VZ=>
some (.inl (alT.wrap (wZ.1+1),wZ.2.1,wZ.2.2.1,VZ))
else
some (.inr (wZ.2.1,wZ.2.2.1,wZ.2.2.2)))) N (0,j6.1,j6.2,([]:List aw.den)):Option ((List bu.den)×(List av.den)×List aw.den)).bind fun DW=>
some (DW.1,DW.2.1,DW.2.2)
def S32(N:Nat):bp:=⟨⟨[(0, .g bU),(1, .l ae)],[],[],0⟩,⟨[(0, .val true (.pair (.own 0) (.pair (.own 1) (.own 2))))],[(0, .own 61 bu),(1, .own 66 av),(2, .own 69 aw)],[],3⟩,fun(x:bU.den×Int)=>M.ij N x.1 x.2⟩
theorem W32(N:Nat):ax Tryz.prog 32 (S32 N):=fw (en [ck (W56 N),ck (W57 N),ck (W58 N)] false false) (N:=N) (.o (.o (.meet ⟨[],[(32, .box 26 (.pair (.own 48) (.pair .nil .nil))),(48, .own 61 bu)],[],50⟩ (.o (.two (.loop ⟨[(15, .l ae)],[(32, .box 26 (.pair (.own 112) (.pair .nil .nil))),(112, .own 61 bu)],[],114⟩ .nil) .nil)) (.meet ⟨[],[(32, .box 26 (.pair (.own 48) (.pair (.own 50) .nil))),(48, .own 61 bu),(50, .own 66 av)],[],53⟩ (.o (.two (.loop ⟨[(33, .l ae)],[(32, .box 26 (.pair (.own 48) (.pair (.own 114) .nil))),(48, .own 61 bu),(114, .own 66 av)],[],117⟩ .nil) .nil)) (.meet ⟨[],[(32, .box 26 (.pair (.own 48) (.pair (.own 50) (.own 53)))),(48, .own 61 bu),(50, .own 66 av),(53, .own 69 aw)],[],57⟩ (.o (.two (.loop ⟨[(49, .l ae)],[(32, .box 26 (.pair (.own 48) (.pair (.own 50) (.own 117)))),(48, .own 61 bu),(50, .own 66 av),(117, .own 69 aw)],[],121⟩ .nil) .nil)) .nil))))) Tryz.func32 (by kernel_rfl) fun x=>by kernel_rfl
def M.gM(N:Nat)(a0:List aa.den):Option (Int×List Int):=
(M.fu N a0).bind fun y1=>
some (y1.2.1,y1.2.2)
def aaO(N:Nat):bp:=⟨⟨[(0, .l (.slice aa))],[],[],0⟩,⟨[(0, .val false (.own 0)),(1, .l ae)],[(0, .own 3 ae)],[],1⟩,fun(x:List aa.den)=>M.gM N x⟩
theorem R9(N:Nat):ax Tryz.prog 102 (aaO N):=fw (en [ck (Vr N)] false false) (N:=N) .nil Tryz.func102 (by kernel_rfl) fun x=>by kernel_rfl
def M.lZ(N:Nat)(a0:List aa.den)(a1:Int):Option (List Int):=
(M.gM N a0).bind fun y1=>
((if(!decide (y1.1=0))then
some true
else
(if(decide (a1<0))then
some true
else
some (decide ((a0.length:Int)<=a1)))):Option Bool).bind fun j2=>
(if j2 then
some ([]:List Int)
else
(idx a0 a1).bind fun x3=>
(M.dC N x3.1).bind fun y4=>
(lB y4 0).bind fun l5=>
Loop (S:=Int×Int×List Int) (X:=List Int) (fun s6=>
(if(decide (0<=s6.2.1))then
(idx s6.2.2 s6.2.1).bind fun x7=>
(idx y1.2 s6.1).bind fun x8=>
some (.inl (alT.wrap (x8-1),alT.wrap (s6.2.1-1),aH s6.2.2 s6.2.1 s6.1))
else
some (.inr s6.2.2))) N (alT.wrap (a1-1),alT.wrap ((l5.length:Int)-1),l5))
def aaP(N:Nat):bp:=⟨⟨[(0, .l (.slice aa)),(1, .l ae)],[],[],0⟩,⟨[(0, .val false (.own 0))],[(0, .own 3 ae)],[],1⟩,fun(x:(List aa.den)×Int)=>M.lZ N x.1 x.2⟩
theorem aaQ(N:Nat):ax Tryz.prog 148 (aaP N):=fw (en [ck (Nz N),ck (R9 N)] false false) (N:=N) (.o (.o (.two (.meet ⟨[(26, .l .bool)],[],[],128⟩ .nil .nil) (.o (.o (.two (.o (.two (.loop ⟨[(8, .l ae),(9, .l ae)],[(224, .own 3 ae)],[],369⟩ .nil) .nil)) .nil)))))) Tryz.func148 (by kernel_rfl) fun x=>by kernel_rfl
def M.bt(B:Nat):Nat->(List aa.den)->Int->(List aa.den)->Option (List aa.den)
 |0,_,_,_=>none
 |N+1,a0,a1,a2=>
  (M.lZ B a0 a1).bind fun y2=>
  (idx a0 a1).bind fun XF=>
  ((if(decide (XF.1=23))then
  some (decide (XF.1=23))
  else
  some (decide (XF.1=24))):Option Bool).bind fun j62=>
  (if j62 then
  ((idx a0 a1).bind fun x64=>
  (if(decide (x64.1=24))then
  some 53
  else
  some 52):Option Int).bind fun j63=>
  (idx y2 0).bind fun x65=>
  (M.bt B N a0 x65 a2).bind fun y66=>
  (bZ y66 ([(j63,0)]:List aa.den)).bind fun l67=>
  (idx y2 1).bind fun x68=>
  (M.bt B N a0 x68 l67).bind fun y69=>
  (idx y69 (y66.length:Int)).bind fun x70=>
  some (aH y69 (y66.length:Int) (x70.1,(y69.length:Int)))
  else
  (if(decide (XF.1=26))then
  (idx y2 0).bind fun x71=>
  (M.bt B N a0 x71 a2).bind fun y72=>
  (bZ y72 ([(50,0)]:List aa.den)).bind fun l73=>
  (idx y2 1).bind fun x74=>
  (M.bt B N a0 x74 l73).bind fun y75=>
  (bZ y75 ([(51,0)]:List aa.den)).bind fun l76=>
  (idx l76 (y72.length:Int)).bind fun x77=>
  (idx y2 2).bind fun x78=>
  (M.bt B N a0 x78 (aH l76 (y72.length:Int) (x77.1,(l76.length:Int)))).bind fun y79=>
  (idx y79 (y75.length:Int)).bind fun x80=>
  some (aH y79 (y75.length:Int) (x80.1,(y79.length:Int)))
  else
  (Loop (S:=Int×List aa.den) (X:=List aa.den) (fun w4=>
  (if(decide (w4.1<(y2.length:Int)))then
  (idx y2 w4.1).bind fun Sa=>
  (M.bt B N a0 Sa w4.2).bind fun Sb=>
  some (.inl (alT.wrap (w4.1+1),Sb))
  else
  some (.inr w4.2))) B (0,a2):Option (List aa.den)).bind fun aaX=>
  (idx a0 a1).bind fun aaY=>
  (bZ aaX ([aaY]:List aa.den)).bind fun aaZ=>
  some aaZ))
def M.jf(N:Nat)(a0:List aa.den)(a1:Int)(a2:List aa.den):Option (List aa.den):=M.bt N N a0 a1 a2
def aa0(N:Nat):bp:=⟨⟨[(0, .val false (.own 0)),(1, .l (.slice aa)),(2, .l ae)],[(0, .own 73 aa)],[],1⟩,⟨[(0, .val false (.own 1))],[(1, .own 73 aa)],[],2⟩,fun(x:(List aa.den)×Int×List aa.den)=>M.jf N x.1 x.2.1 x.2.2⟩
def aa1(B N:Nat):bp:={inn:=⟨[(0, .val false (.own 0)),(1, .l (.slice aa)),(2, .l ae)],[(0, .own 73 aa)],[],1⟩,out:=⟨[(0, .val false (.own 1))],[(1, .own 73 aa)],[],2⟩,fn:=fun(x:(List aa.den)×Int×List aa.den)=>M.bt B N x.1 x.2.1 x.2.2}
theorem Qu(B:Nat):∀N,ax Tryz.prog 103 (aa1 B N)
 |0=>vA Tryz.func103 (by kernel_rfl) (by kernel_rfl) fun _=>rfl
 |N+1=>fw (en [ck (Qu B N),ck (aaQ B)] false false) (N:=B) (.o (.o (.two (.o (.two (.meet ⟨[(22, .l .bool)],[],[],161⟩ .nil (.two (.o (.meet ⟨[(8, .l ae)],[],[],177⟩ .nil .nil)) .nil)) .nil)) (.meet ⟨[(0, .val false (.own 193))],[(193, .own 73 aa)],[0],194⟩ (.o (.two (.loop ⟨[(0, .val false (.own 241)),(104, .l ae)],[(241, .own 73 aa)],[0],242⟩ .nil) .nil)) .nil)))) Tryz.func103 (by kernel_rfl) fun x=>by kernel_rfl
theorem aa2(N:Nat):ax Tryz.prog 103 (aa0 N):=Qu N N
def M.jv(N:Nat)(a0:List aa.den):Option (Int×List aa.den):=
(M.gM N a0).bind fun y1=>
(if(!decide (y1.1=0))then
some (y1.1,([]:List aa.den))
else
(M.jf N a0 (alT.wrap ((a0.length:Int)-1)) ([]:List aa.den)).bind fun y2=>
some (0,y2))
def S59(N:Nat):bp:=⟨⟨[(0, .l (.slice aa))],[],[],0⟩,⟨[(0, .val false (.own 0)),(1, .l ae)],[(0, .own 73 aa)],[],1⟩,fun(x:List aa.den)=>M.jv N x⟩
theorem W59(N:Nat):ax Tryz.prog 59 (S59 N):=fw (en [ck (R9 N),ck (aa2 N)] false false) (N:=N) .nil Tryz.func59 (by kernel_rfl) fun x=>by kernel_rfl
def M.eT(N:Nat)(a0:Int):Option Bool:=
((if(decide (50<=a0))then
some (decide (a0<=53))
else
some false):Option Bool).bind fun j1=>
some j1
def S35(N:Nat):bp:=⟨⟨[(0, .l ae)],[],[],0⟩,⟨[(0, .l .bool)],[],[],0⟩,fun(x:Int)=>M.eT N x⟩
theorem W35(N:Nat):ax Tryz.prog 35 (S35 N):=fw (en [] false false) (N:=N) (.o (.meet ⟨[(2, .l .bool)],[],[],16⟩ .nil .nil)) Tryz.func35 (by kernel_rfl) fun x=>by kernel_rfl
def M.da(N:Nat)(a0:Int):Option Bool:=
((if(decide (a0=23))then
some (decide (a0=23))
else
(if(decide (a0=24))then
some (decide (a0=24))
else
some (decide (a0=26)))):Option Bool).bind fun j1=>
(if j1 then
some false
else
((M.eT N a0).bind fun y3=>
(if y3 then
some true
else
(M.dC N a0).bind fun y4=>
some (decide (0<=y4))):Option Bool).bind fun j2=>
some j2)
def S34(N:Nat):bp:=⟨⟨[(0, .l ae)],[],[],0⟩,⟨[(0, .l .bool)],[],[],0⟩,fun(x:Int)=>M.da N x⟩
theorem W34(N:Nat):ax Tryz.prog 34 (S34 N):=fw (en [ck (W35 N),ck (Nz N)] false false) (N:=N) (.o (.two (.o (.two (.meet ⟨[(4, .l .bool)],[],[],32⟩ .nil .nil) .nil)) (.meet ⟨[(2, .l .bool)],[],[],32⟩ .nil .nil))) Tryz.func34 (by kernel_rfl) fun x=>by kernel_rfl
def M.aU(N:Nat)(a0:Int)(a1:Int)(a2:List Int):Option (Int×List Int):=
((idx a2 a0).bind fun x2=>
(if(decide (0<=x2))then
(idx a2 a0).bind fun x3=>
some (!decide (x3=a1))
else
some false):Option Bool).bind fun j1=>
(if j1 then
some (9,a2)
else
(idx a2 a0).bind fun x4=>
some (0,aH a2 a0 a1))
def S36(N:Nat):bp:=⟨⟨[(0, .ptr 0 [] 0),(1, .l ae),(2, .l ae)],[(0, .box 83 (.own 1)),(1, .own 3 ae)],[],2⟩,⟨[(0, .l ae)],[(0, .box 83 (.own 1)),(1, .own 3 ae)],[],4⟩,fun(x:Int×Int×List Int)=>M.aU N x.1 x.2.1 x.2.2⟩
theorem W36(N:Nat):ax Tryz.prog 36 (S36 N):=fw (en [] false false) (N:=N) (.o (.two (.meet ⟨[(25, .l .bool)],[],[],18⟩ .nil .nil) .nil)) Tryz.func36 (by kernel_rfl) fun x=>by kernel_rfl
def M.bC(N:Nat)(a0:List aa.den)(a1:Int)(a2:aa.den)(a3:List Int):Option (Int×List Int):=
((M.da N a2.1).bind fun y2=>
(if(!y2)then
some true
else
(M.eT N a2.1).bind fun y3=>
(if y3 then
(if(decide (a2.2<=a1))then
some true
else
some (decide ((a0.length:Int)<a2.2)))
else
some false)):Option Bool).bind fun j1=>
(if j1 then
some (2,a3)
else
(idx a3 a1).bind fun x4=>
(if(decide (a2.1=51))then
(M.aU N a2.2 x4 a3).bind fun y5=>
some (y5.1,y5.2)
else
((if(decide (a2.1=50))then
some (decide (a2.1=50))
else
(if(decide (a2.1=52))then
some (decide (a2.1=52))
else
some (decide (a2.1=53)))):Option Bool).bind fun j6=>
(if j6 then
(if(decide (x4<1))then
some (5,a3)
else
(M.aU N (alT.wrap (a1+1)) (alT.wrap (x4-1)) a3).bind fun y7=>
(if(!decide (y7.1=0))then
some (y7.1,y7.2)
else
((if(decide (a2.1=50))then
some (alT.wrap (x4-1))
else
some x4):Option Int).bind fun j8=>
(M.aU N a2.2 j8 y7.2).bind fun y9=>
some (y9.1,y9.2)))
else
(M.dC N a2.1).bind fun oI=>
(if(decide (x4<oI))then
some (5,a3)
else
(if(decide (12<(alT.wrap ((alT.wrap (x4-oI))+1))))then
some (16,a3)
else
(M.aU N (alT.wrap (a1+1)) (alT.wrap ((alT.wrap (x4-oI))+1)) a3).bind fun lJ=>
some (lJ.1,lJ.2))))))
def S18(N:Nat):bp:=⟨⟨[(0, .ptr 0 [] 0),(1, .l (.slice aa)),(2, .l ae),(3, .g aa)],[(0, .box 83 (.own 1)),(1, .own 3 ae)],[],2⟩,⟨[(0, .l ae)],[(0, .box 83 (.own 1)),(1, .own 3 ae)],[],4⟩,fun(x:(List aa.den)×Int×aa.den×List Int)=>M.bC N x.1 x.2.1 x.2.2.1 x.2.2.2⟩
theorem W18(N:Nat):ax Tryz.prog 18 (S18 N):=fw (en [ck (W34 N),ck (W35 N),ck (W36 N),ck (Nz N)] false false) (N:=N) (.o (.two (.meet ⟨[(33, .l .bool)],[],[],34⟩ .nil .nil) (.o (.two (.o (.two (.o (.o (.meet ⟨[(50, .l .bool)],[],[],226⟩ .nil (.two (.o (.o (.meet ⟨[(9, .l ae)],[],[],402⟩ .nil .nil))) .nil)))) .nil)) .nil)))) Tryz.func18 (by kernel_rfl) fun x=>by kernel_rfl
def M.bY(N:Nat)(a0:List aa.den):Option (Int×Int):=
(if(decide (128<(a0.length:Int)))then
some (0,4)
else
(if(decide ((a0.length:Int)=0))then
some (0,5)
else
(lB (alT.wrap ((a0.length:Int)+1)) 0).bind fun l1=>
(Loop (S:=Int×List Int) (X:=List Int) (fun s3=>
(if(decide (s3.1<(l1.length:Int)))then
(idx s3.2 s3.1).bind fun x4=>
some (.inl (alT.wrap (s3.1+1),aH s3.2 s3.1 (-1)))
else
some (.inr s3.2))) N (0,l1):Option (List Int)).bind fun j2=>
(idx j2 0).bind fun x5=>
bE (J:=Int×List Int) (R:=Int×Int) (Loop (S:=Int×Int×List Int) (X:=(Int×List Int)⊕(Int×Int)) (fun s7=>
(if(decide (s7.2.1<(a0.length:Int)))then
bE (J:=Int×List Int) (R:=(Int×Int×List Int)⊕((Int×List Int)⊕(Int×Int))) ((idx a0 s7.2.1).bind fun x9=>
(idx s7.2.2 s7.2.1).bind fun qn=>
(if(decide (qn<0))then
some (.inl (s7.1,s7.2.2))
else
(idx s7.2.2 s7.2.1).bind fun o8=>
(M.bC N a0 s7.2.1 x9 s7.2.2).bind fun qs=>
(if(!decide (qs.1=0))then
some (.inr (.inr (.inr (0,qs.1))))
else
some (.inl (if s7.1<o8 then o8 else s7.1,qs.2))))) fun j8=>
some (.inl (j8.1,alT.wrap (s7.2.1+1),j8.2))
else
some (.inr (.inl (s7.1,s7.2.2))))) N (0,0,aH j2 0 0)) fun j6=>
(idx j6.2 (a0.length:Int)).bind fun pe=>
(if(decide (pe<=0))then
some (0,5)
else
(if(decide (1<pe))then
some (0,4)
else
some (if j6.1<pe then pe else j6.1,0)))))
def S8(N:Nat):bp:=⟨⟨[(0, .l (.slice aa))],[],[],0⟩,⟨[(0, .l ae),(1, .l ae)],[],[],0⟩,fun(x:List aa.den)=>M.bY N x⟩
theorem W8(N:Nat):ax Tryz.prog 8 (S8 N):=fw (en [ck (W18 N)] false false) (N:=N) (.o (.o (.o (.o (.meet ⟨[],[(176, .own 3 ae)],[],241⟩ (.o (.two (.loop ⟨[(28, .l ae)],[(176, .own 3 ae)],[],337⟩ .nil) .nil)) (.o (.o (.join ⟨[(6, .l ae)],[(176, .own 3 ae),(208, .box 83 (.own 176))],[],355⟩ (.o (.two (.loop ⟨[(6, .l ae),(45, .l ae)],[(176, .own 3 ae),(208, .box 83 (.own 176))],[],403⟩ (.o (.o (.two (.join ⟨[(6, .l ae)],[(176, .own 3 ae),(208, .box 83 (.own 176))],[],421⟩ .nil .nil) .nil)))) .nil)) .nil)))))))) Tryz.func8 (by kernel_rfl) fun x=>by kernel_rfl
def M.eH(N:Nat)(a0:List aa.den):Option Bool:=
(M.bY N a0).bind fun y1=>
some (decide (y1.2=0))
def aa3(N:Nat):bp:=⟨⟨[(0, .l (.slice aa))],[],[],0⟩,⟨[(0, .l .bool)],[],[],0⟩,fun(x:List aa.den)=>M.eH N x⟩
theorem Sc(N:Nat):ax Tryz.prog 149 (aa3 N):=fw (en [ck (W8 N)] false false) (N:=N) .nil Tryz.func149 (by kernel_rfl) fun x=>by kernel_rfl
def M.dA(N:Nat)(a0:Int):Option Bool:=
((if(decide (50<=a0))then
some (decide (a0<=53))
else
some false):Option Bool).bind fun j1=>
some j1
def aa4(N:Nat):bp:=⟨⟨[(0, .l ae)],[],[],0⟩,⟨[(0, .l .bool)],[],[],0⟩,fun(x:Int)=>M.dA N x⟩
theorem LY(N:Nat):ax Tryz.prog 153 (aa4 N):=fw (en [] false false) (N:=N) (.o (.meet ⟨[(2, .l .bool)],[],[],16⟩ .nil .nil)) Tryz.func153 (by kernel_rfl) fun x=>by kernel_rfl
def M.fA(N:Nat)(a0:List aa.den):Option (List Bool):=
(lB (alT.wrap ((a0.length:Int)+1)) false).bind fun l1=>
(idx l1 0).bind fun x2=>
(Loop (S:=Int×List Bool) (X:=List Bool) (fun s4=>
(if(decide (s4.1<(a0.length:Int)))then
((idx a0 s4.1).bind fun x6=>
(idx s4.2 s4.1).bind fun x7=>
(if(!x7)then
some s4.2
else
((if(!decide (x6.1=51))then
(idx s4.2 (alT.wrap (s4.1+1))).bind fun x9=>
some (aH s4.2 (alT.wrap (s4.1+1)) true)
else
some s4.2):Option (List Bool)).bind fun j8=>
(M.dA N x6.1).bind fun oI=>
(if oI then
(idx j8 x6.2).bind fun o8=>
some (aH j8 x6.2 true)
else
some j8)):Option (List Bool)).bind fun j5=>
some (.inl (alT.wrap (s4.1+1),j5))
else
some (.inr s4.2))) N (0,aH l1 0 true):Option (List Bool)).bind fun j3=>
(fH j3 0 (a0.length:Int)).bind fun DX=>
some DX
def aa5(N:Nat):bp:=⟨⟨[(0, .l (.slice aa))],[],[],0⟩,⟨[(0, .val false (.own 0))],[(0, .own 4 .bool)],[],1⟩,fun(x:List aa.den)=>M.fA N x⟩
theorem aa6(N:Nat):ax Tryz.prog 150 (aa5 N):=fw (en [ck (LY N)] false false) (N:=N) (.o (.o (.o (.meet ⟨[],[(64, .own 4 .bool)],[],145⟩ (.o (.two (.loop ⟨[(14, .l ae)],[(64, .own 4 .bool)],[],193⟩ (.o (.o (.two (.meet ⟨[],[(64, .own 4 .bool)],[],210⟩ (.o (.o (.meet ⟨[],[(64, .own 4 .bool)],[],386⟩ .nil .nil))) .nil) .nil)))) .nil)) .nil)))) Tryz.func150 (by kernel_rfl) fun x=>by kernel_rfl
def M.gQ(N:Nat)(a0:List Bool)(a1:Bool):Option Int:=
Loop (S:=Int) (X:=Int) (fun s1=>
(if(decide (s1<(a0.length:Int)))then
(idx a0 s1).bind fun x2=>
(if(decide (a1=x2))then
some (.inr s1)
else
some (.inl (alT.wrap (s1+1))))
else
some (.inr (-1)))) N 0
def aa7(N:Nat):bp:=⟨⟨[(0, .l (.slice .bool)),(1, .l .bool)],[],[],0⟩,⟨[(0, .l ae)],[],[],0⟩,fun(x:(List Bool)×Bool)=>M.gQ N x.1 x.2⟩
theorem aa8(N:Nat):ax Tryz.prog 183 (aa7 N):=fw (en [] false false) (N:=N) (.o (.two (.o (.two (.loop ⟨[(8, .l ae)],[],[],64⟩ .nil) .nil)) .nil)) Tryz.func183 (by kernel_rfl) fun x=>by kernel_rfl
def M.de(N:Nat)(a0:List Bool)(a1:Bool):Option Bool:=
(M.gQ N a0 a1).bind fun y1=>
some (decide (0<=y1))
def aa9(N:Nat):bp:=⟨⟨[(0, .l (.slice .bool)),(1, .l .bool)],[],[],0⟩,⟨[(0, .l .bool)],[],[],0⟩,fun(x:(List Bool)×Bool)=>M.de N x.1 x.2⟩
theorem aba(N:Nat):ax Tryz.prog 151 (aa9 N):=fw (en [ck (aa8 N)] false false) (N:=N) .nil Tryz.func151 (by kernel_rfl) fun x=>by kernel_rfl
def M.dU(N:Nat)(a0:List aa.den)(a1:List Bool):Option (List aa.den):=
(lB (alT.wrap ((a0.length:Int)+1)) 0).bind fun l1=>
(Loop (S:=Int×(List Int)×List aa.den) (X:=(List Int)×List aa.den) (fun s3=>
(if(decide (s3.1<(a0.length:Int)))then
((idx a0 s3.1).bind fun x5=>
(idx s3.2.1 s3.1).bind fun x6=>
(idx a1 s3.1).bind fun x7=>
(if x7 then
(bZ s3.2.2 ([x5]:List aa.den)).bind fun l8=>
some (aH s3.2.1 s3.1 (s3.2.2.length:Int),l8)
else
some (aH s3.2.1 s3.1 (s3.2.2.length:Int),s3.2.2)):Option ((List Int)×List aa.den)).bind fun j4=>
some (.inl (alT.wrap (s3.1+1),j4.1,j4.2))
else
some (.inr (s3.2.1,s3.2.2)))) N (0,l1,([]:List aa.den)):Option ((List Int)×List aa.den)).bind fun j2=>
(idx j2.1 (a0.length:Int)).bind fun x9=>
Loop (S:=Int×List aa.den) (X:=List aa.den) (fun ND=>
(if(decide (ND.1<(j2.2.length:Int)))then
((idx ND.2 ND.1).bind fun qA=>
(M.dA N qA.1).bind fun CP=>
(if CP then
(idx (aH j2.1 (a0.length:Int) (j2.2.length:Int)) qA.2).bind fun sW=>
(idx ND.2 ND.1).bind fun E7=>
some (aH ND.2 ND.1 (E7.1,sW))
else
some ND.2):Option (List aa.den)).bind fun DW=>
some (.inl (alT.wrap (ND.1+1),DW))
else
some (.inr ND.2))) N (0,j2.2)
def abb(N:Nat):bp:=⟨⟨[(0, .l (.slice aa)),(1, .l (.slice .bool))],[],[],0⟩,⟨[(0, .val false (.own 0))],[(0, .own 73 aa)],[],1⟩,fun(x:(List aa.den)×List Bool)=>M.dU N x.1 x.2⟩
theorem abc(N:Nat):ax Tryz.prog 152 (abb N):=fw (en [ck (LY N)] false false) (N:=N) (.o (.o (.o (.meet ⟨[(6, .val false (.own 112))],[(64, .own 3 ae),(112, .own 73 aa)],[],114⟩ (.o (.two (.loop ⟨[(6, .val false (.own 160)),(17, .l ae)],[(64, .own 3 ae),(160, .own 73 aa)],[],162⟩ (.o (.o (.two (.meet ⟨[(6, .val false (.own 178))],[(64, .own 3 ae),(178, .own 73 aa)],[160],180⟩ .nil .nil) .nil)))) .nil)) (.o (.two (.o (.two (.loop ⟨[(44, .l ae)],[(112, .own 73 aa)],[],275⟩ (.o (.o (.two (.meet ⟨[],[(112, .own 73 aa)],[],292⟩ .nil .nil) .nil)))) .nil)) .nil)))))) Tryz.func152 (by kernel_rfl) fun x=>by kernel_rfl
def M.cV(N:Nat)(a0:List aa.den):Option (List aa.den):=
bE (J:=List aa.den) (R:=List aa.den) ((M.ao N a0).bind fun y1=>
(M.eH N a0).bind fun y2=>
(if(!y2)then
some (.inr y1)
else
some (.inl y1)):Option ((List aa.den)⊕(List aa.den))) fun s3=>
Loop (S:=List aa.den) (X:=List aa.den) (fun s4=>
(M.fA N s4).bind fun y5=>
(Loop (S:=Int×List Bool) (X:=List Bool) (fun s7=>
(if(decide (s7.1<(s4.length:Int)))then
((idx s4 s7.1).bind fun x9=>
((if(decide (x9.1=51))then
some (decide (x9.2=(alT.wrap (s7.1+1))))
else
some false):Option Bool).bind fun qS=>
(if qS then
(idx s7.2 s7.1).bind fun o8=>
some (aH s7.2 s7.1 false)
else
some s7.2):Option (List Bool)).bind fun j8=>
some (.inl (alT.wrap (s7.1+1),j8))
else
some (.inr s7.2))) N (0,y5):Option (List Bool)).bind fun j6=>
(M.de N j6 false).bind fun qs=>
(if qs then
(M.dU N s4 j6).bind fun CP=>
some (.inl CP)
else
some (.inr s4))) N s3
def V0(N:Nat):bp:=⟨⟨[(0, .l (.slice aa))],[],[],0⟩,⟨[(0, .val false (.own 0))],[(0, .own 73 aa)],[],1⟩,fun(x:List aa.den)=>M.cV N x⟩
theorem abd(N:Nat):ax Tryz.prog 104 (V0 N):=LS (E:=(en [ck (OQ N),ck (Sc N),ck (aa6 N),ck (aba N),ck (abc N)] false false)) (N:=N) (l:=0) (L:=⟨[(3, .val false (.own 16))],[(16, .own 73 aa)],[],17⟩) (a0:= .nil) (a1:=(.o (.o (.two .nil .nil)))) (a2:=(.o (.meet ⟨[],[(33, .own 4 .bool)],[],66⟩ (.o (.two (.loop ⟨[(17, .l ae)],[(33, .own 4 .bool)],[],114⟩ (.o (.o (.two (.meet ⟨[],[(33, .own 4 .bool)],[],131⟩ (.o (.meet ⟨[(31, .l .bool)],[],[],226⟩ .nil .nil)) .nil) .nil)))) .nil)) .nil))) (sg:=V0 N) (c:=Tryz.f104.body.getD .skip) (rs:=Tryz.f104.results.toList) Tryz.func104 (by kernel_rfl) (by kernel_rfl) rfl rfl rfl rfl (fun x=>by kernel_rfl)
def M.ey(N:Nat)(a0:List aa.den):Option (List aa.den):=
(M.ao N a0).bind fun y1=>
(M.eH N a0).bind fun y2=>
(if(!y2)then
some y1
else
Loop (S:=Int×List aa.den) (X:=List aa.den) (fun s3=>
(if(decide (s3.1<(a0.length:Int)))then
(((idx a0 s3.1).bind fun x6=>
(M.dA N x6.1).bind fun y7=>
(if(!y7)then
some s3.2
else
(Loop (S:=Int) (X:=Int) (fun s9=>
((if(decide (0<=s9))then
(if(decide (s9<(a0.length:Int)))then
(idx a0 s9).bind fun o8=>
(if(decide (o8.1=51))then
(idx a0 s9).bind fun qA=>
some (decide (s9<qA.2))
else
some false)
else
some false)
else
some false):Option Bool).bind fun qS=>
(if qS then
(idx a0 s9).bind fun pe=>
some (.inl pe.2)
else
some (.inr s9))) N x6.2:Option Int).bind fun j8=>
(idx s3.2 s3.1).bind fun sW=>
some (aH s3.2 s3.1 (sW.1,j8))):Option (List aa.den)).bind fun j5=>
some j5:Option (List aa.den)).bind fun j4=>
some (.inl (alT.wrap (s3.1+1),j4))
else
some (.inr s3.2))) N (0,y1))
def abe(N:Nat):bp:=⟨⟨[(0, .l (.slice aa))],[],[],0⟩,⟨[(0, .val false (.own 0))],[(0, .own 73 aa)],[],1⟩,fun(x:List aa.den)=>M.ey N x⟩
theorem abf(N:Nat):ax Tryz.prog 105 (abe N):=fw (en [ck (OQ N),ck (Sc N),ck (LY N)] false false) (N:=N) (.o (.o (.o (.two (.o (.two (.loop ⟨[(15, .l ae)],[(32, .own 73 aa)],[],161⟩ (.o (.o (.meet ⟨[],[(32, .own 73 aa)],[],178⟩ (.meet ⟨[],[(32, .own 73 aa)],[],178⟩ (.o (.o (.o (.meet ⟨[(6, .l ae)],[],[],385⟩ (.two (.loop ⟨[(6, .l ae)],[],[],385⟩ (.two (.meet ⟨[(50, .l .bool)],[],[],385⟩ .nil .nil) .nil)) .nil) .nil)))) .nil) .nil)))) .nil)) .nil)))) Tryz.func105 (by kernel_rfl) fun x=>by kernel_rfl
def M.cY(N:Nat)(a0:aa.den):Option Bool:=
((M.dC N a0.1).bind fun y2=>
(if(decide (y2<0))then
some true
else
(if(!decide (a0.2=0))then
(M.ga N a0.1).bind fun y3=>
some (!y3)
else
some false)):Option Bool).bind fun j1=>
(if j1 then
some false
else
((if(decide (a0.1=14))then
some (decide (a0.1=14))
else
(if(decide (a0.1=15))then
some (decide (a0.1=15))
else
some (decide (a0.1=16)))):Option Bool).bind fun j4=>
(if j4 then
((if(decide (0<=a0.2))then
some (decide (a0.2<=5))
else
some false):Option Bool).bind fun j5=>
some j5
else
(if(decide (a0.1=34))then
((if(decide (0<=a0.2))then
some (decide ((amy a0.2 8)<=5))
else
some false):Option Bool).bind fun j6=>
some j6
else
(if(decide (a0.1=6))then
some (decide (0<=a0.2))
else
some true))))
def abg(N:Nat):bp:=⟨⟨[(0, .g aa)],[],[],0⟩,⟨[(0, .l .bool)],[],[],0⟩,fun(x:aa.den)=>M.cY N x⟩
theorem abh(N:Nat):ax Tryz.prog 123 (abg N):=fw (en [ck (Nz N),ck (Vs N)] false false) (N:=N) (.o (.two (.meet ⟨[(17, .l .bool)],[],[],32⟩ .nil .nil) (.two (.o (.two (.meet ⟨[(20, .l .bool)],[],[],64⟩ .nil (.two (.meet ⟨[(2, .l .bool)],[],[],64⟩ .nil .nil) (.o (.two (.meet ⟨[(2, .l .bool)],[],[],96⟩ .nil .nil) .nil)))) .nil)) .nil))) Tryz.func123 (by kernel_rfl) fun x=>by kernel_rfl
def M.dQ(N:Nat)(a0:aa.den)(a1:cz.den):Option Bool:=
(if(decide (a0.1=7))then
((if(decide (0<=a0.2))then
some (decide (a0.2<(a1.2.1.length:Int)))
else
some false):Option Bool).bind fun j1=>
some j1
else
(if(decide (a0.1=8))then
((if(decide (0<=a0.2))then
(if(decide (a0.2<(a1.2.2.1.length:Int)))then
(idx a1.2.2.1 a0.2).bind fun x3=>
some (!decide (x3.1=0))
else
some false)
else
some false):Option Bool).bind fun j2=>
some j2
else
(if(decide (a0.1=33))then
((if(decide (0<=a0.2))then
some (decide (a0.2<(a1.2.2.2.2.2.length:Int)))
else
some false):Option Bool).bind fun j4=>
some j4
else
(if(decide (a0.1=34))then
some (decide ((alT.wrap (amh a0.2 8))<(a1.2.2.2.2.2.length:Int)))
else
((if(decide (a0.1=36))then
some (decide (a0.1=36))
else
(if(decide (a0.1=37))then
some (decide (a0.1=37))
else
(if(decide (a0.1=38))then
some (decide (a0.1=38))
else
some (decide (a0.1=39))))):Option Bool).bind fun j5=>
(if j5 then
((if(decide (0<=a0.2))then
some (decide (a0.2<(a1.2.2.2.2.1.length:Int)))
else
some false):Option Bool).bind fun j6=>
some j6
else
some true)))))
def abi(N:Nat):bp:=⟨⟨[(0, .g aa),(1, .g cz)],[],[],0⟩,⟨[(0, .l .bool)],[],[],0⟩,fun(x:aa.den×cz.den)=>M.dQ N x.1 x.2⟩
theorem abj(N:Nat):ax Tryz.prog 124 (abi N):=fw (en [] false false) (N:=N) (.o (.two (.o (.two (.o (.two (.meet ⟨[(4, .l .bool)],[],[],112⟩ .nil .nil) (.o (.two (.meet ⟨[(4, .l .bool)],[],[],144⟩ .nil .nil) (.o (.two (.meet ⟨[(4, .l .bool)],[],[],176⟩ .nil .nil) (.o (.o (.meet ⟨[(65, .l .bool)],[],[],208⟩ .nil (.two (.meet ⟨[(4, .l .bool)],[],[],208⟩ .nil .nil) .nil)))))))))) .nil)) .nil)) Tryz.func124 (by kernel_rfl) fun x=>by kernel_rfl
def M.cI(N:Nat)(a0:af.den):Option Bool:=
((if(!decide (a0.1=6))then
some (!decide (a0.2.1=0))
else
some false):Option Bool).bind fun j1=>
(if j1 then
some false
else
(if(decide (a0.1=1))then
((if(decide (a0.2.2=0))then
some true
else
some (decide (a0.2.2=1))):Option Bool).bind fun j2=>
some j2
else
(if(decide (a0.1=2))then
((if(decide ((-1000000000000)<=a0.2.2))then
some (decide (a0.2.2<=1000000000000))
else
some false):Option Bool).bind fun j3=>
some j3
else
(if(decide (a0.1=3))then
((if(decide ((-1000000000000000)<=a0.2.2))then
some (decide (a0.2.2<=1000000000000000))
else
some false):Option Bool).bind fun j4=>
some j4
else
(if(decide (a0.1=4))then
((if(decide ((-1000000000)<=a0.2.2))then
some (decide (a0.2.2<=1000000000))
else
some false):Option Bool).bind fun j5=>
some j5
else
(if(decide (a0.1=5))then
((if(decide (0<=a0.2.2))then
some (decide (a0.2.2<=109572))
else
some false):Option Bool).bind fun j6=>
some j6
else
(if(decide (a0.1=6))then
((if(decide (0<=a0.2.1))then
(if(decide (a0.2.1<8))then
(if(decide (0<=a0.2.2))then
some (decide (a0.2.2<16))
else
some false)
else
some false)
else
some false):Option Bool).bind fun j7=>
some j7
else
some false)))))))
def abk(N:Nat):bp:=⟨⟨[(0, .g af)],[],[],0⟩,⟨[(0, .l .bool)],[],[],0⟩,fun(x:af.den)=>M.cI N x⟩
theorem I4(N:Nat):ax Tryz.prog 128 (abk N):=fw (en [] false false) (N:=N) (.o (.two (.meet ⟨[(10, .l .bool)],[],[],32⟩ .nil .nil) (.two (.o (.two (.o (.two (.meet ⟨[(2, .l .bool)],[],[],96⟩ .nil .nil) (.o (.two (.meet ⟨[(2, .l .bool)],[],[],128⟩ .nil .nil) (.o (.two (.meet ⟨[(2, .l .bool)],[],[],160⟩ .nil .nil) (.o (.two (.meet ⟨[(2, .l .bool)],[],[],192⟩ .nil .nil) (.o (.two (.meet ⟨[(2, .l .bool)],[],[],224⟩ .nil .nil) (.o (.two (.meet ⟨[(2, .l .bool)],[],[],256⟩ .nil .nil) .nil)))))))))))) .nil)) .nil))) Tryz.func128 (by kernel_rfl) fun x=>by kernel_rfl
def M.dm(N:Nat)(a0:List af.den):Option Bool:=
Loop (S:=Int) (X:=Bool) (fun s1=>
(if(decide (s1<(a0.length:Int)))then
(idx a0 s1).bind fun x2=>
(M.cI N x2).bind fun y3=>
(if(!y3)then
some (.inr false)
else
some (.inl (alT.wrap (s1+1))))
else
some (.inr true))) N 0
def abl(N:Nat):bp:=⟨⟨[(0, .l (.slice af))],[],[],0⟩,⟨[(0, .l .bool)],[],[],0⟩,fun(x:List af.den)=>M.dm N x⟩
theorem abm(N:Nat):ax Tryz.prog 125 (abl N):=fw (en [ck (I4 N)] false false) (N:=N) (.o (.two (.o (.two (.loop ⟨[(7, .l ae)],[],[],64⟩ .nil) .nil)) .nil)) Tryz.func125 (by kernel_rfl) fun x=>by kernel_rfl
def M.k8(N:Nat)(a0:af.den)(a1:aa.den):Option Bool:=
((M.cI N a0).bind fun y2=>
(if y2 then
(if(decide (a0.1=a1.1))then
some (decide (a0.2.1=a1.2))
else
some false)
else
some false):Option Bool).bind fun j1=>
some j1
def abn(N:Nat):bp:=⟨⟨[(0, .g af),(1, .g aa)],[],[],0⟩,⟨[(0, .l .bool)],[],[],0⟩,fun(x:af.den×aa.den)=>M.k8 N x.1 x.2⟩
theorem V2(N:Nat):ax Tryz.prog 165 (abn N):=fw (en [ck (I4 N)] false false) (N:=N) (.o (.meet ⟨[(4, .l .bool)],[],[],48⟩ .nil .nil)) Tryz.func165 (by kernel_rfl) fun x=>by kernel_rfl
def M.gh(N:Nat)(a0:Int):Option Bool:=
((if(decide (a0=2))then
some true
else
(if(decide (a0=3))then
some true
else
some (decide (a0=4)))):Option Bool).bind fun j1=>
some j1
def abo(N:Nat):bp:=⟨⟨[(0, .l ae)],[],[],0⟩,⟨[(0, .l .bool)],[],[],0⟩,fun(x:Int)=>M.gh N x⟩
theorem Sd(N:Nat):ax Tryz.prog 188 (abo N):=fw (en [] false false) (N:=N) (.o (.meet ⟨[(2, .l .bool)],[],[],16⟩ .nil .nil)) Tryz.func188 (by kernel_rfl) fun x=>by kernel_rfl
def M.gR(N:Nat)(a0:Int)(a1:aa.den):Option Bool:=
(if(!decide (a1.2=0))then
some false
else
(if(decide (a0=36))then
((if(decide (a1.1=2))then
some true
else
some (decide (a1.1=3))):Option Bool).bind fun j1=>
some j1
else
(if(decide (a0=39))then
((M.gh N a1.1).bind fun y3=>
(if y3 then
some true
else
some (decide (a1.1=5))):Option Bool).bind fun j2=>
some j2
else
some (decide (a1.1=1)))))
def abp(N:Nat):bp:=⟨⟨[(0, .l ae),(1, .g aa)],[],[],0⟩,⟨[(0, .l .bool)],[],[],0⟩,fun(x:Int×aa.den)=>M.gR N x.1 x.2⟩
theorem abq(N:Nat):ax Tryz.prog 166 (abp N):=fw (en [ck (Sd N)] false false) (N:=N) (.o (.o (.two (.o (.two (.o (.two (.meet ⟨[(4, .l .bool)],[],[],128⟩ .nil .nil) (.o (.two (.meet ⟨[(4, .l .bool)],[],[],160⟩ .nil .nil) .nil)))) .nil)) .nil))) Tryz.func166 (by kernel_rfl) fun x=>by kernel_rfl
def M.cP(N:Nat)(a0:Int)(a1:Int):Option Bool:=
(if(decide (a0=10))then
(M.gh N a1).bind fun y1=>
some y1
else
(if(decide (a0=25))then
some (decide (a1=1))
else
some (decide (a1=5))))
def abr(N:Nat):bp:=⟨⟨[(0, .l ae),(1, .l ae)],[],[],0⟩,⟨[(0, .l .bool)],[],[],0⟩,fun(x:Int×Int)=>M.cP N x.1 x.2⟩
theorem abt(N:Nat):ax Tryz.prog 167 (abr N):=fw (en [ck (Sd N)] false false) (N:=N) .nil Tryz.func167 (by kernel_rfl) fun x=>by kernel_rfl
def M.du(N:Nat)(a0:af.den)(a1:af.den):Option Bool:=
((if(decide (a0.1=a1.1))then
some (decide (a0.2.1=a1.2.1))
else
some false):Option Bool).bind fun j1=>
some j1
def abu(N:Nat):bp:=⟨⟨[(0, .g af),(1, .g af)],[],[],0⟩,⟨[(0, .l .bool)],[],[],0⟩,fun(x:af.den×af.den)=>M.du N x.1 x.2⟩
theorem V3(N:Nat):ax Tryz.prog 169 (abu N):=fw (en [] false false) (N:=N) (.o (.meet ⟨[(4, .l .bool)],[],[],48⟩ .nil .nil)) Tryz.func169 (by kernel_rfl) fun x=>by kernel_rfl
def M.cW(N:Nat)(a0:Int)(a1:af.den)(a2:af.den):Option Bool:=
((if(decide (a0=11))then
some (decide (a0=11))
else
some (decide (a0=12))):Option Bool).bind fun j1=>
(if j1 then
((M.du N a1 a2).bind fun y3=>
(if y3 then
(M.gh N a1.1).bind fun y4=>
some y4
else
some false):Option Bool).bind fun j2=>
some j2
else
(if(decide (a0=13))then
((if(decide (a2.1=2))then
(if(decide (a1.1=2))then
some true
else
some (decide (a1.1=3)))
else
some false):Option Bool).bind fun j5=>
some j5
else
(if(decide (a0=14))then
((if(decide (a2.1=4))then
(if(decide (a1.1=3))then
some true
else
some (decide (a1.1=4)))
else
some false):Option Bool).bind fun j6=>
some j6
else
(if(decide (a0=15))then
(if(decide (a2.1=2))then
((if(decide (a1.1=2))then
some true
else
some (decide (a1.1=3))):Option Bool).bind fun j7=>
some j7
else
((if(decide (a1.1=3))then
some (decide (a2.1=3))
else
some false):Option Bool).bind fun j8=>
some j8)
else
(if(decide (a0=16))then
((if(decide (a1.1=3))then
some (decide (a2.1=3))
else
some false):Option Bool).bind fun j9=>
some j9
else
((if(decide (a0=17))then
some (decide (a0=17))
else
(if(decide (a0=18))then
some (decide (a0=18))
else
(if(decide (a0=21))then
some (decide (a0=21))
else
some (decide (a0=22))))):Option Bool).bind fun qS=>
(if qS then
((M.du N a1 a2).bind fun qs=>
(if qs then
(M.gh N a1.1).bind fun CP=>
(if CP then
some true
else
some (decide (a1.1=5)))
else
some false):Option Bool).bind fun DW=>
some DW
else
((if(decide (a0=19))then
some (decide (a0=19))
else
some (decide (a0=20))):Option Bool).bind fun GG=>
(if GG then
(M.du N a1 a2).bind fun I3=>
some I3
else
((if(decide (a0=23))then
some (decide (a0=23))
else
some (decide (a0=24))):Option Bool).bind fun RS=>
(if RS then
((if(decide (a1.1=1))then
some (decide (a2.1=1))
else
some false):Option Bool).bind fun TM=>
some TM
else
((if(decide (a0=27))then
some (decide (a0=27))
else
some (decide (a0=28))):Option Bool).bind fun j18=>
(if j18 then
((if(decide (a1.1=5))then
some (decide (a2.1=2))
else
some false):Option Bool).bind fun Qr=>
some Qr
else
((if(decide (a1.1=5))then
some (decide (a2.1=5))
else
some false):Option Bool).bind fun Qs=>
some Qs)))))))))
def abw(N:Nat):bp:=⟨⟨[(0, .l ae),(1, .g af),(2, .g af)],[],[],0⟩,⟨[(0, .l .bool)],[],[],0⟩,fun(x:Int×af.den×af.den)=>M.cW N x.1 x.2.1 x.2.2⟩
theorem abx(N:Nat):ax Tryz.prog 168 (abw N):=fw (en [ck (V3 N),ck (Sd N)] false false) (N:=N) (.o (.two (.o (.two (.meet ⟨[(8, .l .bool)],[],[],64⟩ .nil (.two (.meet ⟨[(6, .l .bool)],[],[],64⟩ .nil .nil) (.o (.two (.meet ⟨[(6, .l .bool)],[],[],96⟩ .nil .nil) (.o (.two (.meet ⟨[(6, .l .bool)],[],[],128⟩ .nil .nil) (.o (.two (.two (.o (.two (.meet ⟨[(6, .l .bool)],[],[],208⟩ .nil .nil) .nil)) (.meet ⟨[(6, .l .bool)],[],[],208⟩ .nil .nil)) (.o (.two (.meet ⟨[(6, .l .bool)],[],[],192⟩ .nil .nil) (.meet ⟨[(80, .l .bool)],[],[],192⟩ .nil (.two (.meet ⟨[(6, .l .bool)],[],[],192⟩ .nil .nil) (.meet ⟨[(98, .l .bool)],[],[],192⟩ .nil (.o (.meet ⟨[(104, .l .bool)],[],[],192⟩ .nil (.two (.meet ⟨[(6, .l .bool)],[],[],192⟩ .nil .nil) (.meet ⟨[(115, .l .bool)],[],[],192⟩ .nil (.two (.meet ⟨[(6, .l .bool)],[],[],192⟩ .nil .nil) .nil)))))))))))))))))) .nil)) (.meet ⟨[(6, .l .bool)],[],[],192⟩ .nil .nil))) Tryz.func168 (by kernel_rfl) fun x=>by kernel_rfl
def M.bx(N:Nat)(a0:aa.den)(a1:List af.den)(a2:cz.den):Option Bool:=
(if(decide (a0.1=7))then
(idx a2.2.1 a0.2).bind fun x1=>
(M.cI N x1).bind fun y2=>
some y2
else
(if(decide (a0.1=8))then
(idx a2.2.2.1 a0.2).bind fun x3=>
(M.cI N x3).bind fun y4=>
some y4
else
(if(decide (a0.1=33))then
(idx a2.2.2.2.2.2 a0.2).bind fun x5=>
((idx a1 0).bind fun x7=>
(M.k8 N x7 x5.2.1).bind fun y8=>
(if y8 then
(if(decide (1<=x5.2.2.1.1))then
some (decide (x5.2.2.1.1<=6))
else
some false)
else
some false):Option Bool).bind fun j6=>
some j6
else
(if(decide (a0.1=34))then
(idx a2.2.2.2.2.2 (alT.wrap (amh a0.2 8))).bind fun x9=>
((idx a1 0).bind fun o8=>
(if(decide (o8.1=3))then
(if(nW aa x9.2.1 (3,0))then
some (nW aa x9.2.2.1 (4,0))
else
some false)
else
some false):Option Bool).bind fun qS=>
some qS
else
((if(decide (a0.1=36))then
some (decide (a0.1=36))
else
(if(decide (a0.1=37))then
some (decide (a0.1=37))
else
(if(decide (a0.1=38))then
some (decide (a0.1=38))
else
some (decide (a0.1=39))))):Option Bool).bind fun AH=>
(if AH then
(idx a2.2.2.2.2.1 a0.2).bind fun pe=>
(M.gR N a0.1 pe).bind fun sX=>
some sX
else
(if(decide ((a1.length:Int)=1))then
(idx a1 0).bind fun E7=>
(M.cP N a0.1 E7.1).bind fun NC=>
some NC
else
(if(decide ((a1.length:Int)=2))then
(idx a1 0).bind fun JX=>
(idx a1 1).bind fun DV=>
(M.cW N a0.1 JX DV).bind fun TH=>
some TH
else
(if(decide ((a1.length:Int)=3))then
((idx a1 0).bind fun x21=>
(if(decide (x21.1=1))then
(idx a1 1).bind fun RU=>
(idx a1 2).bind fun x23=>
(M.du N RU x23).bind fun y24=>
some y24
else
some false):Option Bool).bind fun Qs=>
some Qs
else
some true))))))))
def aby(N:Nat):bp:=⟨⟨[(0, .g aa),(1, .l (.slice af)),(2, .g cz)],[],[],0⟩,⟨[(0, .l .bool)],[],[],0⟩,fun(x:aa.den×(List af.den)×cz.den)=>M.bx N x.1 x.2.1 x.2.2⟩
theorem abz(N:Nat):ax Tryz.prog 126 (aby N):=fw (en [ck (I4 N),ck (V2 N),ck (abq N),ck (abt N),ck (abx N),ck (V3 N)] false false) (N:=N) (.o (.two (.o (.two (.o (.o (.o (.o (.o (.two (.o (.meet ⟨[(6, .l .bool)],[],[],304⟩ .nil .nil)) (.o (.two (.o (.meet ⟨[(6, .l .bool)],[],[],352⟩ .nil .nil)) (.meet ⟨[(81, .l .bool)],[],[],208⟩ .nil .nil))))))))) .nil)) (.two (.o (.two (.o (.o (.o (.o (.o (.two (.meet ⟨[(6, .l .bool)],[],[],336⟩ .nil .nil) .nil)))))) .nil)) .nil))) Tryz.func126 (by kernel_rfl) fun x=>by kernel_rfl
def M.jw(N:Nat)(a0:aa.den)(a1:cz.den):Option (af.den×Int):=
(idx a1.2.2.2.2.1 a0.2).bind fun x1=>
((if(decide (a0.1=37))then
some (x1.1,(x1.2,1))
else
some (x1.1,(x1.2,0))):Option (af.den)).bind fun j2=>
((if(decide (a0.1=39))then
some (decide ((a1.2.2.2.1.length:Int)=0))
else
some false):Option Bool).bind fun j3=>
(if j3 then
some ((0,(0,0)),6)
else
bE (J:=af.den) (R:=af.den×Int) (Loop (S:=Int×af.den) (X:=(af.den)⊕(af.den×Int)) (fun s5=>
(if(decide (s5.1<(a1.2.2.2.1.length:Int)))then
(idx a1.2.2.2.1 s5.1).bind fun x6=>
((if(decide ((x6.length:Int)<=a0.2))then
some true
else
(idx x6 a0.2).bind fun x8=>
some (decide (x8.1=0))):Option Bool).bind fun j7=>
(if j7 then
some (.inr (.inr ((0,(0,0)),6)))
else
(idx x6 a0.2).bind fun x9=>
(M.k8 N x9 x1).bind fun oI=>
(if(!oI)then
some (.inr (.inr ((0,(0,0)),8)))
else
bE (J:=af.den) (R:=(Int×af.den)⊕((af.den)⊕(af.den×Int))) ((if(decide (a0.1=36))then
(M.cI N (s5.2.1,(s5.2.2.1,alT.wrap (s5.2.2.2+x9.2.2)))).bind fun qs=>
(if(!qs)then
some (.inr (.inr (.inr ((0,(0,0)),3))))
else
some (.inl (s5.2.1,(s5.2.2.1,alT.wrap (s5.2.2.2+x9.2.2)))))
else
(if(decide (a0.1=37))then
some (.inl (s5.2.1,(s5.2.2.1,if x9.2.2<s5.2.2.2 then x9.2.2 else s5.2.2.2)))
else
(if(decide (a0.1=38))then
some (.inl (s5.2.1,(s5.2.2.1,if s5.2.2.2<x9.2.2 then x9.2.2 else s5.2.2.2)))
else
(if(decide (a0.1=39))then
((if(decide (s5.1=0))then
some true
else
some (decide (s5.2.2.2<x9.2.2))):Option Bool).bind fun NB=>
(if NB then
some (.inl x9)
else
some (.inl s5.2))
else
some (.inl s5.2)))))) fun DW=>
some (.inl (alT.wrap (s5.1+1),DW))))
else
some (.inr (.inl s5.2)))) N (0,j2)) fun j4=>
some (j4,0))
def abA(N:Nat):bp:=⟨⟨[(0, .g aa),(1, .g cz)],[],[],0⟩,⟨[(0, .g af),(1, .l ae)],[],[],0⟩,fun(x:aa.den×cz.den)=>M.jw N x.1 x.2⟩
theorem abB(N:Nat):ax Tryz.prog 170 (abA N):=fw (en [ck (I4 N),ck (V2 N)] false false) (N:=N) (.o (.o (.o (.meet ⟨[],[(272, .box 76 (.leaf af))],[],305⟩ .nil (.two (.meet ⟨[(34, .l .bool)],[],[],305⟩ .nil .nil) (.join ⟨[],[(272, .box 76 (.leaf af))],[],306⟩ (.o (.two (.loop ⟨[(39, .l ae)],[(272, .box 76 (.leaf af))],[],370⟩ (.o (.o (.two (.two (.o (.two (.meet ⟨[(57, .l .bool)],[],[],466⟩ .nil .nil) (.o (.o (.o (.join ⟨[],[(272, .box 76 (.leaf af))],[],675⟩ (.o (.o (.o (.o (.o (.o (.o (.two (.meet ⟨[(109, .l .bool)],[],[],802⟩ .nil .nil) .nil)))))))) .nil)))))) .nil) .nil)))) .nil)) .nil)))))) Tryz.func170 (by kernel_rfl) fun x=>by kernel_rfl
def M.kq(N:Nat)(a0:dW.den)(a1:Int)(a2:Int):Option (Bool×Int×Int):=
((M.bK N a0.1 a1).bind fun y2=>
(if y2 then
(if(decide (a0.2.1<=a2))then
some (decide (a2<a0.2.2.1))
else
some false)
else
some false):Option Bool).bind fun j1=>
some (j1,a1,a2)
def Se(N:Nat):bp:=⟨⟨[(0, .g dW),(1, .ptr 0 [] 0),(2, .ptr 1 [] 0)],[(0, .box 3 (.leaf ae)),(1, .box 3 (.leaf ae))],[],2⟩,⟨[(0, .l .bool)],[(0, .box 3 (.leaf ae)),(1, .box 3 (.leaf ae))],[],4⟩,fun(x:dW.den×Int×Int)=>M.kq N x.1 x.2.1 x.2.2⟩
theorem Sf(N:Nat):ax Tryz.prog 189 (Se N):=fw (en [ck (TL N)] false false) (N:=N) (.o (.meet ⟨[(4, .l .bool)],[],[],34⟩ .nil .nil)) Tryz.func189 (by kernel_rfl) fun x=>by kernel_rfl
def M.db(N:Nat)(a0:List dW.den)(a1:Int)(a2:Int):Option (Int×Bool×Int×Int):=
Loop (S:=Int×Int×Int) (X:=Int×Bool×Int×Int) (fun s1=>
(if(decide (s1.1<(a0.length:Int)))then
(idx a0 s1.1).bind fun x2=>
(M.kq N x2 s1.2.1 s1.2.2).bind fun y3=>
(if y3.1 then
some (.inr (s1.1,true,y3.2.1,y3.2.2))
else
some (.inl (alT.wrap (s1.1+1),y3.2.1,y3.2.2)))
else
some (.inr (0,false,s1.2.1,s1.2.2)))) N (0,a1,a2)
def V4(N:Nat):bp:=⟨⟨[(0, .l (.slice dW)),(1, .fn 189 [(0,[],0),(1,[],0)])],[(0, .box 3 (.leaf ae)),(1, .box 3 (.leaf ae))],[],2⟩,⟨[(0, .l ae),(1, .l .bool)],[(0, .box 3 (.leaf ae)),(1, .box 3 (.leaf ae))],[],4⟩,fun(x:(List dW.den)×Int×Int)=>M.db N x.1 x.2.1 x.2.2⟩
theorem V5(N:Nat):ax Tryz.prog 77 (V4 N):=fw (en [ck (Sf N)] false false) (N:=N) (.o (.two (.o (.two (.loop ⟨[(10, .l ae)],[(0, .box 3 (.leaf ae)),(1, .box 3 (.leaf ae))],[],84⟩ .nil) .nil)) .nil)) Tryz.func77 (by kernel_rfl) fun x=>by kernel_rfl
def M.k9(N:Nat)(a0:av.den)(a1:Int)(a2:Int):Option (Int×Bool):=
(M.db N a0.2.2.2 a1 a2).bind fun y1=>
some (y1.1,y1.2.1)
def abC(N:Nat):bp:=⟨⟨[(0, .g av),(1, .l ae),(2, .l ae)],[],[],0⟩,⟨[(0, .l ae),(1, .l .bool)],[],[],0⟩,fun(x:av.den×Int×Int)=>M.k9 N x.1 x.2.1 x.2.2⟩
theorem abD(N:Nat):ax Tryz.prog 171 (abC N):=fw (en [ck (V5 N)] false false) (N:=N) .nil Tryz.func171 (by kernel_rfl) fun x=>by kernel_rfl
def M.eU(N:Nat)(a0:Int)(a1:Int):Option (Int×Int):=
some (al3.wrap ((al3.wrap ((al3.wrap ((gp .u64 a0 32)*(gp .u64 a1 32)))+(gp .u64 (al3.wrap ((al3.wrap ((gp .u64 a0 32)*(fP .and .u64 a1 4294967295)))+(gp .u64 (al3.wrap ((fP .and .u64 a0 4294967295)*(fP .and .u64 a1 4294967295))) 32))) 32)))+(gp .u64 (al3.wrap ((fP .and .u64 (al3.wrap ((al3.wrap ((gp .u64 a0 32)*(fP .and .u64 a1 4294967295)))+(gp .u64 (al3.wrap ((fP .and .u64 a0 4294967295)*(fP .and .u64 a1 4294967295))) 32))) 4294967295)+(al3.wrap ((fP .and .u64 a0 4294967295)*(gp .u64 a1 32))))) 32)),al3.wrap (a0*a1))
def abE(N:Nat):bp:=⟨⟨[(0, .l (.int .u64)),(1, .l (.int .u64))],[],[],0⟩,⟨[(0, .l (.int .u64)),(1, .l (.int .u64))],[],[],0⟩,fun(x:Int×Int)=>M.eU N x.1 x.2⟩
theorem OR(N:Nat):ax Tryz.prog 200 (abE N):=fw (en [] false false) (N:=N) .nil Tryz.func200 (by kernel_rfl) fun x=>by kernel_rfl
def M.kc(N:Nat)(a0:Int):Option Int:=
((if(decide (4294967296<=a0))then
some (gp .u64 a0 32,32)
else
some (a0,0)):Option (Int×Int)).bind fun j1=>
((if(decide (65536<=j1.1))then
some (gp .u64 j1.1 16,alT.wrap (j1.2+16))
else
some (j1.1,j1.2)):Option (Int×Int)).bind fun j2=>
((if(decide (256<=j2.1))then
some (gp .u64 j2.1 8,alT.wrap (j2.2+8))
else
some (j2.1,j2.2)):Option (Int×Int)).bind fun j3=>
(lI (⟨#[0,1,2,2,3,3,3,3,4,4,4,4,4,4,4,4,5,5,5,5,5,5,5,5,5,5,5,5,5,5,5,5,6,6,6,6,6,6,6,6,6,6,6,6,6,6,6,6,6,6,6,6,6,6,6,6,6,6,6,6,6,6,6,6,7,7,7,7,7,7,7,7,7,7,7,7,7,7,7,7,7,7,7,7,7,7,7,7,7,7,7,7,7,7,7,7,7,7,7,7,7,7,7,7,7,7,7,7,7,7,7,7,7,7,7,7,7,7,7,7,7,7,7,7,7,7,7,7,8,8,8,8,8,8,8,8,8,8,8,8,8,8,8,8,8,8,8,8,8,8,8,8,8,8,8,8,8,8,8,8,8,8,8,8,8,8,8,8,8,8,8,8,8,8,8,8,8,8,8,8,8,8,8,8,8,8,8,8,8,8,8,8,8,8,8,8,8,8,8,8,8,8,8,8,8,8,8,8,8,8,8,8,8,8,8,8,8,8,8,8,8,8,8,8,8,8,8,8,8,8,8,8,8,8,8,8,8,8,8,8,8,8,8,8,8,8,8,8,8,8,8,8,8,8,8,8]⟩:ByteArray) (IntKind.u8.wrap j3.1)).bind fun x4=>
some (alT.wrap (j3.2+(alT.wrap x4)))
def abF(N:Nat):bp:=⟨⟨[(0, .l (.int .u64))],[],[],0⟩,⟨[(0, .l ae)],[],[],0⟩,fun(x:Int)=>M.kc N x⟩
theorem abG(N:Nat):ax Tryz.prog 117 (abF N):=fw (en [] false false) (N:=N) (.o (.meet ⟨[(0, .l (.int .u64)),(2, .l ae)],[],[],16⟩ .nil (.meet ⟨[(0, .l (.int .u64)),(2, .l ae)],[],[],16⟩ .nil (.meet ⟨[(0, .l (.int .u64)),(2, .l ae)],[],[],16⟩ .nil .nil)))) Tryz.func117 (by kernel_rfl) fun x=>by kernel_rfl
def M.gi(N:Nat)(a0:Int):Option Int:=
(M.kc N a0).bind fun y1=>
some (alT.wrap (64-y1))
def abH(N:Nat):bp:=⟨⟨[(0, .l (.int .u64))],[],[],0⟩,⟨[(0, .l ae)],[],[],0⟩,fun(x:Int)=>M.gi N x⟩
theorem abI(N:Nat):ax Tryz.prog 220 (abH N):=fw (en [ck (abG N)] false false) (N:=N) .nil Tryz.func220 (by kernel_rfl) fun x=>by kernel_rfl
def M.dR(N:Nat)(a0:Int)(a1:Int)(a2:Int):Option (Int×Int):=
(if(decide (a2=0))then
none
else
(if(decide (a2<=a0))then
none
else
(if(decide (a0=0))then
(zP a1 a2).bind fun x1=>
(HP a1 a2).bind fun x2=>
some (al3.wrap x1,x2)
else
(M.gi N a2).bind fun y3=>
(HN .u64 a2 (al3.wrap y3)).bind fun x4=>
(HN .u64 a0 (al3.wrap y3)).bind fun x5=>
(HO .u64 a1 (al3.wrap (64-(al3.wrap y3)))).bind fun x6=>
(HN .u64 a1 (al3.wrap y3)).bind fun x7=>
(zP (fP .or .u64 x5 x6) (gp .u64 x4 32)).bind fun x8=>
((Loop (S:=Int×Int) (X:=Int) (fun rp=>
((if(decide (4294967296<=rp.1))then
some true
else
some (decide ((al3.wrap ((al3.wrap (4294967296*rp.2))+(gp .u64 x7 32)))<(al3.wrap (rp.1*(fP .and .u64 x4 4294967295)))))):Option Bool).bind fun AH=>
(if AH then
(if(decide (4294967296<=(al3.wrap (rp.2+(gp .u64 x4 32)))))then
some (.inr (al3.wrap (rp.1-1)))
else
some (.inl (al3.wrap (rp.1-1),al3.wrap (rp.2+(gp .u64 x4 32)))))
else
some (.inr rp.1))) N (al3.wrap x8,al3.wrap ((fP .or .u64 x5 x6)-(al3.wrap ((al3.wrap x8)*(gp .u64 x4 32))))):Option Int).bind fun qS=>
some qS:Option Int).bind fun j9=>
(zP (al3.wrap ((al3.wrap ((al3.wrap ((fP .or .u64 x5 x6)*4294967296))+(gp .u64 x7 32)))-(al3.wrap (j9*x4)))) (gp .u64 x4 32)).bind fun pe=>
((Loop (S:=Int×Int) (X:=Int) (fun GH=>
((if(decide (4294967296<=GH.2))then
some true
else
some (decide ((al3.wrap ((al3.wrap (4294967296*GH.1))+(fP .and .u64 x7 4294967295)))<(al3.wrap (GH.2*(fP .and .u64 x4 4294967295)))))):Option Bool).bind fun TM=>
(if TM then
(if(decide (4294967296<=(al3.wrap (GH.1+(gp .u64 x4 32)))))then
some (.inr (al3.wrap (GH.2-1)))
else
some (.inl (al3.wrap (GH.1+(gp .u64 x4 32)),al3.wrap (GH.2-1))))
else
some (.inr GH.2))) N (al3.wrap ((al3.wrap ((al3.wrap ((al3.wrap ((fP .or .u64 x5 x6)*4294967296))+(gp .u64 x7 32)))-(al3.wrap (j9*x4))))-(al3.wrap ((al3.wrap pe)*(gp .u64 x4 32)))),al3.wrap pe):Option Int).bind fun Qq=>
some Qq:Option Int).bind fun GG=>
(HO .u64 (al3.wrap ((al3.wrap ((al3.wrap ((al3.wrap ((al3.wrap ((al3.wrap ((fP .or .u64 x5 x6)*4294967296))+(gp .u64 x7 32)))-(al3.wrap (j9*x4))))*4294967296))+(fP .and .u64 x7 4294967295)))-(al3.wrap (GG*x4)))) (al3.wrap y3)).bind fun DV=>
some (al3.wrap ((al3.wrap (j9*4294967296))+GG),DV))))
def abJ(N:Nat):bp:=⟨⟨[(0, .l (.int .u64)),(1, .l (.int .u64)),(2, .l (.int .u64))],[],[],0⟩,⟨[(0, .l (.int .u64)),(1, .l (.int .u64))],[],[],0⟩,fun(x:Int×Int×Int)=>M.dR N x.1 x.2.1 x.2.2⟩
theorem Si(N:Nat):ax Tryz.prog 201 (abJ N):=fw (en [ck (abI N)] false false) (N:=N) (.o (.o (.o (.o (.o (.o (.o (.o (.o (.o (.o (.o (.o (.o (.meet ⟨[(15, .l (.int .u64))],[],[],832⟩ (.meet ⟨[(15, .l (.int .u64))],[],[],832⟩ (.loop ⟨[(15, .l (.int .u64)),(16, .l (.int .u64))],[],[],832⟩ (.two (.meet ⟨[(78, .l .bool)],[],[],832⟩ .nil .nil) .nil)) .nil) (.o (.o (.o (.meet ⟨[(18, .l (.int .u64))],[],[],1136⟩ (.meet ⟨[(18, .l (.int .u64))],[],[],1136⟩ (.loop ⟨[(16, .l (.int .u64)),(18, .l (.int .u64))],[],[],1136⟩ (.two (.meet ⟨[(113, .l .bool)],[],[],1136⟩ .nil .nil) .nil)) .nil) .nil))))))))))))))))))) Tryz.func201 (by kernel_rfl) fun x=>by kernel_rfl
def M.gS(N:Nat)(a0:Int)(a1:Int):Option (Int×Int×Bool):=
((if(decide (a1<0))then
some (al3.wrap (0-(al3.wrap a1)))
else
some (al3.wrap a1)):Option Int).bind fun j1=>
(M.eU N (al3.wrap a0) j1).bind fun y2=>
(if(decide (1000000<=y2.1))then
some (0,0,false)
else
(M.dR N y2.1 y2.2 1000000).bind fun y3=>
(if(decide (1000000000000000<y3.1))then
some (0,0,false)
else
(if(decide (a1<0))then
some (alT.wrap (0-(alT.wrap y3.1)),alT.wrap (0-(alT.wrap y3.2)),true)
else
some (alT.wrap y3.1,alT.wrap y3.2,true))))
def abK(N:Nat):bp:=⟨⟨[(0, .l ae),(1, .l ae)],[],[],0⟩,⟨[(0, .l ae),(1, .l ae),(2, .l .bool)],[],[],0⟩,fun(x:Int×Int)=>M.gS N x.1 x.2⟩
theorem abL(N:Nat):ax Tryz.prog 190 (abK N):=fw (en [ck (OR N),ck (Si N)] false false) (N:=N) (.o (.o (.meet ⟨[(7, .l (.int .u64))],[],[],96⟩ .nil .nil))) Tryz.func190 (by kernel_rfl) fun x=>by kernel_rfl
def M.fN(N:Nat)(a0:Int):Option Bool:=
((if(decide (0<=a0))then
some (decide (a0<=5))
else
some false):Option Bool).bind fun j1=>
some j1
def abM(N:Nat):bp:=⟨⟨[(0, .l ae)],[],[],0⟩,⟨[(0, .l .bool)],[],[],0⟩,fun(x:Int)=>M.fN N x⟩
theorem Sj(N:Nat):ax Tryz.prog 221 (abM N):=fw (en [] false false) (N:=N) (.o (.meet ⟨[(2, .l .bool)],[],[],16⟩ .nil .nil)) Tryz.func221 (by kernel_rfl) fun x=>by kernel_rfl
def M.ed(N:Nat)(a0:Int)(a1:Int):Option Bool:=
((if(decide (a1<a0))then
some true
else
some (decide (a0<(alT.wrap (0-a1))))):Option Bool).bind fun j1=>
some j1
def abN(N:Nat):bp:=⟨⟨[(0, .l ae),(1, .l ae)],[],[],0⟩,⟨[(0, .l .bool)],[],[],0⟩,fun(x:Int×Int)=>M.ed N x.1 x.2⟩
theorem Sk(N:Nat):ax Tryz.prog 222 (abN N):=fw (en [] false false) (N:=N) (.o (.meet ⟨[(4, .l .bool)],[],[],16⟩ .nil .nil)) Tryz.func222 (by kernel_rfl) fun x=>by kernel_rfl
def M.dS(N:Nat)(a0:Int):Option Int:=
(if(decide (a0<0))then
some (al3.wrap (0-(al3.wrap a0)))
else
some (al3.wrap a0))
def abO(N:Nat):bp:=⟨⟨[(0, .l ae)],[],[],0⟩,⟨[(0, .l (.int .u64))],[],[],0⟩,fun(x:Int)=>M.dS N x⟩
theorem V6(N:Nat):ax Tryz.prog 223 (abO N):=fw (en [] false false) (N:=N) .nil Tryz.func223 (by kernel_rfl) fun x=>by kernel_rfl
def M.eA(N:Nat)(a0:Int)(a1:Int)(a2:Int)(a3:Bool)(a4:Int):Option Int:=
(if(decide (a1=0))then
some a0
else
((if(decide (a4=0))then
some a3
else
(if(decide (a4=1))then
some (!a3)
else
(if(decide (a4=3))then
some true
else
(if(decide (a4=4))then
some (decide ((al3.wrap (a2-a1))<=a1))
else
(if(decide (a4=5))then
(if(decide ((al3.wrap (a2-a1))<a1))then
some true
else
(if(decide (a1=(al3.wrap (a2-a1))))then
some (decide ((amy a0 2)=1))
else
some false))
else
some false))))):Option Bool).bind fun j1=>
((if j1 then
some (al3.wrap (a0+1))
else
some a0):Option Int).bind fun j2=>
some j2)
def abP(N:Nat):bp:=⟨⟨[(0, .l (.int .u64)),(1, .l (.int .u64)),(2, .l (.int .u64)),(3, .l .bool),(4, .l ae)],[],[],0⟩,⟨[(0, .l (.int .u64))],[],[],0⟩,fun(x:Int×Int×Int×Bool×Int)=>M.eA N x.1 x.2.1 x.2.2.1 x.2.2.2.1 x.2.2.2.2⟩
theorem V7(N:Nat):ax Tryz.prog 224 (abP N):=fw (en [] false false) (N:=N) (.o (.o (.o (.two (.o (.meet ⟨[(11, .l .bool)],[],[],80⟩ .nil .nil)) (.meet ⟨[(0, .l (.int .u64))],[],[],80⟩ .nil .nil))))) Tryz.func224 (by kernel_rfl) fun x=>by kernel_rfl
def M.la(N:Nat)(a0:Int)(a1:Bool):Option Int:=
(if a1 then
some (alT.wrap (0-(alT.wrap a0)))
else
some (alT.wrap a0))
def abQ(N:Nat):bp:=⟨⟨[(0, .l (.int .u64)),(1, .l .bool)],[],[],0⟩,⟨[(0, .l ae)],[],[],0⟩,fun(x:Int×Bool)=>M.la N x.1 x.2⟩
theorem V8(N:Nat):ax Tryz.prog 225 (abQ N):=fw (en [] false false) (N:=N) .nil Tryz.func225 (by kernel_rfl) fun x=>by kernel_rfl
def M.fB(N:Nat)(a0:Int)(a1:Int)(a2:Int):Option (Int×Int):=
(M.fN N a2).bind fun y1=>
(if(!y1)then
some (0,1)
else
(if(decide (a1=0))then
some (0,12)
else
((M.ed N a0 4611686018427387904).bind fun y3=>
(if y3 then
some true
else
(M.ed N a1 4611686018427387904).bind fun y4=>
some y4):Option Bool).bind fun j2=>
(if j2 then
some (0,3)
else
(M.dS N a0).bind fun y5=>
(M.dS N a1).bind fun y6=>
(zP y5 y6).bind fun x7=>
(HP y5 y6).bind fun x8=>
(M.eA N (al3.wrap x7) x8 y6 (!decide ((decide (a0<0))=(decide (a1<0)))) a2).bind fun y9=>
(M.la N y9 (!decide ((decide (a0<0))=(decide (a1<0))))).bind fun oI=>
some (oI,0))))
def abR(N:Nat):bp:=⟨⟨[(0, .l ae),(1, .l ae),(2, .l ae)],[],[],0⟩,⟨[(0, .l ae),(1, .l ae)],[],[],0⟩,fun(x:Int×Int×Int)=>M.fB N x.1 x.2.1 x.2.2⟩
theorem OT(N:Nat):ax Tryz.prog 202 (abR N):=fw (en [ck (Sj N),ck (Sk N),ck (V6 N),ck (V7 N),ck (V8 N)] false false) (N:=N) (.o (.o (.o (.two (.meet ⟨[(22, .l .bool)],[],[],112⟩ .nil .nil) .nil)))) Tryz.func202 (by kernel_rfl) fun x=>by kernel_rfl
def M.jg(N:Nat)(a0:Int)(a1:Int)(a2:Int):Option (Int×Int):=
((if(decide ((alT.wrap (a0+(alT.wrap (amh a1 1000000))))<(-2000000000000000)))then
some true
else
some (decide (2000000000000000<(alT.wrap (a0+(alT.wrap (amh a1 1000000))))))):Option Bool).bind fun j1=>
(if j1 then
some (0,3)
else
((if(decide (1<(alT.wrap (a0+(alT.wrap (amh a1 1000000))))))then
some (alT.wrap ((amy (alT.wrap (a0+(alT.wrap (amh a1 1000000)))) 2)+2))
else
(if(decide ((alT.wrap (a0+(alT.wrap (amh a1 1000000))))<(-1)))then
some (alT.wrap ((amy (alT.wrap (a0+(alT.wrap (amh a1 1000000)))) 2)-2))
else
some (amy (alT.wrap (a0+(alT.wrap (amh a1 1000000)))) 2))):Option Int).bind fun j2=>
(M.fB N (alT.wrap ((alT.wrap (j2*1000000))+(amy a1 1000000))) 1000000 a2).bind fun y3=>
(if(!decide (y3.2=0))then
some (0,y3.2)
else
((if(decide ((alT.wrap ((alT.wrap ((alT.wrap (a0+(alT.wrap (amh a1 1000000))))-j2))+y3.1))<(-1000000000000000)))then
some true
else
some (decide (1000000000000000<(alT.wrap ((alT.wrap ((alT.wrap (a0+(alT.wrap (amh a1 1000000))))-j2))+y3.1))))):Option Bool).bind fun j4=>
(if j4 then
some (0,3)
else
some (alT.wrap ((alT.wrap ((alT.wrap (a0+(alT.wrap (amh a1 1000000))))-j2))+y3.1),0))))
def abS(N:Nat):bp:=⟨⟨[(0, .l ae),(1, .l ae),(2, .l ae)],[],[],0⟩,⟨[(0, .l ae),(1, .l ae)],[],[],0⟩,fun(x:Int×Int×Int)=>M.jg N x.1 x.2.1 x.2.2⟩
theorem abT(N:Nat):ax Tryz.prog 191 (abS N):=fw (en [ck (OT N)] false false) (N:=N) (.o (.o (.o (.two (.meet ⟨[(23, .l .bool)],[],[],160⟩ .nil .nil) (.o (.two (.meet ⟨[(8, .l ae)],[],[],208⟩ .nil .nil) (.o (.o (.o (.two (.meet ⟨[(58, .l .bool)],[],[],512⟩ .nil .nil) .nil)))))))))) Tryz.func191 (by kernel_rfl) fun x=>by kernel_rfl
def M.jh(N:Nat)(a0:av.den)(a1:Int)(a2:Int)(a3:Int):Option (Int×Int):=
((if(decide (a3<0))then
some true
else
some (decide (5<a3))):Option Bool).bind fun j1=>
(if j1 then
some (0,1)
else
((if(!(nW aa a0.2.1 (3,0)))then
some true
else
some (!(nW aa a0.2.2.1 (4,0)))):Option Bool).bind fun j2=>
(if j2 then
some (0,8)
else
((if(decide (a2<(-1000000000000000)))then
some true
else
some (decide (1000000000000000<a2))):Option Bool).bind fun j3=>
(if j3 then
some (0,3)
else
bE (J:=Int×Int) (R:=Int×Int) (Loop (S:=Int×Int×Int) (X:=(Int×Int)⊕(Int×Int)) (fun s5=>
(if(decide (s5.2.2<(a0.2.2.2.length:Int)))then
bE (J:=Int×Int) (R:=(Int×Int×Int)⊕((Int×Int)⊕(Int×Int))) ((idx a0.2.2.2 s5.2.2).bind fun x7=>
((M.bK N x7.1 a1).bind fun y9=>
(if(!y9)then
some true
else
some (decide ((if a2<x7.2.2.1 then a2 else x7.2.2.1)<=(if x7.2.1<0 then 0 else x7.2.1)))):Option Bool).bind fun j8=>
(if j8 then
some (.inl (s5.1,s5.2.1))
else
(M.gS N (alT.wrap ((if a2<x7.2.2.1 then a2 else x7.2.2.1)-(if x7.2.1<0 then 0 else x7.2.1))) x7.2.2.2).bind fun oI=>
(if(!oI.2.2)then
some (.inr (.inr (.inr (0,3))))
else
some (.inl (alT.wrap (s5.1+oI.1),alT.wrap (s5.2.1+oI.2.1)))))) fun j6=>
some (.inl (j6.1,j6.2,alT.wrap (s5.2.2+1)))
else
some (.inr (.inl (s5.1,s5.2.1))))) N (0,0,0)) fun j4=>
(M.jg N j4.1 j4.2 a3).bind fun lJ=>
some (lJ.1,lJ.2))))
def abU(N:Nat):bp:=⟨⟨[(0, .g av),(1, .l ae),(2, .l ae),(3, .l ae)],[],[],0⟩,⟨[(0, .l ae),(1, .l ae)],[],[],0⟩,fun(x:av.den×Int×Int×Int)=>M.jh N x.1 x.2.1 x.2.2.1 x.2.2.2⟩
theorem abV(N:Nat):ax Tryz.prog 172 (abU N):=fw (en [ck (TL N),ck (abL N),ck (abT N)] false false) (N:=N) (.o (.two (.meet ⟨[(24, .l .bool)],[],[],48⟩ .nil .nil) (.two (.meet ⟨[(34, .l .bool)],[],[],48⟩ .nil .nil) (.two (.meet ⟨[(40, .l .bool)],[],[],48⟩ .nil .nil) (.o (.join ⟨[(10, .l ae),(11, .l ae)],[],[],80⟩ (.o (.two (.loop ⟨[(10, .l ae),(11, .l ae),(44, .l ae)],[],[],144⟩ (.o (.o (.two (.join ⟨[(10, .l ae),(11, .l ae)],[],[],160⟩ (.o (.o (.two (.meet ⟨[(64, .l .bool)],[],[],368⟩ .nil .nil) .nil))) .nil) .nil)))) .nil)) .nil)))))) Tryz.func172 (by kernel_rfl) fun x=>by kernel_rfl
def M.dK(N:Nat)(a0:Bool):Option (af.den):=
(if a0 then
some (1,(0,1))
else
some (1,(0,0)))
def abW(N:Nat):bp:=⟨⟨[(0, .l .bool)],[],[],0⟩,⟨[(0, .g af)],[],[],0⟩,fun(x:Bool)=>M.dK N x⟩
theorem V9(N:Nat):ax Tryz.prog 192 (abW N):=fw (en [] false false) (N:=N) .nil Tryz.func192 (by kernel_rfl) fun x=>by kernel_rfl
def M.kr(N:Nat)(a0:Int):Option Bool:=
((if(decide (0<=a0))then
some (decide (a0<=109572))
else
some false):Option Bool).bind fun j1=>
some j1
def abX(N:Nat):bp:=⟨⟨[(0, .l ae)],[],[],0⟩,⟨[(0, .l .bool)],[],[],0⟩,fun(x:Int)=>M.kr N x⟩
theorem Sl(N:Nat):ax Tryz.prog 203 (abX N):=fw (en [] false false) (N:=N) (.o (.meet ⟨[(2, .l .bool)],[],[],16⟩ .nil .nil)) Tryz.func203 (by kernel_rfl) fun x=>by kernel_rfl
def M.lb(N:Nat)(a0:Int):Option Int:=
some (alT.wrap ((alT.wrap ((alT.wrap (amh a0 4))-(alT.wrap (amh a0 100))))+(alT.wrap (amh a0 400))))
def abY(N:Nat):bp:=⟨⟨[(0, .l ae)],[],[],0⟩,⟨[(0, .l ae)],[],[],0⟩,fun(x:Int)=>M.lb N x⟩
theorem abZ(N:Nat):ax Tryz.prog 226 (abY N):=fw (en [] false false) (N:=N) .nil Tryz.func226 (by kernel_rfl) fun x=>by kernel_rfl
def M.fC(N:Nat)(a0:Int):Option Int:=
(M.lb N (alT.wrap (a0-1))).bind fun y1=>
(M.lb N 1899).bind fun y2=>
some (alT.wrap ((alT.wrap ((alT.wrap ((alT.wrap (a0-1900))*365))+y1))-y2))
def ab0(N:Nat):bp:=⟨⟨[(0, .l ae)],[],[],0⟩,⟨[(0, .l ae)],[],[],0⟩,fun(x:Int)=>M.fC N x⟩
theorem Wa(N:Nat):ax Tryz.prog 204 (ab0 N):=fw (en [ck (abZ N)] false false) (N:=N) .nil Tryz.func204 (by kernel_rfl) fun x=>by kernel_rfl
def M.pD(N:Nat)(a0:Int):Option Bool:=
((if(decide ((amy a0 4)=0))then
(if(!decide ((amy a0 100)=0))then
some true
else
some (decide ((amy a0 400)=0)))
else
some false):Option Bool).bind fun j1=>
some j1
def ab1(N:Nat):bp:=⟨⟨[(0, .l ae)],[],[],0⟩,⟨[(0, .l .bool)],[],[],0⟩,fun(x:Int)=>M.pD N x⟩
theorem ab2(N:Nat):ax Tryz.prog 227 (ab1 N):=fw (en [] false false) (N:=N) (.o (.meet ⟨[(2, .l .bool)],[],[],16⟩ .nil .nil)) Tryz.func227 (by kernel_rfl) fun x=>by kernel_rfl
def M.dY(N:Nat)(a0:Int)(a1:Int):Option Int:=
((if(decide (a1<1))then
some true
else
some (decide (12<a1))):Option Bool).bind fun j1=>
(if j1 then
some 0
else
((if(decide (a1=2))then
(M.pD N a0).bind fun y3=>
some y3
else
some false):Option Bool).bind fun j2=>
(if j2 then
some 29
else
(idx ([31,28,31,30,31,30,31,31,30,31,30,31]:List Int) (alT.wrap (a1-1))).bind fun x4=>
some x4))
def ab3(N:Nat):bp:=⟨⟨[(0, .l ae),(1, .l ae)],[],[],0⟩,⟨[(0, .l ae)],[],[],0⟩,fun(x:Int×Int)=>M.dY N x.1 x.2⟩
theorem Sm(N:Nat):ax Tryz.prog 205 (ab3 N):=fw (en [ck (ab2 N)] false false) (N:=N) (.o (.two (.meet ⟨[(10, .l .bool)],[],[],16⟩ .nil .nil) (.two (.meet ⟨[(16, .l .bool)],[],[],16⟩ .nil .nil) .nil))) Tryz.func205 (by kernel_rfl) fun x=>by kernel_rfl
def M.ku(N:Nat)(a0:Int):Option (Int×Int×Int):=
(M.kr N a0).bind fun y1=>
(if(!y1)then
some (0,0,0)
else
(Loop (S:=Int) (X:=Int) (fun s3=>
(M.fC N (alT.wrap (s3+1))).bind fun y4=>
(if(decide (y4<=a0))then
some (.inl (alT.wrap (s3+1)))
else
some (.inr s3))) N (alT.wrap (1900+(alT.wrap (amh a0 366)))):Option Int).bind fun j2=>
(M.fC N j2).bind fun y5=>
Loop (S:=Int×Int) (X:=Int×Int×Int) (fun s6=>
(if(decide (s6.2<12))then
(M.dY N j2 (alT.wrap (s6.2+1))).bind fun y7=>
(if(decide (s6.1<y7))then
some (.inr (j2,alT.wrap (s6.2+1),alT.wrap (s6.1+1)))
else
some (.inl (alT.wrap (s6.1-y7),alT.wrap (s6.2+1))))
else
some (.inr (0,0,0)))) N (alT.wrap (a0-y5),0))
def ab4(N:Nat):bp:=⟨⟨[(0, .l ae)],[],[],0⟩,⟨[(0, .l ae),(1, .l ae),(2, .l ae)],[],[],0⟩,fun(x:Int)=>M.ku N x⟩
theorem Sp(N:Nat):ax Tryz.prog 193 (ab4 N):=fw (en [ck (Sl N),ck (Wa N),ck (Sm N)] false false) (N:=N) (.o (.o (.o (.meet ⟨[(5, .l ae)],[],[],160⟩ (.two (.loop ⟨[(5, .l ae)],[],[],160⟩ .nil) .nil) (.o (.two (.o (.two (.loop ⟨[(6, .l ae),(26, .l ae)],[],[],256⟩ .nil) .nil)) .nil)))))) Tryz.func193 (by kernel_rfl) fun x=>by kernel_rfl
def M.kw(N:Nat)(a0:Int)(a1:af.den):Option (af.den):=
(if(decide (a0=10))then
some (a1.1,(0,alT.wrap (0-a1.2.2)))
else
(if(decide (a0=25))then
(M.dK N (decide (a1.2.2=0))).bind fun y1=>
some y1
else
(M.ku N a1.2.2).bind fun y2=>
(if(decide (a0=31))then
some (2,(0,y2.1))
else
some (2,(0,y2.2.1)))))
def ab5(N:Nat):bp:=⟨⟨[(0, .l ae),(1, .g af)],[],[],0⟩,⟨[(0, .g af)],[],[],0⟩,fun(x:Int×af.den)=>M.kw N x.1 x.2⟩
theorem ab6(N:Nat):ax Tryz.prog 173 (ab5 N):=fw (en [ck (V9 N),ck (Sp N)] false false) (N:=N) .nil Tryz.func173 (by kernel_rfl) fun x=>by kernel_rfl
def M.mL(N:Nat)(a0:Int)(a1:Int):Option (Int×Int):=
(M.eU N (al3.wrap (if a0<(alT.wrap (0-a0))then(alT.wrap (0-a0))else a0)) (al3.wrap (if a1<(alT.wrap (0-a1))then(alT.wrap (0-a1))else a1))).bind fun y1=>
((if(!decide (y1.1=0))then
some true
else
some (decide (1000000000000000<y1.2))):Option Bool).bind fun j2=>
(if j2 then
some (0,3)
else
(if(!decide ((decide (a0<0))=(decide (a1<0))))then
some (alT.wrap (0-(alT.wrap y1.2)),0)
else
some (alT.wrap y1.2,0)))
def ab7(N:Nat):bp:=⟨⟨[(0, .l ae),(1, .l ae)],[],[],0⟩,⟨[(0, .l ae),(1, .l ae)],[],[],0⟩,fun(x:Int×Int)=>M.mL N x.1 x.2⟩
theorem ab8(N:Nat):ax Tryz.prog 206 (ab7 N):=fw (en [ck (OR N)] false false) (N:=N) (.o (.o (.two (.meet ⟨[(27, .l .bool)],[],[],288⟩ .nil .nil) .nil))) Tryz.func206 (by kernel_rfl) fun x=>by kernel_rfl
def M.mM(N:Nat)(a0:Int)(a1:Int)(a2:Int)(a3:Int):Option (Int×Int):=
(M.fN N a3).bind fun y1=>
(if(!y1)then
some (0,1)
else
(if(decide (a2=0))then
some (0,12)
else
((M.ed N a0 1000000000000000).bind fun y3=>
(if y3 then
some true
else
(M.ed N a1 1000000000).bind fun y4=>
(if y4 then
some true
else
(M.ed N a2 1000000000).bind fun y5=>
some y5)):Option Bool).bind fun j2=>
(if j2 then
some (0,3)
else
(M.dS N a0).bind fun y6=>
(M.dS N a1).bind fun y7=>
(M.eU N y6 y7).bind fun y8=>
(M.dS N a2).bind fun y9=>
(if(decide (y9<=y8.1))then
some (0,3)
else
(M.dR N y8.1 y8.2 y9).bind fun oI=>
(if(decide (1000000000000000<oI.1))then
some (0,3)
else
(M.eA N oI.1 oI.2 y9 (!decide ((!decide ((decide (a0<0))=(decide (a1<0))))=(decide (a2<0)))) a3).bind fun lJ=>
(if(decide (1000000000000000<lJ))then
some (0,3)
else
(M.la N lJ (!decide ((!decide ((decide (a0<0))=(decide (a1<0))))=(decide (a2<0))))).bind fun qs=>
some (qs,0)))))))
def ab9(N:Nat):bp:=⟨⟨[(0, .l ae),(1, .l ae),(2, .l ae),(3, .l ae)],[],[],0⟩,⟨[(0, .l ae),(1, .l ae)],[],[],0⟩,fun(x:Int×Int×Int×Int)=>M.mM N x.1 x.2.1 x.2.2.1 x.2.2.2⟩
theorem aca(N:Nat):ax Tryz.prog 228 (ab9 N):=fw (en [ck (OR N),ck (Si N),ck (Sj N),ck (Sk N),ck (V6 N),ck (V7 N),ck (V8 N)] false false) (N:=N) (.o (.o (.o (.two (.meet ⟨[(30, .l .bool)],[],[],112⟩ .nil .nil) .nil)))) Tryz.func228 (by kernel_rfl) fun x=>by kernel_rfl
def M.oJ(N:Nat)(a0:Int)(a1:Int)(a2:Int):Option (Int×Int):=
(M.mM N a0 a1 1000000 a2).bind fun y1=>
some (y1.1,y1.2)
def acb(N:Nat):bp:=⟨⟨[(0, .l ae),(1, .l ae),(2, .l ae)],[],[],0⟩,⟨[(0, .l ae),(1, .l ae)],[],[],0⟩,fun(x:Int×Int×Int)=>M.oJ N x.1 x.2.1 x.2.2⟩
theorem acd(N:Nat):ax Tryz.prog 207 (acb N):=fw (en [ck (aca N)] false false) (N:=N) .nil Tryz.func207 (by kernel_rfl) fun x=>by kernel_rfl
def M.lc(N:Nat)(a0:Int):Option Bool:=
((if(decide (0<=a0))then
some (decide (a0<=5))
else
some false):Option Bool).bind fun j1=>
some j1
def ace(N:Nat):bp:=⟨⟨[(0, .l ae)],[],[],0⟩,⟨[(0, .l .bool)],[],[],0⟩,fun(x:Int)=>M.lc N x⟩
theorem Wb(N:Nat):ax Tryz.prog 229 (ace N):=fw (en [] false false) (N:=N) (.o (.meet ⟨[(2, .l .bool)],[],[],16⟩ .nil .nil)) Tryz.func229 (by kernel_rfl) fun x=>by kernel_rfl
def M.ji(N:Nat)(a0:Int)(a1:Int):Option Bool:=
((if(decide (a1<a0))then
some true
else
some (decide (a0<(alT.wrap (0-a1))))):Option Bool).bind fun j1=>
some j1
def acf(N:Nat):bp:=⟨⟨[(0, .l ae),(1, .l ae)],[],[],0⟩,⟨[(0, .l .bool)],[],[],0⟩,fun(x:Int×Int)=>M.ji N x.1 x.2⟩
theorem Wc(N:Nat):ax Tryz.prog 230 (acf N):=fw (en [] false false) (N:=N) (.o (.meet ⟨[(4, .l .bool)],[],[],16⟩ .nil .nil)) Tryz.func230 (by kernel_rfl) fun x=>by kernel_rfl
def M.sA(N:Nat)(a0:Int)(a1:Int)(a2:Int):Option (Int×Int):=
(M.lc N a2).bind fun y1=>
(if(!y1)then
some (0,1)
else
((M.ji N a0 1000000000).bind fun y3=>
(if y3 then
some true
else
(M.ji N a1 1000000000).bind fun y4=>
some y4):Option Bool).bind fun j2=>
(if j2 then
some (0,3)
else
(M.fB N (alT.wrap (a0*a1)) 1000000 a2).bind fun y5=>
(if(!decide (y5.2=0))then
some (0,y5.2)
else
(M.ji N y5.1 1000000000).bind fun y6=>
(if y6 then
some (0,3)
else
some (y5.1,0)))))
def acg(N:Nat):bp:=⟨⟨[(0, .l ae),(1, .l ae),(2, .l ae)],[],[],0⟩,⟨[(0, .l ae),(1, .l ae)],[],[],0⟩,fun(x:Int×Int×Int)=>M.sA N x.1 x.2.1 x.2.2⟩
theorem ach(N:Nat):ax Tryz.prog 208 (acg N):=fw (en [ck (OT N),ck (Wb N),ck (Wc N)] false false) (N:=N) (.o (.o (.two (.meet ⟨[(18, .l .bool)],[],[],80⟩ .nil .nil) .nil))) Tryz.func208 (by kernel_rfl) fun x=>by kernel_rfl
def M.ma(N:Nat)(a0:Int)(a1:Int)(a2:Int):Option (Int×Int):=
(M.fN N a2).bind fun y1=>
(if(!y1)then
some (0,1)
else
(if(decide (a1<1))then
some (0,12)
else
((M.ed N a0 1000000000000000).bind fun y3=>
(if y3 then
some true
else
some (decide (1000000000000000<a1))):Option Bool).bind fun j2=>
(if j2 then
some (0,3)
else
(M.fB N a0 a1 a2).bind fun y4=>
(if(!decide (y4.2=0))then
some (0,y4.2)
else
(M.ed N (alT.wrap (y4.1*a1)) 1000000000000000).bind fun y5=>
(if y5 then
some (0,3)
else
some (alT.wrap (y4.1*a1),0))))))
def aci(N:Nat):bp:=⟨⟨[(0, .l ae),(1, .l ae),(2, .l ae)],[],[],0⟩,⟨[(0, .l ae),(1, .l ae)],[],[],0⟩,fun(x:Int×Int×Int)=>M.ma N x.1 x.2.1 x.2.2⟩
theorem acj(N:Nat):ax Tryz.prog 209 (aci N):=fw (en [ck (OT N),ck (Sj N),ck (Sk N)] false false) (N:=N) (.o (.o (.o (.two (.meet ⟨[(20, .l .bool)],[],[],112⟩ .nil .nil) .nil)))) Tryz.func209 (by kernel_rfl) fun x=>by kernel_rfl
def M.mb(N:Nat)(a0:Int)(a1:Int)(a2:Int)(a3:Bool)(a4:Int):Option Bool:=
(if(decide (a1=0))then
some false
else
(if(decide (a4=0))then
some a3
else
(if(decide (a4=1))then
some (!a3)
else
(if(decide (a4=3))then
some true
else
(if(decide (a4=4))then
some (decide ((al3.wrap (a2-a1))<=a1))
else
(if(decide (a4=5))then
((if(decide ((al3.wrap (a2-a1))<a1))then
some true
else
(if(decide (a1=(al3.wrap (a2-a1))))then
some (decide ((amy a0 2)=1))
else
some false)):Option Bool).bind fun j1=>
some j1
else
some false))))))
def ack(N:Nat):bp:=⟨⟨[(0, .l (.int .u64)),(1, .l (.int .u64)),(2, .l (.int .u64)),(3, .l .bool),(4, .l ae)],[],[],0⟩,⟨[(0, .l .bool)],[],[],0⟩,fun(x:Int×Int×Int×Bool×Int)=>M.mb N x.1 x.2.1 x.2.2.1 x.2.2.2.1 x.2.2.2.2⟩
theorem acm(N:Nat):ax Tryz.prog 231 (ack N):=fw (en [] false false) (N:=N) (.o (.o (.two (.o (.two (.o (.o (.o (.o (.o (.o (.o (.o (.o (.two (.meet ⟨[(10, .l .bool)],[],[],224⟩ .nil .nil) .nil)))))))))) .nil)) .nil))) Tryz.func231 (by kernel_rfl) fun x=>by kernel_rfl
def M.ld(N:Nat)(a0:Int)(a1:Int)(a2:Int):Option (Int×Int):=
(M.lc N a2).bind fun y1=>
(if(!y1)then
some (0,1)
else
(if(decide (a1=0))then
some (0,12)
else
((M.ji N a0 1000000000000000).bind fun y3=>
(if y3 then
some true
else
(M.ji N a1 1000000000000000).bind fun y4=>
some y4):Option Bool).bind fun j2=>
(if j2 then
some (0,3)
else
(M.eU N (al3.wrap (if a0<(alT.wrap (0-a0))then(alT.wrap (0-a0))else a0)) 1000000).bind fun y5=>
(if(decide ((al3.wrap (if a1<(alT.wrap (0-a1))then(alT.wrap (0-a1))else a1))<=y5.1))then
some (0,3)
else
(M.dR N y5.1 y5.2 (al3.wrap (if a1<(alT.wrap (0-a1))then(alT.wrap (0-a1))else a1))).bind fun y6=>
(if(decide (1000000000<y6.1))then
some (0,3)
else
((M.mb N y6.1 y6.2 (al3.wrap (if a1<(alT.wrap (0-a1))then(alT.wrap (0-a1))else a1)) (!decide ((decide (a0<0))=(decide (a1<0)))) a2).bind fun y8=>
(if y8 then
some (alT.wrap ((alT.wrap y6.1)+1))
else
some (alT.wrap y6.1)):Option Int).bind fun j7=>
(if(decide (1000000000<j7))then
some (0,3)
else
((if(!decide ((decide (a0<0))=(decide (a1<0))))then
some (alT.wrap (0-j7))
else
some j7):Option Int).bind fun j9=>
some (j9,0)))))))
def acn(N:Nat):bp:=⟨⟨[(0, .l ae),(1, .l ae),(2, .l ae)],[],[],0⟩,⟨[(0, .l ae),(1, .l ae)],[],[],0⟩,fun(x:Int×Int×Int)=>M.ld N x.1 x.2.1 x.2.2⟩
theorem aco(N:Nat):ax Tryz.prog 210 (acn N):=fw (en [ck (OR N),ck (Si N),ck (Wb N),ck (Wc N),ck (acm N)] false false) (N:=N) (.o (.o (.o (.two (.meet ⟨[(25, .l .bool)],[],[],112⟩ .nil .nil) (.o (.o (.o (.o (.o (.o (.o (.meet ⟨[(14, .l ae)],[],[],752⟩ .nil (.o (.meet ⟨[(14, .l ae)],[],[],784⟩ .nil .nil)))))))))))))) Tryz.func210 (by kernel_rfl) fun x=>by kernel_rfl
def M.kJ(N:Nat)(a0:aa.den)(a1:af.den)(a2:af.den):Option (af.den×Int):=
((if(decide (a0.1=13))then
(M.mL N a1.2.2 a2.2.2).bind fun y2=>
some (y2.2,(a1.1,(0,y2.1)))
else
((if(decide (a0.1=14))then
some (decide (a1.1=3))
else
some false):Option Bool).bind fun j3=>
(if j3 then
(M.oJ N a1.2.2 a2.2.2 a0.2).bind fun y4=>
some (y4.2,(a1.1,(0,y4.1)))
else
(if(decide (a0.1=14))then
(M.sA N a1.2.2 a2.2.2 a0.2).bind fun y5=>
some (y5.2,(a1.1,(0,y5.1)))
else
(if(decide (a0.1=16))then
(M.ma N a1.2.2 a2.2.2 a0.2).bind fun y6=>
some (y6.2,(a1.1,(0,y6.1)))
else
(if(decide (a2.1=2))then
(M.fB N a1.2.2 a2.2.2 a0.2).bind fun y7=>
some (y7.2,(a1.1,(0,y7.1)))
else
(M.ld N a1.2.2 a2.2.2 a0.2).bind fun y8=>
some (y8.2,(4,(0,y8.1)))))))):Option (Int×af.den)).bind fun j1=>
some (j1.2,j1.1)
def acp(N:Nat):bp:=⟨⟨[(0, .g aa),(1, .g af),(2, .g af)],[],[],0⟩,⟨[(0, .g af),(1, .l ae)],[],[],0⟩,fun(x:aa.den×af.den×af.den)=>M.kJ N x.1 x.2.1 x.2.2⟩
theorem acq(N:Nat):ax Tryz.prog 194 (acp N):=fw (en [ck (OT N),ck (ab8 N),ck (acd N),ck (ach N),ck (acj N),ck (aco N)] false false) (N:=N) (.o (.o (.two (.meet ⟨[(9, .l ae)],[(128, .box 76 (.leaf af))],[],177⟩ (.o (.o (.meet ⟨[(38, .l .bool)],[],[],240⟩ .nil .nil))) .nil) .nil))) Tryz.func194 (by kernel_rfl) fun x=>by kernel_rfl
def M.mN(N:Nat)(a0:Int)(a1:Int)(a2:Int):Option (Int×Int):=
((if(decide (a0<1900))then
some true
else
(if(decide (2199<a0))then
some true
else
(if(decide (a1<1))then
some true
else
(if(decide (12<a1))then
some true
else
(if(decide (a2<1))then
some true
else
(M.dY N a0 a1).bind fun y2=>
some (decide (y2<a2))))))):Option Bool).bind fun j1=>
(if j1 then
some (0,3)
else
(M.fC N a0).bind fun y3=>
(Loop (S:=Int×Int) (X:=Int) (fun s5=>
(if(decide (s5.2<(alT.wrap (a1-1))))then
(M.dY N a0 (alT.wrap (s5.2+1))).bind fun y6=>
some (.inl (alT.wrap (s5.1+y6),alT.wrap (s5.2+1)))
else
some (.inr s5.1))) N (y3,0):Option Int).bind fun j4=>
some (alT.wrap ((alT.wrap (j4+a2))-1),0))
def acr(N:Nat):bp:=⟨⟨[(0, .l ae),(1, .l ae),(2, .l ae)],[],[],0⟩,⟨[(0, .l ae),(1, .l ae)],[],[],0⟩,fun(x:Int×Int×Int)=>M.mN N x.1 x.2.1 x.2.2⟩
theorem acs(N:Nat):ax Tryz.prog 211 (acr N):=fw (en [ck (Wa N),ck (Sm N)] false false) (N:=N) (.o (.two (.meet ⟨[(34, .l .bool)],[],[],32⟩ .nil .nil) (.o (.meet ⟨[(8, .l ae)],[],[],80⟩ (.o (.two (.loop ⟨[(8, .l ae),(39, .l ae)],[],[],128⟩ .nil) .nil)) .nil)))) Tryz.func211 (by kernel_rfl) fun x=>by kernel_rfl
def M.jk(N:Nat)(a0:Int)(a1:Int):Option (Int×Int):=
((M.kr N a0).bind fun y2=>
(if(!y2)then
some true
else
(if(decide (a1<(-3600)))then
some true
else
some (decide (3600<a1)))):Option Bool).bind fun j1=>
(if j1 then
some (0,3)
else
(M.ku N a0).bind fun y3=>
((if(decide ((alT.wrap ((alT.wrap ((alT.wrap ((alT.wrap ((alT.wrap (y3.1-1900))*12))+y3.2.1))-1))+a1))<0))then
some true
else
some (decide (3599<(alT.wrap ((alT.wrap ((alT.wrap ((alT.wrap ((alT.wrap (y3.1-1900))*12))+y3.2.1))-1))+a1))))):Option Bool).bind fun j4=>
(if j4 then
some (0,3)
else
(M.dY N (alT.wrap (1900+(alT.wrap (amh (alT.wrap ((alT.wrap ((alT.wrap ((alT.wrap ((alT.wrap (y3.1-1900))*12))+y3.2.1))-1))+a1)) 12)))) (alT.wrap ((amy (alT.wrap ((alT.wrap ((alT.wrap ((alT.wrap ((alT.wrap (y3.1-1900))*12))+y3.2.1))-1))+a1)) 12)+1))).bind fun y5=>
(M.mN N (alT.wrap (1900+(alT.wrap (amh (alT.wrap ((alT.wrap ((alT.wrap ((alT.wrap ((alT.wrap (y3.1-1900))*12))+y3.2.1))-1))+a1)) 12)))) (alT.wrap ((amy (alT.wrap ((alT.wrap ((alT.wrap ((alT.wrap ((alT.wrap (y3.1-1900))*12))+y3.2.1))-1))+a1)) 12)+1)) (if y5<y3.2.2 then y5 else y3.2.2)).bind fun y6=>
some (y6.1,y6.2)))
def acu(N:Nat):bp:=⟨⟨[(0, .l ae),(1, .l ae)],[],[],0⟩,⟨[(0, .l ae),(1, .l ae)],[],[],0⟩,fun(x:Int×Int)=>M.jk N x.1 x.2⟩
theorem We(N:Nat):ax Tryz.prog 195 (acu N):=fw (en [ck (Sp N),ck (Sl N),ck (Sm N),ck (acs N)] false false) (N:=N) (.o (.two (.meet ⟨[(20, .l .bool)],[],[],32⟩ .nil .nil) (.o (.o (.two (.meet ⟨[(40, .l .bool)],[],[],320⟩ .nil .nil) .nil))))) Tryz.func195 (by kernel_rfl) fun x=>by kernel_rfl
def M.iH(N:Nat)(a0:Int)(a1:Int):Option Int:=
((M.kr N a0).bind fun y2=>
(if(!y2)then
some true
else
(M.kr N a1).bind fun y3=>
(if(!y3)then
some true
else
some (decide (a1<a0)))):Option Bool).bind fun j1=>
(if j1 then
some 0
else
(M.ku N a0).bind fun y4=>
(M.ku N a1).bind fun y5=>
((M.jk N a0 (alT.wrap (12*(alT.wrap (y5.1-y4.1))))).bind fun y7=>
((if(!decide (y7.2=0))then
some true
else
some (decide (a1<y7.1))):Option Bool).bind fun j8=>
(if j8 then
some (alT.wrap ((alT.wrap (y5.1-y4.1))-1))
else
some (alT.wrap (y5.1-y4.1))):Option Int).bind fun j6=>
some (if j6<0 then 0 else j6))
def acv(N:Nat):bp:=⟨⟨[(0, .l ae),(1, .l ae)],[],[],0⟩,⟨[(0, .l ae)],[],[],0⟩,fun(x:Int×Int)=>M.iH N x.1 x.2⟩
theorem acw(N:Nat):ax Tryz.prog 196 (acv N):=fw (en [ck (Sp N),ck (We N),ck (Sl N)] false false) (N:=N) (.o (.two (.meet ⟨[(26, .l .bool)],[],[],16⟩ .nil .nil) (.o (.o (.o (.meet ⟨[(11, .l ae)],[],[],368⟩ (.o (.meet ⟨[(55, .l .bool)],[],[],512⟩ .nil .nil)) .nil)))))) Tryz.func196 (by kernel_rfl) fun x=>by kernel_rfl
def M.fX(N:Nat)(a0:aa.den)(a1:af.den)(a2:af.den):Option (af.den×Int):=
((if(decide (a0.1=11))then
some (decide (a0.1=11))
else
some (decide (a0.1=27))):Option Bool).bind fun j1=>
(if j1 then
some ((a1.1,(0,alT.wrap (a1.2.2+a2.2.2))),0)
else
(if(decide (a0.1=12))then
some ((a1.1,(0,alT.wrap (a1.2.2-a2.2.2))),0)
else
((if(decide (a0.1=13))then
some (decide (a0.1=13))
else
(if(decide (a0.1=14))then
some (decide (a0.1=14))
else
(if(decide (a0.1=15))then
some (decide (a0.1=15))
else
some (decide (a0.1=16))))):Option Bool).bind fun j2=>
(if j2 then
(M.kJ N a0 a1 a2).bind fun y3=>
some (y3.1,y3.2)
else
((if(decide (a0.1=17))then
some (decide (a0.1=17))
else
some (decide (a0.1=18))):Option Bool).bind fun j4=>
(if j4 then
(if(decide ((decide (a0.1=17))=(decide (a2.2.2<a1.2.2))))then
some (a2,0)
else
some (a1,0))
else
(if(decide (a0.1=19))then
(M.dK N (decide (a1.2.2=a2.2.2))).bind fun y5=>
some (y5,0)
else
(if(decide (a0.1=20))then
(M.dK N (!decide (a1.2.2=a2.2.2))).bind fun y6=>
some (y6,0)
else
(if(decide (a0.1=21))then
(M.dK N (decide (a1.2.2<a2.2.2))).bind fun y7=>
some (y7,0)
else
(if(decide (a0.1=22))then
(M.dK N (decide (a1.2.2<=a2.2.2))).bind fun y8=>
some (y8,0)
else
(if(decide (a0.1=23))then
((if(decide (a1.2.2=1))then
(M.dK N (decide (a2.2.2=1))).bind fun oI=>
some (0,oI)
else
(M.dK N false).bind fun lJ=>
some (0,lJ)):Option (Int×af.den)).bind fun j9=>
some (j9.2,j9.1)
else
(if(decide (a0.1=24))then
((if(decide (a1.2.2=1))then
(M.dK N true).bind fun CP=>
some (0,CP)
else
(M.dK N (decide (a2.2.2=1))).bind fun sX=>
some (0,sX)):Option (Int×af.den)).bind fun AH=>
some (AH.2,AH.1)
else
(if(decide (a0.1=28))then
(M.jk N a1.2.2 a2.2.2).bind fun I3=>
some ((5,(0,I3.1)),I3.2)
else
(if(decide (a0.1=29))then
some ((2,(0,alT.wrap (a2.2.2-a1.2.2))),0)
else
(M.iH N a1.2.2 a2.2.2).bind fun NC=>
some ((2,(0,NC)),0)))))))))))))
def acx(N:Nat):bp:=⟨⟨[(0, .g aa),(1, .g af),(2, .g af)],[],[],0⟩,⟨[(0, .g af),(1, .l ae)],[],[],0⟩,fun(x:aa.den×af.den×af.den)=>M.fX N x.1 x.2.1 x.2.2⟩
theorem acy(N:Nat):ax Tryz.prog 174 (acx N):=fw (en [ck (V9 N),ck (acq N),ck (We N),ck (acw N)] false false) (N:=N) (.o (.two (.o (.two (.meet ⟨[(12, .l .bool)],[],[],112⟩ .nil (.o (.o (.o (.meet ⟨[(33, .l .bool)],[],[],144⟩ .nil (.o (.meet ⟨[(44, .l .bool)],[],[],144⟩ .nil (.o (.o (.o (.o (.o (.o (.o (.o (.o (.o (.two (.meet ⟨[(7, .l ae)],[(48, .box 76 (.leaf af))],[],305⟩ .nil .nil) (.o (.two (.meet ⟨[(7, .l ae)],[(48, .box 76 (.leaf af))],[],337⟩ .nil .nil) .nil)))))))))))))))))))) .nil)) .nil)) Tryz.func174 (by kernel_rfl) fun x=>by kernel_rfl
end
end Go.Proofs.YtmihpkfkbfgigaaGreatDoor
end
