/- Joined texts: Model. -/
import Derived.Test.YtbladfbbhijpmaaGreatU6
import Derived.Test.YtbladfbbhijpmaaGreatProg
import Derived.Test.YtbladfbbhijpmaaGreatU7
import Derived.Test.YtbladfbbhijpmaaGreatU8
section
open _root_.ByteArray renaming empty->aah
open _root_.Int renaming tdiv->ZK,tmod->Z7
open _root_.Go.IntKind renaming i64->YC,u64->YG
open _root_.List renaming forall_mem_cons->Z5
open _root_.Nat renaming beq->YE
namespace Go.Proofs.YtbladfbbhijpmaaGreat
open Go Go.RowKit
noncomputable section
set_option maxRecDepth 100000
set_option linter.unusedVariables false
@[reducible] def aa:Row:= .pair ae ae
@[reducible] def aN:Row:= .pair .str aa
@[reducible] def bK:Row:= .pair .str (.pair ae (.pair ae (.pair ae (.pair aa (.pair (.slice aa) (.pair (.slice aa) .str))))))
@[reducible] def aO:Row:= .pair .str (.pair ae (.pair (.slice aN) (.pair (.slice aN) (.slice bK))))
@[reducible] def cm:Row:= .pair .str (.slice .str)
@[reducible] def fg:Row:= .pair aa (.pair ae aa)
@[reducible] def cn:Row:= .pair .str (.pair aa (.pair aa (.slice fg)))
@[reducible] def fh:Row:= .pair (.slice cm) (.pair (.slice cn) (.slice aO))
@[reducible] def bp:Row:= .pair ae (.pair ae aa)
@[reducible] def aG:Row:= .pair (.slice cm) (.pair (.slice cn) (.pair (.slice aa) (.pair (.slice aa) (.pair (.slice aa) .bool))))
@[reducible] def cO:Row:= .pair (.slice ae) (.pair (.slice ae) (.slice ae))
@[reducible] def ai:Row:= .pair aa ae
@[reducible] def aH:Row:= .pair ae (.pair (.slice (.slice aa)) (.pair (.slice ae) (.slice ai)))
theorem EU:TI Tryz.prog 3 ae:=TI.mk (k:=1) (by kernel_rfl) rfl
theorem U3:TI Tryz.prog 4 .bool:=TI.mk (k:=1) (by kernel_rfl) rfl
theorem U4:TI Tryz.prog 9 .str:=TI.mk (k:=1) (by kernel_rfl) rfl
theorem PK:TI Tryz.prog 22 (.slice cm):=TI.mk (k:=1) (by kernel_rfl) rfl
theorem PL:TI Tryz.prog 23 (.slice cn):=TI.mk (k:=1) (by kernel_rfl) rfl
theorem PM:TI Tryz.prog 24 (.slice aO):=TI.mk (k:=1) (by kernel_rfl) rfl
theorem PN:TI Tryz.prog 26 fh:=TI.mk (k:=3) (by kernel_rfl) rfl
theorem PO:TI Tryz.prog 27 (.pair ae aa):=TI.mk (k:=3) (by kernel_rfl) rfl
theorem PP:TI Tryz.prog 30 (.slice (.slice aa)):=TI.mk (k:=1) (by kernel_rfl) rfl
theorem PQ:TI Tryz.prog 31 (.slice ae):=TI.mk (k:=1) (by kernel_rfl) rfl
theorem PR:TI Tryz.prog 32 (.slice ai):=TI.mk (k:=1) (by kernel_rfl) rfl
theorem PT:TI Tryz.prog 34 aH:=TI.mk (k:=4) (by kernel_rfl) rfl
theorem L7:TI Tryz.prog 35 ae:=TI.mk (k:=1) (by kernel_rfl) rfl
theorem PU:TI Tryz.prog 45 bp:=TI.mk (k:=4) (by kernel_rfl) rfl
theorem PV:TI Tryz.prog 47 (.slice aN):=TI.mk (k:=1) (by kernel_rfl) rfl
theorem PW:TI Tryz.prog 48 (.slice bK):=TI.mk (k:=1) (by kernel_rfl) rfl
theorem PX:TI Tryz.prog 50 aO:=TI.mk (k:=5) (by kernel_rfl) rfl
theorem L8:TI Tryz.prog 58 aa:=TI.mk (k:=2) (by kernel_rfl) rfl
theorem PY:TI Tryz.prog 60 ai:=TI.mk (k:=3) (by kernel_rfl) rfl
theorem PZ:TI Tryz.prog 62 (.slice .str):=TI.mk (k:=1) (by kernel_rfl) rfl
theorem P0:TI Tryz.prog 64 cm:=TI.mk (k:=2) (by kernel_rfl) rfl
theorem P1:TI Tryz.prog 66 aa:=TI.mk (k:=2) (by kernel_rfl) rfl
theorem P2:TI Tryz.prog 67 (.slice fg):=TI.mk (k:=1) (by kernel_rfl) rfl
theorem P3:TI Tryz.prog 69 cn:=TI.mk (k:=6) (by kernel_rfl) rfl
theorem P4:TI Tryz.prog 74 aa:=TI.mk (k:=2) (by kernel_rfl) rfl
theorem P5:TI Tryz.prog 75 (.slice aa):=TI.mk (k:=1) (by kernel_rfl) rfl
theorem P6:TI Tryz.prog 77 bK:=TI.mk (k:=9) (by kernel_rfl) rfl
theorem P7:TI Tryz.prog 81 aa:=TI.mk (k:=2) (by kernel_rfl) rfl
theorem P8:TI Tryz.prog 96 cO:=TI.mk (k:=3) (by kernel_rfl) rfl
theorem L9:TI Tryz.prog 100 aN:=TI.mk (k:=3) (by kernel_rfl) rfl
theorem Ma:TI Tryz.prog 132 fg:=TI.mk (k:=5) (by kernel_rfl) rfl
theorem Mb:TI Tryz.prog 144 (.slice aa):=TI.mk (k:=1) (by kernel_rfl) rfl
theorem Mc:TI Tryz.prog 146 aG:=TI.mk (k:=6) (by kernel_rfl) rfl
theorem Md:TI Tryz.prog 207 (.int .u64):=TI.mk (k:=1) (by kernel_rfl) rfl
theorem Gi:kj Tryz.prog 3 ae 1:=zE Tryz.underlying3
theorem P9:kj Tryz.prog 66 aa 2:=iF Tryz.underlying66 (by kernel_rfl) (iE rfl rfl Tryz.underlying3 (by simp[fy]) EU Gi (k6 rfl rfl Tryz.underlying3 (by simp[fy]) EU Gi))
theorem Qa:kj Tryz.prog 81 aa 2:=iF Tryz.underlying81 (by kernel_rfl) (iE rfl rfl Tryz.underlying3 (by simp[fy]) EU Gi (k6 rfl rfl Tryz.underlying3 (by simp[fy]) EU Gi))
theorem Me:kj Tryz.prog 58 aa 2:=iF Tryz.underlying58 (by kernel_rfl) (iE rfl rfl Tryz.underlying3 (by simp[fy]) EU Gi (k6 rfl rfl Tryz.underlying3 (by simp[fy]) EU Gi))
theorem Qb:kj Tryz.prog 35 ae 1:=zE Tryz.underlying35
theorem Qc:kj Tryz.prog 45 bp 2:=iF Tryz.underlying45 (by kernel_rfl) (iE rfl rfl Tryz.underlying35 (by simp[fy]) L7 Qb (iE rfl rfl Tryz.underlying3 (by simp[fy]) EU Gi (iE rfl rfl Tryz.underlying3 (by simp[fy]) EU Gi (k6 rfl rfl Tryz.underlying3 (by simp[fy]) EU Gi))))
theorem Mf:kj Tryz.prog 3 ae 2:=Gi.lift 1
theorem Qd:kj Tryz.prog 60 ai 3:=iF Tryz.underlying60 (by kernel_rfl) (iE rfl rfl Tryz.underlying58 (by intro h;cases h) L8 Me (k6 rfl rfl Tryz.underlying3 (by simp[fy]) EU Mf))
theorem tu:∀p∈([(3, .int .i64),(4, .bool),(5, .int .u8),(9, .str),(22, .slice 64),(23, .slice 69),(24, .slice 50),(26, .struct [(22,0),(23,1),(24,2)]),(27, .array 3 3),(30, .slice 75),(31, .slice 3),(32, .slice 60),(34, .struct [(3,0),(30,1),(31,2),(32,3)]),(35, .int .i64),(45, .struct [(35,0),(3,1),(3,2),(3,3)]),(47, .slice 100),(48, .slice 77),(50, .struct [(9,0),(3,1),(47,2),(47,3),(48,4)]),(54, .slice 4),(58, .struct [(3,0),(3,1)]),(60, .struct [(58,0),(3,2)]),(62, .slice 9),(64, .struct [(9,0),(62,1)]),(66, .struct [(3,0),(3,1)]),(67, .slice 132),(69, .struct [(9,0),(66,1),(66,3),(67,5)]),(70, .other),(74, .struct [(3,0),(3,1)]),(75, .slice 81),(77, .struct [(9,0),(3,1),(3,2),(3,3),(74,4),(75,6),(75,7),(9,8)]),(81, .struct [(3,0),(3,1)]),(92, .other),(96, .struct [(31,0),(31,1),(31,2)]),(100, .struct [(9,0),(66,1)]),(101, .slice 58),(114, .map 3 4),(115, .map 58 4),(132, .struct [(74,0),(3,2),(3,3),(3,4)]),(135, .other),(139, .other),(141, .other),(144, .slice 66),(146, .struct [(22,0),(23,1),(144,2),(144,3),(144,4),(4,5)]),(157, .int .u64),(158, .other),(171, .other),(176, .slice 31),(181, .int .u32),(183, .int .u64),(207, .int .u64),(211, .ptr 3),(225, .ptr 207)]:List (Nat×CV)),sj Tryz.prog p.1 p.2:=by
 simp only[Z5];exact⟨Tryz.underlying3,Tryz.underlying4,Tryz.underlying5,Tryz.underlying9,Tryz.underlying22,Tryz.underlying23,Tryz.underlying24,⟨_,Tryz.underlying26,rfl⟩,Tryz.underlying27,Tryz.underlying30,Tryz.underlying31,Tryz.underlying32,⟨_,Tryz.underlying34,rfl⟩,Tryz.underlying35,⟨_,Tryz.underlying45,rfl⟩,Tryz.underlying47,Tryz.underlying48,⟨_,Tryz.underlying50,rfl⟩,Tryz.underlying54,⟨_,Tryz.underlying58,rfl⟩,⟨_,Tryz.underlying60,rfl⟩,Tryz.underlying62,⟨_,Tryz.underlying64,rfl⟩,⟨_,Tryz.underlying66,rfl⟩,Tryz.underlying67,⟨_,Tryz.underlying69,rfl⟩,⟨_,Tryz.underlying70,rfl⟩,⟨_,Tryz.underlying74,rfl⟩,Tryz.underlying75,⟨_,Tryz.underlying77,rfl⟩,⟨_,Tryz.underlying81,rfl⟩,⟨_,Tryz.underlying92,rfl⟩,⟨_,Tryz.underlying96,rfl⟩,⟨_,Tryz.underlying100,rfl⟩,Tryz.underlying101,Tryz.underlying114,Tryz.underlying115,⟨_,Tryz.underlying132,rfl⟩,⟨_,Tryz.underlying135,rfl⟩,⟨_,Tryz.underlying139,rfl⟩,⟨_,Tryz.underlying141,rfl⟩,Tryz.underlying144,⟨_,Tryz.underlying146,rfl⟩,Tryz.underlying157,⟨_,Tryz.underlying158,rfl⟩,⟨_,Tryz.underlying171,rfl⟩,Tryz.underlying176,Tryz.underlying181,Tryz.underlying183,Tryz.underlying207,Tryz.underlying211,Tryz.underlying225,fun _ h=>absurd h (by simp)⟩
theorem tr:∀p∈([(3,ae),(4, .bool),(9, .str),(22,(.slice cm)),(23,(.slice cn)),(24,(.slice aO)),(26,fh),(27,(.pair ae aa)),(30,(.slice (.slice aa))),(31,(.slice ae)),(32,(.slice ai)),(34,aH),(35,ae),(45,bp),(47,(.slice aN)),(48,(.slice bK)),(50,aO),(58,aa),(60,ai),(62,(.slice .str)),(64,cm),(66,aa),(67,(.slice fg)),(69,cn),(74,aa),(75,(.slice aa)),(77,bK),(81,aa),(96,cO),(100,aN),(132,fg),(144,(.slice aa)),(146,aG),(207,(.int .u64))]:List (Nat×Row)),TI Tryz.prog p.1 p.2:=by
 simp only[Z5];exact⟨EU,U3,U4,PK,PL,PM,PN,PO,PP,PQ,PR,PT,L7,PU,PV,PW,PX,L8,PY,PZ,P0,P1,P2,P3,P4,P5,P6,P7,P8,L9,Ma,Mb,Mc,Md,fun _ h=>absurd h (by simp)⟩
theorem te:∀p∈([(45,bp),(58,aa),(60,ai),(66,aa),(81,aa)]:List (Nat×Row)),∃K d,kj Tryz.prog p.1 p.2 K/\d+K=10000/\Tryz.prog.eqGuardType Tryz.prog.depth p.1=false/\(Tryz.prog.underlying p.1).any fy=true:=by
 simp only[Z5];exact⟨⟨2,9998,Qc,rfl,by kernel_rfl,by kernel_rfl⟩,⟨2,9998,Me,rfl,by kernel_rfl,by kernel_rfl⟩,⟨3,9997,Qd,rfl,by kernel_rfl,by kernel_rfl⟩,⟨2,9998,P9,rfl,by kernel_rfl,by kernel_rfl⟩,⟨2,9998,Qa,rfl,by kernel_rfl,by kernel_rfl⟩,fun _ h=>absurd h (by simp)⟩
theorem tz:∀p∈([(4,(false, .bool))]:List (Nat×(Bool×Row))),tS Tryz.prog p.1 p.2.1 p.2.2:=by
 simp only[Z5];exact⟨⟨_,by kernel_rfl,rfl⟩,fun _ h=>absurd h (by simp)⟩
theorem tk:∀t∈([58]:List TypeId),∀(em:Bool)(a b:Value)(w:World),(Instr.checkKey em 10000 t (.agg #[a,b])).run Tryz.prog w= .ok () w:=by
 simp only[Z5];exact⟨fun em a b w=>by kernel_rfl,fun _ h=>absurd h (by simp)⟩
def Qe:aI Tryz.prog:=⟨_,_,_,_,jc tu,jc tr,jc te,fun t a r h=>jc (Q:=fun t p=>tS Tryz.prog t p.1 p.2) tz t (a,r) h,_,tk,[],fun _ h=>absurd h (by simp)⟩
theorem mixed:Tryz.prog.follows .mixedOrders=true:=by kernel_rfl
def en(l:List (CT Tryz.prog))(d p:Bool):Env Tryz.prog:=⟨Qe,CT.tab l,CT.EN,mixed,d,p⟩
def M.jy(N:Nat)(a0:Int):Option Bool:=
((if(decide (97<=a0))then
some (decide (a0<=122))
else
some false):Option Bool).bind fun j1=>
some j1
def U5(N:Nat):bU:=⟨⟨[(0, .l (.int .u8))],[],[],0⟩,⟨[(0, .l .bool)],[],[],0⟩,fun(x:Int)=>M.jy N x⟩
theorem SN(N:Nat):aL Tryz.prog 89 (U5 N):=fw (en [] false false) (N:=N) (.o (.meet ⟨[(2, .l .bool)],[],[],16⟩ .nil .nil)) Tryz.func89 (by kernel_rfl) fun x=>by kernel_rfl
def M.mE(N:Nat)(a0:Int):Option Bool:=
((if(decide (48<=a0))then
some (decide (a0<=57))
else
some false):Option Bool).bind fun j1=>
some j1
def Qf(N:Nat):bU:=⟨⟨[(0, .l (.int .u8))],[],[],0⟩,⟨[(0, .l .bool)],[],[],0⟩,fun(x:Int)=>M.mE N x⟩
theorem Qg(N:Nat):aL Tryz.prog 130 (Qf N):=fw (en [] false false) (N:=N) (.o (.meet ⟨[(2, .l .bool)],[],[],16⟩ .nil .nil)) Tryz.func130 (by kernel_rfl) fun x=>by kernel_rfl
def M.jX(N:Nat)(a0:ByteArray):Option Int:=
Loop (S:=Int) (X:=Int) (fun s1=>
((if(decide (s1<(a0.size:Int)))then
(mz a0 s1).bind fun x3=>
(M.jy N x3).bind fun y4=>
(if y4 then
some true
else
(mz a0 s1).bind fun x5=>
(M.mE N x5).bind fun y6=>
(if y6 then
some true
else
(mz a0 s1).bind fun x7=>
some (decide (x7=95))))
else
some false):Option Bool).bind fun j2=>
(if j2 then
some (.inl (YC.wrap (s1+1)))
else
some (.inr s1))) N 0
def U6(N:Nat):bU:=⟨⟨[(0, .l .str)],[],[],0⟩,⟨[(0, .l ae)],[],[],0⟩,fun(x:ByteArray)=>M.jX N x⟩
theorem U7(N:Nat):aL Tryz.prog 90 (U6 N):=fw (en [ck (SN N),ck (Qg N)] false false) (N:=N) (.o (.o (.two (.two (.loop ⟨[(3, .l ae)],[],[],32⟩ (.two (.meet ⟨[(25, .l .bool)],[],[],32⟩ .nil .nil) .nil)) .nil) .nil))) Tryz.func90 (by kernel_rfl) fun x=>by kernel_rfl
def M.lq(N:Nat)(a0:ByteArray):Option Bool:=
((if(decide (a0=(⟨#[105,102]⟩:ByteArray)))then
some (decide (a0=(⟨#[105,102]⟩:ByteArray)))
else
(if(decide (a0=(⟨#[116,104,101,110]⟩:ByteArray)))then
some (decide (a0=(⟨#[116,104,101,110]⟩:ByteArray)))
else
(if(decide (a0=(⟨#[101,108,115,101]⟩:ByteArray)))then
some (decide (a0=(⟨#[101,108,115,101]⟩:ByteArray)))
else
(if(decide (a0=(⟨#[111,114]⟩:ByteArray)))then
some (decide (a0=(⟨#[111,114]⟩:ByteArray)))
else
(if(decide (a0=(⟨#[97,110,100]⟩:ByteArray)))then
some (decide (a0=(⟨#[97,110,100]⟩:ByteArray)))
else
(if(decide (a0=(⟨#[110,111,116]⟩:ByteArray)))then
some (decide (a0=(⟨#[110,111,116]⟩:ByteArray)))
else
(if(decide (a0=(⟨#[116,114,117,101]⟩:ByteArray)))then
some (decide (a0=(⟨#[116,114,117,101]⟩:ByteArray)))
else
(if(decide (a0=(⟨#[102,97,108,115,101]⟩:ByteArray)))then
some (decide (a0=(⟨#[102,97,108,115,101]⟩:ByteArray)))
else
(if(decide (a0=(⟨#[116,111,100,97,121]⟩:ByteArray)))then
some (decide (a0=(⟨#[116,111,100,97,121]⟩:ByteArray)))
else
(if(decide (a0=(⟨#[115,104,97,114,101]⟩:ByteArray)))then
some (decide (a0=(⟨#[115,104,97,114,101]⟩:ByteArray)))
else
(if(decide (a0=(⟨#[100,105,118]⟩:ByteArray)))then
some (decide (a0=(⟨#[100,105,118]⟩:ByteArray)))
else
(if(decide (a0=(⟨#[114,111,117,110,100]⟩:ByteArray)))then
some (decide (a0=(⟨#[114,111,117,110,100]⟩:ByteArray)))
else
(if(decide (a0=(⟨#[109,105,110]⟩:ByteArray)))then
some (decide (a0=(⟨#[109,105,110]⟩:ByteArray)))
else
(if(decide (a0=(⟨#[109,97,120]⟩:ByteArray)))then
some (decide (a0=(⟨#[109,97,120]⟩:ByteArray)))
else
(if(decide (a0=(⟨#[112,108,117,115]⟩:ByteArray)))then
some (decide (a0=(⟨#[112,108,117,115]⟩:ByteArray)))
else
(if(decide (a0=(⟨#[109,111,110,116,104,115]⟩:ByteArray)))then
some (decide (a0=(⟨#[109,111,110,116,104,115]⟩:ByteArray)))
else
(if(decide (a0=(⟨#[100,97,121,115]⟩:ByteArray)))then
some (decide (a0=(⟨#[100,97,121,115]⟩:ByteArray)))
else
(if(decide (a0=(⟨#[121,101,97,114,115]⟩:ByteArray)))then
some (decide (a0=(⟨#[121,101,97,114,115]⟩:ByteArray)))
else
(if(decide (a0=(⟨#[121,101,97,114]⟩:ByteArray)))then
some (decide (a0=(⟨#[121,101,97,114]⟩:ByteArray)))
else
(if(decide (a0=(⟨#[109,111,110,116,104]⟩:ByteArray)))then
some (decide (a0=(⟨#[109,111,110,116,104]⟩:ByteArray)))
else
(if(decide (a0=(⟨#[116,97,98]⟩:ByteArray)))then
some (decide (a0=(⟨#[116,97,98]⟩:ByteArray)))
else
(if(decide (a0=(⟨#[98,97,110,100]⟩:ByteArray)))then
some (decide (a0=(⟨#[98,97,110,100]⟩:ByteArray)))
else
(if(decide (a0=(⟨#[99,111,117,110,116]⟩:ByteArray)))then
some (decide (a0=(⟨#[99,111,117,110,116]⟩:ByteArray)))
else
(if(decide (a0=(⟨#[115,117,109]⟩:ByteArray)))then
some (decide (a0=(⟨#[115,117,109]⟩:ByteArray)))
else
(if(decide (a0=(⟨#[97,108,108]⟩:ByteArray)))then
some (decide (a0=(⟨#[97,108,108]⟩:ByteArray)))
else
(if(decide (a0=(⟨#[97,110,121]⟩:ByteArray)))then
some (decide (a0=(⟨#[97,110,121]⟩:ByteArray)))
else
(if(decide (a0=(⟨#[109,111,115,116]⟩:ByteArray)))then
some (decide (a0=(⟨#[109,111,115,116]⟩:ByteArray)))
else
(if(decide (a0=(⟨#[101,110,117,109]⟩:ByteArray)))then
some (decide (a0=(⟨#[101,110,117,109]⟩:ByteArray)))
else
(if(decide (a0=(⟨#[116,97,98,108,101]⟩:ByteArray)))then
some (decide (a0=(⟨#[116,97,98,108,101]⟩:ByteArray)))
else
(if(decide (a0=(⟨#[114,111,119]⟩:ByteArray)))then
some (decide (a0=(⟨#[114,111,119]⟩:ByteArray)))
else
(if(decide (a0=(⟨#[115,99,111,112,101]⟩:ByteArray)))then
some (decide (a0=(⟨#[115,99,111,112,101]⟩:ByteArray)))
else
(if(decide (a0=(⟨#[109,101,109,98,101,114,115]⟩:ByteArray)))then
some (decide (a0=(⟨#[109,101,109,98,101,114,115]⟩:ByteArray)))
else
(if(decide (a0=(⟨#[105,110,112,117,116]⟩:ByteArray)))then
some (decide (a0=(⟨#[105,110,112,117,116]⟩:ByteArray)))
else
(if(decide (a0=(⟨#[100,101,102]⟩:ByteArray)))then
some (decide (a0=(⟨#[100,101,102]⟩:ByteArray)))
else
(if(decide (a0=(⟨#[114,117,108,101]⟩:ByteArray)))then
some (decide (a0=(⟨#[114,117,108,101]⟩:ByteArray)))
else
(if(decide (a0=(⟨#[111,102]⟩:ByteArray)))then
some (decide (a0=(⟨#[111,102]⟩:ByteArray)))
else
(if(decide (a0=(⟨#[111,118,101,114]⟩:ByteArray)))then
some (decide (a0=(⟨#[111,118,101,114]⟩:ByteArray)))
else
(if(decide (a0=(⟨#[112,114,105,111]⟩:ByteArray)))then
some (decide (a0=(⟨#[112,114,105,111]⟩:ByteArray)))
else
(if(decide (a0=(⟨#[102,114,111,109]⟩:ByteArray)))then
some (decide (a0=(⟨#[102,114,111,109]⟩:ByteArray)))
else
(if(decide (a0=(⟨#[116,111]⟩:ByteArray)))then
some (decide (a0=(⟨#[116,111]⟩:ByteArray)))
else
(if(decide (a0=(⟨#[101,110,100]⟩:ByteArray)))then
some (decide (a0=(⟨#[101,110,100]⟩:ByteArray)))
else
(if(decide (a0=(⟨#[119,104,101,110]⟩:ByteArray)))then
some (decide (a0=(⟨#[119,104,101,110]⟩:ByteArray)))
else
(if(decide (a0=(⟨#[105,115]⟩:ByteArray)))then
some (decide (a0=(⟨#[105,115]⟩:ByteArray)))
else
(if(decide (a0=(⟨#[115,114,99]⟩:ByteArray)))then
some (decide (a0=(⟨#[115,114,99]⟩:ByteArray)))
else
(if(decide (a0=(⟨#[98,111,111,108]⟩:ByteArray)))then
some (decide (a0=(⟨#[98,111,111,108]⟩:ByteArray)))
else
(if(decide (a0=(⟨#[105,110,116]⟩:ByteArray)))then
some (decide (a0=(⟨#[105,110,116]⟩:ByteArray)))
else
(if(decide (a0=(⟨#[109,111,110,101,121]⟩:ByteArray)))then
some (decide (a0=(⟨#[109,111,110,101,121]⟩:ByteArray)))
else
(if(decide (a0=(⟨#[114,97,116,101]⟩:ByteArray)))then
some (decide (a0=(⟨#[114,97,116,101]⟩:ByteArray)))
else
(if(decide (a0=(⟨#[100,97,116,101]⟩:ByteArray)))then
some (decide (a0=(⟨#[100,97,116,101]⟩:ByteArray)))
else
(if(decide (a0=(⟨#[100,111,119,110]⟩:ByteArray)))then
some (decide (a0=(⟨#[100,111,119,110]⟩:ByteArray)))
else
(if(decide (a0=(⟨#[117,112]⟩:ByteArray)))then
some (decide (a0=(⟨#[117,112]⟩:ByteArray)))
else
(if(decide (a0=(⟨#[122,101,114,111]⟩:ByteArray)))then
some (decide (a0=(⟨#[122,101,114,111]⟩:ByteArray)))
else
(if(decide (a0=(⟨#[97,119,97,121]⟩:ByteArray)))then
some (decide (a0=(⟨#[97,119,97,121]⟩:ByteArray)))
else
(if(decide (a0=(⟨#[104,97,108,102]⟩:ByteArray)))then
some (decide (a0=(⟨#[104,97,108,102]⟩:ByteArray)))
else
some (decide (a0=(⟨#[101,118,101,110]⟩:ByteArray))))))))))))))))))))))))))))))))))))))))))))))))))))))))):Option Bool).bind fun j1=>
(if j1 then
some true
else
some false)
def U8(N:Nat):bU:=⟨⟨[(0, .l .str)],[],[],0⟩,⟨[(0, .l .bool)],[],[],0⟩,fun(x:ByteArray)=>M.lq N x⟩
theorem U9(N:Nat):aL Tryz.prog 91 (U8 N):=fw (en [] false false) (N:=N) (.o (.two (.o (.two (.meet ⟨[(4, .l .bool)],[],[],32⟩ .nil .nil) .nil)) .nil)) Tryz.func91 (by kernel_rfl) fun x=>by kernel_rfl
def M.cq(N:Nat)(a0:ByteArray):Option Bool:=
((if(!decide (a0=(⟨#[]⟩:ByteArray)))then
(mz a0 0).bind fun x2=>
(M.jy N x2).bind fun y3=>
(if y3 then
(M.jX N a0).bind fun y4=>
(if(decide (y4=(a0.size:Int)))then
(if(decide ((a0.size:Int)<=16))then
(M.lq N a0).bind fun y5=>
some (!y5)
else
some false)
else
some false)
else
some false)
else
some false):Option Bool).bind fun j1=>
some j1
def Va(N:Nat):bU:=⟨⟨[(0, .l .str)],[],[],0⟩,⟨[(0, .l .bool)],[],[],0⟩,fun(x:ByteArray)=>M.cq N x⟩
theorem Mg(N:Nat):aL Tryz.prog 61 (Va N):=fw (en [ck (SN N),ck (U7 N),ck (U9 N)] false false) (N:=N) (.o (.meet ⟨[(2, .l .bool)],[],[],16⟩ .nil .nil)) Tryz.func61 (by kernel_rfl) fun x=>by kernel_rfl
def M.jk(N:Nat)(a0:cm.den)(a1:ByteArray):Option (Bool×ByteArray):=
some (decide (a0.1=a1),a1)
def Mh(N:Nat):bU:=⟨⟨[(0, .g cm),(1, .ptr 0 [] 0)],[(0, .box 9 (.leaf .str))],[],1⟩,⟨[(0, .l .bool)],[(0, .box 9 (.leaf .str))],[],2⟩,fun(x:cm.den×ByteArray)=>M.jk N x.1 x.2⟩
theorem Mi(N:Nat):aL Tryz.prog 93 (Mh N):=fw (en [] false false) (N:=N) .nil Tryz.func93 (by kernel_rfl) fun x=>by kernel_rfl
def M.bB(N:Nat)(a0:List cm.den)(a1:ByteArray):Option (Int×ByteArray):=
Loop (S:=Int×ByteArray) (X:=Int×ByteArray) (fun s1=>
(if(decide (s1.1<(a0.length:Int)))then
(idx a0 s1.1).bind fun x2=>
(M.jk N x2 s1.2).bind fun y3=>
(if y3.1 then
some (.inr (s1.1,y3.2))
else
some (.inl (YC.wrap (s1.1+1),y3.2)))
else
some (.inr ((-1),s1.2)))) N (0,a1)
def Jx(N:Nat):bU:=⟨⟨[(0, .l (.slice cm)),(1, .fn 93 [(0,[],0)])],[(0, .box 9 (.leaf .str))],[],1⟩,⟨[(0, .l ae)],[(0, .box 9 (.leaf .str))],[],2⟩,fun(x:(List cm.den)×ByteArray)=>M.bB N x.1 x.2⟩
theorem Jy(N:Nat):aL Tryz.prog 131 (Jx N):=fw (en [ck (Mi N)] false false) (N:=N) (.o (.two (.o (.two (.loop ⟨[(8, .l ae)],[(0, .box 9 (.leaf .str))],[],66⟩ .nil) .nil)) .nil)) Tryz.func131 (by kernel_rfl) fun x=>by kernel_rfl
def M.bn(N:Nat)(a0:List cm.den)(a1:ByteArray):Option (Bool×ByteArray):=
(M.bB N a0 a1).bind fun y1=>
some (decide (0<=y1.1),y1.2)
def Mj(N:Nat):bU:=⟨⟨[(0, .l (.slice cm)),(1, .fn 93 [(0,[],0)])],[(0, .box 9 (.leaf .str))],[],1⟩,⟨[(0, .l .bool)],[(0, .box 9 (.leaf .str))],[],2⟩,fun(x:(List cm.den)×ByteArray)=>M.bn N x.1 x.2⟩
theorem Mk(N:Nat):aL Tryz.prog 92 (Mj N):=fw (en [ck (Jy N)] false false) (N:=N) .nil Tryz.func92 (by kernel_rfl) fun x=>by kernel_rfl
def M.jl(N:Nat)(a0:List cm.den)(a1:ByteArray):Option Bool:=
(M.bn N a0 a1).bind fun y1=>
some y1.1
def Vb(N:Nat):bU:=⟨⟨[(0, .l (.slice cm)),(1, .l .str)],[],[],0⟩,⟨[(0, .l .bool)],[],[],0⟩,fun(x:(List cm.den)×ByteArray)=>M.jl N x.1 x.2⟩
theorem Qh(N:Nat):aL Tryz.prog 62 (Vb N):=fw (en [ck (Mk N)] false false) (N:=N) .nil Tryz.func62 (by kernel_rfl) fun x=>by kernel_rfl
def M.eL(N:Nat)(a0:List ByteArray)(a1:ByteArray):Option Int:=
Loop (S:=Int) (X:=Int) (fun s1=>
(if(decide (s1<(a0.length:Int)))then
(idx a0 s1).bind fun x2=>
(if(decide (a1=x2))then
some (.inr s1)
else
some (.inl (YC.wrap (s1+1))))
else
some (.inr (-1)))) N 0
def Qi(N:Nat):bU:=⟨⟨[(0, .l (.slice .str)),(1, .l .str)],[],[],0⟩,⟨[(0, .l ae)],[],[],0⟩,fun(x:(List ByteArray)×ByteArray)=>M.eL N x.1 x.2⟩
theorem Qj(N:Nat):aL Tryz.prog 128 (Qi N):=fw (en [] false false) (N:=N) (.o (.two (.o (.two (.loop ⟨[(8, .l ae)],[],[],64⟩ .nil) .nil)) .nil)) Tryz.func128 (by kernel_rfl) fun x=>by kernel_rfl
def M.dS(N:Nat)(a0:List ByteArray)(a1:ByteArray):Option Bool:=
(M.eL N a0 a1).bind fun y1=>
some (decide (0<=y1))
def Vc(N:Nat):bU:=⟨⟨[(0, .l (.slice .str)),(1, .l .str)],[],[],0⟩,⟨[(0, .l .bool)],[],[],0⟩,fun(x:(List ByteArray)×ByteArray)=>M.dS N x.1 x.2⟩
theorem Vd(N:Nat):aL Tryz.prog 83 (Vc N):=fw (en [ck (Qj N)] false false) (N:=N) .nil Tryz.func83 (by kernel_rfl) fun x=>by kernel_rfl
def M.mF(N:Nat)(a0:fh.den)(a1:Int)(a2:cm.den):Option (Int×Int):=
(M.cq N a2.1).bind fun y1=>
(if(!y1)then
some (2,0)
else
(dT a0.1 0 a1).bind fun l2=>
(M.jl N l2 a2.1).bind fun y3=>
(if y3 then
some (7,0)
else
(if(decide ((a2.2.length:Int)=0))then
some (5,0)
else
(if(decide (16<(a2.2.length:Int)))then
some (4,116)
else
Loop (S:=Int) (X:=Int×Int) (fun s4=>
(if(decide (s4<(a2.2.length:Int)))then
(idx a2.2 s4).bind fun x5=>
(M.cq N x5).bind fun y6=>
(if(!y6)then
some (.inr (2,YC.wrap (100+s4)))
else
(dT a2.2 0 s4).bind fun l7=>
(M.dS N l7 x5).bind fun y8=>
(if y8 then
some (.inr (7,YC.wrap (100+s4)))
else
some (.inl (YC.wrap (s4+1)))))
else
some (.inr (0,0)))) N 0))))
def Ve(N:Nat):bU:=⟨⟨[(0, .g fh),(1, .l ae),(2, .g cm)],[],[],0⟩,⟨[(0, .l ae),(1, .l ae)],[],[],0⟩,fun(x:fh.den×Int×cm.den)=>M.mF N x.1 x.2.1 x.2.2⟩
theorem Vf(N:Nat):aL Tryz.prog 59 (Ve N):=fw (en [ck (Mg N),ck (Qh N),ck (Vd N)] false false) (N:=N) (.o (.o (.two (.o (.two (.loop ⟨[(36, .l ae)],[],[],496⟩ .nil) .nil)) .nil))) Tryz.func59 (by kernel_rfl) fun x=>by kernel_rfl
def M.lr(N:Nat)(a0:fh.den):Option (bp.den):=
(if(decide (8<(a0.1.length:Int)))then
some (4,(1,(8,0)))
else
bI (J:=Unit) (R:=bp.den) (Loop (S:=Int) (X:=Unit⊕(bp.den)) (fun s2=>
(if(decide (s2<(a0.1.length:Int)))then
(idx a0.1 s2).bind fun x3=>
(M.mF N a0 s2 x3).bind fun y4=>
(if(!decide (y4.1=0))then
some (.inr (.inr (y4.1,(1,(s2,y4.2)))))
else
some (.inl (YC.wrap (s2+1))))
else
some (.inr (.inl ())))) N 0) fun j1=>
some (0,(0,(0,0))))
def Vg(N:Nat):bU:=⟨⟨[(0, .g fh)],[],[],0⟩,⟨[(0, .g bp)],[],[],0⟩,fun(x:fh.den)=>M.lr N x⟩
theorem Vh(N:Nat):aL Tryz.prog 37 (Vg N):=fw (en [ck (Vf N)] false false) (N:=N) (.o (.o (.join ⟨[],[],[],96⟩ (.o (.two (.loop ⟨[(15, .l ae)],[],[],160⟩ .nil) .nil)) .nil))) Tryz.func37 (by kernel_rfl) fun x=>by kernel_rfl
def M.dp(N:Nat)(a0:aa.den):Option Bool:=
((if(decide (0<=a0.1))then
(if(decide (a0.1<=a0.2))then
some (decide (a0.2<=109573))
else
some false)
else
some false):Option Bool).bind fun j1=>
some j1
def Vi(N:Nat):bU:=⟨⟨[(0, .g aa)],[],[],0⟩,⟨[(0, .l .bool)],[],[],0⟩,fun(x:aa.den)=>M.dp N x⟩
theorem Qk(N:Nat):aL Tryz.prog 65 (Vi N):=fw (en [] false false) (N:=N) (.o (.meet ⟨[(2, .l .bool)],[],[],32⟩ .nil .nil)) Tryz.func65 (by kernel_rfl) fun x=>by kernel_rfl
def M.bN(N:Nat)(a0:aa.den)(a1:List cm.den):Option Bool:=
((if(decide (a0.1=1))then
some (decide (a0.1=1))
else
(if(decide (a0.1=2))then
some (decide (a0.1=2))
else
(if(decide (a0.1=3))then
some (decide (a0.1=3))
else
(if(decide (a0.1=4))then
some (decide (a0.1=4))
else
some (decide (a0.1=5)))))):Option Bool).bind fun j1=>
(if j1 then
some (decide (a0.2=0))
else
(if(decide (a0.1=6))then
((if(decide (0<=a0.2))then
some (decide (a0.2<(a1.length:Int)))
else
some false):Option Bool).bind fun j2=>
some j2
else
some false))
def Vj(N:Nat):bU:=⟨⟨[(0, .g aa),(1, .l (.slice cm))],[],[],0⟩,⟨[(0, .l .bool)],[],[],0⟩,fun(x:aa.den×List cm.den)=>M.bN N x.1 x.2⟩
theorem Ml(N:Nat):aL Tryz.prog 84 (Vj N):=fw (en [] false false) (N:=N) (.o (.two (.o (.two (.meet ⟨[(7, .l .bool)],[],[],64⟩ .nil (.o (.o (.two (.meet ⟨[(4, .l .bool)],[],[],96⟩ .nil .nil) .nil)))) .nil)) .nil)) Tryz.func84 (by kernel_rfl) fun x=>by kernel_rfl
def M.eW(N:Nat)(a0:aa.den)(a1:List cm.den):Option (Int×Int):=
(M.bN N a0 a1).bind fun y1=>
(if(!y1)then
some (0,(-1))
else
(if(decide (a0.1=1))then
some (0,1)
else
(if(decide (a0.1=2))then
some ((-1000000000000),1000000000000)
else
(if(decide (a0.1=3))then
some ((-1000000000000000),1000000000000000)
else
(if(decide (a0.1=4))then
some ((-1000000000),1000000000)
else
(if(decide (a0.1=5))then
some (0,109572)
else
(idx a1 a0.2).bind fun x2=>
some (0,YC.wrap ((x2.2.length:Int)-1))))))))
def Vk(N:Nat):bU:=⟨⟨[(0, .g aa),(1, .l (.slice cm))],[],[],0⟩,⟨[(0, .l ae),(1, .l ae)],[],[],0⟩,fun(x:aa.den×List cm.den)=>M.eW N x.1 x.2⟩
theorem SO(N:Nat):aL Tryz.prog 85 (Vk N):=fw (en [ck (Ml N)] false false) (N:=N) .nil Tryz.func85 (by kernel_rfl) fun x=>by kernel_rfl
def M.fS(N:Nat)(a0:aa.den):Option Bool:=
((M.dp N a0).bind fun y2=>
(if y2 then
some (decide (a0.1<a0.2))
else
some false):Option Bool).bind fun j1=>
some j1
def Ql(N:Nat):bU:=⟨⟨[(0, .g aa)],[],[],0⟩,⟨[(0, .l .bool)],[],[],0⟩,fun(x:aa.den)=>M.fS N x⟩
theorem Qm(N:Nat):aL Tryz.prog 157 (Ql N):=fw (en [ck (Qk N)] false false) (N:=N) (.o (.meet ⟨[(2, .l .bool)],[],[],32⟩ .nil .nil)) Tryz.func157 (by kernel_rfl) fun x=>by kernel_rfl
def M.ik(N:Nat)(a0:aa.den)(a1:aa.den):Option (aa.den×Bool):=
((M.fS N a0).bind fun y2=>
(if(!y2)then
some true
else
(M.fS N a1).bind fun y3=>
some (!y3)):Option Bool).bind fun j1=>
(if j1 then
some ((0,0),false)
else
(if(decide ((if a1.2<a0.2 then a1.2 else a0.2)<=(if a0.1<a1.1 then a1.1 else a0.1)))then
some ((0,0),false)
else
some ((if a0.1<a1.1 then a1.1 else a0.1,if a1.2<a0.2 then a1.2 else a0.2),true)))
def Qn(N:Nat):bU:=⟨⟨[(0, .g aa),(1, .g aa)],[],[],0⟩,⟨[(0, .g aa),(1, .l .bool)],[],[],0⟩,fun(x:aa.den×aa.den)=>M.ik N x.1 x.2⟩
theorem Qo(N:Nat):aL Tryz.prog 129 (Qn N):=fw (en [ck (Qm N)] false false) (N:=N) (.o (.two (.meet ⟨[(14, .l .bool)],[],[],64⟩ .nil .nil) .nil)) Tryz.func129 (by kernel_rfl) fun x=>by kernel_rfl
def M.lu(N:Nat)(a0:fg.den)(a1:fg.den):Option Bool:=
(M.ik N a0.1 a1.1).bind fun y1=>
((if y1.2 then
some (decide ((if a0.2.1<a1.2.1 then a1.2.1 else a0.2.1)<(if a1.2.2.1<a0.2.2.1 then a1.2.2.1 else a0.2.2.1)))
else
some false):Option Bool).bind fun j2=>
some j2
def Vl(N:Nat):bU:=⟨⟨[(0, .g fg),(1, .g fg)],[],[],0⟩,⟨[(0, .l .bool)],[],[],0⟩,fun(x:fg.den×fg.den)=>M.lu N x.1 x.2⟩
theorem Vm(N:Nat):aL Tryz.prog 88 (Vl N):=fw (en [ck (Qo N)] false false) (N:=N) (.o (.o (.meet ⟨[(4, .l .bool)],[],[],224⟩ .nil .nil))) Tryz.func88 (by kernel_rfl) fun x=>by kernel_rfl
def M.gO(N:Nat)(a0:fg.den)(a1:fg.den):Option (Bool×fg.den):=
(M.lu N a0 a1).bind fun y1=>
some (y1,a1)
def Mm(N:Nat):bU:=⟨⟨[(0, .g fg),(1, .ptr 0 [] 0)],[(0, .box 132 (.leaf fg))],[],1⟩,⟨[(0, .l .bool)],[(0, .box 132 (.leaf fg))],[],2⟩,fun(x:fg.den×fg.den)=>M.gO N x.1 x.2⟩
theorem Mn(N:Nat):aL Tryz.prog 87 (Mm N):=fw (en [ck (Vm N)] false false) (N:=N) .nil Tryz.func87 (by kernel_rfl) fun x=>by kernel_rfl
def M.dJ(N:Nat)(a0:List fg.den)(a1:fg.den):Option (Int×Bool×fg.den):=
Loop (S:=Int×fg.den) (X:=Int×Bool×fg.den) (fun s1=>
(if(decide (s1.1<(a0.length:Int)))then
(idx a0 s1.1).bind fun x2=>
(M.gO N x2 s1.2).bind fun y3=>
(if y3.1 then
some (.inr (s1.1,true,y3.2))
else
some (.inl (YC.wrap (s1.1+1),y3.2)))
else
some (.inr (0,false,s1.2)))) N (0,a1)
def Mo(N:Nat):bU:=⟨⟨[(0, .l (.slice fg)),(1, .fn 87 [(0,[],0)])],[(0, .box 132 (.leaf fg))],[],1⟩,⟨[(0, .l ae),(1, .l .bool)],[(0, .box 132 (.leaf fg))],[],2⟩,fun(x:(List fg.den)×fg.den)=>M.dJ N x.1 x.2⟩
theorem Mp(N:Nat):aL Tryz.prog 86 (Mo N):=fw (en [ck (Mn N)] false false) (N:=N) (.o (.two (.o (.two (.loop ⟨[(10, .l ae)],[(0, .box 132 (.leaf fg))],[],82⟩ .nil) .nil)) .nil)) Tryz.func86 (by kernel_rfl) fun x=>by kernel_rfl
def M.lv(N:Nat)(a0:cn.den)(a1:List cm.den):Option (Int×Int):=
(if(decide (64<(a0.2.2.2.length:Int)))then
some (64,4)
else
((M.bN N a0.2.1 a1).bind fun y2=>
(if(!y2)then
some true
else
(M.bN N a0.2.2.1 a1).bind fun y3=>
some (!y3)):Option Bool).bind fun j1=>
(if j1 then
some ((-1),8)
else
(M.eW N a0.2.1 a1).bind fun y4=>
(M.eW N a0.2.2.1 a1).bind fun y5=>
Loop (S:=Int) (X:=Int×Int) (fun s6=>
(if(decide (s6<(a0.2.2.2.length:Int)))then
(idx a0.2.2.2 s6).bind fun x7=>
((M.dp N x7.1).bind fun y9=>
(if(!y9)then
some true
else
(if(decide (x7.1.1=x7.1.2))then
some true
else
some (decide (x7.2.2.1<=x7.2.1)))):Option Bool).bind fun j8=>
(if j8 then
some (.inr (s6,3))
else
((if(decide (x7.2.1<y4.1))then
some true
else
(if(decide (y4.2<x7.2.1))then
some true
else
(if(decide ((YC.wrap (x7.2.2.1-1))<y4.1))then
some true
else
some (decide (y4.2<(YC.wrap (x7.2.2.1-1))))))):Option Bool).bind fun rK=>
(if rK then
some (.inr (s6,3))
else
((if(decide (x7.2.2.2<y5.1))then
some true
else
some (decide (y5.2<x7.2.2.2))):Option Bool).bind fun Cp=>
(if Cp then
some (.inr (s6,3))
else
(dT a0.2.2.2 0 s6).bind fun Gj=>
(M.dJ N Gj x7).bind fun Vn=>
(if Vn.2.1 then
some (.inr (s6,11))
else
some (.inl (YC.wrap (s6+1)))))))
else
some (.inr (0,0)))) N 0))
def Vo(N:Nat):bU:=⟨⟨[(0, .g cn),(1, .l (.slice cm))],[],[],0⟩,⟨[(0, .l ae),(1, .l ae)],[],[],0⟩,fun(x:cn.den×List cm.den)=>M.lv N x.1 x.2⟩
theorem Vp(N:Nat):aL Tryz.prog 60 (Vo N):=fw (en [ck (Qk N),ck (Ml N),ck (SO N),ck (Mp N)] false false) (N:=N) (.o (.o (.two (.meet ⟨[(29, .l .bool)],[],[],112⟩ .nil .nil) (.o (.o (.two (.o (.two (.loop ⟨[(47, .l ae)],[],[],464⟩ (.o (.o (.two (.two (.o (.two (.meet ⟨[(71, .l .bool)],[],[],576⟩ .nil .nil) (.two (.meet ⟨[(96, .l .bool)],[],[],576⟩ .nil .nil) (.two (.meet ⟨[(107, .l .bool)],[],[],576⟩ .nil .nil) .nil)))) .nil) .nil)))) .nil)) .nil)))))) Tryz.func60 (by kernel_rfl) fun x=>by kernel_rfl
def M.iM(N:Nat)(a0:cn.den)(a1:ByteArray):Option (Bool×ByteArray):=
some (decide (a0.1=a1),a1)
def Mq(N:Nat):bU:=⟨⟨[(0, .g cn),(1, .ptr 0 [] 0)],[(0, .box 9 (.leaf .str))],[],1⟩,⟨[(0, .l .bool)],[(0, .box 9 (.leaf .str))],[],2⟩,fun(x:cn.den×ByteArray)=>M.iM N x.1 x.2⟩
theorem Mr(N:Nat):aL Tryz.prog 95 (Mq N):=fw (en [] false false) (N:=N) .nil Tryz.func95 (by kernel_rfl) fun x=>by kernel_rfl
def M.br(N:Nat)(a0:List cn.den)(a1:ByteArray):Option (Int×ByteArray):=
Loop (S:=Int×ByteArray) (X:=Int×ByteArray) (fun s1=>
(if(decide (s1.1<(a0.length:Int)))then
(idx a0 s1.1).bind fun x2=>
(M.iM N x2 s1.2).bind fun y3=>
(if y3.1 then
some (.inr (s1.1,y3.2))
else
some (.inl (YC.wrap (s1.1+1),y3.2)))
else
some (.inr ((-1),s1.2)))) N (0,a1)
def Jz(N:Nat):bU:=⟨⟨[(0, .l (.slice cn)),(1, .fn 95 [(0,[],0)])],[(0, .box 9 (.leaf .str))],[],1⟩,⟨[(0, .l ae)],[(0, .box 9 (.leaf .str))],[],2⟩,fun(x:(List cn.den)×ByteArray)=>M.br N x.1 x.2⟩
theorem JA(N:Nat):aL Tryz.prog 132 (Jz N):=fw (en [ck (Mr N)] false false) (N:=N) (.o (.two (.o (.two (.loop ⟨[(8, .l ae)],[(0, .box 9 (.leaf .str))],[],66⟩ .nil) .nil)) .nil)) Tryz.func132 (by kernel_rfl) fun x=>by kernel_rfl
def M.bi(N:Nat)(a0:List cn.den)(a1:ByteArray):Option (Bool×ByteArray):=
(M.br N a0 a1).bind fun y1=>
some (decide (0<=y1.1),y1.2)
def Mt(N:Nat):bU:=⟨⟨[(0, .l (.slice cn)),(1, .fn 95 [(0,[],0)])],[(0, .box 9 (.leaf .str))],[],1⟩,⟨[(0, .l .bool)],[(0, .box 9 (.leaf .str))],[],2⟩,fun(x:(List cn.den)×ByteArray)=>M.bi N x.1 x.2⟩
theorem Mu(N:Nat):aL Tryz.prog 94 (Mt N):=fw (en [ck (JA N)] false false) (N:=N) .nil Tryz.func94 (by kernel_rfl) fun x=>by kernel_rfl
def M.kz(N:Nat)(a0:List cn.den)(a1:ByteArray):Option Bool:=
(M.bi N a0 a1).bind fun y1=>
some y1.1
def Vq(N:Nat):bU:=⟨⟨[(0, .l (.slice cn)),(1, .l .str)],[],[],0⟩,⟨[(0, .l .bool)],[],[],0⟩,fun(x:(List cn.den)×ByteArray)=>M.kz N x.1 x.2⟩
theorem SP(N:Nat):aL Tryz.prog 63 (Vq N):=fw (en [ck (Mu N)] false false) (N:=N) .nil Tryz.func63 (by kernel_rfl) fun x=>by kernel_rfl
def M.kQ(N:Nat)(a0:fh.den):Option (bp.den):=
(if(decide (8<(a0.2.1.length:Int)))then
some (4,(2,(8,0)))
else
bI (J:=Unit) (R:=bp.den) (Loop (S:=Int) (X:=Unit⊕(bp.den)) (fun s2=>
(if(decide (s2<(a0.2.1.length:Int)))then
(idx a0.2.1 s2).bind fun x3=>
(M.lv N x3 a0.1).bind fun y4=>
((M.cq N x3.1).bind fun y6=>
(if(!y6)then
some (2,(2,(s2,0)))
else
((M.jl N a0.1 x3.1).bind fun y8=>
(if y8 then
some true
else
(dT a0.2.1 0 s2).bind fun l9=>
(M.kz N l9 x3.1).bind fun Mv=>
some Mv):Option Bool).bind fun j7=>
(if j7 then
some (7,(2,(s2,0)))
else
(if(!decide (y4.2=0))then
(if(!decide (y4.1=(-1)))then
some (y4.2,(2,(s2,YC.wrap (100+y4.1))))
else
some (y4.2,(2,(s2,0))))
else
some (0,(2,(s2,0)))))):Option (bp.den)).bind fun j5=>
(if(!decide (j5.1=0))then
some (.inr (.inr j5))
else
some (.inl (YC.wrap (s2+1))))
else
some (.inr (.inl ())))) N 0) fun j1=>
some (0,(0,(0,0))))
def Vr(N:Nat):bU:=⟨⟨[(0, .g fh)],[],[],0⟩,⟨[(0, .g bp)],[],[],0⟩,fun(x:fh.den)=>M.kQ N x⟩
theorem Vs(N:Nat):aL Tryz.prog 38 (Vr N):=fw (en [ck (Vp N),ck (Mg N),ck (Qh N),ck (SP N)] false false) (N:=N) (.o (.o (.join ⟨[],[],[],96⟩ (.o (.two (.loop ⟨[(16, .l ae)],[],[],160⟩ (.o (.o (.two (.two (.o (.o (.o (.two (.meet ⟨[],[(304, .box 45 (.leaf bp))],[],481⟩ (.o (.o (.meet ⟨[(36, .l .bool)],[],[],560⟩ .nil .nil))) .nil) .nil)))) .nil) .nil)))) .nil)) .nil))) Tryz.func38 (by kernel_rfl) fun x=>by kernel_rfl
def M.gP(N:Nat)(a0:aN.den)(a1:aN.den):Option (Bool×aN.den):=
some (decide (a0.1=a1.1),a1)
def JB(N:Nat):bU:=⟨⟨[(0, .g aN),(1, .ptr 0 [] 0)],[(0, .box 100 (.leaf aN))],[],1⟩,⟨[(0, .l .bool)],[(0, .box 100 (.leaf aN))],[],2⟩,fun(x:aN.den×aN.den)=>M.gP N x.1 x.2⟩
theorem JC(N:Nat):aL Tryz.prog 134 (JB N):=fw (en [] false false) (N:=N) .nil Tryz.func134 (by kernel_rfl) fun x=>by kernel_rfl
def M.bu(N:Nat)(a0:List aN.den)(a1:aN.den):Option (Int×aN.den):=
Loop (S:=Int×aN.den) (X:=Int×aN.den) (fun s1=>
(if(decide (s1.1<(a0.length:Int)))then
(idx a0 s1.1).bind fun x2=>
(M.gP N x2 s1.2).bind fun y3=>
(if y3.1 then
some (.inr (s1.1,y3.2))
else
some (.inl (YC.wrap (s1.1+1),y3.2)))
else
some (.inr ((-1),s1.2)))) N (0,a1)
def JD(N:Nat):bU:=⟨⟨[(0, .l (.slice aN)),(1, .fn 134 [(0,[],0)])],[(0, .box 100 (.leaf aN))],[],1⟩,⟨[(0, .l ae)],[(0, .box 100 (.leaf aN))],[],2⟩,fun(x:(List aN.den)×aN.den)=>M.bu N x.1 x.2⟩
theorem JE(N:Nat):aL Tryz.prog 158 (JD N):=fw (en [ck (JC N)] false false) (N:=N) (.o (.two (.o (.two (.loop ⟨[(8, .l ae)],[(0, .box 100 (.leaf aN))],[],66⟩ .nil) .nil)) .nil)) Tryz.func158 (by kernel_rfl) fun x=>by kernel_rfl
def M.aR(N:Nat)(a0:List aN.den)(a1:aN.den):Option (Bool×aN.den):=
(M.bu N a0 a1).bind fun y1=>
some (decide (0<=y1.1),y1.2)
def JF(N:Nat):bU:=⟨⟨[(0, .l (.slice aN)),(1, .fn 134 [(0,[],0)])],[(0, .box 100 (.leaf aN))],[],1⟩,⟨[(0, .l .bool)],[(0, .box 100 (.leaf aN))],[],2⟩,fun(x:(List aN.den)×aN.den)=>M.aR N x.1 x.2⟩
theorem JG(N:Nat):aL Tryz.prog 135 (JF N):=fw (en [ck (JE N)] false false) (N:=N) .nil Tryz.func135 (by kernel_rfl) fun x=>by kernel_rfl
def M.iN(N:Nat)(a0:fh.den)(a1:aN.den)(a2:List aN.den)(a3:List aN.den):Option Int:=
(M.cq N a1.1).bind fun y1=>
(if(!y1)then
some 2
else
((M.aR N a2 a1).bind fun y3=>
(if y3.1 then
some (true,y3.2)
else
(M.aR N a3 y3.2).bind fun y4=>
some (y4.1,y4.2)):Option (Bool×aN.den)).bind fun j2=>
(if j2.1 then
some 7
else
(M.bN N j2.2.2 a0.1).bind fun y5=>
(if(!y5)then
some 8
else
some 0)))
def Vt(N:Nat):bU:=⟨⟨[(0, .g fh),(1, .g aN),(2, .l (.slice aN)),(3, .l (.slice aN))],[],[],0⟩,⟨[(0, .l ae)],[],[],0⟩,fun(x:fh.den×aN.den×(List aN.den)×List aN.den)=>M.iN N x.1 x.2.1 x.2.2.1 x.2.2.2⟩
theorem Vu(N:Nat):aL Tryz.prog 98 (Vt N):=fw (en [ck (Mg N),ck (Ml N),ck (JG N)] false false) (N:=N) (.o (.o (.two (.two (.o (.o (.meet ⟨[(16, .l .bool)],[(16, .box 100 (.leaf aN))],[],161⟩ .nil .nil))) .nil) .nil))) Tryz.func98 (by kernel_rfl) fun x=>by kernel_rfl
def M.fT(N:Nat)(a0:List aN.den):Option (List aa.den):=
Loop (S:=Int×List aa.den) (X:=List aa.den) (fun s1=>
(if(decide (s1.1<(a0.length:Int)))then
(idx a0 s1.1).bind fun x2=>
(bZ s1.2 ([x2.2]:List aa.den)).bind fun l3=>
some (.inl (YC.wrap (s1.1+1),l3))
else
some (.inr s1.2))) N (0,([]:List aa.den))
def Qp(N:Nat):bU:=⟨⟨[(0, .l (.slice aN))],[],[],0⟩,⟨[(0, .val false (.own 0))],[(0, .own 66 aa)],[],1⟩,fun(x:List aN.den)=>M.fT N x⟩
theorem Qq(N:Nat):aL Tryz.prog 136 (Qp N):=fw (en [] false false) (N:=N) (.o (.o (.two (.o (.two (.loop ⟨[(3, .val false (.own 80)),(8, .l ae)],[(80, .own 66 aa)],[],81⟩ .nil) .nil)) .nil))) Tryz.func136 (by kernel_rfl) fun x=>by kernel_rfl
def M.il(N:Nat)(a0:fh.den)(a1:Int):Option ((List cm.den)×(List cn.den)×Bool×(List aa.den)×(List aa.den)×List aa.den):=
(idx a0.2.2 a1).bind fun x1=>
(M.fT N x1.2.2.1).bind fun y2=>
(M.fT N x1.2.2.2.1).bind fun y3=>
(((if(decide (0<=x1.2.1))then
some (decide (x1.2.1<(a0.2.2.length:Int)))
else
some false):Option Bool).bind fun j5=>
(if j5 then
(idx a0.2.2 x1.2.1).bind fun x6=>
(M.fT N x6.2.2.2.1).bind fun y7=>
some (y2,y3,a0.1,a0.2.1,true,y7)
else
some (y2,y3,a0.1,a0.2.1,false,([]:List aa.den))):Option ((List aa.den)×(List aa.den)×(List cm.den)×(List cn.den)×Bool×List aa.den)).bind fun j4=>
some (j4.2.2.1,j4.2.2.2.1,j4.2.2.2.2.1,j4.1,j4.2.1,j4.2.2.2.2.2)
def Vv(N:Nat):bU:=⟨⟨[(0, .g fh),(1, .l ae)],[],[],0⟩,⟨[(0, .val true (.pair (.leaf (.slice cm)) (.pair (.leaf (.slice cn)) (.pair (.own 0) (.pair (.own 1) (.pair (.own 2) (.leaf .bool)))))))],[(0, .own 66 aa),(1, .own 66 aa),(2, .own 66 aa)],[],3⟩,fun(x:fh.den×Int)=>M.il N x.1 x.2⟩
theorem Vw(N:Nat):aL Tryz.prog 99 (Vv N):=fw (en [ck (Qq N)] false false) (N:=N) (.o (.o (.o (.meet ⟨[],[(240, .own 66 aa),(288, .own 66 aa),(320, .box 146 (.pair (.leaf (.slice cm)) (.pair (.leaf (.slice cn)) (.pair (.own 240) (.pair (.own 288) (.pair (.own 352) (.leaf .bool))))))),(352, .own 66 aa)],[],356⟩ (.meet ⟨[(33, .l .bool)],[],[],352⟩ .nil .nil) .nil)))) Tryz.func99 (by kernel_rfl) fun x=>by kernel_rfl
def M.strings_Contains(N:Nat)(a0:ByteArray)(a1:ByteArray):Option Bool:=mj (a0,a1)
def Qr(N:Nat):bU:=⟨⟨[(0, .l .str),(1, .l .str)],[],[],0⟩,⟨[(0, .l .bool)],[],[],0⟩,fun(x:ByteArray×ByteArray)=>M.strings_Contains N x.1 x.2⟩
theorem Qs(N:Nat):aL Tryz.prog 160 (Qr N):=wU ⟨_,Tryz.func160,by kernel_rfl,by kernel_rfl⟩ Tryz.strings_Contains_one
def M.kR(N:Nat)(a0:ByteArray):Option Bool:=
((if(decide (64<(a0.size:Int)))then
some true
else
(M.strings_Contains N a0 (⟨#[34]⟩:ByteArray)).bind fun y2=>
some y2):Option Bool).bind fun j1=>
(if j1 then
some false
else
Loop (S:=Int) (X:=Bool) (fun s3=>
(if(decide (s3<(a0.size:Int)))then
((mz a0 s3).bind fun x5=>
(if(decide (x5<32))then
some true
else
(mz a0 s3).bind fun x6=>
some (decide (126<x6))):Option Bool).bind fun j4=>
(if j4 then
some (.inr false)
else
some (.inl (YC.wrap (s3+1))))
else
some (.inr true))) N 0)
def Qt(N:Nat):bU:=⟨⟨[(0, .l .str)],[],[],0⟩,⟨[(0, .l .bool)],[],[],0⟩,fun(x:ByteArray)=>M.kR N x⟩
theorem Qu(N:Nat):aL Tryz.prog 139 (Qt N):=fw (en [ck (Qs N)] false false) (N:=N) (.o (.two (.meet ⟨[(10, .l .bool)],[],[],16⟩ .nil .nil) (.two (.o (.two (.loop ⟨[(13, .l ae)],[],[],64⟩ (.o (.o (.two (.two (.o (.meet ⟨[(25, .l .bool)],[],[],112⟩ .nil .nil)) .nil) .nil)))) .nil)) .nil))) Tryz.func139 (by kernel_rfl) fun x=>by kernel_rfl
def M.iO(N:Nat)(a0:Int):Option Int:=
((if(decide (a0=1))then
some (decide (a0=1))
else
(if(decide (a0=2))then
some (decide (a0=2))
else
(if(decide (a0=3))then
some (decide (a0=3))
else
(if(decide (a0=4))then
some (decide (a0=4))
else
(if(decide (a0=5))then
some (decide (a0=5))
else
(if(decide (a0=6))then
some (decide (a0=6))
else
(if(decide (a0=7))then
some (decide (a0=7))
else
(if(decide (a0=8))then
some (decide (a0=8))
else
(if(decide (a0=9))then
some (decide (a0=9))
else
(if(decide (a0=35))then
some (decide (a0=35))
else
(if(decide (a0=36))then
some (decide (a0=36))
else
(if(decide (a0=37))then
some (decide (a0=37))
else
(if(decide (a0=38))then
some (decide (a0=38))
else
some (decide (a0=39))))))))))))))):Option Bool).bind fun j1=>
(if j1 then
some 0
else
((if(decide (a0=10))then
some (decide (a0=10))
else
(if(decide (a0=25))then
some (decide (a0=25))
else
(if(decide (a0=31))then
some (decide (a0=31))
else
(if(decide (a0=32))then
some (decide (a0=32))
else
(if(decide (a0=33))then
some (decide (a0=33))
else
some (decide (a0=34))))))):Option Bool).bind fun j2=>
(if j2 then
some 1
else
((if(decide (a0=11))then
some (decide (a0=11))
else
(if(decide (a0=12))then
some (decide (a0=12))
else
(if(decide (a0=13))then
some (decide (a0=13))
else
(if(decide (a0=14))then
some (decide (a0=14))
else
(if(decide (a0=15))then
some (decide (a0=15))
else
(if(decide (a0=16))then
some (decide (a0=16))
else
(if(decide (a0=17))then
some (decide (a0=17))
else
(if(decide (a0=18))then
some (decide (a0=18))
else
(if(decide (a0=19))then
some (decide (a0=19))
else
(if(decide (a0=20))then
some (decide (a0=20))
else
(if(decide (a0=21))then
some (decide (a0=21))
else
(if(decide (a0=22))then
some (decide (a0=22))
else
(if(decide (a0=23))then
some (decide (a0=23))
else
(if(decide (a0=24))then
some (decide (a0=24))
else
(if(decide (a0=27))then
some (decide (a0=27))
else
(if(decide (a0=28))then
some (decide (a0=28))
else
(if(decide (a0=29))then
some (decide (a0=29))
else
some (decide (a0=30))))))))))))))))))):Option Bool).bind fun j3=>
(if j3 then
some 2
else
(if(decide (a0=26))then
some 3
else
some (-1)))))
def Qv(N:Nat):bU:=⟨⟨[(0, .l ae)],[],[],0⟩,⟨[(0, .l ae)],[],[],0⟩,fun(x:Int)=>M.iO N x⟩
theorem Mw(N:Nat):aL Tryz.prog 182 (Qv N):=fw (en [] false false) (N:=N) (.o (.two (.o (.two (.meet ⟨[(4, .l .bool)],[],[],32⟩ .nil (.o (.meet ⟨[(19, .l .bool)],[],[],32⟩ .nil (.o (.meet ⟨[(26, .l .bool)],[],[],32⟩ .nil .nil))))) .nil)) .nil)) Tryz.func182 (by kernel_rfl) fun x=>by kernel_rfl
def M.fU(N:Nat)(a0:List aa.den):Option (Int×Int×List Int):=
(if(decide (48<(a0.length:Int)))then
some (0,4,([]:List Int))
else
(if(decide ((a0.length:Int)=0))then
some (0,5,([]:List Int))
else
(sf (a0.length:Int) 0).bind fun l1=>
bI (J:=(List Int)×List Int) (R:=Int×Int×List Int) (Loop (S:=Int×(List Int)×List Int) (X:=((List Int)×List Int)⊕(Int×Int×List Int)) (fun s3=>
(if(decide (s3.1<(a0.length:Int)))then
(idx a0 s3.1).bind fun x4=>
(M.iO N x4.1).bind fun y5=>
(if(decide (y5<0))then
some (.inr (.inr (s3.1,2,([]:List Int))))
else
(if(decide ((s3.2.2.length:Int)<y5))then
some (.inr (.inr (s3.1,5,([]:List Int))))
else
(idx s3.2.1 s3.1).bind fun x6=>
((if(decide (0<y5))then
(idx s3.2.2 (YC.wrap ((s3.2.2.length:Int)-y5))).bind fun x8=>
(idx (bg s3.2.1 s3.1 s3.1) s3.1).bind fun x9=>
some (bg (bg s3.2.1 s3.1 s3.1) s3.1 x8)
else
some (bg s3.2.1 s3.1 s3.1)):Option (List Int)).bind fun j7=>
(dT s3.2.2 0 (YC.wrap ((s3.2.2.length:Int)-y5))).bind fun Hi=>
(idx j7 s3.1).bind fun xE=>
(bZ Hi ([xE]:List Int)).bind fun Gj=>
(if(decide (12<(Gj.length:Int)))then
some (.inr (.inr (s3.1,16,([]:List Int))))
else
some (.inl (YC.wrap (s3.1+1),j7,Gj)))))
else
some (.inr (.inl (s3.2.1,s3.2.2))))) N (0,l1,([]:List Int))) fun j2=>
(if(decide (1<(j2.2.length:Int)))then
some ((a0.length:Int),4,([]:List Int))
else
some (0,0,j2.1))))
def Qw(N:Nat):bU:=⟨⟨[(0, .l (.slice aa))],[],[],0⟩,⟨[(0, .val false (.own 0)),(1, .l ae),(2, .l ae)],[(0, .own 3 ae)],[],1⟩,fun(x:List aa.den)=>M.fU N x⟩
theorem Qx(N:Nat):aL Tryz.prog 180 (Qw N):=fw (en [ck (Mw N)] false false) (N:=N) (.o (.o (.o (.o (.o (.join ⟨[(6, .val false (.own 224))],[(176, .own 3 ae),(224, .own 3 ae)],[],226⟩ (.o (.two (.loop ⟨[(6, .val false (.own 272)),(21, .l ae)],[(176, .own 3 ae),(272, .own 3 ae)],[],274⟩ (.o (.o (.two (.two (.o (.o (.o (.o (.o (.meet ⟨[],[(176, .own 3 ae)],[],627⟩ .nil .nil)))))) .nil) .nil)))) .nil)) .nil)))))) Tryz.func180 (by kernel_rfl) fun x=>by kernel_rfl
def M.kA(N:Nat)(a0:Int):Option Bool:=
((if(decide (a0=1))then
some (decide (a0=1))
else
(if(decide (a0=2))then
some (decide (a0=2))
else
(if(decide (a0=3))then
some (decide (a0=3))
else
(if(decide (a0=4))then
some (decide (a0=4))
else
(if(decide (a0=5))then
some (decide (a0=5))
else
(if(decide (a0=6))then
some (decide (a0=6))
else
(if(decide (a0=7))then
some (decide (a0=7))
else
(if(decide (a0=8))then
some (decide (a0=8))
else
(if(decide (a0=14))then
some (decide (a0=14))
else
(if(decide (a0=15))then
some (decide (a0=15))
else
(if(decide (a0=16))then
some (decide (a0=16))
else
(if(decide (a0=33))then
some (decide (a0=33))
else
(if(decide (a0=34))then
some (decide (a0=34))
else
(if(decide (a0=36))then
some (decide (a0=36))
else
(if(decide (a0=37))then
some (decide (a0=37))
else
(if(decide (a0=38))then
some (decide (a0=38))
else
some (decide (a0=39)))))))))))))))))):Option Bool).bind fun j1=>
(if j1 then
some true
else
some false)
def Qy(N:Nat):bU:=⟨⟨[(0, .l ae)],[],[],0⟩,⟨[(0, .l .bool)],[],[],0⟩,fun(x:Int)=>M.kA N x⟩
theorem Qz(N:Nat):aL Tryz.prog 181 (Qy N):=fw (en [] false false) (N:=N) (.o (.two (.o (.two (.meet ⟨[(4, .l .bool)],[],[],32⟩ .nil .nil) .nil)) .nil)) Tryz.func181 (by kernel_rfl) fun x=>by kernel_rfl
def M.cu(N:Nat)(a0:Int)(a1:Int)(a2:aG.den):Option (aa.den×Int):=
(M.eW N (a1,0) a2.1).bind fun y1=>
((if(decide (a0<y1.1))then
some true
else
some (decide (y1.2<a0))):Option Bool).bind fun j2=>
(if j2 then
some ((0,0),3)
else
some ((a1,0),0))
def QA(N:Nat):bU:=⟨⟨[(0, .l ae),(1, .l ae),(2, .g aG)],[],[],0⟩,⟨[(0, .g aa),(1, .l ae)],[],[],0⟩,fun(x:Int×Int×aG.den)=>M.cu N x.1 x.2.1 x.2.2⟩
theorem QB(N:Nat):aL Tryz.prog 199 (QA N):=fw (en [ck (SO N)] false false) (N:=N) (.o (.o (.two (.o (.meet ⟨[(27, .l .bool)],[],[],256⟩ .nil .nil)) .nil))) Tryz.func199 (by kernel_rfl) fun x=>by kernel_rfl
def M.be(N:Nat)(a0:Int)(a1:aG.den):Option (aa.den×Int):=
(if(decide (a0<0))then
some ((0,0),3)
else
((if(decide ((a1.1.length:Int)<=(YC.wrap (ZK a0 16))))then
some true
else
(idx a1.1 (YC.wrap (ZK a0 16))).bind fun x2=>
some (decide ((x2.2.length:Int)<=(Z7 a0 16)))):Option Bool).bind fun j1=>
(if j1 then
some ((0,0),6)
else
some ((6,YC.wrap (ZK a0 16)),0)))
def QC(N:Nat):bU:=⟨⟨[(0, .l ae),(1, .g aG)],[],[],0⟩,⟨[(0, .g aa),(1, .l ae)],[],[],0⟩,fun(x:Int×aG.den)=>M.be N x.1 x.2⟩
theorem QD(N:Nat):aL Tryz.prog 200 (QC N):=fw (en [] false false) (N:=N) (.o (.o (.o (.two (.meet ⟨[(30, .l .bool)],[],[],176⟩ .nil .nil) .nil)))) Tryz.func200 (by kernel_rfl) fun x=>by kernel_rfl
def M.dq(N:Nat)(a0:Int)(a1:List aa.den)(a2:aG.den):Option (aa.den×Int):=
((if(decide (a0<0))then
some true
else
some (decide ((a1.length:Int)<=a0))):Option Bool).bind fun j1=>
(if j1 then
some ((0,0),6)
else
(idx a1 a0).bind fun x2=>
(M.bN N x2 a2.1).bind fun y3=>
(if(!y3)then
some ((0,0),8)
else
(idx a1 a0).bind fun x4=>
some (x4,0)))
def QE(N:Nat):bU:=⟨⟨[(0, .l ae),(1, .l (.slice aa)),(2, .g aG)],[],[],0⟩,⟨[(0, .g aa),(1, .l ae)],[],[],0⟩,fun(x:Int×(List aa.den)×aG.den)=>M.dq N x.1 x.2.1 x.2.2⟩
theorem Mx(N:Nat):aL Tryz.prog 201 (QE N):=fw (en [ck (Ml N)] false false) (N:=N) (.o (.two (.meet ⟨[(15, .l .bool)],[],[],48⟩ .nil .nil) .nil)) Tryz.func201 (by kernel_rfl) fun x=>by kernel_rfl
def M.eM(N:Nat)(a0:Int):Option Bool:=
((if(decide (0<=a0))then
some (decide (a0<=5))
else
some false):Option Bool).bind fun j1=>
some j1
def QF(N:Nat):bU:=⟨⟨[(0, .l ae)],[],[],0⟩,⟨[(0, .l .bool)],[],[],0⟩,fun(x:Int)=>M.eM N x⟩
theorem My(N:Nat):aL Tryz.prog 204 (QF N):=fw (en [] false false) (N:=N) (.o (.meet ⟨[(2, .l .bool)],[],[],16⟩ .nil .nil)) Tryz.func204 (by kernel_rfl) fun x=>by kernel_rfl
def M.fV(N:Nat)(a0:aa.den)(a1:aa.den)(a2:aG.den):Option (aa.den×Int):=
bI (J:=Int) (R:=aa.den×Int) ((if(decide (a0.1=34))then
((if(decide (a0.2<0))then
some true
else
(M.eM N (Z7 a0.2 8)).bind fun y3=>
some (!y3)):Option Bool).bind fun j2=>
(if j2 then
some (.inr ((0,0),3))
else
some (.inl (YC.wrap (ZK a0.2 8))))
else
some (.inl a0.2))) fun j1=>
((if(decide (j1<0))then
some true
else
some (decide ((a2.2.1.length:Int)<=j1))):Option Bool).bind fun j4=>
(if j4 then
some ((0,0),6)
else
(idx a2.2.1 j1).bind fun x5=>
(idx a2.2.1 j1).bind fun x6=>
((M.bN N x5.2.1 a2.1).bind fun y8=>
(if(!y8)then
some true
else
(M.bN N x6.2.2.1 a2.1).bind fun y9=>
(if(!y9)then
some true
else
some (!(ki aa a1 x5.2.1)))):Option Bool).bind fun j7=>
(if j7 then
some ((0,0),8)
else
(if(decide (a0.1=34))then
((if(!decide (x5.2.1.1=3))then
some true
else
some (!decide (x6.2.2.1.1=4))):Option Bool).bind fun rK=>
(if rK then
some ((0,0),8)
else
some (x5.2.1,0))
else
some (x6.2.2.1,0))))
def QG(N:Nat):bU:=⟨⟨[(0, .g aa),(1, .g aa),(2, .g aG)],[],[],0⟩,⟨[(0, .g aa),(1, .l ae)],[],[],0⟩,fun(x:aa.den×aa.den×aG.den)=>M.fV N x.1 x.2.1 x.2.2⟩
theorem QH(N:Nat):aL Tryz.prog 202 (QG N):=fw (en [ck (Ml N),ck (My N)] false false) (N:=N) (.o (.o (.join ⟨[(8, .l ae)],[],[],128⟩ (.o (.two (.two (.meet ⟨[(25, .l .bool)],[],[],176⟩ .nil .nil) .nil) .nil)) (.two (.meet ⟨[(38, .l .bool)],[],[],128⟩ .nil .nil) (.o (.two (.meet ⟨[(68, .l .bool)],[],[],384⟩ .nil .nil) (.two (.o (.two (.two (.meet ⟨[(80, .l .bool)],[],[],432⟩ .nil .nil) .nil) .nil)) .nil))))))) Tryz.func202 (by kernel_rfl) fun x=>by kernel_rfl
def M.da(N:Nat)(a0:Int):Option Bool:=
((if(decide (a0=2))then
some true
else
(if(decide (a0=3))then
some true
else
some (decide (a0=4)))):Option Bool).bind fun j1=>
some j1
def QI(N:Nat):bU:=⟨⟨[(0, .l ae)],[],[],0⟩,⟨[(0, .l .bool)],[],[],0⟩,fun(x:Int)=>M.da N x⟩
theorem Mz(N:Nat):aL Tryz.prog 217 (QI N):=fw (en [] false false) (N:=N) (.o (.meet ⟨[(2, .l .bool)],[],[],16⟩ .nil .nil)) Tryz.func217 (by kernel_rfl) fun x=>by kernel_rfl
def M.aT(N:Nat)(a0:aa.den)(a1:aG.den):Option (aa.den×Int):=
(if(!a1.2.2.2.2.2)then
some ((0,0),6)
else
(if(decide (a0.1=35))then
some ((2,0),0)
else
(M.dq N a0.2 a1.2.2.2.2.1 a1).bind fun y1=>
(if(!decide (y1.2=0))then
some ((0,0),y1.2)
else
((if(decide (a0.1=36))then
(if(decide (y1.1.1=2))then
some true
else
some (decide (y1.1.1=3)))
else
((if(decide (a0.1=37))then
some (decide (a0.1=37))
else
some (decide (a0.1=38))):Option Bool).bind fun j3=>
(if j3 then
some (decide (y1.1.1=1))
else
(if(decide (a0.1=39))then
(M.da N y1.1.1).bind fun y4=>
(if y4 then
some true
else
some (decide (y1.1.1=5)))
else
some false))):Option Bool).bind fun j2=>
(if(!j2)then
some ((0,0),8)
else
some (y1.1,0)))))
def QJ(N:Nat):bU:=⟨⟨[(0, .g aa),(1, .g aG)],[],[],0⟩,⟨[(0, .g aa),(1, .l ae)],[],[],0⟩,fun(x:aa.den×aG.den)=>M.aT N x.1 x.2⟩
theorem QK(N:Nat):aL Tryz.prog 203 (QJ N):=fw (en [ck (Mx N),ck (Mz N)] false false) (N:=N) (.o (.o (.o (.o (.o (.o (.two (.o (.meet ⟨[(8, .l .bool)],[],[],432⟩ (.o (.o (.meet ⟨[(42, .l .bool)],[],[],464⟩ .nil .nil))) .nil)) .nil))))))) Tryz.func203 (by kernel_rfl) fun x=>by kernel_rfl
def M.gv(N:Nat)(a0:Int)(a1:Int)(a2:Int):Option (aa.den×Bool):=
(if(decide (a0=14))then
((if(decide (a2=4))then
(if(decide (a1=3))then
some (true,(a1,0))
else
some (decide (a1=4),(a1,0)))
else
some (false,(a1,0))):Option (Bool×aa.den)).bind fun j1=>
some (j1.2,j1.1)
else
(if(decide (a2=2))then
((if(decide (a1=2))then
some (true,(a1,0))
else
some (decide (a1=3),(a1,0))):Option (Bool×aa.den)).bind fun j2=>
some (j2.2,j2.1)
else
((if(decide (a0=15))then
(if(decide (a1=3))then
some (decide (a2=3))
else
some false)
else
some false):Option Bool).bind fun j3=>
(if j3 then
some ((4,0),true)
else
some ((0,0),false))))
def QL(N:Nat):bU:=⟨⟨[(0, .l ae),(1, .l ae),(2, .l ae)],[],[],0⟩,⟨[(0, .g aa),(1, .l .bool)],[],[],0⟩,fun(x:Int×Int×Int)=>M.gv N x.1 x.2.1 x.2.2⟩
theorem QM(N:Nat):aL Tryz.prog 218 (QL N):=fw (en [] false false) (N:=N) (.o (.two (.two (.o (.two (.meet ⟨[(7, .l .bool)],[(0, .box 66 (.leaf aa))],[],81⟩ .nil .nil) (.o (.two (.meet ⟨[(7, .l .bool)],[(0, .box 66 (.leaf aa))],[],129⟩ .nil .nil) (.meet ⟨[(34, .l .bool)],[],[],128⟩ .nil .nil))))) .nil) .nil)) Tryz.func218 (by kernel_rfl) fun x=>by kernel_rfl
def M.cA(N:Nat)(a0:Int)(a1:List aa.den):Option (aa.den×Bool):=
(if(decide (a0=10))then
(idx a1 0).bind fun x1=>
(idx a1 0).bind fun x2=>
(M.da N x2.1).bind fun y3=>
some (x1,y3)
else
(if(decide (a0=25))then
(idx a1 0).bind fun x4=>
some ((1,0),decide (x4.1=1))
else
((if(decide (a0=11))then
some (decide (a0=11))
else
some (decide (a0=12))):Option Bool).bind fun j5=>
(if j5 then
((idx a1 0).bind fun x7=>
(idx a1 0).bind fun x8=>
(idx a1 1).bind fun x9=>
(if(ki aa x8 x9)then
(idx a1 0).bind fun tl=>
(M.da N tl.1).bind fun Cq=>
some (Cq,x7)
else
some (false,x7)):Option (Bool×aa.den)).bind fun j6=>
some (j6.2,j6.1)
else
((if(decide (a0=13))then
some (decide (a0=13))
else
(if(decide (a0=14))then
some (decide (a0=14))
else
some (decide (a0=15)))):Option Bool).bind fun vh=>
(if vh then
(idx a1 0).bind fun r4=>
(idx a1 1).bind fun Hj=>
(M.gv N a0 r4.1 Hj.1).bind fun Iy=>
some (Iy.1,Iy.2)
else
(if(decide (a0=16))then
((idx a1 0).bind fun MA=>
(idx a1 0).bind fun MB=>
(if(decide (MB.1=3))then
(idx a1 1).bind fun MC=>
some (decide (MC.1=3),MA)
else
some (false,MA)):Option (Bool×aa.den)).bind fun Gk=>
some (Gk.2,Gk.1)
else
((if(decide (a0=17))then
some (decide (a0=17))
else
some (decide (a0=18))):Option Bool).bind fun KJ=>
(if KJ then
((idx a1 0).bind fun JH=>
(idx a1 0).bind fun Vx=>
(idx a1 1).bind fun Vy=>
(if(ki aa Vx Vy)then
(idx a1 0).bind fun QN=>
(M.da N QN.1).bind fun QO=>
(if QO then
some (true,JH)
else
(idx a1 0).bind fun Vz=>
some (decide (Vz.1=5),JH))
else
some (false,JH)):Option (Bool×aa.den)).bind fun QP=>
some (QP.2,QP.1)
else
((if(decide (a0=19))then
some (decide (a0=19))
else
some (decide (a0=20))):Option Bool).bind fun QR=>
(if QR then
(idx a1 0).bind fun QS=>
(idx a1 1).bind fun VA=>
some ((1,0),(ki aa QS VA))
else
((if(decide (a0=21))then
some (decide (a0=21))
else
some (decide (a0=22))):Option Bool).bind fun KL=>
(if KL then
((idx a1 0).bind fun VB=>
(idx a1 1).bind fun VC=>
(if(ki aa VB VC)then
(idx a1 0).bind fun VD=>
(M.da N VD.1).bind fun VE=>
(if VE then
some (true,(1,0))
else
(idx a1 0).bind fun VF=>
some (decide (VF.1=5),(1,0)))
else
some (false,(1,0))):Option (Bool×aa.den)).bind fun SQ=>
some (SQ.2,SQ.1)
else
((if(decide (a0=23))then
some (decide (a0=23))
else
some (decide (a0=24))):Option Bool).bind fun VG=>
(if VG then
((idx a1 0).bind fun VH=>
(if(decide (VH.1=1))then
(idx a1 1).bind fun VI=>
some (decide (VI.1=1),(1,0))
else
some (false,(1,0))):Option (Bool×aa.den)).bind fun SR=>
some (SR.2,SR.1)
else
(if(decide (a0=26))then
((idx a1 1).bind fun SU=>
(idx a1 0).bind fun VJ=>
(if(decide (VJ.1=1))then
(idx a1 1).bind fun VK=>
(idx a1 2).bind fun VL=>
some ((ki aa VK VL),SU)
else
some (false,SU)):Option (Bool×aa.den)).bind fun SV=>
some (SV.2,SV.1)
else
((if(decide (a0=27))then
some (decide (a0=27))
else
some (decide (a0=28))):Option Bool).bind fun VM=>
(if VM then
((idx a1 0).bind fun SX=>
(idx a1 0).bind fun VN=>
(if(decide (VN.1=5))then
(idx a1 1).bind fun VO=>
some (decide (VO.1=2),SX)
else
some (false,SX)):Option (Bool×aa.den)).bind fun SY=>
some (SY.2,SY.1)
else
((if(decide (a0=29))then
some (decide (a0=29))
else
some (decide (a0=30))):Option Bool).bind fun VP=>
(if VP then
((idx a1 0).bind fun VQ=>
(if(decide (VQ.1=5))then
(idx a1 1).bind fun VS=>
some (decide (VS.1=5),(2,0))
else
some (false,(2,0))):Option (Bool×aa.den)).bind fun SZ=>
some (SZ.2,SZ.1)
else
((if(decide (a0=31))then
some (decide (a0=31))
else
some (decide (a0=32))):Option Bool).bind fun VT=>
(if VT then
(idx a1 0).bind fun VU=>
some ((2,0),decide (VU.1=5))
else
some ((0,0),false))))))))))))))
def QT(N:Nat):bU:=⟨⟨[(0, .l ae),(1, .l (.slice aa))],[],[],0⟩,⟨[(0, .g aa),(1, .l .bool)],[],[],0⟩,fun(x:Int×List aa.den)=>M.cA N x.1 x.2⟩
theorem QU(N:Nat):aL Tryz.prog 205 (QT N):=fw (en [ck (Mz N),ck (QM N)] false false) (N:=N) (.o (.o (.two (.o (.two (.o (.o (.o (.o (.meet ⟨[(27, .l .bool)],[],[],160⟩ .nil (.two (.meet ⟨[(5, .l .bool)],[(0, .box 66 (.leaf aa))],[],161⟩ .nil .nil) (.meet ⟨[(47, .l .bool)],[],[],160⟩ .nil (.o (.o (.two (.meet ⟨[(5, .l .bool)],[(0, .box 66 (.leaf aa))],[],193⟩ .nil .nil) (.meet ⟨[(80, .l .bool)],[],[],192⟩ .nil (.two (.meet ⟨[(5, .l .bool)],[(0, .box 66 (.leaf aa))],[],193⟩ .nil .nil) (.meet ⟨[(107, .l .bool)],[],[],192⟩ .nil (.o (.meet ⟨[(118, .l .bool)],[],[],192⟩ .nil (.two (.meet ⟨[(5, .l .bool)],[(0, .box 66 (.leaf aa))],[],193⟩ .nil .nil) (.meet ⟨[(143, .l .bool)],[],[],192⟩ .nil (.two (.meet ⟨[(5, .l .bool)],[(0, .box 66 (.leaf aa))],[],193⟩ .nil .nil) (.o (.two (.meet ⟨[(5, .l .bool)],[(0, .box 66 (.leaf aa))],[],225⟩ .nil .nil) (.meet ⟨[(178, .l .bool)],[],[],224⟩ .nil (.two (.meet ⟨[(5, .l .bool)],[(0, .box 66 (.leaf aa))],[],225⟩ .nil .nil) (.meet ⟨[(196, .l .bool)],[],[],224⟩ .nil (.two (.meet ⟨[(5, .l .bool)],[(0, .box 66 (.leaf aa))],[],225⟩ .nil .nil) (.meet ⟨[(212, .l .bool)],[],[],224⟩ .nil .nil))))))))))))))))))))))))) .nil)) .nil))) Tryz.func205 (by kernel_rfl) fun x=>by kernel_rfl
def M.aC(N:Nat)(a0:aa.den)(a1:List aa.den)(a2:aG.den):Option (aa.den×Int):=
bI (J:=Unit) (R:=aa.den×Int) ((if(decide (a0.1=1))then
(M.cu N a0.2 1 a2).bind fun y2=>
some (.inr (y2.1,y2.2))
else
(if(decide (a0.1=2))then
(M.cu N a0.2 2 a2).bind fun y3=>
some (.inr (y3.1,y3.2))
else
(if(decide (a0.1=3))then
(M.cu N a0.2 3 a2).bind fun y4=>
some (.inr (y4.1,y4.2))
else
(if(decide (a0.1=4))then
(M.cu N a0.2 4 a2).bind fun y5=>
some (.inr (y5.1,y5.2))
else
(if(decide (a0.1=5))then
(M.cu N a0.2 5 a2).bind fun y6=>
some (.inr (y6.1,y6.2))
else
(if(decide (a0.1=6))then
(M.be N a0.2 a2).bind fun y7=>
some (.inr (y7.1,y7.2))
else
(if(decide (a0.1=7))then
(M.dq N a0.2 a2.2.2.1 a2).bind fun y8=>
some (.inr (y8.1,y8.2))
else
(if(decide (a0.1=8))then
(M.dq N a0.2 a2.2.2.2.1 a2).bind fun y9=>
some (.inr (y9.1,y9.2))
else
(if(decide (a0.1=9))then
some (.inr ((5,0),0))
else
((if(decide (a0.1=33))then
some (decide (a0.1=33))
else
some (decide (a0.1=34))):Option Bool).bind fun rK=>
(if rK then
(idx a1 0).bind fun xE=>
(M.fV N a0 xE a2).bind fun Hk=>
some (.inr (Hk.1,Hk.2))
else
((if(decide (a0.1=35))then
some (decide (a0.1=35))
else
(if(decide (a0.1=36))then
some (decide (a0.1=36))
else
(if(decide (a0.1=37))then
some (decide (a0.1=37))
else
(if(decide (a0.1=38))then
some (decide (a0.1=38))
else
some (decide (a0.1=39)))))):Option Bool).bind fun Gl=>
(if Gl then
(M.aT N a0 a2).bind fun vi=>
some (.inr (vi.1,vi.2))
else
((if(decide (a0.1=14))then
some (decide (a0.1=14))
else
(if(decide (a0.1=15))then
some (decide (a0.1=15))
else
some (decide (a0.1=16)))):Option Bool).bind fun Hl=>
(if Hl then
(M.eM N a0.2).bind fun QV=>
(if(!QV)then
some (.inr ((0,0),3))
else
some (.inl ()))
else
some (.inl ())))))))))))))) fun j1=>
(M.cA N a0.1 a1).bind fun JI=>
(if(!JI.2)then
some ((0,0),8)
else
some (JI.1,0))
def QW(N:Nat):bU:=⟨⟨[(0, .g aa),(1, .l (.slice aa)),(2, .g aG)],[],[],0⟩,⟨[(0, .g aa),(1, .l ae)],[],[],0⟩,fun(x:aa.den×(List aa.den)×aG.den)=>M.aC N x.1 x.2.1 x.2.2⟩
theorem QX(N:Nat):aL Tryz.prog 183 (QW N):=fw (en [ck (QB N),ck (QD N),ck (Mx N),ck (QH N),ck (QK N),ck (My N),ck (QU N)] false false) (N:=N) (.o (.two (.o (.join ⟨[],[],[],96⟩ (.o (.o (.o (.o (.o (.o (.o (.o (.o (.o (.o (.o (.o (.o (.o (.o (.o (.o (.meet ⟨[(83, .l .bool)],[],[],384⟩ .nil (.o (.meet ⟨[(94, .l .bool)],[],[],384⟩ .nil (.o (.meet ⟨[(105, .l .bool)],[],[],384⟩ .nil .nil))))))))))))))))))))))) .nil)) .nil)) Tryz.func183 (by kernel_rfl) fun x=>by kernel_rfl
def M.jm(N:Nat)(a0:List aa.den)(a1:aG.den):Option (aa.den×Int×Int):=
(M.fU N a0).bind fun y1=>
(if(!decide (y1.2.1=0))then
some ((0,0),y1.1,y1.2.1)
else
bI (J:=List aa.den) (R:=aa.den×Int×Int) (Loop (S:=Int×List aa.den) (X:=(List aa.den)⊕(aa.den×Int×Int)) (fun s3=>
(if(decide (s3.1<(a0.length:Int)))then
(idx a0 s3.1).bind fun x4=>
((if(!decide (x4.2=0))then
(M.kA N x4.1).bind fun y6=>
some (!y6)
else
some false):Option Bool).bind fun j5=>
(if j5 then
some (.inr (.inr ((0,0),s3.1,2)))
else
(M.iO N x4.1).bind fun y7=>
(dT s3.2 (YC.wrap ((s3.2.length:Int)-y7)) (s3.2.length:Int)).bind fun l8=>
(M.aC N x4 l8 a1).bind fun y9=>
(if(!decide (y9.2=0))then
some (.inr (.inr ((0,0),s3.1,y9.2)))
else
(dT s3.2 0 (YC.wrap ((s3.2.length:Int)-y7))).bind fun Hi=>
(bZ Hi ([y9.1]:List aa.den)).bind fun Hm=>
some (.inl (YC.wrap (s3.1+1),Hm))))
else
some (.inr (.inl s3.2)))) N (0,([]:List aa.den))) fun j2=>
(idx j2 0).bind fun As=>
some (As,0,0))
def QY(N:Nat):bU:=⟨⟨[(0, .l (.slice aa)),(1, .g aG)],[],[],0⟩,⟨[(0, .g aa),(1, .l ae),(2, .l ae)],[],[],0⟩,fun(x:(List aa.den)×aG.den)=>M.jm N x.1 x.2⟩
theorem QZ(N:Nat):aL Tryz.prog 161 (QY N):=fw (en [ck (Qx N),ck (Qz N),ck (Mw N),ck (QX N)] false false) (N:=N) (.o (.o (.o (.o (.join ⟨[(10, .val false (.own 256))],[(256, .own 66 aa)],[],257⟩ (.o (.two (.loop ⟨[(10, .val false (.own 304)),(29, .l ae)],[(304, .own 66 aa)],[],305⟩ (.o (.o (.two (.two (.o (.two (.meet ⟨[(42, .l .bool)],[],[],417⟩ .nil .nil) .nil)) .nil) .nil)))) .nil)) .nil))))) Tryz.func161 (by kernel_rfl) fun x=>by kernel_rfl
def M.jz(N:Nat)(a0:List aa.den)(a1:aG.den)(a2:aa.den):Option Int:=
(M.jm N a0 a1).bind fun y1=>
(if(!decide (y1.2.2=0))then
some y1.2.2
else
(if(!(ki aa y1.1 a2))then
some 8
else
some 0))
def Q0(N:Nat):bU:=⟨⟨[(0, .l (.slice aa)),(1, .g aG),(2, .g aa)],[],[],0⟩,⟨[(0, .l ae)],[],[],0⟩,fun(x:(List aa.den)×aG.den×aa.den)=>M.jz N x.1 x.2.1 x.2.2⟩
theorem Q1(N:Nat):aL Tryz.prog 140 (Q0 N):=fw (en [ck (QZ N)] false false) (N:=N) .nil Tryz.func140 (by kernel_rfl) fun x=>by kernel_rfl
def M.iq(N:Nat)(a0:bK.den)(a1:bK.den):Option (Bool×bK.den):=
some (decide (a0.1=a1.1),a1)
def JJ(N:Nat):bU:=⟨⟨[(0, .g bK),(1, .ptr 0 [] 0)],[(0, .box 77 (.leaf bK))],[],1⟩,⟨[(0, .l .bool)],[(0, .box 77 (.leaf bK))],[],2⟩,fun(x:bK.den×bK.den)=>M.iq N x.1 x.2⟩
theorem JK(N:Nat):aL Tryz.prog 138 (JJ N):=fw (en [] false false) (N:=N) .nil Tryz.func138 (by kernel_rfl) fun x=>by kernel_rfl
def M.bC(N:Nat)(a0:List bK.den)(a1:bK.den):Option (Int×bK.den):=
Loop (S:=Int×bK.den) (X:=Int×bK.den) (fun s1=>
(if(decide (s1.1<(a0.length:Int)))then
(idx a0 s1.1).bind fun x2=>
(M.iq N x2 s1.2).bind fun y3=>
(if y3.1 then
some (.inr (s1.1,y3.2))
else
some (.inl (YC.wrap (s1.1+1),y3.2)))
else
some (.inr ((-1),s1.2)))) N (0,a1)
def JL(N:Nat):bU:=⟨⟨[(0, .l (.slice bK)),(1, .fn 138 [(0,[],0)])],[(0, .box 77 (.leaf bK))],[],1⟩,⟨[(0, .l ae)],[(0, .box 77 (.leaf bK))],[],2⟩,fun(x:(List bK.den)×bK.den)=>M.bC N x.1 x.2⟩
theorem JM(N:Nat):aL Tryz.prog 159 (JL N):=fw (en [ck (JK N)] false false) (N:=N) (.o (.two (.o (.two (.loop ⟨[(8, .l ae)],[(0, .box 77 (.leaf bK))],[],66⟩ .nil) .nil)) .nil)) Tryz.func159 (by kernel_rfl) fun x=>by kernel_rfl
def M.bo(N:Nat)(a0:List bK.den)(a1:bK.den):Option (Bool×bK.den):=
(M.bC N a0 a1).bind fun y1=>
some (decide (0<=y1.1),y1.2)
def JN(N:Nat):bU:=⟨⟨[(0, .l (.slice bK)),(1, .fn 138 [(0,[],0)])],[(0, .box 77 (.leaf bK))],[],1⟩,⟨[(0, .l .bool)],[(0, .box 77 (.leaf bK))],[],2⟩,fun(x:(List bK.den)×bK.den)=>M.bo N x.1 x.2⟩
theorem JO(N:Nat):aL Tryz.prog 137 (JN N):=fw (en [ck (JM N)] false false) (N:=N) .nil Tryz.func137 (by kernel_rfl) fun x=>by kernel_rfl
def M.mG(N:Nat)(a0:aO.den)(a1:Int)(a2:aG.den):Option Int:=
(idx a0.2.2.2.2 a1).bind fun x1=>
((dT a0.2.2.2.2 0 a1).bind fun l3=>
Loop (S:=Int×Int) (X:=Int) (fun s4=>
(if(decide (s4.2<(l3.length:Int)))then
((idx l3 s4.2).bind fun x6=>
(if(decide (x6.2.1=x1.2.1))then
some (YC.wrap (s4.1+1))
else
some s4.1):Option Int).bind fun j5=>
some (.inl (j5,YC.wrap (s4.2+1)))
else
some (.inr s4.1))) N (0,0):Option Int).bind fun j2=>
(M.cq N x1.1).bind fun y7=>
(if(!y7)then
some 2
else
(dT a0.2.2.2.2 0 a1).bind fun l8=>
(M.bo N l8 x1).bind fun y9=>
(if y9.1 then
some 7
else
((if(decide (y9.2.2.1<0))then
some true
else
some (decide ((a0.2.2.2.1.length:Int)<=y9.2.2.1))):Option Bool).bind fun rK=>
(if rK then
some 6
else
((if(!decide (y9.2.2.2.1=(-1)))then
(if(decide (y9.2.2.2.1<0))then
some true
else
(if(decide (a1<=y9.2.2.2.1))then
some true
else
(idx a0.2.2.2.2 y9.2.2.2.1).bind fun As=>
some (!decide (As.2.1=y9.2.2.1))))
else
some false):Option Bool).bind fun Cp=>
(if Cp then
some 9
else
((if(decide (y9.2.2.2.2.1<0))then
some true
else
some (decide (9<y9.2.2.2.2.1))):Option Bool).bind fun Gl=>
(if Gl then
some 3
else
((if(decide (y9.2.2.2.2.2.1.1<0))then
some true
else
(if(decide (y9.2.2.2.2.2.1.2<=y9.2.2.2.2.2.1.1))then
some true
else
some (decide (109573<y9.2.2.2.2.2.1.2)))):Option Bool).bind fun Gm=>
(if Gm then
some 3
else
(if(decide (8<=j2))then
some 4
else
(M.kR N y9.2.2.2.2.2.2.2.2).bind fun Iy=>
(if(!Iy)then
some 2
else
bI (J:=Unit) (R:=Int) ((if(decide (0<(y9.2.2.2.2.2.2.1.length:Int)))then
(M.jz N y9.2.2.2.2.2.2.1 a2 (1,0)).bind fun JI=>
(if(!decide (JI=0))then
some (.inr JI)
else
some (.inl ()))
else
some (.inl ()))) fun Gk=>
(idx a0.2.2.2.1 y9.2.2.1).bind fun MB=>
(M.jz N y9.2.2.2.2.2.2.2.1 a2 MB.2).bind fun NY=>
some NY))))))))
def Q2(N:Nat):bU:=⟨⟨[(0, .g aO),(1, .l ae),(2, .g aG)],[],[],0⟩,⟨[(0, .l ae)],[],[],0⟩,fun(x:aO.den×Int×aG.den)=>M.mG N x.1 x.2.1 x.2.2⟩
theorem Q3(N:Nat):aL Tryz.prog 100 (Q2 N):=fw (en [ck (Mg N),ck (JO N),ck (Qu N),ck (Q1 N)] false false) (N:=N) (.o (.o (.o (.meet ⟨[(8, .l ae)],[],[],176⟩ (.o (.two (.loop ⟨[(8, .l ae),(22, .l ae)],[],[],272⟩ (.o (.o (.two (.meet ⟨[(8, .l ae)],[],[],288⟩ .nil .nil) .nil)))) .nil)) (.two (.two (.o (.o (.o (.o (.meet ⟨[(46, .l .bool)],[],[],368⟩ .nil (.o (.meet ⟨[(58, .l .bool)],[],[],368⟩ .nil (.o (.meet ⟨[(85, .l .bool)],[],[],368⟩ .nil (.o (.meet ⟨[(94, .l .bool)],[],[],368⟩ .nil .nil))))))))))) .nil) (.join ⟨[],[],[],496⟩ .nil .nil)))))) Tryz.func100 (by kernel_rfl) fun x=>by kernel_rfl
def M.gQ(N:Nat)(a0:List Int)(a1:Int):Option Int:=
Loop (S:=Int) (X:=Int) (fun s1=>
(if(decide (s1<(a0.length:Int)))then
(idx a0 s1).bind fun x2=>
(if(decide (a1=x2))then
some (.inr s1)
else
some (.inl (YC.wrap (s1+1))))
else
some (.inr (-1)))) N 0
def Q4(N:Nat):bU:=⟨⟨[(0, .l (.slice ae)),(1, .l ae)],[],[],0⟩,⟨[(0, .l ae)],[],[],0⟩,fun(x:(List Int)×Int)=>M.gQ N x.1 x.2⟩
theorem Q5(N:Nat):aL Tryz.prog 141 (Q4 N):=fw (en [] false false) (N:=N) (.o (.two (.o (.two (.loop ⟨[(8, .l ae)],[],[],64⟩ .nil) .nil)) .nil)) Tryz.func141 (by kernel_rfl) fun x=>by kernel_rfl
def M.fJ(N:Nat)(a0:List Int)(a1:Int):Option Bool:=
(M.gQ N a0 a1).bind fun y1=>
some (decide (0<=y1))
def Q6(N:Nat):bU:=⟨⟨[(0, .l (.slice ae)),(1, .l ae)],[],[],0⟩,⟨[(0, .l .bool)],[],[],0⟩,fun(x:(List Int)×Int)=>M.fJ N x.1 x.2⟩
theorem Q7(N:Nat):aL Tryz.prog 101 (Q6 N):=fw (en [ck (Q5 N)] false false) (N:=N) .nil Tryz.func101 (by kernel_rfl) fun x=>by kernel_rfl
def M.iv(N:Nat)(a0:List (List Int))(a1:Int):Option (List Int):=
(sf (a0.length:Int) false).bind fun l1=>
(Loop (S:=(List Bool)×List Int) (X:=List Bool) (fun s3=>
(if(decide (0<(s3.2.length:Int)))then
(idx s3.2 0).bind fun x4=>
(dT s3.2 1 (s3.2.length:Int)).bind fun l5=>
(idx a0 x4).bind fun x6=>
Loop (S:=Int×(List Bool)×List Int) (X:=((List Bool)×List Int)⊕(List Bool)) (fun s7=>
(if(decide (s7.1<(x6.length:Int)))then
((idx x6 s7.1).bind fun x9=>
(idx s7.2.1 x9).bind fun tl=>
(if(!tl)then
(idx s7.2.1 x9).bind fun xE=>
(bZ s7.2.2 ([x9]:List Int)).bind fun Gj=>
some (bg s7.2.1 x9 true,Gj)
else
some (s7.2.1,s7.2.2)):Option ((List Bool)×List Int)).bind fun j8=>
some (.inl (YC.wrap (s7.1+1),j8.1,j8.2))
else
some (.inr (.inl (s7.2.1,s7.2.2))))) N (0,s3.1,l5)
else
some (.inr s3.1))) N (l1,([a1]:List Int)):Option (List Bool)).bind fun j2=>
Loop (S:=Int×List Int) (X:=List Int) (fun JP=>
(if(decide (JP.1<(j2.length:Int)))then
((idx j2 JP.1).bind fun Gn=>
(if Gn then
(bZ JP.2 ([JP.1]:List Int)).bind fun JQ=>
some JQ
else
some JP.2):Option (List Int)).bind fun Gm=>
some (.inl (YC.wrap (JP.1+1),Gm))
else
some (.inr JP.2))) N (0,([]:List Int))
def Q8(N:Nat):bU:=⟨⟨[(0, .l (.slice (.slice ae))),(1, .l ae)],[],[],0⟩,⟨[(0, .val false (.own 0))],[(0, .own 3 ae)],[],1⟩,fun(x:(List (List Int))×Int)=>M.iv N x.1 x.2⟩
theorem Q9(N:Nat):aL Tryz.prog 142 (Q8 N):=fw (en [] false true) (N:=N) (.o (.o (.o (.meet ⟨[],[(48, .own 4 .bool)],[96],129⟩ (.two (.loop ⟨[(6, .val false (.own 128))],[(48, .own 4 .bool),(128, .own 3 ae)],[96],130⟩ (.o (.two (.o (.o (.o (.two (.loop ⟨[(6, .val false (.own 386)),(31, .l ae)],[(48, .own 4 .bool),(386, .own 3 ae)],[258],388⟩ (.o (.o (.two (.meet ⟨[(6, .val false (.own 404))],[(48, .own 4 .bool),(404, .own 3 ae)],[386],406⟩ .nil .nil) .nil)))) .nil)))) .nil))) .nil) (.o (.two (.o (.two (.loop ⟨[(10, .val false (.own 193)),(50, .l ae)],[(193, .own 3 ae)],[],194⟩ (.o (.o (.two (.meet ⟨[(10, .val false (.own 210))],[(210, .own 3 ae)],[193],211⟩ .nil .nil) .nil)))) .nil)) .nil)))))) Tryz.func142 (by kernel_rfl) fun x=>by kernel_rfl
def M.cz(N:Nat)(a0:List Int):Option (List Int):=wT a0
def Ra(N:Nat):bU:=⟨⟨[(0, .val false (.own 0))],[(0, .own 3 ae)],[],1⟩,⟨[],[(0, .own 3 ae)],[],2⟩,fun(x:List Int)=>M.cz N x⟩
theorem MD(N:Nat):aL Tryz.prog 185 (Ra N):=Hg ⟨_,Tryz.func185,by kernel_rfl,by kernel_rfl⟩ Tryz.slices_Sort_int Tryz.slices_Sort_int_none
def M.bS(N:Nat)(a0:List Int):Option (List Int):=lp a0
def Rb(N:Nat):bU:=⟨⟨[(0, .val false (.own 0))],[(0, .own 3 ae)],[],1⟩,⟨[(0, .val false (.own 1))],[(1, .own 3 ae)],[],2⟩,fun(x:List Int)=>M.bS N x⟩
theorem ME(N:Nat):aL Tryz.prog 186 (Rb N):=yW ⟨_,Tryz.func186,by kernel_rfl,by kernel_rfl⟩ Tryz.slices_Compact_int Tryz.slices_Compact_int_empty
def M.dK(N:Nat)(a0:List Int):Option (List Int):=
(M.cz N a0).bind fun y1=>
(M.bS N y1).bind fun y2=>
some y2
def JR(N:Nat):bU:=⟨⟨[(0, .val false (.own 0))],[(0, .own 3 ae)],[],1⟩,⟨[(0, .val false (.own 1))],[(1, .own 3 ae)],[],2⟩,fun(x:List Int)=>M.dK N x⟩
theorem JT(N:Nat):aL Tryz.prog 206 (JR N):=fw (en [ck (MD N),ck (ME N)] false false) (N:=N) .nil Tryz.func206 (by kernel_rfl) fun x=>by kernel_rfl
def M.ei(N:Nat)(a0:List aa.den):Option ((List Int)×(List Int)×List Int):=
(Loop (S:=Int×(List Int)×(List Int)×List Int) (X:=(List Int)×(List Int)×List Int) (fun s2=>
(if(decide (s2.1<(a0.length:Int)))then
(idx a0 s2.1).bind fun x3=>
((if(decide (x3.1=7))then
(bZ s2.2.1 ([x3.2]:List Int)).bind fun l5=>
some (l5,s2.2.2.1,s2.2.2.2)
else
(if(decide (x3.1=8))then
(bZ s2.2.2.1 ([x3.2]:List Int)).bind fun l6=>
some (s2.2.1,l6,s2.2.2.2)
else
((if(decide (x3.1=36))then
some (decide (x3.1=36))
else
(if(decide (x3.1=37))then
some (decide (x3.1=37))
else
(if(decide (x3.1=38))then
some (decide (x3.1=38))
else
some (decide (x3.1=39))))):Option Bool).bind fun j7=>
(if j7 then
(bZ s2.2.2.2 ([x3.2]:List Int)).bind fun l8=>
some (s2.2.1,s2.2.2.1,l8)
else
some (s2.2.1,s2.2.2.1,s2.2.2.2)))):Option ((List Int)×(List Int)×List Int)).bind fun j4=>
some (.inl (YC.wrap (s2.1+1),j4.1,j4.2.1,j4.2.2))
else
some (.inr (s2.2.1,s2.2.2.1,s2.2.2.2)))) N (0,([]:List Int),([]:List Int),([]:List Int)):Option ((List Int)×(List Int)×List Int)).bind fun j1=>
(M.dK N j1.1).bind fun y9=>
(M.dK N j1.2.1).bind fun Mv=>
(M.dK N j1.2.2).bind fun Cq=>
some (y9,Mv,Cq)
def Rc(N:Nat):bU:=⟨⟨[(0, .l (.slice aa))],[],[],0⟩,⟨[(0, .val false (.own 0)),(1, .val false (.own 1)),(2, .val false (.own 2))],[(0, .own 3 ae),(1, .own 3 ae),(2, .own 3 ae)],[],3⟩,fun(x:List aa.den)=>M.ei N x⟩
theorem Re(N:Nat):aL Tryz.prog 184 (Rc N):=fw (en [ck (JT N)] false false) (N:=N) (.o (.o (.meet ⟨[(5, .val false (.own 96)),(6, .val false (.own 97)),(7, .val false (.own 98))],[(96, .own 3 ae),(97, .own 3 ae),(98, .own 3 ae)],[],99⟩ (.o (.two (.loop ⟨[(5, .val false (.own 144)),(6, .val false (.own 145)),(7, .val false (.own 146)),(12, .l ae)],[(144, .own 3 ae),(145, .own 3 ae),(146, .own 3 ae)],[],147⟩ (.o (.o (.two (.two (.o (.o (.meet ⟨[(5, .val false (.own 259)),(6, .val false (.own 260)),(7, .val false (.own 261))],[(259, .own 3 ae),(260, .own 3 ae),(261, .own 3 ae)],[144,145,146],262⟩ (.o (.o (.o (.o (.meet ⟨[(32, .l .bool)],[],[],323⟩ .nil .nil))))) .nil))) .nil) .nil)))) .nil)) .nil))) Tryz.func184 (by kernel_rfl) fun x=>by kernel_rfl
def M.dW(N:Nat)(a0:bK.den)(a1:Int):Option (List Int):=
(M.ei N a0.2.2.2.2.2.1).bind fun y1=>
(M.ei N a0.2.2.2.2.2.2.1).bind fun y2=>
(Loop (S:=Int×List Int) (X:=List Int) (fun s4=>
(if(decide (s4.1<(y1.2.1.length:Int)))then
((idx y1.2.1 s4.1).bind fun x6=>
((if(decide (0<=x6))then
some (decide (x6<a1))
else
some false):Option Bool).bind fun j7=>
(if j7 then
(bZ s4.2 ([x6]:List Int)).bind fun l8=>
some l8
else
some s4.2):Option (List Int)).bind fun j5=>
some (.inl (YC.wrap (s4.1+1),j5))
else
some (.inr s4.2))) N (0,([]:List Int)):Option (List Int)).bind fun j3=>
Loop (S:=Int×List Int) (X:=List Int) (fun s9=>
(if(decide (s9.1<(y2.2.1.length:Int)))then
((idx y2.2.1 s9.1).bind fun xE=>
((if(decide (0<=xE))then
some (decide (xE<a1))
else
some false):Option Bool).bind fun vh=>
(if vh then
(bZ s9.2 ([xE]:List Int)).bind fun MF=>
some MF
else
some s9.2):Option (List Int)).bind fun rK=>
some (.inl (YC.wrap (s9.1+1),rK))
else
some (.inr s9.2))) N (0,j3)
def Rf(N:Nat):bU:=⟨⟨[(0, .g bK),(1, .l ae)],[],[],0⟩,⟨[(0, .val false (.own 0))],[(0, .own 3 ae)],[],1⟩,fun(x:bK.den×Int)=>M.dW N x.1 x.2⟩
theorem Rg(N:Nat):aL Tryz.prog 162 (Rf N):=fw (en [ck (Re N)] false false) (N:=N) (.o (.o (.o (.o (.meet ⟨[(5, .val false (.own 368))],[(368, .own 3 ae)],[],369⟩ (.o (.two (.loop ⟨[(5, .val false (.own 416)),(32, .l ae)],[(416, .own 3 ae)],[],417⟩ (.o (.o (.two (.meet ⟨[(5, .val false (.own 433))],[(433, .own 3 ae)],[416],434⟩ (.o (.meet ⟨[(42, .l .bool)],[],[],481⟩ .nil .nil)) .nil) .nil)))) .nil)) (.two (.o (.two (.loop ⟨[(5, .val false (.own 417)),(50, .l ae)],[(417, .own 3 ae)],[368],418⟩ (.o (.o (.two (.meet ⟨[(5, .val false (.own 434))],[(434, .own 3 ae)],[417],435⟩ (.o (.meet ⟨[(60, .l .bool)],[],[],482⟩ .nil .nil)) .nil) .nil)))) .nil)) .nil)))))) Tryz.func162 (by kernel_rfl) fun x=>by kernel_rfl
def M.fW(N:Nat)(a0:List Int):Option (List Int):=
(M.cz N a0).bind fun y1=>
(M.bS N y1).bind fun y2=>
some y2
def JU(N:Nat):bU:=⟨⟨[(0, .val false (.own 0))],[(0, .own 3 ae)],[],1⟩,⟨[(0, .val false (.own 1))],[(1, .own 3 ae)],[],2⟩,fun(x:List Int)=>M.fW N x⟩
theorem JV(N:Nat):aL Tryz.prog 163 (JU N):=fw (en [ck (MD N),ck (ME N)] false false) (N:=N) .nil Tryz.func163 (by kernel_rfl) fun x=>by kernel_rfl
def M.fX(N:Nat)(a0:aO.den):Option (List (List Int)):=
(sf (a0.2.2.2.1.length:Int) ([]:List Int)).bind fun l1=>
(Loop (S:=Int×List (List Int)) (X:=List (List Int)) (fun s3=>
(if(decide (s3.1<(a0.2.2.2.2.length:Int)))then
((idx a0.2.2.2.2 s3.1).bind fun x5=>
((if(decide (0<=x5.2.1))then
some (decide (x5.2.1<(s3.2.length:Int)))
else
some false):Option Bool).bind fun j6=>
(if j6 then
(idx s3.2 x5.2.1).bind fun x7=>
(idx s3.2 x5.2.1).bind fun x8=>
(M.dW N x5 (s3.2.length:Int)).bind fun y9=>
(bZ x8 y9).bind fun Hi=>
(idx s3.2 x5.2.1).bind fun xE=>
(if decide (x5.2.1=x5.2.1)then
(idx s3.2 x5.2.1).bind fun As=>
some (oD s3.2 x5.2.1 (fun m13=>Hi))
else none)
else
some s3.2):Option (List (List Int))).bind fun j4=>
some (.inl (YC.wrap (s3.1+1),j4))
else
some (.inr s3.2))) N (0,l1):Option (List (List Int))).bind fun j2=>
Loop (S:=Int×List (List Int)) (X:=List (List Int)) (fun yZ=>
(if(decide (yZ.1<(j2.length:Int)))then
(idx yZ.2 yZ.1).bind fun Gn=>
(idx yZ.2 yZ.1).bind fun MG=>
(M.fW N MG).bind fun JI=>
(idx yZ.2 yZ.1).bind fun MB=>
(if decide (yZ.1=yZ.1)then
(idx yZ.2 yZ.1).bind fun MC=>
some (.inl (YC.wrap (yZ.1+1),oD yZ.2 yZ.1 (fun m20=>JI)))
else none)
else
some (.inr yZ.2))) N (0,j2)
def Rh(N:Nat):bU:=⟨⟨[(0, .g aO)],[],[],0⟩,⟨[(0, .val false (.own 0))],[(0, .deep 31 (.sl 3 (.leaf ae)))],[],1⟩,fun(x:aO.den)=>M.fX N x⟩
theorem Ri(N:Nat):aL Tryz.prog 143 (Rh N):=fw (en [ck (Rg N),ck (JV N)] true false) (N:=N) (.o (.o (.meet ⟨[],[(80, .deep 31 (.sl 3 (.leaf ae)))],[],113⟩ (.o (.two (.loop ⟨[(15, .l ae)],[(80, .deep 31 (.sl 3 (.leaf ae)))],[],177⟩ (.o (.o (.two (.meet ⟨[],[(80, .deep 31 (.sl 3 (.leaf ae)))],[],194⟩ (.o (.meet ⟨[(28, .l .bool)],[],[],257⟩ .nil .nil)) .nil) .nil)))) .nil)) (.two (.o (.two (.loop ⟨[(46, .l ae)],[(80, .deep 31 (.sl 3 (.leaf ae)))],[],162⟩ .nil) .nil)) .nil)))) Tryz.func143 (by kernel_rfl) fun x=>by kernel_rfl
def M.ek(N:Nat)(a0:aO.den)(a1:Int):Option (List Int):=
((if(decide (a1<0))then
some true
else
some (decide ((a0.2.2.2.1.length:Int)<=a1))):Option Bool).bind fun j1=>
(if j1 then
some ([]:List Int)
else
(M.fX N a0).bind fun y2=>
(M.iv N y2 a1).bind fun y3=>
some y3)
def Rj(N:Nat):bU:=⟨⟨[(0, .g aO),(1, .l ae)],[],[],0⟩,⟨[(0, .val false (.own 0))],[(0, .own 3 ae)],[],1⟩,fun(x:aO.den×Int)=>M.ek N x.1 x.2⟩
theorem Rk(N:Nat):aL Tryz.prog 102 (Rj N):=fw (en [ck (Q9 N),ck (Ri N)] false false) (N:=N) (.o (.two (.meet ⟨[(13, .l .bool)],[],[],32⟩ .nil .nil) .nil)) Tryz.func102 (by kernel_rfl) fun x=>by kernel_rfl
def M.gR(N:Nat)(a0:aO.den)(a1:aO.den):Option (Bool×aO.den):=
some (decide (a0.1=a1.1),a1)
def MH(N:Nat):bU:=⟨⟨[(0, .g aO),(1, .ptr 0 [] 0)],[(0, .box 50 (.leaf aO))],[],1⟩,⟨[(0, .l .bool)],[(0, .box 50 (.leaf aO))],[],2⟩,fun(x:aO.den×aO.den)=>M.gR N x.1 x.2⟩
theorem MI(N:Nat):aL Tryz.prog 97 (MH N):=fw (en [] false false) (N:=N) .nil Tryz.func97 (by kernel_rfl) fun x=>by kernel_rfl
def M.bw(N:Nat)(a0:List aO.den)(a1:aO.den):Option (Int×aO.den):=
Loop (S:=Int×aO.den) (X:=Int×aO.den) (fun s1=>
(if(decide (s1.1<(a0.length:Int)))then
(idx a0 s1.1).bind fun x2=>
(M.gR N x2 s1.2).bind fun y3=>
(if y3.1 then
some (.inr (s1.1,y3.2))
else
some (.inl (YC.wrap (s1.1+1),y3.2)))
else
some (.inr ((-1),s1.2)))) N (0,a1)
def JW(N:Nat):bU:=⟨⟨[(0, .l (.slice aO)),(1, .fn 97 [(0,[],0)])],[(0, .box 50 (.leaf aO))],[],1⟩,⟨[(0, .l ae)],[(0, .box 50 (.leaf aO))],[],2⟩,fun(x:(List aO.den)×aO.den)=>M.bw N x.1 x.2⟩
theorem JX(N:Nat):aL Tryz.prog 133 (JW N):=fw (en [ck (MI N)] false false) (N:=N) (.o (.two (.o (.two (.loop ⟨[(8, .l ae)],[(0, .box 50 (.leaf aO))],[],66⟩ .nil) .nil)) .nil)) Tryz.func133 (by kernel_rfl) fun x=>by kernel_rfl
def M.bj(N:Nat)(a0:List aO.den)(a1:aO.den):Option (Bool×aO.den):=
(M.bw N a0 a1).bind fun y1=>
some (decide (0<=y1.1),y1.2)
def MJ(N:Nat):bU:=⟨⟨[(0, .l (.slice aO)),(1, .fn 97 [(0,[],0)])],[(0, .box 50 (.leaf aO))],[],1⟩,⟨[(0, .l .bool)],[(0, .box 50 (.leaf aO))],[],2⟩,fun(x:(List aO.den)×aO.den)=>M.bj N x.1 x.2⟩
theorem MK(N:Nat):aL Tryz.prog 96 (MJ N):=fw (en [ck (JX N)] false false) (N:=N) .nil Tryz.func96 (by kernel_rfl) fun x=>by kernel_rfl
def M.lz(N:Nat)(a0:fh.den)(a1:Int):Option (Int×Int):=
(idx a0.2.2 a1).bind fun x1=>
(dT a0.2.2 0 a1).bind fun l2=>
((M.jl N a0.1 x1.1).bind fun y4=>
(if y4 then
some (true,x1)
else
(M.kz N a0.2.1 x1.1).bind fun y5=>
(if y5 then
some (true,x1)
else
(M.bj N l2 x1).bind fun y6=>
some (y6.1,y6.2))):Option (Bool×aO.den)).bind fun j3=>
(M.cq N j3.2.1).bind fun y7=>
(if(!y7)then
some (2,0)
else
(if j3.1 then
some (7,0)
else
((if(!decide (j3.2.2.1=(-1)))then
(if(decide (j3.2.2.1<0))then
some true
else
(if(decide (a1<=j3.2.2.1))then
some true
else
(idx l2 j3.2.2.1).bind fun x9=>
some (!decide (x9.2.1=(-1)))))
else
some false):Option Bool).bind fun j8=>
(if j8 then
some (6,0)
else
(if(decide (12<(j3.2.2.2.1.length:Int)))then
some (4,112)
else
(if(decide (12<(j3.2.2.2.2.1.length:Int)))then
some (4,212)
else
bI (J:=Unit) (R:=Int×Int) (Loop (S:=Int) (X:=Unit⊕(Int×Int)) (fun ML=>
(if(decide (ML<(j3.2.2.2.1.length:Int)))then
(idx j3.2.2.2.1 ML).bind fun As=>
(dT j3.2.2.2.1 0 ML).bind fun MF=>
(M.iN N a0 As MF ([]:List aN.den)).bind fun vi=>
(if(!decide (vi=0))then
some (.inr (.inr (vi,YC.wrap (100+ML))))
else
some (.inl (YC.wrap (ML+1))))
else
some (.inr (.inl ())))) N 0) fun rK=>
bI (J:=Unit) (R:=Int×Int) (Loop (S:=Int) (X:=Unit⊕(Int×Int)) (fun MM=>
(if(decide (MM<(j3.2.2.2.2.1.length:Int)))then
(idx j3.2.2.2.2.1 MM).bind fun MA=>
(dT j3.2.2.2.2.1 0 MM).bind fun Rl=>
(M.iN N a0 MA j3.2.2.2.1 Rl).bind fun NY=>
(if(!decide (NY=0))then
some (.inr (.inr (NY,YC.wrap (200+MM))))
else
some (.inl (YC.wrap (MM+1))))
else
some (.inr (.inl ())))) N 0) fun Hl=>
(M.il N a0 a1).bind fun Iz=>
bI (J:=Unit) (R:=Int×Int) (Loop (S:=Int) (X:=Unit⊕(Int×Int)) (fun NZ=>
(if(decide (NZ<(j3.2.2.2.2.2.length:Int)))then
(M.mG N j3.2 NZ (Iz.1,(Iz.2.1,(Iz.2.2.2.1,(Iz.2.2.2.2.1,(Iz.2.2.2.2.2,Iz.2.2.1)))))).bind fun S0=>
(if(!decide (S0=0))then
some (.inr (.inr (S0,YC.wrap (300+NZ))))
else
some (.inl (YC.wrap (NZ+1))))
else
some (.inr (.inl ())))) N 0) fun QP=>
Loop (S:=Int) (X:=Int×Int) (fun MN=>
(if(decide (MN<(j3.2.2.2.2.1.length:Int)))then
(M.ek N j3.2 MN).bind fun VV=>
(M.fJ N VV MN).bind fun QO=>
(if QO then
some (.inr (9,YC.wrap (200+MN)))
else
some (.inl (YC.wrap (MN+1))))
else
some (.inr (0,0)))) N 0)))))
def S64(N:Nat):bU:=⟨⟨[(0, .g fh),(1, .l ae)],[],[],0⟩,⟨[(0, .l ae),(1, .l ae)],[],[],0⟩,fun(x:fh.den×Int)=>M.lz N x.1 x.2⟩
theorem VW(N:Nat):aL Tryz.prog 64 (S64 N):=fw (en [ck (Mg N),ck (Qh N),ck (SP N),ck (MK N),ck (Vu N),ck (Vw N),ck (Q3 N),ck (Q7 N),ck (Rk N)] false false) (N:=N) (.o (.o (.o (.meet ⟨[(8, .l .bool)],[(128, .box 50 (.leaf aO))],[],241⟩ .nil (.two (.two (.o (.o (.o (.o (.meet ⟨[(52, .l .bool)],[],[],353⟩ .nil .nil))))) .nil) (.join ⟨[],[],[],513⟩ (.o (.two (.loop ⟨[(89, .l ae)],[],[],577⟩ .nil) .nil)) (.join ⟨[],[],[],513⟩ (.o (.two (.loop ⟨[(110, .l ae)],[],[],577⟩ .nil) .nil)) (.o (.join ⟨[],[],[],593⟩ (.o (.two (.loop ⟨[(136, .l ae)],[],[],657⟩ .nil) .nil)) (.two (.o (.two (.loop ⟨[(152, .l ae)],[],[],657⟩ .nil) .nil)) .nil)))))))))) Tryz.func64 (by kernel_rfl) fun x=>by kernel_rfl
def M.kS(N:Nat)(a0:fh.den):Option (bp.den):=
(if(decide (4<(a0.2.2.length:Int)))then
some (4,(3,(4,0)))
else
bI (J:=Unit) (R:=bp.den) (Loop (S:=Int) (X:=Unit⊕(bp.den)) (fun s2=>
(if(decide (s2<(a0.2.2.length:Int)))then
(M.lz N a0 s2).bind fun y3=>
(if(!decide (y3.1=0))then
some (.inr (.inr (y3.1,(3,(s2,y3.2)))))
else
some (.inl (YC.wrap (s2+1))))
else
some (.inr (.inl ())))) N 0) fun j1=>
some (0,(0,(0,0))))
def VX(N:Nat):bU:=⟨⟨[(0, .g fh)],[],[],0⟩,⟨[(0, .g bp)],[],[],0⟩,fun(x:fh.den)=>M.kS N x⟩
theorem VY(N:Nat):aL Tryz.prog 39 (VX N):=fw (en [ck (VW N)] false false) (N:=N) (.o (.o (.join ⟨[],[],[],96⟩ (.o (.two (.loop ⟨[(14, .l ae)],[],[],160⟩ .nil) .nil)) .nil))) Tryz.func39 (by kernel_rfl) fun x=>by kernel_rfl
def M.iw(N:Nat)(a0:fh.den):Option (bp.den):=
(M.lr N a0).bind fun y1=>
(if(!decide (y1.1=0))then
some y1
else
(M.kQ N a0).bind fun y2=>
(if(!decide (y2.1=0))then
some y2
else
(M.kS N a0).bind fun y3=>
some y3))
def VZ(N:Nat):bU:=⟨⟨[(0, .g fh)],[],[],0⟩,⟨[(0, .g bp)],[],[],0⟩,fun(x:fh.den)=>M.iw N x⟩
theorem V0(N:Nat):aL Tryz.prog 16 (VZ N):=fw (en [ck (Vh N),ck (Vs N),ck (VY N)] false false) (N:=N) .nil Tryz.func16 (by kernel_rfl) fun x=>by kernel_rfl
def M.dX(N:Nat)(a0:aa.den)(a1:Int):Option Bool:=
((M.dp N a0).bind fun y2=>
(if y2 then
(if(decide (a0.1<=a1))then
some (decide (a1<a0.2))
else
some false)
else
some false):Option Bool).bind fun j1=>
some j1
def V2(N:Nat):bU:=⟨⟨[(0, .g aa),(1, .l ae)],[],[],0⟩,⟨[(0, .l .bool)],[],[],0⟩,fun(x:aa.den×Int)=>M.dX N x.1 x.2⟩
theorem V3(N:Nat):aL Tryz.prog 42 (V2 N):=fw (en [ck (Qk N)] false false) (N:=N) (.o (.meet ⟨[(4, .l .bool)],[],[],32⟩ .nil .nil)) Tryz.func42 (by kernel_rfl) fun x=>by kernel_rfl
def M.c8(N:Nat)(a0:bK.den)(a1:Int)(a2:Int):Option (Bool×Int×Int):=
((if(decide (a0.2.1=a1))then
(M.dX N a0.2.2.2.2.1 a2).bind fun y2=>
some y2
else
some false):Option Bool).bind fun j1=>
some (j1,a1,a2)
def MO(N:Nat):bU:=⟨⟨[(0, .g bK),(1, .ptr 0 [] 0),(2, .ptr 1 [] 0)],[(0, .box 3 (.leaf ae)),(1, .box 3 (.leaf ae))],[],2⟩,⟨[(0, .l .bool)],[(0, .box 3 (.leaf ae)),(1, .box 3 (.leaf ae))],[],4⟩,fun(x:bK.den×Int×Int)=>M.c8 N x.1 x.2.1 x.2.2⟩
theorem MP(N:Nat):aL Tryz.prog 41 (MO N):=fw (en [ck (V3 N)] false false) (N:=N) (.o (.meet ⟨[(4, .l .bool)],[],[],34⟩ .nil .nil)) Tryz.func41 (by kernel_rfl) fun x=>by kernel_rfl
def M.c9(N:Nat)(a0:List bK.den)(a1:Int)(a2:Int):Option (Int×Int×(List Int)×List Int):=
(sf (a0.length:Int) 0).bind fun l1=>
Loop (S:=Int×Int×Int×(List Int)×(List Int)×List Int) (X:=Int×Int×(List Int)×List Int) (fun s2=>
(if(decide (s2.1<(a0.length:Int)))then
((idx a0 s2.1).bind fun x4=>
(((if(decide (0<=x4.2.2.1))then
some (decide (x4.2.2.1<s2.1))
else
some false):Option Bool).bind fun j6=>
(if j6 then
(idx s2.2.2.2.1 x4.2.2.1).bind fun x7=>
some x7
else
some (-1)):Option Int).bind fun j5=>
(idx s2.2.2.2.1 s2.1).bind fun x8=>
(M.c8 N x4 s2.2.1 s2.2.2.1).bind fun y9=>
(if y9.1 then
(idx (bg s2.2.2.2.1 s2.1 j5) s2.1).bind fun tl=>
(bZ s2.2.2.2.2.1 ([s2.1]:List Int)).bind fun Hm=>
(bZ s2.2.2.2.2.2 ([j5]:List Int)).bind fun Gj=>
some (y9.2.1,y9.2.2,bg (bg s2.2.2.2.1 s2.1 j5) s2.1 (s2.2.2.2.2.1.length:Int),Hm,Gj)
else
some (y9.2.1,y9.2.2,bg s2.2.2.2.1 s2.1 j5,s2.2.2.2.2.1,s2.2.2.2.2.2)):Option (Int×Int×(List Int)×(List Int)×List Int)).bind fun j3=>
some (.inl (YC.wrap (s2.1+1),j3.1,j3.2.1,j3.2.2.1,j3.2.2.2.1,j3.2.2.2.2))
else
some (.inr (s2.2.1,s2.2.2.1,s2.2.2.2.2.1,s2.2.2.2.2.2)))) N (0,a1,a2,l1,([]:List Int),([]:List Int))
def MQ(N:Nat):bU:=⟨⟨[(0, .l (.slice bK)),(1, .fn 41 [(0,[],0),(1,[],0)])],[(0, .box 3 (.leaf ae)),(1, .box 3 (.leaf ae))],[],2⟩,⟨[(0, .val false (.own 2)),(1, .val false (.own 3))],[(0, .box 3 (.leaf ae)),(1, .box 3 (.leaf ae)),(2, .own 3 ae),(3, .own 3 ae)],[],6⟩,fun(x:(List bK.den)×Int×Int)=>M.c9 N x.1 x.2.1 x.2.2⟩
theorem MR(N:Nat):aL Tryz.prog 40 (MQ N):=fw (en [ck (MP N)] false false) (N:=N) (.o (.o (.o (.two (.o (.two (.loop ⟨[(6, .val false (.own 178)),(7, .val false (.own 179)),(17, .l ae)],[(0, .box 3 (.leaf ae)),(1, .box 3 (.leaf ae)),(98, .own 3 ae),(178, .own 3 ae),(179, .own 3 ae)],[],183⟩ (.o (.o (.two (.meet ⟨[(6, .val false (.own 199)),(7, .val false (.own 200))],[(0, .box 3 (.leaf ae)),(1, .box 3 (.leaf ae)),(98, .own 3 ae),(199, .own 3 ae),(200, .own 3 ae)],[178,179],204⟩ (.o (.o (.meet ⟨[(11, .l ae)],[],[],311⟩ (.meet ⟨[(30, .l .bool)],[],[],311⟩ .nil .nil) .nil))) .nil) .nil)))) .nil)) .nil)))) Tryz.func40 (by kernel_rfl) fun x=>by kernel_rfl
def M.eX(N:Nat)(a0:aO.den)(a1:Int)(a2:Int):Option ((List Int)×(List Int)×List Int):=
(M.c9 N a0.2.2.2.2 a1 a2).bind fun y1=>
(Loop (S:=Int×List Int) (X:=List Int) (fun s3=>
(if(decide (s3.1<(y1.2.2.1.length:Int)))then
(idx y1.2.2.1 s3.1).bind fun x4=>
(idx a0.2.2.2.2 x4).bind fun x5=>
(bZ s3.2 ([x5.2.2.2.1]:List Int)).bind fun l6=>
some (.inl (YC.wrap (s3.1+1),l6))
else
some (.inr s3.2))) N (0,([]:List Int)):Option (List Int)).bind fun j2=>
some (y1.2.2.1,y1.2.2.2,j2)
def V4(N:Nat):bU:=⟨⟨[(0, .g aO),(1, .l ae),(2, .l ae)],[],[],0⟩,⟨[(0, .val false (.own 0)),(1, .val false (.own 1)),(2, .val false (.own 2))],[(0, .own 3 ae),(1, .own 3 ae),(2, .own 3 ae)],[],3⟩,fun(x:aO.den×Int×Int)=>M.eX N x.1 x.2.1 x.2.2⟩
theorem V5(N:Nat):aL Tryz.prog 17 (V4 N):=fw (en [ck (MR N)] false false) (N:=N) (.o (.o (.o (.meet ⟨[(11, .val false (.own 256))],[(256, .own 3 ae)],[],257⟩ (.o (.two (.loop ⟨[(11, .val false (.own 304)),(23, .l ae)],[(304, .own 3 ae)],[],305⟩ .nil) .nil)) .nil)))) Tryz.func17 (by kernel_rfl) fun x=>by kernel_rfl
def M.aU(N:Nat)(a0:List aa.den)(a1:List aa.den):Option Bool:=
(if(!decide ((a0.length:Int)=(a1.length:Int)))then
some false
else
Loop (S:=Int) (X:=Bool) (fun s1=>
(if(decide (s1<(a0.length:Int)))then
(idx a0 s1).bind fun x2=>
(idx a1 s1).bind fun x3=>
(if(!(ki aa x2 x3))then
some (.inr false)
else
some (.inl (YC.wrap (s1+1))))
else
some (.inr true))) N 0)
def V6(N:Nat):bU:=⟨⟨[(0, .l (.slice aa)),(1, .l (.slice aa))],[],[],0⟩,⟨[(0, .l .bool)],[],[],0⟩,fun(x:(List aa.den)×List aa.den)=>M.aU N x.1 x.2⟩
theorem V7(N:Nat):aL Tryz.prog 47 (V6 N):=fw (en [] false false) (N:=N) (.o (.o (.two (.o (.two (.loop ⟨[(13, .l ae)],[],[],144⟩ .nil) .nil)) .nil))) Tryz.func47 (by kernel_rfl) fun x=>by kernel_rfl
def M.cS(N:Nat)(a0:List (List aa.den))(a1:List aa.den):Option Int:=
Loop (S:=Int) (X:=Int) (fun s1=>
(if(decide (s1<(a0.length:Int)))then
(idx a0 s1).bind fun x2=>
(M.aU N x2 a1).bind fun y3=>
(if y3 then
some (.inr s1)
else
some (.inl (YC.wrap (s1+1))))
else
some (.inr (-1)))) N 0
def V8(N:Nat):bU:=⟨⟨[(0, .l (.slice (.slice aa))),(1, .l (.slice aa))],[],[],0⟩,⟨[(0, .l ae)],[],[],0⟩,fun(x:(List (List aa.den))×List aa.den)=>M.cS N x.1 x.2⟩
theorem V9(N:Nat):aL Tryz.prog 24 (V8 N):=fw (en [ck (V7 N)] false false) (N:=N) (.o (.two (.o (.two (.loop ⟨[(9, .l ae)],[],[],64⟩ .nil) .nil)) .nil)) Tryz.func24 (by kernel_rfl) fun x=>by kernel_rfl
def M.aV(N:Nat)(a0:List aa.den):Option (List aa.den):=
(if YE (a0).length 0 then
wv (some ([]:List aa.den))
((bZ ([]:List aa.den) a0).bind fun l1=>
some l1)
else
(bZ ([]:List aa.den) a0).bind fun l2=>
some l2)
def Wa(N:Nat):bU:=⟨⟨[(0, .l (.slice aa))],[],[],0⟩,⟨[(0, .val false (.own 0))],[(0, .own 81 aa)],[],1⟩,fun(x:List aa.den)=>M.aV N x⟩
theorem Wb(N:Nat):aL Tryz.prog 25 (Wa N):=fw (en [] false false) (N:=N) .nil Tryz.func25 (by kernel_rfl) fun x=>by kernel_rfl
def M.bX(N:Nat)(a0:List Int)(a1:List Int):Option Int:=
(if(!decide ((a0.length:Int)=(a1.length:Int)))then
some 2
else
(if(decide (8<(a0.length:Int)))then
some 4
else
Loop (S:=Int) (X:=Int) (fun s1=>
(if(decide (s1<(a0.length:Int)))then
(idx a0 s1).bind fun x2=>
((if(decide (x2<(-1)))then
some true
else
some (decide (s1<=x2))):Option Bool).bind fun j3=>
(if j3 then
some (.inr 9)
else
((idx a1 s1).bind fun x5=>
(if(decide (x5<0))then
some true
else
(idx a1 s1).bind fun x6=>
some (decide (9<x6))):Option Bool).bind fun j4=>
(if j4 then
some (.inr 3)
else
some (.inl (YC.wrap (s1+1)))))
else
some (.inr 0))) N 0))
def Wc(N:Nat):bU:=⟨⟨[(0, .l (.slice ae)),(1, .l (.slice ae))],[],[],0⟩,⟨[(0, .l ae)],[],[],0⟩,fun(x:(List Int)×List Int)=>M.bX N x.1 x.2⟩
theorem Wd(N:Nat):aL Tryz.prog 43 (Wc N):=fw (en [] false false) (N:=N) (.o (.o (.o (.two (.o (.two (.loop ⟨[(17, .l ae)],[],[],192⟩ (.o (.o (.two (.two (.o (.two (.meet ⟨[(28, .l .bool)],[],[],288⟩ .nil .nil) (.meet ⟨[(40, .l .bool)],[],[],288⟩ .nil .nil))) .nil) .nil)))) .nil)) .nil)))) Tryz.func43 (by kernel_rfl) fun x=>by kernel_rfl
def M.cy(N:Nat)(a0:List Int)(a1:Int):Option (List Int):=
Loop (S:=Int×List Int) (X:=List Int) (fun s1=>
(if(decide (s1.1<(a0.length:Int)))then
((idx a0 s1.1).bind fun x3=>
(if(decide (x3=a1))then
(bZ s1.2 ([s1.1]:List Int)).bind fun l4=>
some l4
else
some s1.2):Option (List Int)).bind fun j2=>
some (.inl (YC.wrap (s1.1+1),j2))
else
some (.inr s1.2))) N (0,([]:List Int))
def Rm(N:Nat):bU:=⟨⟨[(0, .l (.slice ae)),(1, .l ae)],[],[],0⟩,⟨[(0, .val false (.own 0))],[(0, .own 3 ae)],[],1⟩,fun(x:(List Int)×Int)=>M.cy N x.1 x.2⟩
theorem Rn(N:Nat):aL Tryz.prog 103 (Rm N):=fw (en [] false false) (N:=N) (.o (.o (.two (.o (.two (.loop ⟨[(5, .val false (.own 80)),(10, .l ae)],[(80, .own 3 ae)],[],81⟩ (.o (.o (.two (.meet ⟨[(5, .val false (.own 97))],[(97, .own 3 ae)],[80],98⟩ .nil .nil) .nil)))) .nil)) .nil))) Tryz.func103 (by kernel_rfl) fun x=>by kernel_rfl
def M.cH(N:Nat)(a0:cO.den)(a1:Int):Option (List Int):=
(M.cy N a0.1 a1).bind fun y1=>
Loop (S:=Int×List Int) (X:=List Int) (fun s2=>
(if(decide (s2.1<(y1.length:Int)))then
((idx y1 s2.1).bind fun x4=>
(idx a0.2.2 x4).bind fun x5=>
(if(decide (x5=(-1)))then
some s2.2
else
(((if(decide (0<(s2.2.length:Int)))then
(idx a0.2.1 x4).bind fun x8=>
(idx s2.2 0).bind fun x9=>
(idx a0.2.1 x9).bind fun tl=>
some (decide (tl<x8))
else
some false):Option Bool).bind fun j7=>
(if j7 then
(dT s2.2 0 0).bind fun Hm=>
some Hm
else
some s2.2):Option (List Int)).bind fun j6=>
((if(decide ((j6.length:Int)=0))then
some true
else
(idx a0.2.1 x4).bind fun r4=>
(idx j6 0).bind fun Hj=>
(idx a0.2.1 Hj).bind fun Gn=>
some (decide (r4=Gn))):Option Bool).bind fun vh=>
(if vh then
(bZ j6 ([x4]:List Int)).bind fun JQ=>
some JQ
else
some j6)):Option (List Int)).bind fun j3=>
some (.inl (YC.wrap (s2.1+1),j3))
else
some (.inr s2.2))) N (0,([]:List Int))
def We(N:Nat):bU:=⟨⟨[(0, .g cO),(1, .l ae)],[],[],0⟩,⟨[(0, .val false (.own 0))],[(0, .own 3 ae)],[],1⟩,fun(x:cO.den×Int)=>M.cH N x.1 x.2⟩
theorem Wf(N:Nat):aL Tryz.prog 66 (We N):=fw (en [ck (Rn N)] false false) (N:=N) (.o (.o (.two (.o (.two (.loop ⟨[(5, .val false (.own 144)),(13, .l ae)],[(144, .own 3 ae)],[],145⟩ (.o (.o (.two (.meet ⟨[(5, .val false (.own 161))],[(161, .own 3 ae)],[144],162⟩ (.o (.o (.meet ⟨[(5, .val false (.own 305))],[(305, .own 3 ae)],[144],306⟩ (.meet ⟨[(40, .l .bool)],[],[],305⟩ .nil .nil) (.meet ⟨[(60, .l .bool)],[],[],306⟩ .nil .nil)))) .nil) .nil)))) .nil)) .nil))) Tryz.func66 (by kernel_rfl) fun x=>by kernel_rfl
def M.bf(N:Nat)(a0:cO.den)(a1:Int):Option Int:=
(M.cH N a0 a1).bind fun y1=>
(if(decide ((y1.length:Int)=0))then
some (-1)
else
(if(decide ((y1.length:Int)=1))then
(idx y1 0).bind fun x2=>
(idx a0.2.2 x2).bind fun x3=>
some x3
else
some (-2)))
def Wg(N:Nat):bU:=⟨⟨[(0, .g cO),(1, .l ae)],[],[],0⟩,⟨[(0, .l ae)],[],[],0⟩,fun(x:cO.den×Int)=>M.bf N x.1 x.2⟩
theorem S3(N:Nat):aL Tryz.prog 45 (Wg N):=fw (en [ck (Wf N)] false false) (N:=N) .nil Tryz.func45 (by kernel_rfl) fun x=>by kernel_rfl
def M.cT(N:Nat)(a0:List Int)(a1:List Int)(a2:List Bool):Option (List Int):=
(sf (a0.length:Int) 0).bind fun l1=>
Loop (S:=Int×List Int) (X:=List Int) (fun s2=>
(if(decide (0<=s2.1))then
((M.bf N (a0,(a1,s2.2)) s2.1).bind fun y4=>
(idx s2.2 s2.1).bind fun x5=>
((idx (bg s2.2 s2.1 y4) s2.1).bind fun x7=>
(if(decide (x7=(-1)))then
(idx a2 s2.1).bind fun x8=>
some x8
else
some false):Option Bool).bind fun j6=>
(if j6 then
(idx (bg s2.2 s2.1 y4) s2.1).bind fun x9=>
some (bg (bg s2.2 s2.1 y4) s2.1 s2.1)
else
some (bg s2.2 s2.1 y4)):Option (List Int)).bind fun j3=>
some (.inl (YC.wrap (s2.1-1),j3))
else
some (.inr s2.2))) N (YC.wrap ((a0.length:Int)-1),l1)
def Wh(N:Nat):bU:=⟨⟨[(0, .l (.slice ae)),(1, .l (.slice ae)),(2, .l (.slice .bool))],[],[],0⟩,⟨[(0, .val false (.own 0))],[(0, .own 3 ae)],[],1⟩,fun(x:(List Int)×(List Int)×List Bool)=>M.cT N x.1 x.2.1 x.2.2⟩
theorem Wi(N:Nat):aL Tryz.prog 44 (Wh N):=fw (en [ck (S3 N)] false false) (N:=N) (.o (.o (.two (.o (.two (.loop ⟨[(8, .l ae)],[(80, .own 3 ae)],[],209⟩ (.o (.two (.meet ⟨[],[(80, .own 3 ae)],[],242⟩ (.o (.meet ⟨[(40, .l .bool)],[],[],369⟩ .nil .nil)) .nil) .nil))) .nil)) .nil))) Tryz.func44 (by kernel_rfl) fun x=>by kernel_rfl
def M.bO(N:Nat)(a0:List Int)(a1:List Int)(a2:List Bool):Option Int:=
((M.bX N a0 a1).bind fun y2=>
(if(!decide (y2=0))then
some true
else
some (!decide ((a2.length:Int)=(a0.length:Int)))):Option Bool).bind fun j1=>
(if j1 then
some (-1)
else
(M.cT N a0 a1 a2).bind fun y3=>
(M.bf N (a0,(a1,y3)) (-1)).bind fun y4=>
some y4)
def Wj(N:Nat):bU:=⟨⟨[(0, .l (.slice ae)),(1, .l (.slice ae)),(2, .l (.slice .bool))],[],[],0⟩,⟨[(0, .l ae)],[],[],0⟩,fun(x:(List Int)×(List Int)×List Bool)=>M.bO N x.1 x.2.1 x.2.2⟩
theorem Wk(N:Nat):aL Tryz.prog 18 (Wj N):=fw (en [ck (Wd N),ck (Wi N),ck (S3 N)] false false) (N:=N) (.o (.two (.meet ⟨[(17, .l .bool)],[],[],16⟩ .nil .nil) .nil)) Tryz.func18 (by kernel_rfl) fun x=>by kernel_rfl
def M.bx(N:Nat)(a0:List Int)(a1:List Int)(a2:List Int)(a3:List Int)(a4:Int):Option (List Int):=
(om .i64 1 a4).bind fun x1=>
(sf x1 0).bind fun l2=>
(sf (a0.length:Int) false).bind fun l3=>
Loop (S:=Int×(List Int)×List Bool) (X:=List Int) (fun s4=>
(if(decide (s4.1<(l2.length:Int)))then
(((Loop (S:=Int×List Bool) (X:=List Bool) (fun s8=>
(if(decide (s8.1<(a3.length:Int)))then
((idx a3 s8.1).bind fun tl=>
(if(decide (tl<0))then
(idx s8.2 s8.1).bind fun xE=>
some (bg s8.2 s8.1 true)
else
(Bf .i64 s4.1 tl).bind fun As=>
(idx s8.2 s8.1).bind fun r4=>
some (bg s8.2 s8.1 (decide ((al .and .i64 As 1)=1)))):Option (List Bool)).bind fun j9=>
some (.inl (YC.wrap (s8.1+1),j9))
else
some (.inr s8.2))) N (0,s4.2.2):Option (List Bool)).bind fun j7=>
(M.bO N a1 a2 j7).bind fun vi=>
((if(decide (0<=vi))then
some (decide (vi<(a0.length:Int)))
else
some false):Option Bool).bind fun Hl=>
(if Hl then
(idx a0 vi).bind fun MG=>
(idx s4.2.1 s4.1).bind fun MA=>
some (bg s4.2.1 s4.1 MG,j7)
else
(idx s4.2.1 s4.1).bind fun MB=>
some (bg s4.2.1 s4.1 vi,j7)):Option ((List Int)×List Bool)).bind fun j6=>
some (j6.1,j6.2):Option ((List Int)×List Bool)).bind fun j5=>
some (.inl (YC.wrap (s4.1+1),j5.1,j5.2))
else
some (.inr s4.2.1))) N (0,l2,l3)
def Wl(N:Nat):bU:=⟨⟨[(0, .l (.slice ae)),(1, .l (.slice ae)),(2, .l (.slice ae)),(3, .l (.slice ae)),(4, .l ae)],[],[],0⟩,⟨[(0, .val false (.own 0))],[(0, .own 3 ae)],[],1⟩,fun(x:(List Int)×(List Int)×(List Int)×(List Int)×Int)=>M.bx N x.1 x.2.1 x.2.2.1 x.2.2.2.1 x.2.2.2.2⟩
theorem Wm(N:Nat):aL Tryz.prog 26 (Wl N):=fw (en [ck (Wk N)] false false) (N:=N) (.o (.o (.o (.two (.o (.two (.loop ⟨[(25, .l ae)],[(48, .own 3 ae),(112, .own 4 .bool)],[],194⟩ (.o (.o (.meet ⟨[],[(48, .own 3 ae),(112, .own 4 .bool)],[],212⟩ (.meet ⟨[],[(48, .own 3 ae),(112, .own 4 .bool)],[],212⟩ (.o (.meet ⟨[],[(112, .own 4 .bool)],[],243⟩ (.o (.two (.loop ⟨[(30, .l ae)],[(112, .own 4 .bool)],[],291⟩ (.o (.o (.two (.meet ⟨[],[(112, .own 4 .bool)],[],308⟩ .nil .nil) .nil)))) .nil)) (.o (.meet ⟨[(59, .l .bool)],[],[],323⟩ .nil .nil)))) .nil) .nil)))) .nil)) .nil)))) Tryz.func26 (by kernel_rfl) fun x=>by kernel_rfl
def M.cY(N:Nat)(a0:aa.den)(a1:Int):Option Bool:=
some (decide ((al .and .i64 a1 a0.1)=a0.2))
def Wn(N:Nat):bU:=⟨⟨[(0, .g aa),(1, .l ae)],[],[],0⟩,⟨[(0, .l .bool)],[],[],0⟩,fun(x:aa.den×Int)=>M.cY N x.1 x.2⟩
theorem Ro(N:Nat):aL Tryz.prog 20 (Wn N):=fw (en [] false false) (N:=N) .nil Tryz.func20 (by kernel_rfl) fun x=>by kernel_rfl
def M.dv(N:Nat)(a0:Int):Option Int:=
some (if 8<(if a0<0 then 0 else a0)then 8 else(if a0<0 then 0 else a0))
def Wo(N:Nat):bU:=⟨⟨[(0, .l ae)],[],[],0⟩,⟨[(0, .l ae)],[],[],0⟩,fun(x:Int)=>M.dv N x⟩
theorem S5(N:Nat):aL Tryz.prog 56 (Wo N):=fw (en [] false false) (N:=N) .nil Tryz.func56 (by kernel_rfl) fun x=>by kernel_rfl
def M.eB(N:Nat)(a0:Int):Option Int:=
some (al .and .i64 (YC.wrap (YG.wrap ((YG.wrap ((YG.wrap ((al .and .u64 (YG.wrap ((bQ .u64 (YG.wrap ((al .and .u64 (bQ .u64 (YG.wrap ((al .and .u64 (bQ .u64 a0 1) 6148914691236517205)+(al .and .u64 a0 6148914691236517205))) 2) 3689348814741910323)+(al .and .u64 (YG.wrap ((al .and .u64 (bQ .u64 a0 1) 6148914691236517205)+(al .and .u64 a0 6148914691236517205))) 3689348814741910323))) 4)+(YG.wrap ((al .and .u64 (bQ .u64 (YG.wrap ((al .and .u64 (bQ .u64 a0 1) 6148914691236517205)+(al .and .u64 a0 6148914691236517205))) 2) 3689348814741910323)+(al .and .u64 (YG.wrap ((al .and .u64 (bQ .u64 a0 1) 6148914691236517205)+(al .and .u64 a0 6148914691236517205))) 3689348814741910323))))) 1085102592571150095)+(bQ .u64 (al .and .u64 (YG.wrap ((bQ .u64 (YG.wrap ((al .and .u64 (bQ .u64 (YG.wrap ((al .and .u64 (bQ .u64 a0 1) 6148914691236517205)+(al .and .u64 a0 6148914691236517205))) 2) 3689348814741910323)+(al .and .u64 (YG.wrap ((al .and .u64 (bQ .u64 a0 1) 6148914691236517205)+(al .and .u64 a0 6148914691236517205))) 3689348814741910323))) 4)+(YG.wrap ((al .and .u64 (bQ .u64 (YG.wrap ((al .and .u64 (bQ .u64 a0 1) 6148914691236517205)+(al .and .u64 a0 6148914691236517205))) 2) 3689348814741910323)+(al .and .u64 (YG.wrap ((al .and .u64 (bQ .u64 a0 1) 6148914691236517205)+(al .and .u64 a0 6148914691236517205))) 3689348814741910323))))) 1085102592571150095) 8)))+(bQ .u64 (YG.wrap ((al .and .u64 (YG.wrap ((bQ .u64 (YG.wrap ((al .and .u64 (bQ .u64 (YG.wrap ((al .and .u64 (bQ .u64 a0 1) 6148914691236517205)+(al .and .u64 a0 6148914691236517205))) 2) 3689348814741910323)+(al .and .u64 (YG.wrap ((al .and .u64 (bQ .u64 a0 1) 6148914691236517205)+(al .and .u64 a0 6148914691236517205))) 3689348814741910323))) 4)+(YG.wrap ((al .and .u64 (bQ .u64 (YG.wrap ((al .and .u64 (bQ .u64 a0 1) 6148914691236517205)+(al .and .u64 a0 6148914691236517205))) 2) 3689348814741910323)+(al .and .u64 (YG.wrap ((al .and .u64 (bQ .u64 a0 1) 6148914691236517205)+(al .and .u64 a0 6148914691236517205))) 3689348814741910323))))) 1085102592571150095)+(bQ .u64 (al .and .u64 (YG.wrap ((bQ .u64 (YG.wrap ((al .and .u64 (bQ .u64 (YG.wrap ((al .and .u64 (bQ .u64 a0 1) 6148914691236517205)+(al .and .u64 a0 6148914691236517205))) 2) 3689348814741910323)+(al .and .u64 (YG.wrap ((al .and .u64 (bQ .u64 a0 1) 6148914691236517205)+(al .and .u64 a0 6148914691236517205))) 3689348814741910323))) 4)+(YG.wrap ((al .and .u64 (bQ .u64 (YG.wrap ((al .and .u64 (bQ .u64 a0 1) 6148914691236517205)+(al .and .u64 a0 6148914691236517205))) 2) 3689348814741910323)+(al .and .u64 (YG.wrap ((al .and .u64 (bQ .u64 a0 1) 6148914691236517205)+(al .and .u64 a0 6148914691236517205))) 3689348814741910323))))) 1085102592571150095) 8))) 16)))+(bQ .u64 (YG.wrap ((YG.wrap ((al .and .u64 (YG.wrap ((bQ .u64 (YG.wrap ((al .and .u64 (bQ .u64 (YG.wrap ((al .and .u64 (bQ .u64 a0 1) 6148914691236517205)+(al .and .u64 a0 6148914691236517205))) 2) 3689348814741910323)+(al .and .u64 (YG.wrap ((al .and .u64 (bQ .u64 a0 1) 6148914691236517205)+(al .and .u64 a0 6148914691236517205))) 3689348814741910323))) 4)+(YG.wrap ((al .and .u64 (bQ .u64 (YG.wrap ((al .and .u64 (bQ .u64 a0 1) 6148914691236517205)+(al .and .u64 a0 6148914691236517205))) 2) 3689348814741910323)+(al .and .u64 (YG.wrap ((al .and .u64 (bQ .u64 a0 1) 6148914691236517205)+(al .and .u64 a0 6148914691236517205))) 3689348814741910323))))) 1085102592571150095)+(bQ .u64 (al .and .u64 (YG.wrap ((bQ .u64 (YG.wrap ((al .and .u64 (bQ .u64 (YG.wrap ((al .and .u64 (bQ .u64 a0 1) 6148914691236517205)+(al .and .u64 a0 6148914691236517205))) 2) 3689348814741910323)+(al .and .u64 (YG.wrap ((al .and .u64 (bQ .u64 a0 1) 6148914691236517205)+(al .and .u64 a0 6148914691236517205))) 3689348814741910323))) 4)+(YG.wrap ((al .and .u64 (bQ .u64 (YG.wrap ((al .and .u64 (bQ .u64 a0 1) 6148914691236517205)+(al .and .u64 a0 6148914691236517205))) 2) 3689348814741910323)+(al .and .u64 (YG.wrap ((al .and .u64 (bQ .u64 a0 1) 6148914691236517205)+(al .and .u64 a0 6148914691236517205))) 3689348814741910323))))) 1085102592571150095) 8)))+(bQ .u64 (YG.wrap ((al .and .u64 (YG.wrap ((bQ .u64 (YG.wrap ((al .and .u64 (bQ .u64 (YG.wrap ((al .and .u64 (bQ .u64 a0 1) 6148914691236517205)+(al .and .u64 a0 6148914691236517205))) 2) 3689348814741910323)+(al .and .u64 (YG.wrap ((al .and .u64 (bQ .u64 a0 1) 6148914691236517205)+(al .and .u64 a0 6148914691236517205))) 3689348814741910323))) 4)+(YG.wrap ((al .and .u64 (bQ .u64 (YG.wrap ((al .and .u64 (bQ .u64 a0 1) 6148914691236517205)+(al .and .u64 a0 6148914691236517205))) 2) 3689348814741910323)+(al .and .u64 (YG.wrap ((al .and .u64 (bQ .u64 a0 1) 6148914691236517205)+(al .and .u64 a0 6148914691236517205))) 3689348814741910323))))) 1085102592571150095)+(bQ .u64 (al .and .u64 (YG.wrap ((bQ .u64 (YG.wrap ((al .and .u64 (bQ .u64 (YG.wrap ((al .and .u64 (bQ .u64 a0 1) 6148914691236517205)+(al .and .u64 a0 6148914691236517205))) 2) 3689348814741910323)+(al .and .u64 (YG.wrap ((al .and .u64 (bQ .u64 a0 1) 6148914691236517205)+(al .and .u64 a0 6148914691236517205))) 3689348814741910323))) 4)+(YG.wrap ((al .and .u64 (bQ .u64 (YG.wrap ((al .and .u64 (bQ .u64 a0 1) 6148914691236517205)+(al .and .u64 a0 6148914691236517205))) 2) 3689348814741910323)+(al .and .u64 (YG.wrap ((al .and .u64 (bQ .u64 a0 1) 6148914691236517205)+(al .and .u64 a0 6148914691236517205))) 3689348814741910323))))) 1085102592571150095) 8))) 16))) 32)))) 127)
def Rp(N:Nat):bU:=⟨⟨[(0, .l (.int .u64))],[],[],0⟩,⟨[(0, .l ae)],[],[],0⟩,fun(x:Int)=>M.eB N x⟩
theorem Rq(N:Nat):aL Tryz.prog 148 (Rp N):=fw (en [] false false) (N:=N) .nil Tryz.func148 (by kernel_rfl) fun x=>by kernel_rfl
def M.bV(N:Nat)(a0:Int):Option Int:=
(M.eB N a0).bind fun y1=>
some y1
def Rr(N:Nat):bU:=⟨⟨[(0, .l (.int .u64))],[],[],0⟩,⟨[(0, .l ae)],[],[],0⟩,fun(x:Int)=>M.bV N x⟩
theorem MS(N:Nat):aL Tryz.prog 109 (Rr N):=fw (en [ck (Rq N)] false false) (N:=N) .nil Tryz.func109 (by kernel_rfl) fun x=>by kernel_rfl
def M.gB(N:Nat)(a0:aa.den)(a1:aa.den):Option (aa.den×Bool):=
((if(!decide (a0.1=a1.1))then
some true
else
(M.bV N (YG.wrap (al .xor .i64 a0.2 a1.2))).bind fun y2=>
(if(!decide (y2=1))then
some true
else
some (decide ((al .and .i64 (al .xor .i64 a0.2 a1.2) a0.1)=0)))):Option Bool).bind fun j1=>
(if j1 then
some ((0,0),false)
else
some ((al .andNot .i64 a0.1 (al .xor .i64 a0.2 a1.2),al .andNot .i64 a0.2 (al .xor .i64 a0.2 a1.2)),true))
def Rs(N:Nat):bU:=⟨⟨[(0, .g aa),(1, .g aa)],[],[],0⟩,⟨[(0, .g aa),(1, .l .bool)],[],[],0⟩,fun(x:aa.den×aa.den)=>M.gB N x.1 x.2⟩
theorem Rt(N:Nat):aL Tryz.prog 104 (Rs N):=fw (en [ck (MS N)] false false) (N:=N) (.o (.o (.two (.meet ⟨[(29, .l .bool)],[],[],160⟩ .nil .nil) .nil))) Tryz.func104 (by kernel_rfl) fun x=>by kernel_rfl
def M.kB(N:Nat)(a0:List Int):Option Int:=
Loop (S:=Int) (X:=Int) (fun s1=>
(if(decide (s1<(a0.length:Int)))then
(idx a0 s1).bind fun x2=>
(if(!decide (x2=0))then
some (.inr x2)
else
some (.inl (YC.wrap (s1+1))))
else
some (.inr 0))) N 0
def Ru(N:Nat):bU:=⟨⟨[(0, .l (.slice ae))],[],[],0⟩,⟨[(0, .l ae)],[],[],0⟩,fun(x:List Int)=>M.kB N x⟩
theorem Rv(N:Nat):aL Tryz.prog 107 (Ru N):=fw (en [] false false) (N:=N) (.o (.o (.two (.o (.two (.loop ⟨[(8, .l ae)],[],[],80⟩ .nil) .nil)) .nil))) Tryz.func107 (by kernel_rfl) fun x=>by kernel_rfl
def M.cmp_isNaN_int(N:Nat)(a0:Int):Option Bool:=
some (!decide (a0=a0))
def Rx(N:Nat):bU:=⟨⟨[(0, .l ae)],[],[],0⟩,⟨[(0, .l .bool)],[],[],0⟩,fun(x:Int)=>M.cmp_isNaN_int N x⟩
theorem Ry(N:Nat):aL Tryz.prog 146 (Rx N):=fw (en [] false false) (N:=N) .nil Tryz.func146 (by kernel_rfl) fun x=>by kernel_rfl
def M.cmp_Compare_int(N:Nat)(a0:Int)(a1:Int):Option Int:=
(M.cmp_isNaN_int N a0).bind fun y1=>
(M.cmp_isNaN_int N a1).bind fun y2=>
(if y1 then
(if y2 then
some 0
else
some (-1))
else
(if y2 then
some 1
else
(if(decide (a0<a1))then
some (-1)
else
(if(decide (a1<a0))then
some 1
else
some 0))))
def Rz(N:Nat):bU:=⟨⟨[(0, .l ae),(1, .l ae)],[],[],0⟩,⟨[(0, .l ae)],[],[],0⟩,fun(x:Int×Int)=>M.cmp_Compare_int N x.1 x.2⟩
theorem RA(N:Nat):aL Tryz.prog 108 (Rz N):=fw (en [ck (Ry N)] false false) (N:=N) .nil Tryz.func108 (by kernel_rfl) fun x=>by kernel_rfl
def M.bG(N:Nat)(a0:aa.den)(a1:aa.den):Option Int:=
(M.bV N (YG.wrap a0.1)).bind fun y1=>
(M.bV N (YG.wrap a1.1)).bind fun y2=>
(M.cmp_Compare_int N y1 y2).bind fun y3=>
(M.cmp_Compare_int N a0.1 a1.1).bind fun y4=>
(M.cmp_Compare_int N a0.2 a1.2).bind fun y5=>
(M.kB N ([y3,y4,y5]:List Int)).bind fun y6=>
some y6
def RB(N:Nat):bU:=⟨⟨[(0, .g aa),(1, .g aa)],[],[],0⟩,⟨[(0, .l ae)],[],[],0⟩,fun(x:aa.den×aa.den)=>M.bG N x.1 x.2⟩
theorem RC(N:Nat):aL Tryz.prog 106 (RB N):=fw (en [ck (Rv N),ck (RA N),ck (MS N)] false false) (N:=N) .nil Tryz.func106 (by kernel_rfl) fun x=>by kernel_rfl
def M.dw(N:Nat)(a0:Int)(a1:List (aa.den×Bool)):Option (List (aa.den×Bool)):=
lm (S:=(List (aa.den×Bool))×(List (aa.den×Bool))×List aa.den) (R:=List (aa.den×Bool)) (fun s1 k2=>
(if(s1.2.1).isEmpty then
Loop (S:=(List (aa.den×Bool))×List aa.den) (X:=List (aa.den×Bool)) (fun s4=>
(if(decide (0<(s4.2.length:Int)))then
(Loop (S:=Int×(List (aa.den×Bool))×List aa.den) (X:=(List (aa.den×Bool))×List aa.den) (fun s6=>
(if(decide (s6.1<(s4.2.length:Int)))then
((idx s4.2 s6.1).bind fun x8=>
Loop (S:=Int×(List (aa.den×Bool))×List aa.den) (X:=(List (aa.den×Bool))×List aa.den) (fun s9=>
(if(decide (s9.1<a0))then
((om .i64 1 s9.1).bind fun xE=>
(if(!((aX aa s9.2.1 (x8.1,al .xor .i64 x8.2 xE)).getD false))then
some (s9.2.1,s9.2.2)
else
(M.gB N x8 (x8.1,al .xor .i64 x8.2 xE)).bind fun Hk=>
((if Hk.2 then
some (!((aX aa s9.2.1 Hk.1).getD false))
else
some false):Option Bool).bind fun Gl=>
(if Gl then
(bZ s9.2.2 ([Hk.1]:List aa.den)).bind fun MT=>
some (mu aa s9.2.1 Hk.1 true,MT)
else
some (s9.2.1,s9.2.2))):Option ((List (aa.den×Bool))×List aa.den)).bind fun rK=>
some (.inl (YC.wrap (s9.1+1),rK.1,rK.2))
else
some (.inr (s9.2.1,s9.2.2)))) N (0,s6.2.1,s6.2.2):Option ((List (aa.den×Bool))×List aa.den)).bind fun j7=>
some (.inl (YC.wrap (s6.1+1),j7.1,j7.2))
else
some (.inr (s6.2.1,s6.2.2)))) N (0,s4.1,([]:List aa.den)):Option ((List (aa.den×Bool))×List aa.den)).bind fun j5=>
some (.inl (j5.1,j5.2))
else
some (.inr s4.1))) N (s1.1,s1.2.2)
else
GN (fun p=>p∈s1.2.1) fun x3=>
(bZ s1.2.2 ([x3.1]:List aa.den)).bind fun Wq=>
k2 (s1.1,iI aa s1.2.1 x3.1,Wq))) N (a1,a1,([]:List aa.den))
def MU(N:Nat):bU:=⟨⟨[(0, .val false (.own 0)),(1, .l ae)],[(0, .smap 115 aa false .bool none)],[],1⟩,⟨[],[(0, .smap 115 aa false .bool none)],[],2⟩,fun(x:Int×List (aa.den×Bool))=>M.dw N x.1 x.2⟩
theorem MV(N:Nat):aL Tryz.prog 67 (MU N):=fw (en [ck (Rt N)] false false) (N:=N) (.o (.two (.o (.two (.loopK ⟨[(4, .val false (.own 49))],[(0, .smap 115 aa false .bool (some 34)),(49, .own 58 aa)],[],51⟩ .nil) .nil)) (.two (.loop ⟨[(4, .val false (.own 83))],[(0, .smap 115 aa false .bool none),(83, .own 58 aa)],[49],85⟩ (.o (.two (.o (.meet ⟨[(6, .val false (.own 149))],[(0, .smap 115 aa false .bool none),(149, .own 58 aa)],[],151⟩ (.o (.two (.loop ⟨[(6, .val false (.own 197)),(28, .l ae)],[(0, .smap 115 aa false .bool none),(197, .own 58 aa)],[],199⟩ (.o (.o (.meet ⟨[(6, .val false (.own 215))],[(0, .smap 115 aa false .bool none),(215, .own 58 aa)],[197],217⟩ (.two (.o (.o (.two (.loop ⟨[(6, .val false (.own 311)),(33, .l ae)],[(0, .smap 115 aa false .bool none),(311, .own 58 aa)],[197],313⟩ (.o (.o (.two (.meet ⟨[(6, .val false (.own 329))],[(0, .smap 115 aa false .bool none),(329, .own 58 aa)],[311],331⟩ (.o (.o (.o (.o (.meet ⟨[(60, .l .bool)],[],[],729⟩ .nil .nil))))) .nil) .nil)))) .nil))) .nil) .nil)))) .nil)) .nil)) .nil))) .nil))) Tryz.func67 (by kernel_rfl) fun x=>by kernel_rfl
def M.aJ(N:Nat)(a0:List aa.den):Option (List aa.den):=tj (fun a b c d=>M.bG N (a,b) (c,d)) a0
def JY(N:Nat):bU:=⟨⟨[(0, .val false (.own 0)),(1, .fn 106 [])],[(0, .own 58 aa)],[],1⟩,⟨[],[(0, .own 58 aa)],[],2⟩,fun(x:List aa.den)=>M.aJ N x⟩
theorem JZ(N:Nat):aL Tryz.prog 105 (JY N):=yY (RC N)
def M.eE(N:Nat)(a0:Int)(a1:List (aa.den×Bool)):Option ((List (aa.den×Bool))×List aa.den):=
lm (S:=(List (aa.den×Bool))×(List (aa.den×Bool))×List aa.den) (R:=(List (aa.den×Bool))×List aa.den) (fun s1 k2=>
(if(s1.2.1).isEmpty then
(M.aJ N s1.2.2).bind fun y4=>
some (s1.1,y4)
else
GN (fun p=>p∈s1.2.1) fun x3=>
((Loop (S:=Bool×Int) (X:=Bool) (fun s7=>
(if(decide (s7.2<a0))then
((om .i64 1 s7.2).bind fun x9=>
(om .i64 1 s7.2).bind fun tl=>
((if(!(ki aa (al .andNot .i64 x3.1.1 x9,al .andNot .i64 x3.1.2 tl) x3.1))then
some ((aX aa s1.1 (al .andNot .i64 x3.1.1 x9,al .andNot .i64 x3.1.2 tl)).getD false)
else
some false):Option Bool).bind fun Cp=>
(if Cp then
some false
else
some s7.1):Option Bool).bind fun j8=>
some (.inl (j8,YC.wrap (s7.2+1)))
else
some (.inr s7.1))) N (true,0):Option Bool).bind fun j6=>
(if j6 then
(bZ s1.2.2 ([x3.1]:List aa.den)).bind fun Gj=>
some Gj
else
some s1.2.2):Option (List aa.den)).bind fun j5=>
k2 (s1.1,iI aa s1.2.1 x3.1,j5))) N (a1,a1,([]:List aa.den))
def MW(N:Nat):bU:=⟨⟨[(0, .val false (.own 0)),(1, .l ae)],[(0, .smap 115 aa false .bool none)],[],1⟩,⟨[(0, .val false (.own 1))],[(0, .smap 115 aa false .bool none),(1, .own 58 aa)],[],3⟩,fun(x:Int×List (aa.den×Bool))=>M.eE N x.1 x.2⟩
theorem MX(N:Nat):aL Tryz.prog 68 (MW N):=fw (en [ck (JZ N)] false false) (N:=N) (.o (.o (.two (.o (.two (.loopK ⟨[(5, .val false (.own 65))],[(0, .smap 115 aa false .bool (some 50)),(65, .own 58 aa)],[],67⟩ (.o (.o (.meet ⟨[(5, .val false (.own 99))],[(99, .own 58 aa)],[65],100⟩ (.o (.o (.meet ⟨[(7, .l .bool)],[],[],179⟩ (.o (.two (.loop ⟨[(7, .l .bool),(17, .l ae)],[],[],211⟩ (.o (.o (.two (.meet ⟨[(7, .l .bool)],[],[],227⟩ (.o (.o (.meet ⟨[(38, .l .bool)],[],[],467⟩ .nil .nil))) .nil) .nil)))) .nil)) .nil))) .nil)))) .nil)) .nil))) Tryz.func68 (by kernel_rfl) fun x=>by kernel_rfl
def M.eY(N:Nat)(a0:List Int)(a1:Int):Option (List aa.den):=
(M.dv N a1).bind fun y1=>
(om .i64 1 y1).bind fun x2=>
(Loop (S:=Int×(List (Int×Bool))×List (aa.den×Bool)) (X:=(List (Int×Bool))×List (aa.den×Bool)) (fun s4=>
(if(decide (s4.1<(a0.length:Int)))then
((idx a0 s4.1).bind fun x6=>
((if(decide (0<=x6))then
some (decide (x6<x2))
else
some false):Option Bool).bind fun j7=>
(if j7 then
some (jK ae s4.2.1 x6 true,mu aa s4.2.2 (YC.wrap (x2-1),x6) true)
else
some (s4.2.1,s4.2.2)):Option ((List (Int×Bool))×List (aa.den×Bool))).bind fun j5=>
some (.inl (YC.wrap (s4.1+1),j5.1,j5.2))
else
some (.inr (s4.2.1,s4.2.2)))) N (0,([]:List (Int×Bool)),([]:List (aa.den×Bool))):Option ((List (Int×Bool))×List (aa.den×Bool))).bind fun j3=>
(M.dw N y1 j3.2).bind fun y8=>
(M.eE N y1 y8).bind fun y9=>
Loop (S:=Int×(List (Int×Bool))×List aa.den) (X:=List aa.den) (fun rh=>
(if(decide (rh.1<(y9.2.length:Int)))then
(((idx y9.2 rh.1).bind fun r4=>
(Loop (S:=Bool×Int×List (Int×Bool)) (X:=Bool×List (Int×Bool)) (fun w3=>
(if(decide (w3.2.1<x2))then
(((if((aX ae w3.2.2 w3.2.1).getD false)then
(M.cY N r4 w3.2.1).bind fun Wr=>
some Wr
else
some false):Option Bool).bind fun KM=>
(if KM then
some (true,kU ae w3.2.2 w3.2.1)
else
some (w3.1,w3.2.2)):Option (Bool×List (Int×Bool))).bind fun Gk=>
some (.inl (Gk.1,YC.wrap (w3.2.1+1),Gk.2))
else
some (.inr (w3.1,w3.2.2)))) N (false,0,rh.2.1):Option (Bool×List (Int×Bool))).bind fun Gm=>
(if Gm.1 then
(bZ rh.2.2 ([r4]:List aa.den)).bind fun Ws=>
some (Gm.2,Ws)
else
some (Gm.2,rh.2.2)):Option ((List (Int×Bool))×List aa.den)).bind fun vh=>
some (vh.1,vh.2):Option ((List (Int×Bool))×List aa.den)).bind fun Cp=>
some (.inl (YC.wrap (rh.1+1),Cp.1,Cp.2))
else
some (.inr rh.2.2))) N (0,j3.1,([]:List aa.den))
def Wt(N:Nat):bU:=⟨⟨[(0, .l (.slice ae)),(1, .l ae)],[],[],0⟩,⟨[(0, .val false (.own 0))],[(0, .own 58 aa)],[],1⟩,fun(x:(List Int)×Int)=>M.eY N x.1 x.2⟩
theorem Wu(N:Nat):aL Tryz.prog 48 (Wt N):=fw (en [ck (Ro N),ck (S5 N),ck (MV N),ck (MX N)] false false) (N:=N) (.o (.o (.o (.o (.o (.meet ⟨[],[(112, .map 114 ae false .bool),(144, .smap 115 aa false .bool none)],[],178⟩ (.o (.two (.loop ⟨[(23, .l ae)],[(112, .map 114 ae false .bool),(144, .smap 115 aa false .bool none)],[],226⟩ (.o (.o (.two (.meet ⟨[],[(112, .map 114 ae false .bool),(144, .smap 115 aa false .bool none)],[],244⟩ (.o (.meet ⟨[(33, .l .bool)],[],[],290⟩ .nil .nil)) .nil) .nil)))) .nil)) (.o (.o (.two (.o (.two (.loop ⟨[(10, .val false (.own 322)),(49, .l ae)],[(112, .map 114 ae false .bool),(322, .own 58 aa)],[],324⟩ (.o (.o (.meet ⟨[(10, .val false (.own 340))],[(112, .map 114 ae false .bool),(340, .own 58 aa)],[322],342⟩ (.meet ⟨[(10, .val false (.own 340))],[(112, .map 114 ae false .bool),(340, .own 58 aa)],[322],342⟩ (.o (.o (.meet ⟨[(13, .l .bool)],[(112, .map 114 ae false .bool)],[],421⟩ (.o (.two (.loop ⟨[(13, .l .bool),(54, .l ae)],[(112, .map 114 ae false .bool)],[],453⟩ (.o (.o (.two (.meet ⟨[(13, .l .bool)],[(112, .map 114 ae false .bool)],[],470⟩ (.o (.meet ⟨[(64, .l .bool)],[],[],501⟩ .nil .nil)) .nil) .nil)))) .nil)) .nil))) .nil) .nil)))) .nil)) .nil))))))))) Tryz.func48 (by kernel_rfl) fun x=>by kernel_rfl
def M.dL(N:Nat)(a0:List Int)(a1:List Int)(a2:Int):Option (List ai.den):=
(bZ ([(-2),(-1)]:List Int) a1).bind fun l1=>
Loop (S:=Int×List ai.den) (X:=List ai.den) (fun s2=>
(if(decide (s2.1<(l1.length:Int)))then
(((idx l1 s2.1).bind fun x5=>
(Loop (S:=Int×List Int) (X:=List Int) (fun s7=>
(if(decide (s7.1<(a0.length:Int)))then
((idx a0 s7.1).bind fun x9=>
(if(decide (x9=x5))then
(bZ s7.2 ([s7.1]:List Int)).bind fun Hi=>
some Hi
else
some s7.2):Option (List Int)).bind fun j8=>
some (.inl (YC.wrap (s7.1+1),j8))
else
some (.inr s7.2))) N (0,([]:List Int)):Option (List Int)).bind fun j6=>
(if(decide ((j6.length:Int)=0))then
some s2.2
else
(M.eY N j6 a2).bind fun Cq=>
Loop (S:=Int×List ai.den) (X:=List ai.den) (fun EV=>
(if(decide (EV.1<(Cq.length:Int)))then
(idx Cq EV.1).bind fun r4=>
(bZ EV.2 ([(r4,x5)]:List ai.den)).bind fun MT=>
some (.inl (YC.wrap (EV.1+1),MT))
else
some (.inr EV.2))) N (0,s2.2)):Option (List ai.den)).bind fun j4=>
some j4:Option (List ai.den)).bind fun j3=>
some (.inl (YC.wrap (s2.1+1),j3))
else
some (.inr s2.2))) N (0,([]:List ai.den))
def Wv(N:Nat):bU:=⟨⟨[(0, .l (.slice ae)),(1, .l (.slice ae)),(2, .l ae)],[],[],0⟩,⟨[(0, .val false (.own 0))],[(0, .own 60 ai)],[],1⟩,fun(x:(List Int)×(List Int)×Int)=>M.dL N x.1 x.2.1 x.2.2⟩
theorem Ww(N:Nat):aL Tryz.prog 27 (Wv N):=fw (en [ck (Wu N)] false false) (N:=N) (.o (.o (.o (.two (.o (.two (.loop ⟨[(8, .val false (.own 144)),(21, .l ae)],[(144, .own 60 ai)],[],145⟩ (.o (.o (.meet ⟨[(8, .val false (.own 161))],[(161, .own 60 ai)],[144],162⟩ (.meet ⟨[(8, .val false (.own 161))],[(161, .own 60 ai)],[144],162⟩ (.o (.o (.meet ⟨[(11, .val false (.own 225))],[(225, .own 3 ae)],[],226⟩ (.o (.two (.loop ⟨[(11, .val false (.own 273)),(27, .l ae)],[(273, .own 3 ae)],[],274⟩ (.o (.o (.two (.meet ⟨[(11, .val false (.own 290))],[(290, .own 3 ae)],[273],291⟩ .nil .nil) .nil)))) .nil)) (.o (.o (.two (.loop ⟨[(8, .val false (.own 354)),(47, .l ae)],[(354, .own 60 ai)],[144],355⟩ .nil) .nil)))))) .nil) .nil)))) .nil)) .nil)))) Tryz.func27 (by kernel_rfl) fun x=>by kernel_rfl
def M.eN(N:Nat)(a0:fh.den)(a1:Int)(a2:Int)(a3:Int):Option (Int×Int×(List (List aa.den))×(List Int)×List ai.den):=
(M.iw N a0).bind fun y1=>
(if(!(ki bp y1 (0,(0,(0,0)))))then
some (0,1,([]:List (List aa.den)),([]:List Int),([]:List ai.den))
else
((if(decide (a1<0))then
some true
else
some (decide ((a0.2.2.length:Int)<=a1))):Option Bool).bind fun j2=>
(if j2 then
some (0,6,([]:List (List aa.den)),([]:List Int),([]:List ai.den))
else
(idx a0.2.2 a1).bind fun x3=>
((if(decide (a2<0))then
some true
else
some (decide ((x3.2.2.2.1.length:Int)<=a2))):Option Bool).bind fun j4=>
(if j4 then
some (0,6,([]:List (List aa.den)),([]:List Int),([]:List ai.den))
else
((if(decide (a3<0))then
some true
else
some (decide (109572<a3))):Option Bool).bind fun j5=>
(if j5 then
some (0,3,([]:List (List aa.den)),([]:List Int),([]:List ai.den))
else
(M.eX N x3 a2 a3).bind fun y6=>
(sf (y6.1.length:Int) 0).bind fun l7=>
(Loop (S:=Int×Int×(List Int)×(List (List aa.den))×List Int) (X:=Int×(List Int)×(List (List aa.den))×List Int) (fun s9=>
(if(decide (s9.1<(y6.1.length:Int)))then
((idx y6.1 s9.1).bind fun xE=>
(idx s9.2.2.1 s9.1).bind fun As=>
(idx x3.2.2.2.2 xE).bind fun r4=>
(if(decide ((r4.2.2.2.2.2.1.length:Int)=0))then
some (s9.2.1,bg s9.2.2.1 s9.1 (-1),s9.2.2.2.1,s9.2.2.2.2)
else
(M.cS N s9.2.2.2.1 r4.2.2.2.2.2.1).bind fun vi=>
((if(decide (vi<0))then
(M.aV N r4.2.2.2.2.2.1).bind fun QV=>
(bZ s9.2.2.2.1 ([QV]:List (List aa.den))).bind fun Wx=>
(bZ s9.2.2.2.2 ([xE]:List Int)).bind fun Rl=>
some ((s9.2.2.2.1.length:Int),s9.2.1,Wx,Rl)
else
some (vi,s9.2.1,s9.2.2.2.1,s9.2.2.2.2)):Option (Int×Int×(List (List aa.den))×List Int)).bind fun Hl=>
(idx (bg s9.2.2.1 s9.1 (-1)) s9.1).bind fun MC=>
some (Hl.2.1,bg (bg s9.2.2.1 s9.1 (-1)) s9.1 Hl.1,Hl.2.2.1,Hl.2.2.2)):Option (Int×(List Int)×(List (List aa.den))×List Int)).bind fun rK=>
some (.inl (YC.wrap (s9.1+1),rK.1,rK.2.1,rK.2.2.1,rK.2.2.2))
else
some (.inr (s9.2.1,s9.2.2.1,s9.2.2.2.1,s9.2.2.2.2)))) N (0,a2,l7,([]:List (List aa.den)),([]:List Int)):Option (Int×(List Int)×(List (List aa.den))×List Int)).bind fun j8=>
(M.bx N y6.1 y6.2.1 y6.2.2 j8.2.1 (j8.2.2.1.length:Int)).bind fun Iz=>
(M.dL N Iz y6.1 (j8.2.2.1.length:Int)).bind fun KN=>
some (j8.1,0,j8.2.2.1,j8.2.2.2,KN)))))
def S9(N:Nat):bU:=⟨⟨[(0, .g fh),(1, .l ae),(2, .l ae),(3, .l ae)],[],[],0⟩,⟨[(0, .val true (.pair (.leaf ae) (.pair (.own 0) (.pair (.own 1) (.own 2))))),(1, .l ae)],[(0, .own 75 (.slice aa)),(1, .own 3 ae),(2, .own 60 ai)],[],3⟩,fun(x:fh.den×Int×Int×Int)=>M.eN N x.1 x.2.1 x.2.2.1 x.2.2.2⟩
theorem W9(N:Nat):aL Tryz.prog 9 (S9 N):=fw (en [ck (V0 N),ck (V5 N),ck (V9 N),ck (Wb N),ck (Wm N),ck (Ww N)] false false) (N:=N) (.o (.o (.two (.meet ⟨[(34, .l .bool)],[],[],112⟩ .nil .nil) (.o (.two (.meet ⟨[(49, .l .bool)],[],[],224⟩ .nil .nil) (.two (.meet ⟨[(56, .l .bool)],[],[],224⟩ .nil .nil) (.o (.o (.o (.meet ⟨[],[(256, .box 34 (.pair (.leaf ae) (.pair (.own 528) (.pair (.own 529) .nil)))),(496, .own 3 ae),(528, .own 75 (.slice aa)),(529, .own 3 ae)],[],532⟩ (.o (.two (.loop ⟨[(73, .l ae)],[(256, .box 34 (.pair (.leaf ae) (.pair (.own 576) (.pair (.own 577) .nil)))),(496, .own 3 ae),(576, .own 75 (.slice aa)),(577, .own 3 ae)],[],580⟩ (.o (.o (.two (.meet ⟨[],[(256, .box 34 (.pair (.leaf ae) (.pair (.own 596) (.pair (.own 597) .nil)))),(496, .own 3 ae),(596, .own 75 (.slice aa)),(597, .own 3 ae)],[576,577],600⟩ (.o (.o (.o (.o (.o (.meet ⟨[(19, .l ae)],[(256, .box 34 (.pair (.leaf ae) (.pair (.own 980) (.pair (.own 981) .nil)))),(980, .own 75 (.slice aa)),(981, .own 3 ae)],[576,577],983⟩ .nil .nil)))))) .nil) .nil)))) .nil)) .nil)))))))))) Tryz.func9 (by kernel_rfl) fun x=>by kernel_rfl
def M.db(N:Nat)(a0:aH.den)(a1:Int):Option (Int×Bool):=
Loop (S:=Int) (X:=Int×Bool) (fun s1=>
(if(decide (s1<(a0.2.2.2.length:Int)))then
(idx a0.2.2.2 s1).bind fun x2=>
(M.cY N x2.1 a1).bind fun y3=>
(if y3 then
some (.inr (x2.2,true))
else
some (.inl (YC.wrap (s1+1))))
else
some (.inr (0,false)))) N 0
def Wy(N:Nat):bU:=⟨⟨[(0, .g aH),(1, .l ae)],[],[],0⟩,⟨[(0, .l ae),(1, .l .bool)],[],[],0⟩,fun(x:aH.den×Int)=>M.db N x.1 x.2⟩
theorem S6(N:Nat):aL Tryz.prog 12 (Wy N):=fw (en [ck (Ro N)] false false) (N:=N) (.o (.two (.o (.two (.loop ⟨[(11, .l ae)],[],[],112⟩ .nil) .nil)) .nil)) Tryz.func12 (by kernel_rfl) fun x=>by kernel_rfl
def M.gC(N:Nat)(a0:aa.den)(a1:Int):Option Bool:=
((if(decide (0<=a0.1))then
(M.dv N a1).bind fun y2=>
(om .i64 1 y2).bind fun x3=>
(if(decide (a0.1<x3))then
(if(decide (0<=a0.2))then
some (decide ((al .and .i64 a0.2 a0.1)=a0.2))
else
some false)
else
some false)
else
some false):Option Bool).bind fun j1=>
some j1
def Wz(N:Nat):bU:=⟨⟨[(0, .g aa),(1, .l ae)],[],[],0⟩,⟨[(0, .l .bool)],[],[],0⟩,fun(x:aa.den×Int)=>M.gC N x.1 x.2⟩
theorem WA(N:Nat):aL Tryz.prog 33 (Wz N):=fw (en [ck (S5 N)] false false) (N:=N) (.o (.meet ⟨[(4, .l .bool)],[],[],32⟩ .nil .nil)) Tryz.func33 (by kernel_rfl) fun x=>by kernel_rfl
def M.cE(N:Nat)(a0:List ai.den)(a1:Int):Option Int:=
bI (J:=Bool) (R:=Int) (Loop (S:=Bool×Int×Int) (X:=Bool⊕Int) (fun s2=>
(if(decide (s2.2.2<(a0.length:Int)))then
bI (J:=Bool×Int) (R:=(Bool×Int×Int)⊕(Bool⊕Int)) ((idx a0 s2.2.2).bind fun x4=>
(M.cY N x4.1 a1).bind fun y5=>
(if(!y5)then
some (.inl (s2.1,s2.2.1))
else
((if s2.1 then
some (!decide (x4.2=s2.2.1))
else
some false):Option Bool).bind fun j6=>
(if j6 then
some (.inr (.inr (.inr 11)))
else
some (.inl (true,x4.2))))) fun j3=>
some (.inl (j3.1,j3.2,YC.wrap (s2.2.2+1)))
else
some (.inr (.inl s2.1)))) N (false,0,0)) fun j1=>
(if(!j1)then
some 10
else
some 0)
def WB(N:Nat):bU:=⟨⟨[(0, .l (.slice ai)),(1, .l ae)],[],[],0⟩,⟨[(0, .l ae)],[],[],0⟩,fun(x:(List ai.den)×Int)=>M.cE N x.1 x.2⟩
theorem WC(N:Nat):aL Tryz.prog 34 (WB N):=fw (en [ck (Ro N)] false false) (N:=N) (.o (.o (.o (.join ⟨[(5, .l .bool)],[],[],48⟩ (.o (.two (.loop ⟨[(5, .l .bool),(6, .l ae),(11, .l ae)],[],[],96⟩ (.o (.o (.two (.join ⟨[(5, .l .bool),(6, .l ae)],[],[],112⟩ (.o (.o (.two (.meet ⟨[(26, .l .bool)],[],[],256⟩ .nil .nil) .nil))) .nil) .nil)))) .nil)) .nil)))) Tryz.func34 (by kernel_rfl) fun x=>by kernel_rfl
def M.cU(N:Nat)(a0:aH.den):Option Int:=
(if(decide (8<(a0.2.1.length:Int)))then
some 4
else
bI (J:=Unit) (R:=Int) (Loop (S:=Int) (X:=Unit⊕Int) (fun s2=>
(if(decide (s2<(a0.2.2.2.length:Int)))then
(idx a0.2.2.2 s2).bind fun x3=>
(M.gC N x3.1 (a0.2.1.length:Int)).bind fun y4=>
(if(!y4)then
some (.inr (.inr 3))
else
some (.inl (YC.wrap (s2+1))))
else
some (.inr (.inl ())))) N 0) fun j1=>
(om .i64 1 (a0.2.1.length:Int)).bind fun x5=>
Loop (S:=Int) (X:=Int) (fun s6=>
(if(decide (s6<x5))then
(M.cE N a0.2.2.2 s6).bind fun y7=>
(if(!decide (y7=0))then
some (.inr y7)
else
some (.inl (YC.wrap (s6+1))))
else
some (.inr 0))) N 0)
def WD(N:Nat):bU:=⟨⟨[(0, .g aH)],[],[],0⟩,⟨[(0, .l ae)],[],[],0⟩,fun(x:aH.den)=>M.cU N x⟩
theorem S7(N:Nat):aL Tryz.prog 14 (WD N):=fw (en [ck (WA N),ck (WC N)] false false) (N:=N) (.o (.o (.o (.join ⟨[],[],[],128⟩ (.o (.two (.loop ⟨[(16, .l ae)],[],[],192⟩ .nil) .nil)) (.two (.o (.two (.loop ⟨[(28, .l ae)],[],[],176⟩ .nil) .nil)) .nil))))) Tryz.func14 (by kernel_rfl) fun x=>by kernel_rfl
def M.oX(N:Nat):Option (List aO.den):=
some ([((⟨#[115]⟩:ByteArray),((-1),(([((⟨#[120]⟩:ByteArray),(1,0))]:List aN.den),(([((⟨#[100]⟩:ByteArray),(2,0))]:List aN.den),([((⟨#[97]⟩:ByteArray),(0,((-1),(0,((0,109573),(([]:List aa.den),(([(2,1)]:List aa.den),aah))))))),((⟨#[98]⟩:ByteArray),(0,(0,(0,((0,109573),(([(7,0)]:List aa.den),(([(2,2)]:List aa.den),aah)))))))]:List bK.den)))))]:List aO.den)
def WE(N:Nat):bU:=⟨⟨[],[],[],0⟩,⟨[(0, .val true (.pair .nil (.pair .nil (.own 0))))],[(0, .own 50 aO)],[],1⟩,fun(x:Unit)=>M.oX N⟩
theorem WG(N:Nat):aL Tryz.prog 22 (WE N):=fw (en [] false false) (N:=N) .nil Tryz.func22 (by kernel_rfl) fun x=>by kernel_rfl
def M.tm(N:Nat)(a0:List Int)(a1:List Int):Option Bool:=
(if(!decide ((a0.length:Int)=(a1.length:Int)))then
some false
else
Loop (S:=Int) (X:=Bool) (fun s1=>
((if(decide (s1<(a0.length:Int)))then
some (decide (s1<(a1.length:Int)))
else
some false):Option Bool).bind fun j2=>
(if j2 then
(idx a0 s1).bind fun x3=>
(idx a1 s1).bind fun x4=>
(if(!decide (x3=x4))then
some (.inr false)
else
some (.inl (YC.wrap (s1+1))))
else
some (.inr true))) N 0)
def WH(N:Nat):bU:=⟨⟨[(0, .l (.slice ae)),(1, .l (.slice ae))],[],[],0⟩,⟨[(0, .l .bool)],[],[],0⟩,fun(x:(List Int)×List Int)=>M.tm N x.1 x.2⟩
theorem WI(N:Nat):aL Tryz.prog 23 (WH N):=fw (en [] false false) (N:=N) (.o (.o (.two (.o (.two (.loop ⟨[(5, .l ae)],[],[],112⟩ (.two (.meet ⟨[(20, .l .bool)],[],[],112⟩ .nil .nil) .nil)) .nil)) .nil))) Tryz.func23 (by kernel_rfl) fun x=>by kernel_rfl
def M.fK(N:Nat):Option Bool:=
(M.oX N).bind fun y1=>
(M.eN N (([]:List cm.den),(([]:List cn.den),y1)) 0 0 100).bind fun y2=>
(M.db N (y2.1,(y2.2.2.1,(y2.2.2.2.1,y2.2.2.2.2))) 0).bind fun y3=>
(M.db N (y2.1,(y2.2.2.1,(y2.2.2.2.1,y2.2.2.2.2))) 1).bind fun y4=>
((if(decide (y2.2.1=0))then
(if(decide ((y2.2.2.2.2.length:Int)=2))then
(if(decide ((y2.2.2.1.length:Int)=1))then
(M.tm N y2.2.2.2.1 ([1]:List Int)).bind fun y6=>
(if y6 then
(if(decide (y3.1=0))then
(if y3.2 then
(if(decide (y4.1=1))then
(if y4.2 then
(M.cU N (y2.1,(y2.2.2.1,(y2.2.2.2.1,y2.2.2.2.2)))).bind fun y7=>
(if(decide (y7=0))then
(M.cU N (0,(([]:List (List aa.den)),(([]:List Int),([]:List ai.den))))).bind fun y8=>
some (decide (y8=10))
else
some false)
else
some false)
else
some false)
else
some false)
else
some false)
else
some false)
else
some false)
else
some false)
else
some false):Option Bool).bind fun j5=>
some j5
def S8(N:Nat):bU:=⟨⟨[],[],[],0⟩,⟨[(0, .l .bool)],[],[],0⟩,fun(x:Unit)=>M.fK N⟩
theorem W8(N:Nat):aL Tryz.prog 8 (S8 N):=fw (en [ck (W9 N),ck (S6 N),ck (S7 N),ck (WG N),ck (WI N)] false false) (N:=N) (.o (.o (.o (.o (.meet ⟨[(0, .l .bool)],[],[],368⟩ .nil .nil))))) Tryz.func8 (by kernel_rfl) fun x=>by kernel_rfl
def M.pw(N:Nat)(a0:Int):Option Bool:=
((if(decide (97<=a0))then
some (decide (a0<=122))
else
some false):Option Bool).bind fun j1=>
some j1
def M.w4(N:Nat)(a0:Int):Option Bool:=
((if(decide (48<=a0))then
some (decide (a0<=57))
else
some false):Option Bool).bind fun j1=>
some j1
def M.y0(N:Nat)(a0:Int):Option Bool:=
((M.pw N a0).bind fun y2=>
(if y2 then
some true
else
(M.w4 N a0).bind fun y3=>
(if y3 then
some true
else
some (decide (a0=95)))):Option Bool).bind fun j1=>
some j1
def M.ri(N:Nat):Option (List ByteArray):=
some ([(⟨#[105,102]⟩:ByteArray),(⟨#[116,104,101,110]⟩:ByteArray),(⟨#[101,108,115,101]⟩:ByteArray),(⟨#[111,114]⟩:ByteArray),(⟨#[97,110,100]⟩:ByteArray),(⟨#[110,111,116]⟩:ByteArray),(⟨#[116,114,117,101]⟩:ByteArray),(⟨#[102,97,108,115,101]⟩:ByteArray),(⟨#[116,111,100,97,121]⟩:ByteArray),(⟨#[115,104,97,114,101]⟩:ByteArray),(⟨#[100,105,118]⟩:ByteArray),(⟨#[114,111,117,110,100]⟩:ByteArray),(⟨#[109,105,110]⟩:ByteArray),(⟨#[109,97,120]⟩:ByteArray),(⟨#[112,108,117,115]⟩:ByteArray),(⟨#[109,111,110,116,104,115]⟩:ByteArray),(⟨#[100,97,121,115]⟩:ByteArray),(⟨#[121,101,97,114,115]⟩:ByteArray),(⟨#[121,101,97,114]⟩:ByteArray),(⟨#[109,111,110,116,104]⟩:ByteArray),(⟨#[116,97,98]⟩:ByteArray),(⟨#[98,97,110,100]⟩:ByteArray),(⟨#[99,111,117,110,116]⟩:ByteArray),(⟨#[115,117,109]⟩:ByteArray),(⟨#[97,108,108]⟩:ByteArray),(⟨#[97,110,121]⟩:ByteArray),(⟨#[109,111,115,116]⟩:ByteArray),(⟨#[101,110,117,109]⟩:ByteArray),(⟨#[116,97,98,108,101]⟩:ByteArray),(⟨#[114,111,119]⟩:ByteArray),(⟨#[115,99,111,112,101]⟩:ByteArray),(⟨#[109,101,109,98,101,114,115]⟩:ByteArray),(⟨#[105,110,112,117,116]⟩:ByteArray),(⟨#[100,101,102]⟩:ByteArray),(⟨#[114,117,108,101]⟩:ByteArray),(⟨#[111,102]⟩:ByteArray),(⟨#[111,118,101,114]⟩:ByteArray),(⟨#[112,114,105,111]⟩:ByteArray),(⟨#[102,114,111,109]⟩:ByteArray),(⟨#[116,111]⟩:ByteArray),(⟨#[101,110,100]⟩:ByteArray),(⟨#[119,104,101,110]⟩:ByteArray),(⟨#[105,115]⟩:ByteArray),(⟨#[115,114,99]⟩:ByteArray),(⟨#[98,111,111,108]⟩:ByteArray),(⟨#[105,110,116]⟩:ByteArray),(⟨#[109,111,110,101,121]⟩:ByteArray),(⟨#[114,97,116,101]⟩:ByteArray),(⟨#[100,97,116,101]⟩:ByteArray),(⟨#[100,111,119,110]⟩:ByteArray),(⟨#[117,112]⟩:ByteArray),(⟨#[122,101,114,111]⟩:ByteArray),(⟨#[97,119,97,121]⟩:ByteArray),(⟨#[104,97,108,102]⟩:ByteArray),(⟨#[101,118,101,110]⟩:ByteArray)]:List ByteArray)
def M.mZ(N:Nat)(a0:ByteArray):Option Bool:=
((if(decide ((a0.size:Int)=0))then
some true
else
(if(decide (16<(a0.size:Int)))then
some true
else
(mz a0 0).bind fun x2=>
(M.pw N x2).bind fun y3=>
some (!y3))):Option Bool).bind fun j1=>
(if j1 then
some false
else
bI (J:=Unit) (R:=Bool) (Loop (S:=Int) (X:=Unit⊕Bool) (fun s5=>
(if(decide (s5<(a0.size:Int)))then
(mz a0 s5).bind fun x6=>
(M.y0 N x6).bind fun y7=>
(if(!y7)then
some (.inr (.inr false))
else
some (.inl (YC.wrap (s5+1))))
else
some (.inr (.inl ())))) N 0) fun j4=>
(M.ri N).bind fun y8=>
Loop (S:=Int) (X:=Bool) (fun s9=>
(if(decide (s9<(y8.length:Int)))then
(idx y8 s9).bind fun tl=>
(if(decide (tl=a0))then
some (.inr false)
else
some (.inl (YC.wrap (s9+1))))
else
some (.inr true))) N 0)
def M.dt(N:Nat)(a0:aa.den)(a1:List cm.den):Option Bool:=
(if(decide (a0.1=6))then
((if(decide (0<=a0.2))then
some (decide (a0.2<(a1.length:Int)))
else
some false):Option Bool).bind fun j1=>
some j1
else
((if(decide (1<=a0.1))then
(if(decide (a0.1<=5))then
some (decide (a0.2=0))
else
some false)
else
some false):Option Bool).bind fun j2=>
some j2)
def M.lA(N:Nat)(a0:aa.den):Option Bool:=
((if(decide (0<=a0.1))then
(if(decide (a0.1<=a0.2))then
some (decide (a0.2<=109573))
else
some false)
else
some false):Option Bool).bind fun j1=>
some j1
def M.kC(N:Nat)(a0:aa.den)(a1:List cm.den):Option (Int×Int):=
(M.dt N a0 a1).bind fun y1=>
(if(!y1)then
some (0,(-1))
else
(if(decide (a0.1=1))then
some (0,1)
else
(if(decide (a0.1=2))then
some ((-1000000000000),1000000000000)
else
(if(decide (a0.1=3))then
some ((-1000000000000000),1000000000000000)
else
(if(decide (a0.1=4))then
some ((-1000000000),1000000000)
else
(if(decide (a0.1=5))then
some (0,109572)
else
(idx a1 a0.2).bind fun x2=>
some (0,YC.wrap ((x2.2.length:Int)-1))))))))
def M.jA(N:Nat)(a0:Int):Option Bool:=
((if(decide (1<=a0))then
(if(decide (a0<=8))then
some true
else
(if(decide (36<=a0))then
some (decide (a0<=39))
else
some false))
else
(if(decide (36<=a0))then
some (decide (a0<=39))
else
some false)):Option Bool).bind fun j1=>
(if j1 then
some true
else
((if(decide (a0=14))then
some true
else
(if(decide (a0=15))then
some true
else
(if(decide (a0=16))then
some true
else
(if(decide (a0=33))then
some true
else
some (decide (a0=34)))))):Option Bool).bind fun j2=>
some j2)
def M.cr(N:Nat)(a0:Int):Option (aa.den):=
some (a0,0)
def M.iy(N:Nat)(a0:aa.den)(a1:aG.den):Option Bool:=
((if(decide (a0.1=1))then
some (decide (a0.1=1))
else
(if(decide (a0.1=2))then
some (decide (a0.1=2))
else
(if(decide (a0.1=3))then
some (decide (a0.1=3))
else
(if(decide (a0.1=4))then
some (decide (a0.1=4))
else
some (decide (a0.1=5)))))):Option Bool).bind fun j1=>
(if j1 then
(M.cr N a0.1).bind fun y2=>
(M.kC N y2 a1.1).bind fun y3=>
((if(decide (y3.1<=a0.2))then
some (decide (a0.2<=y3.2))
else
some false):Option Bool).bind fun j4=>
some j4
else
((if(decide (a0.1=14))then
some (decide (a0.1=14))
else
(if(decide (a0.1=15))then
some (decide (a0.1=15))
else
some (decide (a0.1=16)))):Option Bool).bind fun j5=>
(if j5 then
((if(decide (0<=a0.2))then
some (decide (a0.2<=5))
else
some false):Option Bool).bind fun j6=>
some j6
else
(if(decide (a0.1=34))then
((if(decide (0<=a0.2))then
some (decide ((Z7 a0.2 8)<=5))
else
some false):Option Bool).bind fun j7=>
some j7
else
(if(decide (a0.1=6))then
some (decide (0<=a0.2))
else
some true))))
def M.aM(N:Nat)(a0:aa.den)(a1:aG.den):Option Bool:=
(if(decide (a0.1=6))then
((if(decide ((YC.wrap (ZK a0.2 16))<(a1.1.length:Int)))then
(idx a1.1 (YC.wrap (ZK a0.2 16))).bind fun x2=>
some (decide ((Z7 a0.2 16)<(x2.2.length:Int)))
else
some false):Option Bool).bind fun j1=>
some j1
else
(if(decide (a0.1=7))then
((if(decide (0<=a0.2))then
some (decide (a0.2<(a1.2.2.1.length:Int)))
else
some false):Option Bool).bind fun j3=>
some j3
else
(if(decide (a0.1=8))then
((if(decide (0<=a0.2))then
some (decide (a0.2<(a1.2.2.2.1.length:Int)))
else
some false):Option Bool).bind fun j4=>
some j4
else
(if(decide (a0.1=33))then
((if(decide (0<=a0.2))then
some (decide (a0.2<(a1.2.1.length:Int)))
else
some false):Option Bool).bind fun j5=>
some j5
else
(if(decide (a0.1=34))then
some (decide ((YC.wrap (ZK a0.2 8))<(a1.2.1.length:Int)))
else
(if(decide (a0.1=35))then
some a1.2.2.2.2.2
else
((if(decide (a0.1=36))then
some (decide (a0.1=36))
else
(if(decide (a0.1=37))then
some (decide (a0.1=37))
else
(if(decide (a0.1=38))then
some (decide (a0.1=38))
else
some (decide (a0.1=39))))):Option Bool).bind fun j6=>
(if j6 then
((if a1.2.2.2.2.2 then
(if(decide (0<=a0.2))then
some (decide (a0.2<(a1.2.2.2.2.1.length:Int)))
else
some false)
else
some false):Option Bool).bind fun j7=>
some j7
else
some true)))))))
def M.fY(N:Nat)(a0:Int):Option Bool:=
((if(decide (a0=2))then
some true
else
(if(decide (a0=3))then
some true
else
some (decide (a0=4)))):Option Bool).bind fun j1=>
some j1
def M.ew(N:Nat)(a0:Int):Option Bool:=
((M.fY N a0).bind fun y2=>
(if y2 then
some true
else
some (decide (a0=5))):Option Bool).bind fun j1=>
some j1
def M.bk(N:Nat)(a0:aa.den)(a1:aG.den):Option (aa.den×Bool):=
((if(decide (a0.1=6))then
some (6,YC.wrap (ZK a0.2 16))
else
(if(decide (a0.1=7))then
(idx a1.2.2.1 a0.2).bind fun x2=>
some x2
else
(if(decide (a0.1=8))then
(idx a1.2.2.2.1 a0.2).bind fun x3=>
some x3
else
(if(decide (a0.1=9))then
(M.cr N 5).bind fun y4=>
some y4
else
(if(decide (a0.1=35))then
(M.cr N 2).bind fun y5=>
some y5
else
((if(decide (a0.1=36))then
some (decide (a0.1=36))
else
(if(decide (a0.1=37))then
some (decide (a0.1=37))
else
(if(decide (a0.1=38))then
some (decide (a0.1=38))
else
some (decide (a0.1=39))))):Option Bool).bind fun j6=>
(if j6 then
(idx a1.2.2.2.2.1 a0.2).bind fun x7=>
some x7
else
(M.cr N a0.1).bind fun y8=>
some y8)))))):Option (aa.den)).bind fun j1=>
(M.dt N j1 a1.1).bind fun y9=>
((if(decide (a0.1=36))then
(if y9 then
(if(decide (j1.1=2))then
some true
else
some (decide (j1.1=3)))
else
some false)
else
((if(decide (a0.1=37))then
some (decide (a0.1=37))
else
some (decide (a0.1=38))):Option Bool).bind fun Cp=>
(if Cp then
(if y9 then
some (decide (j1.1=1))
else
some false)
else
(if(decide (a0.1=39))then
(if y9 then
(M.ew N j1.1).bind fun Hk=>
some Hk
else
some false)
else
some y9))):Option Bool).bind fun rK=>
some (j1,rK)
def M.cd(N:Nat)(a0:aa.den)(a1:aa.den)(a2:aG.den):Option (aa.den×Bool):=
(if(decide (a0.1=10))then
(M.fY N a1.1).bind fun y1=>
some (a1,y1)
else
(if(decide (a0.1=25))then
some (a1,decide (a1.1=1))
else
((if(decide (a0.1=31))then
some (decide (a0.1=31))
else
some (decide (a0.1=32))):Option Bool).bind fun j2=>
(if j2 then
(M.cr N 2).bind fun y3=>
some (y3,decide (a1.1=5))
else
(if(decide (a0.1=33))then
(idx a2.2.1 a0.2).bind fun x4=>
((M.dt N x4.2.1 a2.1).bind fun y6=>
(if y6 then
(M.dt N x4.2.2.1 a2.1).bind fun y7=>
(if y7 then
some ((ki aa a1 x4.2.1),x4.2.2.1)
else
some (false,x4.2.2.1))
else
some (false,x4.2.2.1)):Option (Bool×aa.den)).bind fun j5=>
some (j5.2,j5.1)
else
(idx a2.2.1 (YC.wrap (ZK a0.2 8))).bind fun x8=>
((if(decide (a1.1=3))then
(M.cr N 3).bind fun Mv=>
(if(ki aa x8.2.1 Mv)then
(M.cr N 4).bind fun Cq=>
some ((ki aa x8.2.2.1 Cq),a1)
else
some (false,a1))
else
some (false,a1)):Option (Bool×aa.den)).bind fun j9=>
some (j9.2,j9.1)))))
def M.fZ(N:Nat)(a0:Int)(a1:Int)(a2:Int):Option (aa.den×Bool):=
(if(decide (a0=13))then
((M.cr N a1).bind fun y2=>
(if(decide (a2=2))then
(if(decide (a1=2))then
some (true,y2)
else
some (decide (a1=3),y2))
else
some (false,y2)):Option (Bool×aa.den)).bind fun j1=>
some (j1.2,j1.1)
else
(if(decide (a0=14))then
((M.cr N a1).bind fun y4=>
(if(decide (a2=4))then
(if(decide (a1=3))then
some (true,y4)
else
some (decide (a1=4),y4))
else
some (false,y4)):Option (Bool×aa.den)).bind fun j3=>
some (j3.2,j3.1)
else
((if(decide (a1=3))then
some (decide (a2=3))
else
some false):Option Bool).bind fun j5=>
(if j5 then
(M.cr N 4).bind fun y6=>
some (y6,true)
else
((M.cr N a1).bind fun y8=>
(if(decide (a2=2))then
(if(decide (a1=2))then
some (true,y8)
else
some (decide (a1=3),y8))
else
some (false,y8)):Option (Bool×aa.den)).bind fun j7=>
some (j7.2,j7.1))))
def M.dY(N:Nat)(a0:Int)(a1:aa.den)(a2:aa.den):Option (aa.den×Bool):=
((if(decide (a0=11))then
some (decide (a0=11))
else
some (decide (a0=12))):Option Bool).bind fun j1=>
(if j1 then
((if(ki aa a1 a2)then
(M.fY N a1.1).bind fun y3=>
some (y3,a1)
else
some (false,a1)):Option (Bool×aa.den)).bind fun j2=>
some (j2.2,j2.1)
else
((if(decide (a0=13))then
some (decide (a0=13))
else
(if(decide (a0=14))then
some (decide (a0=14))
else
some (decide (a0=15)))):Option Bool).bind fun j4=>
(if j4 then
(M.fZ N a0 a1.1 a2.1).bind fun y5=>
some (y5.1,y5.2)
else
(if(decide (a0=16))then
((if(decide (a1.1=3))then
some (decide (a2.1=3),a1)
else
some (false,a1)):Option (Bool×aa.den)).bind fun j6=>
some (j6.2,j6.1)
else
((if(decide (a0=17))then
some (decide (a0=17))
else
some (decide (a0=18))):Option Bool).bind fun j7=>
(if j7 then
((if(ki aa a1 a2)then
(M.ew N a1.1).bind fun y9=>
some (y9,a1)
else
some (false,a1)):Option (Bool×aa.den)).bind fun j8=>
some (j8.2,j8.1)
else
((if(decide (a0=19))then
some (decide (a0=19))
else
some (decide (a0=20))):Option Bool).bind fun rK=>
(if rK then
(M.cr N 1).bind fun Cq=>
some (Cq,(ki aa a1 a2))
else
((if(decide (a0=21))then
some (decide (a0=21))
else
some (decide (a0=22))):Option Bool).bind fun vh=>
(if vh then
((M.cr N 1).bind fun vi=>
(if(ki aa a1 a2)then
(M.ew N a1.1).bind fun Iy=>
some (Iy,vi)
else
some (false,vi)):Option (Bool×aa.den)).bind fun Gl=>
some (Gl.2,Gl.1)
else
((if(decide (a0=23))then
some (decide (a0=23))
else
some (decide (a0=24))):Option Bool).bind fun Gk=>
(if Gk then
((if(decide (a1.1=1))then
some (decide (a2.1=1),a1)
else
some (false,a1)):Option (Bool×aa.den)).bind fun KM=>
some (KM.2,KM.1)
else
((if(decide (a0=27))then
some (decide (a0=27))
else
some (decide (a0=28))):Option Bool).bind fun MY=>
(if MY then
((if(decide (a1.1=5))then
some (decide (a2.1=2),a1)
else
some (false,a1)):Option (Bool×aa.den)).bind fun Ta=>
some (Ta.2,Ta.1)
else
((M.cr N 2).bind fun KN=>
(if(decide (a1.1=5))then
some (decide (a2.1=5),KN)
else
some (false,KN)):Option (Bool×aa.den)).bind fun KJ=>
some (KJ.2,KJ.1)))))))))
def M.az(N:Nat)(a0:aa.den)(a1:List aa.den)(a2:aG.den):Option (aa.den×Int):=
((if(!decide (a0.2=0))then
(M.jA N a0.1).bind fun y2=>
some (!y2)
else
some false):Option Bool).bind fun j1=>
(if j1 then
some ((0,0),2)
else
(M.iy N a0 a2).bind fun y3=>
(if(!y3)then
some ((0,0),3)
else
(M.aM N a0 a2).bind fun y4=>
(if(!y4)then
some ((0,0),6)
else
((if(decide ((a1.length:Int)=0))then
(M.bk N a0 a2).bind fun y6=>
some (y6.2,y6.1)
else
(if(decide ((a1.length:Int)=1))then
(idx a1 0).bind fun x7=>
(M.cd N a0 x7 a2).bind fun y8=>
some (y8.2,y8.1)
else
(if(decide ((a1.length:Int)=2))then
(idx a1 0).bind fun x9=>
(idx a1 1).bind fun tl=>
(M.dY N a0.1 x9 tl).bind fun Cq=>
some (Cq.2,Cq.1)
else
(idx a1 1).bind fun As=>
(idx a1 0).bind fun r4=>
(if(decide (r4.1=1))then
(idx a1 1).bind fun Hj=>
(idx a1 2).bind fun Gn=>
some ((ki aa Hj Gn),As)
else
some (false,As))))):Option (Bool×aa.den)).bind fun j5=>
(if(!j5.1)then
some ((0,0),8)
else
some (j5.2,0)))))
end
end Go.Proofs.YtbladfbbhijpmaaGreat
end
