/- Joined texts: Model. -/
import Derived.Test.YtilaieogabgamaaGreatDoorU6
import Derived.Test.YtilaieogabgamaaGreatDoorProg
import Derived.Test.YtilaieogabgamaaGreatDoorU7
import Derived.Test.YtilaieogabgamaaGreatDoorU8
section
open _root_.Int renaming tdiv->ajo,tmod->ajL
open _root_.Go.IntKind renaming i64->ai3,u64->ajd
open _root_.List renaming forall_mem_cons->akH
open _root_.Nat renaming beq->aje
namespace Go.Proofs.YtilaieogabgamaaGreatDoor
open Go Go.RowKit
noncomputable section
set_option maxRecDepth 100000
set_option linter.unusedVariables false
@[reducible] def aa:Row:= .pair ae ae
@[reducible] def aJ:Row:= .pair .str aa
@[reducible] def aN:Row:= .pair .str (.pair ae (.pair ae (.pair ae (.pair aa (.pair (.slice aa) (.pair (.slice aa) .str))))))
@[reducible] def az:Row:= .pair .str (.pair ae (.pair (.slice aJ) (.pair (.slice aJ) (.slice aN))))
@[reducible] def bq:Row:= .pair .str (.slice .str)
@[reducible] def dy:Row:= .pair aa (.pair ae aa)
@[reducible] def ax:Row:= .pair .str (.pair aa (.pair aa (.slice dy)))
@[reducible] def cn:Row:= .pair (.slice bq) (.pair (.slice ax) (.slice az))
@[reducible] def aQ:Row:= .pair ae (.pair ae aa)
@[reducible] def aP:Row:= .pair (.slice bq) (.pair (.slice ax) (.pair (.slice aa) (.pair (.slice aa) (.pair (.slice aa) .bool))))
@[reducible] def af:Row:= .pair ae aa
@[reducible] def eo:Row:= .pair ae (.pair (.slice af) (.pair (.slice af) (.pair (.slice (.slice af)) (.pair (.slice aa) (.slice ax)))))
@[reducible] def jL:Row:= .pair (.slice ae) (.pair (.slice aN) (.pair (.slice (.slice aa)) (.slice (.slice aa))))
@[reducible] def tN:Row:= .pair ae (.pair (.slice af) (.slice (.slice af)))
@[reducible] def bh:Row:= .pair az (.pair jL (.slice ae))
@[reducible] def dK:Row:= .pair (.slice ae) (.pair (.slice ae) (.slice ae))
@[reducible] def bk:Row:= .pair (.slice af) (.slice ae)
@[reducible] def Fz:Row:= .pair (.slice af) (.pair (.slice ae) (.slice bk))
theorem HL:TI Tryz.prog 3 ae:=TI.mk (k:=1) (by kernel_rfl) rfl
theorem Ti4:TI Tryz.prog 4 .bool:=TI.mk (k:=1) (by kernel_rfl) rfl
theorem Ti9:TI Tryz.prog 9 .str:=TI.mk (k:=1) (by kernel_rfl) rfl
theorem WV:TI Tryz.prog 22 (.slice bq):=TI.mk (k:=1) (by kernel_rfl) rfl
theorem WW:TI Tryz.prog 23 (.slice ax):=TI.mk (k:=1) (by kernel_rfl) rfl
theorem WX:TI Tryz.prog 24 (.slice az):=TI.mk (k:=1) (by kernel_rfl) rfl
theorem WY:TI Tryz.prog 26 cn:=TI.mk (k:=3) (by kernel_rfl) rfl
theorem WZ:TI Tryz.prog 29 (.slice ae):=TI.mk (k:=1) (by kernel_rfl) rfl
theorem W0:TI Tryz.prog 31 (.slice aN):=TI.mk (k:=1) (by kernel_rfl) rfl
theorem W1:TI Tryz.prog 32 (.slice (.slice aa)):=TI.mk (k:=1) (by kernel_rfl) rfl
theorem W2:TI Tryz.prog 34 jL:=TI.mk (k:=4) (by kernel_rfl) rfl
theorem To:TI Tryz.prog 35 ae:=TI.mk (k:=1) (by kernel_rfl) rfl
theorem W4:TI Tryz.prog 41 (.slice .str):=TI.mk (k:=1) (by kernel_rfl) rfl
theorem Xa:TI Tryz.prog 43 bq:=TI.mk (k:=2) (by kernel_rfl) rfl
theorem Xb:TI Tryz.prog 45 aa:=TI.mk (k:=2) (by kernel_rfl) rfl
theorem Xc:TI Tryz.prog 46 (.slice dy):=TI.mk (k:=1) (by kernel_rfl) rfl
theorem Xd:TI Tryz.prog 48 ax:=TI.mk (k:=6) (by kernel_rfl) rfl
theorem Xe:TI Tryz.prog 49 (.slice aJ):=TI.mk (k:=1) (by kernel_rfl) rfl
theorem Xf:TI Tryz.prog 51 az:=TI.mk (k:=5) (by kernel_rfl) rfl
theorem Xg:TI Tryz.prog 55 aa:=TI.mk (k:=2) (by kernel_rfl) rfl
theorem Xh:TI Tryz.prog 56 (.slice aa):=TI.mk (k:=1) (by kernel_rfl) rfl
theorem Xi:TI Tryz.prog 58 (.slice af):=TI.mk (k:=1) (by kernel_rfl) rfl
theorem Xj:TI Tryz.prog 59 (.slice bk):=TI.mk (k:=1) (by kernel_rfl) rfl
theorem Xk:TI Tryz.prog 61 Fz:=TI.mk (k:=3) (by kernel_rfl) rfl
theorem Xl:TI Tryz.prog 63 aQ:=TI.mk (k:=4) (by kernel_rfl) rfl
theorem Xm:TI Tryz.prog 67 af:=TI.mk (k:=3) (by kernel_rfl) rfl
theorem Xn:TI Tryz.prog 68 (.slice (.slice af)):=TI.mk (k:=1) (by kernel_rfl) rfl
theorem Xo:TI Tryz.prog 70 tN:=TI.mk (k:=3) (by kernel_rfl) rfl
theorem Xp:TI Tryz.prog 73 aa:=TI.mk (k:=2) (by kernel_rfl) rfl
theorem Xq:TI Tryz.prog 75 dy:=TI.mk (k:=5) (by kernel_rfl) rfl
theorem Xr:TI Tryz.prog 77 aN:=TI.mk (k:=9) (by kernel_rfl) rfl
theorem Xs:TI Tryz.prog 82 aQ:=TI.mk (k:=4) (by kernel_rfl) rfl
theorem Xt:TI Tryz.prog 93 aJ:=TI.mk (k:=3) (by kernel_rfl) rfl
theorem Xu:TI Tryz.prog 96 (.slice aa):=TI.mk (k:=1) (by kernel_rfl) rfl
theorem Xv:TI Tryz.prog 98 eo:=TI.mk (k:=6) (by kernel_rfl) rfl
theorem Tp:TI Tryz.prog 102 bh:=TI.mk (k:=10) (by kernel_rfl) rfl
theorem Tq:TI Tryz.prog 107 bk:=TI.mk (k:=2) (by kernel_rfl) rfl
theorem Tr:TI Tryz.prog 141 (.slice ae):=TI.mk (k:=1) (by kernel_rfl) rfl
theorem Ts:TI Tryz.prog 193 aP:=TI.mk (k:=6) (by kernel_rfl) rfl
theorem Tt:TI Tryz.prog 221 dK:=TI.mk (k:=3) (by kernel_rfl) rfl
theorem Tu:TI Tryz.prog 224 (.slice ae):=TI.mk (k:=1) (by kernel_rfl) rfl
theorem Tv:TI Tryz.prog 231 (.int .u64):=TI.mk (k:=1) (by kernel_rfl) rfl
theorem IG:qs Tryz.prog 3 ae 1:=ER Tryz.underlying3
theorem Xw:qs Tryz.prog 45 aa 2:=lT Tryz.underlying45 (by kernel_rfl) (k9 rfl rfl Tryz.underlying3 (by simp[iL]) HL IG (oB rfl rfl Tryz.underlying3 (by simp[iL]) HL IG))
theorem Xx:qs Tryz.prog 55 aa 2:=lT Tryz.underlying55 (by kernel_rfl) (k9 rfl rfl Tryz.underlying3 (by simp[iL]) HL IG (oB rfl rfl Tryz.underlying3 (by simp[iL]) HL IG))
theorem Xy:qs Tryz.prog 35 ae 1:=ER Tryz.underlying35
theorem Xz:qs Tryz.prog 63 aQ 2:=lT Tryz.underlying63 (by kernel_rfl) (k9 rfl rfl Tryz.underlying35 (by simp[iL]) To Xy (k9 rfl rfl Tryz.underlying3 (by simp[iL]) HL IG (k9 rfl rfl Tryz.underlying3 (by simp[iL]) HL IG (oB rfl rfl Tryz.underlying3 (by simp[iL]) HL IG))))
theorem XA:qs Tryz.prog 67 af 2:=lT Tryz.underlying67 (by kernel_rfl) (k9 rfl rfl Tryz.underlying3 (by simp[iL]) HL IG (k9 rfl rfl Tryz.underlying3 (by simp[iL]) HL IG (oB rfl rfl Tryz.underlying3 (by simp[iL]) HL IG)))
theorem XB:qs Tryz.prog 73 aa 2:=lT Tryz.underlying73 (by kernel_rfl) (k9 rfl rfl Tryz.underlying3 (by simp[iL]) HL IG (oB rfl rfl Tryz.underlying3 (by simp[iL]) HL IG))
theorem tu:∀p∈([(3, .int .i64),(4, .bool),(5, .int .u8),(9, .str),(20, .other),(22, .slice 43),(23, .slice 48),(24, .slice 51),(26, .struct [(22,0),(23,1),(24,2)]),(29, .slice 3),(31, .slice 77),(32, .slice 56),(34, .struct [(29,0),(31,1),(32,2),(32,3)]),(35, .int .i64),(41, .slice 9),(43, .struct [(9,0),(41,1)]),(45, .struct [(3,0),(3,1)]),(46, .slice 75),(48, .struct [(9,0),(45,1),(45,3),(46,5)]),(49, .slice 93),(51, .struct [(9,0),(3,1),(49,2),(49,3),(31,4)]),(52, .other),(55, .struct [(3,0),(3,1)]),(56, .slice 55),(58, .slice 67),(59, .slice 107),(61, .struct [(58,0),(29,1),(59,2)]),(63, .struct [(35,0),(3,1),(3,2),(3,3)]),(67, .struct [(3,0),(3,1),(3,2)]),(68, .slice 58),(70, .struct [(3,0),(58,1),(68,2)]),(71, .slice 73),(73, .struct [(3,0),(3,1)]),(75, .struct [(73,0),(3,2),(3,3),(3,4)]),(77, .struct [(9,0),(3,1),(3,2),(3,3),(73,4),(56,6),(56,7),(9,8)]),(80, .other),(82, .struct [(35,0),(3,1),(3,2),(3,3)]),(93, .struct [(9,0),(45,1)]),(96, .slice 45),(98, .struct [(3,0),(58,1),(58,2),(68,3),(96,4),(23,5)]),(99, .ptr 102),(102, .struct [(51,0),(34,5),(29,9)]),(105, .ptr 98),(107, .struct [(58,0),(29,1)]),(130, .int .u64),(138, .slice 29),(140, .ptr 141),(141, .slice 3),(158, .other),(161, .slice 4),(176, .int .u32),(178, .int .u64),(183, .other),(187, .other),(189, .other),(193, .struct [(22,0),(23,1),(96,2),(96,3),(96,4),(4,5)]),(198, .other),(221, .struct [(29,0),(29,1),(29,2)]),(222, .ptr 224),(224, .struct [(29,0)]),(231, .int .u64),(235, .ptr 3),(243, .other),(269, .ptr 231),(321, .array 12 3)]:List (Nat×Iz)),xz Tryz.prog p.1 p.2:=by
 simp only[akH];exact⟨Tryz.underlying3,Tryz.underlying4,Tryz.underlying5,Tryz.underlying9,⟨_,Tryz.underlying20,rfl⟩,Tryz.underlying22,Tryz.underlying23,Tryz.underlying24,⟨_,Tryz.underlying26,rfl⟩,Tryz.underlying29,Tryz.underlying31,Tryz.underlying32,⟨_,Tryz.underlying34,rfl⟩,Tryz.underlying35,Tryz.underlying41,⟨_,Tryz.underlying43,rfl⟩,⟨_,Tryz.underlying45,rfl⟩,Tryz.underlying46,⟨_,Tryz.underlying48,rfl⟩,Tryz.underlying49,⟨_,Tryz.underlying51,rfl⟩,⟨_,Tryz.underlying52,rfl⟩,⟨_,Tryz.underlying55,rfl⟩,Tryz.underlying56,Tryz.underlying58,Tryz.underlying59,⟨_,Tryz.underlying61,rfl⟩,⟨_,Tryz.underlying63,rfl⟩,⟨_,Tryz.underlying67,rfl⟩,Tryz.underlying68,⟨_,Tryz.underlying70,rfl⟩,Tryz.underlying71,⟨_,Tryz.underlying73,rfl⟩,⟨_,Tryz.underlying75,rfl⟩,⟨_,Tryz.underlying77,rfl⟩,⟨_,Tryz.underlying80,rfl⟩,⟨_,Tryz.underlying82,rfl⟩,⟨_,Tryz.underlying93,rfl⟩,Tryz.underlying96,⟨_,Tryz.underlying98,rfl⟩,Tryz.underlying99,⟨_,Tryz.underlying102,rfl⟩,Tryz.underlying105,⟨_,Tryz.underlying107,rfl⟩,Tryz.underlying130,Tryz.underlying138,Tryz.underlying140,Tryz.underlying141,⟨_,Tryz.underlying158,rfl⟩,Tryz.underlying161,Tryz.underlying176,Tryz.underlying178,⟨_,Tryz.underlying183,rfl⟩,⟨_,Tryz.underlying187,rfl⟩,⟨_,Tryz.underlying189,rfl⟩,⟨_,Tryz.underlying193,rfl⟩,⟨_,Tryz.underlying198,rfl⟩,⟨_,Tryz.underlying221,rfl⟩,Tryz.underlying222,⟨_,Tryz.underlying224,rfl⟩,Tryz.underlying231,Tryz.underlying235,⟨_,Tryz.underlying243,rfl⟩,Tryz.underlying269,Tryz.underlying321,fun _ h=>absurd h (by simp)⟩
theorem tr:∀p∈([(3,ae),(4, .bool),(9, .str),(22,(.slice bq)),(23,(.slice ax)),(24,(.slice az)),(26,cn),(29,(.slice ae)),(31,(.slice aN)),(32,(.slice (.slice aa))),(34,jL),(35,ae),(41,(.slice .str)),(43,bq),(45,aa),(46,(.slice dy)),(48,ax),(49,(.slice aJ)),(51,az),(55,aa),(56,(.slice aa)),(58,(.slice af)),(59,(.slice bk)),(61,Fz),(63,aQ),(67,af),(68,(.slice (.slice af))),(70,tN),(73,aa),(75,dy),(77,aN),(82,aQ),(93,aJ),(96,(.slice aa)),(98,eo),(102,bh),(107,bk),(141,(.slice ae)),(193,aP),(221,dK),(224,(.slice ae)),(231,(.int .u64))]:List (Nat×Row)),TI Tryz.prog p.1 p.2:=by
 simp only[akH];exact⟨HL,Ti4,Ti9,WV,WW,WX,WY,WZ,W0,W1,W2,To,W4,Xa,Xb,Xc,Xd,Xe,Xf,Xg,Xh,Xi,Xj,Xk,Xl,Xm,Xn,Xo,Xp,Xq,Xr,Xs,Xt,Xu,Xv,Tp,Tq,Tr,Ts,Tt,Tu,Tv,fun _ h=>absurd h (by simp)⟩
theorem te:∀p∈([(45,aa),(55,aa),(63,aQ),(67,af),(73,aa)]:List (Nat×Row)),∃K d,qs Tryz.prog p.1 p.2 K/\d+K=10000/\Tryz.prog.eqGuardType Tryz.prog.depth p.1=false/\(Tryz.prog.underlying p.1).any iL=true:=by
 simp only[akH];exact⟨⟨2,9998,Xw,rfl,by kernel_rfl,by kernel_rfl⟩,⟨2,9998,Xx,rfl,by kernel_rfl,by kernel_rfl⟩,⟨2,9998,Xz,rfl,by kernel_rfl,by kernel_rfl⟩,⟨2,9998,XA,rfl,by kernel_rfl,by kernel_rfl⟩,⟨2,9998,XB,rfl,by kernel_rfl,by kernel_rfl⟩,fun _ h=>absurd h (by simp)⟩
theorem tm:∀p∈([(140,("Len",(64,false))),(140,("Less",(375,false))),(140,("Pop",(376,true))),(140,("Push",(377,true))),(140,("Swap",(378,false)))]:List (TypeId×(String×(FuncId×Bool)))),p7 Tryz.prog p.1 p.2.1 p.2.2.1 p.2.2.2:=by
 simp only[akH];exact⟨(by unfold p7;kernel_rfl),(by unfold p7;kernel_rfl),(by unfold p7;kernel_rfl),(by unfold p7;kernel_rfl),(by unfold p7;kernel_rfl),fun _ h=>absurd h (by simp)⟩
def XC:bc Tryz.prog:=⟨_,_,_,[],oE tu,oE tr,oE te,fun _ _ _ h=>(by cases h),_,tm⟩
theorem mixed:Tryz.prog.follows .mixedOrders=true:=by kernel_rfl
def en(l:List (CT Tryz.prog))(d p:Bool):Env Tryz.prog:=⟨XC,CT.tab l,CT.zA,mixed,d,p⟩
def M.iU(N:Nat)(a0:az.den):Option Bool:=
((if(decide (80<(a0.1.size:Int)))then
some true
else
(if(decide (14<(a0.2.2.1.length:Int)))then
some true
else
(if(decide (14<(a0.2.2.2.1.length:Int)))then
some true
else
some (decide (60<(a0.2.2.2.2.length:Int)))))):Option Bool).bind fun j1=>
(if j1 then
some false
else
bJ (J:=Unit) (R:=Bool) (Loop (S:=Int) (X:=Unit⊕Bool) (fun s3=>
(if(decide (s3<(a0.2.2.1.length:Int)))then
(idx a0.2.2.1 s3).bind fun x4=>
(if(decide (80<(x4.1.size:Int)))then
some (.inr (.inr false))
else
some (.inl (ai3.wrap (s3+1))))
else
some (.inr (.inl ())))) N 0) fun j2=>
bJ (J:=Unit) (R:=Bool) (Loop (S:=Int) (X:=Unit⊕Bool) (fun s6=>
(if(decide (s6<(a0.2.2.2.1.length:Int)))then
(idx a0.2.2.2.1 s6).bind fun x7=>
(if(decide (80<(x7.1.size:Int)))then
some (.inr (.inr false))
else
some (.inl (ai3.wrap (s6+1))))
else
some (.inr (.inl ())))) N 0) fun j5=>
Loop (S:=Int) (X:=Bool) (fun s8=>
(if(decide (s8<(a0.2.2.2.2.length:Int)))then
(idx a0.2.2.2.2 s8).bind fun x9=>
((if(decide (80<(x9.1.size:Int)))then
some true
else
(if(decide (80<(x9.2.2.2.2.2.2.2.size:Int)))then
some true
else
(if(decide (50<(x9.2.2.2.2.2.1.length:Int)))then
some true
else
some (decide (50<(x9.2.2.2.2.2.2.1.length:Int)))))):Option Bool).bind fun qg=>
(if qg then
some (.inr false)
else
some (.inl (ai3.wrap (s8+1))))
else
some (.inr true))) N 0)
def S11(N:Nat):bp:=⟨⟨[(0, .g az)],[],[],0⟩,⟨[(0, .l .bool)],[],[],0⟩,fun(x:az.den)=>M.iU N x⟩
theorem W11(N:Nat):aq Tryz.prog 11 (S11 N):=fw (en [] false false) (N:=N) (.o (.two (.meet ⟨[(28, .l .bool)],[],[],32⟩ .nil .nil) (.join ⟨[],[],[],32⟩ (.o (.two (.loop ⟨[(3, .l ae)],[],[],48⟩ .nil) .nil)) (.join ⟨[],[],[],32⟩ (.o (.two (.loop ⟨[(4, .l ae)],[],[],48⟩ .nil) .nil)) (.two (.o (.two (.loop ⟨[(5, .l ae)],[],[],48⟩ (.o (.two (.two (.o (.meet ⟨[(92, .l .bool)],[],[],240⟩ .nil .nil)) .nil) .nil))) .nil)) .nil))))) Tryz.func11 (by kernel_rfl) fun x=>by kernel_rfl
def M.kV(N:Nat)(a0:cn.den):Option Bool:=
((if(decide (9<(a0.1.length:Int)))then
some true
else
(if(decide (9<(a0.2.1.length:Int)))then
some true
else
some (decide (5<(a0.2.2.length:Int))))):Option Bool).bind fun j1=>
(if j1 then
some false
else
bJ (J:=Unit) (R:=Bool) (Loop (S:=Int) (X:=Unit⊕Bool) (fun s3=>
(if(decide (s3<(a0.1.length:Int)))then
bJ (J:=Unit) (R:=Int⊕(Unit⊕Bool)) (((idx a0.1 s3).bind fun x6=>
(if(decide (80<(x6.1.size:Int)))then
some true
else
(idx a0.1 s3).bind fun x7=>
some (decide (20<(x7.2.length:Int)))):Option Bool).bind fun j5=>
(if j5 then
some (.inr (.inr (.inr false)))
else
Loop (S:=Int) (X:=Unit⊕(Int⊕(Unit⊕Bool))) (fun s8=>
(idx a0.1 s3).bind fun x9=>
(if(decide (s8<(x9.2.length:Int)))then
(idx a0.1 s3).bind fun tO=>
(idx tO.2 s8).bind fun ow=>
(if(decide (80<(ow.size:Int)))then
some (.inr (.inr (.inr (.inr false))))
else
some (.inl (ai3.wrap (s8+1))))
else
some (.inr (.inl ())))) N 0)) fun j4=>
some (.inl (ai3.wrap (s3+1)))
else
some (.inr (.inl ())))) N 0) fun j2=>
bJ (J:=Unit) (R:=Bool) (Loop (S:=Int×Int) (X:=Unit⊕Bool) (fun pI=>
(if(decide (pI.2<(a0.2.1.length:Int)))then
(idx a0.2.1 pI.2).bind fun r9=>
((idx a0.2.1 pI.2).bind fun KD=>
(if(decide (80<(KD.1.size:Int)))then
some true
else
some (decide (150<(ai3.wrap (pI.1+(r9.2.2.2.length:Int)))))):Option Bool).bind fun OD=>
(if OD then
some (.inr (.inr false))
else
some (.inl (ai3.wrap (pI.1+(r9.2.2.2.length:Int)),ai3.wrap (pI.2+1))))
else
some (.inr (.inl ())))) N (0,0)) fun Aj=>
Loop (S:=Int×Int) (X:=Bool) (fun RS=>
(if(decide (RS.2<(a0.2.2.length:Int)))then
(idx a0.2.2 RS.2).bind fun CO=>
((if(decide (60<(ai3.wrap (RS.1+(CO.2.2.2.2.length:Int)))))then
some true
else
(idx a0.2.2 RS.2).bind fun XD=>
(M.iU N XD).bind fun RU=>
some (!RU)):Option Bool).bind fun RV=>
(if RV then
some (.inr false)
else
some (.inl (ai3.wrap (RS.1+(CO.2.2.2.2.length:Int)),ai3.wrap (RS.2+1))))
else
some (.inr true))) N (0,0))
def S5(N:Nat):bp:=⟨⟨[(0, .g cn)],[],[],0⟩,⟨[(0, .l .bool)],[],[],0⟩,fun(x:cn.den)=>M.kV N x⟩
theorem W5(N:Nat):aq Tryz.prog 5 (S5 N):=fw (en [ck (W11 N)] false false) (N:=N) (.o (.two (.meet ⟨[(24, .l .bool)],[],[],32⟩ .nil .nil) (.o (.o (.join ⟨[],[],[],64⟩ (.o (.two (.loop ⟨[(5, .l ae)],[],[],80⟩ (.o (.join ⟨[],[],[],160⟩ (.two (.two (.meet ⟨[(49, .l .bool)],[],[],160⟩ .nil .nil) (.o (.two (.loop ⟨[(6, .l ae)],[],[],176⟩ .nil) .nil))) .nil) .nil))) .nil)) (.join ⟨[],[],[],64⟩ (.o (.two (.loop ⟨[(3, .l ae),(7, .l ae)],[],[],80⟩ (.o (.two (.two (.o (.meet ⟨[(99, .l .bool)],[],[],320⟩ .nil .nil)) .nil) .nil))) .nil)) (.two (.o (.two (.loop ⟨[(4, .l ae),(8, .l ae)],[],[],80⟩ (.o (.two (.two (.o (.meet ⟨[(126, .l .bool)],[],[],320⟩ .nil .nil)) .nil) .nil))) .nil)) .nil))))))) Tryz.func5 (by kernel_rfl) fun x=>by kernel_rfl
def M.iO(N:Nat)(a0:Int):Option Bool:=
((if(decide (97<=a0))then
some (decide (a0<=122))
else
some false):Option Bool).bind fun j1=>
some j1
def XE(N:Nat):bp:=⟨⟨[(0, .l (.int .u8))],[],[],0⟩,⟨[(0, .l .bool)],[],[],0⟩,fun(x:Int)=>M.iO N x⟩
theorem Tw(N:Nat):aq Tryz.prog 110 (XE N):=fw (en [] false false) (N:=N) (.o (.meet ⟨[(2, .l .bool)],[],[],16⟩ .nil .nil)) Tryz.func110 (by kernel_rfl) fun x=>by kernel_rfl
def M.kW(N:Nat)(a0:Int):Option Bool:=
((if(decide (48<=a0))then
some (decide (a0<=57))
else
some false):Option Bool).bind fun j1=>
some j1
def XF(N:Nat):bp:=⟨⟨[(0, .l (.int .u8))],[],[],0⟩,⟨[(0, .l .bool)],[],[],0⟩,fun(x:Int)=>M.kW N x⟩
theorem XG(N:Nat):aq Tryz.prog 174 (XF N):=fw (en [] false false) (N:=N) (.o (.meet ⟨[(2, .l .bool)],[],[],16⟩ .nil .nil)) Tryz.func174 (by kernel_rfl) fun x=>by kernel_rfl
def M.ir(N:Nat)(a0:ByteArray):Option Int:=
Loop (S:=Int) (X:=Int) (fun s1=>
((if(decide (s1<(a0.size:Int)))then
(kF a0 s1).bind fun x3=>
(M.iO N x3).bind fun y4=>
(if y4 then
some true
else
(kF a0 s1).bind fun x5=>
(M.kW N x5).bind fun y6=>
(if y6 then
some true
else
(kF a0 s1).bind fun x7=>
some (decide (x7=95))))
else
some false):Option Bool).bind fun j2=>
(if j2 then
some (.inl (ai3.wrap (s1+1)))
else
some (.inr s1))) N 0
def XH(N:Nat):bp:=⟨⟨[(0, .l .str)],[],[],0⟩,⟨[(0, .l ae)],[],[],0⟩,fun(x:ByteArray)=>M.ir N x⟩
theorem XI(N:Nat):aq Tryz.prog 111 (XH N):=fw (en [ck (Tw N),ck (XG N)] false false) (N:=N) (.o (.o (.two (.two (.loop ⟨[(3, .l ae)],[],[],32⟩ (.two (.meet ⟨[(25, .l .bool)],[],[],32⟩ .nil .nil) .nil)) .nil) .nil))) Tryz.func111 (by kernel_rfl) fun x=>by kernel_rfl
def M.jM(N:Nat)(a0:ByteArray):Option Bool:=
((if(decide (a0=(⟨#[105,102]⟩:ByteArray)))then
some (decide (a0=(⟨#[105,102]⟩:ByteArray)))
else
(if(decide (a0=(⟨#[116,104,101,110]⟩:ByteArray)))then
some (decide (a0=(⟨#[116,104,101,110]⟩:ByteArray)))
else
(if(decide (a0=(⟨#[101,108,115,101]⟩:ByteArray)))then
some (decide (a0=(⟨#[101,108,115,101]⟩:ByteArray)))
else
(if(decide (a0=(⟨#[111,114]⟩:ByteArray)))then
some (decide (a0=(⟨#[111,114]⟩:ByteArray)))
else
(if(decide (a0=(⟨#[97,110,100]⟩:ByteArray)))then
some (decide (a0=(⟨#[97,110,100]⟩:ByteArray)))
else
(if(decide (a0=(⟨#[110,111,116]⟩:ByteArray)))then
some (decide (a0=(⟨#[110,111,116]⟩:ByteArray)))
else
(if(decide (a0=(⟨#[116,114,117,101]⟩:ByteArray)))then
some (decide (a0=(⟨#[116,114,117,101]⟩:ByteArray)))
else
(if(decide (a0=(⟨#[102,97,108,115,101]⟩:ByteArray)))then
some (decide (a0=(⟨#[102,97,108,115,101]⟩:ByteArray)))
else
(if(decide (a0=(⟨#[116,111,100,97,121]⟩:ByteArray)))then
some (decide (a0=(⟨#[116,111,100,97,121]⟩:ByteArray)))
else
(if(decide (a0=(⟨#[115,104,97,114,101]⟩:ByteArray)))then
some (decide (a0=(⟨#[115,104,97,114,101]⟩:ByteArray)))
else
(if(decide (a0=(⟨#[100,105,118]⟩:ByteArray)))then
some (decide (a0=(⟨#[100,105,118]⟩:ByteArray)))
else
(if(decide (a0=(⟨#[114,111,117,110,100]⟩:ByteArray)))then
some (decide (a0=(⟨#[114,111,117,110,100]⟩:ByteArray)))
else
(if(decide (a0=(⟨#[109,105,110]⟩:ByteArray)))then
some (decide (a0=(⟨#[109,105,110]⟩:ByteArray)))
else
(if(decide (a0=(⟨#[109,97,120]⟩:ByteArray)))then
some (decide (a0=(⟨#[109,97,120]⟩:ByteArray)))
else
(if(decide (a0=(⟨#[112,108,117,115]⟩:ByteArray)))then
some (decide (a0=(⟨#[112,108,117,115]⟩:ByteArray)))
else
(if(decide (a0=(⟨#[109,111,110,116,104,115]⟩:ByteArray)))then
some (decide (a0=(⟨#[109,111,110,116,104,115]⟩:ByteArray)))
else
(if(decide (a0=(⟨#[100,97,121,115]⟩:ByteArray)))then
some (decide (a0=(⟨#[100,97,121,115]⟩:ByteArray)))
else
(if(decide (a0=(⟨#[121,101,97,114,115]⟩:ByteArray)))then
some (decide (a0=(⟨#[121,101,97,114,115]⟩:ByteArray)))
else
(if(decide (a0=(⟨#[121,101,97,114]⟩:ByteArray)))then
some (decide (a0=(⟨#[121,101,97,114]⟩:ByteArray)))
else
(if(decide (a0=(⟨#[109,111,110,116,104]⟩:ByteArray)))then
some (decide (a0=(⟨#[109,111,110,116,104]⟩:ByteArray)))
else
(if(decide (a0=(⟨#[116,97,98]⟩:ByteArray)))then
some (decide (a0=(⟨#[116,97,98]⟩:ByteArray)))
else
(if(decide (a0=(⟨#[98,97,110,100]⟩:ByteArray)))then
some (decide (a0=(⟨#[98,97,110,100]⟩:ByteArray)))
else
(if(decide (a0=(⟨#[99,111,117,110,116]⟩:ByteArray)))then
some (decide (a0=(⟨#[99,111,117,110,116]⟩:ByteArray)))
else
(if(decide (a0=(⟨#[115,117,109]⟩:ByteArray)))then
some (decide (a0=(⟨#[115,117,109]⟩:ByteArray)))
else
(if(decide (a0=(⟨#[97,108,108]⟩:ByteArray)))then
some (decide (a0=(⟨#[97,108,108]⟩:ByteArray)))
else
(if(decide (a0=(⟨#[97,110,121]⟩:ByteArray)))then
some (decide (a0=(⟨#[97,110,121]⟩:ByteArray)))
else
(if(decide (a0=(⟨#[109,111,115,116]⟩:ByteArray)))then
some (decide (a0=(⟨#[109,111,115,116]⟩:ByteArray)))
else
(if(decide (a0=(⟨#[101,110,117,109]⟩:ByteArray)))then
some (decide (a0=(⟨#[101,110,117,109]⟩:ByteArray)))
else
(if(decide (a0=(⟨#[116,97,98,108,101]⟩:ByteArray)))then
some (decide (a0=(⟨#[116,97,98,108,101]⟩:ByteArray)))
else
(if(decide (a0=(⟨#[114,111,119]⟩:ByteArray)))then
some (decide (a0=(⟨#[114,111,119]⟩:ByteArray)))
else
(if(decide (a0=(⟨#[115,99,111,112,101]⟩:ByteArray)))then
some (decide (a0=(⟨#[115,99,111,112,101]⟩:ByteArray)))
else
(if(decide (a0=(⟨#[109,101,109,98,101,114,115]⟩:ByteArray)))then
some (decide (a0=(⟨#[109,101,109,98,101,114,115]⟩:ByteArray)))
else
(if(decide (a0=(⟨#[105,110,112,117,116]⟩:ByteArray)))then
some (decide (a0=(⟨#[105,110,112,117,116]⟩:ByteArray)))
else
(if(decide (a0=(⟨#[100,101,102]⟩:ByteArray)))then
some (decide (a0=(⟨#[100,101,102]⟩:ByteArray)))
else
(if(decide (a0=(⟨#[114,117,108,101]⟩:ByteArray)))then
some (decide (a0=(⟨#[114,117,108,101]⟩:ByteArray)))
else
(if(decide (a0=(⟨#[111,102]⟩:ByteArray)))then
some (decide (a0=(⟨#[111,102]⟩:ByteArray)))
else
(if(decide (a0=(⟨#[111,118,101,114]⟩:ByteArray)))then
some (decide (a0=(⟨#[111,118,101,114]⟩:ByteArray)))
else
(if(decide (a0=(⟨#[112,114,105,111]⟩:ByteArray)))then
some (decide (a0=(⟨#[112,114,105,111]⟩:ByteArray)))
else
(if(decide (a0=(⟨#[102,114,111,109]⟩:ByteArray)))then
some (decide (a0=(⟨#[102,114,111,109]⟩:ByteArray)))
else
(if(decide (a0=(⟨#[116,111]⟩:ByteArray)))then
some (decide (a0=(⟨#[116,111]⟩:ByteArray)))
else
(if(decide (a0=(⟨#[101,110,100]⟩:ByteArray)))then
some (decide (a0=(⟨#[101,110,100]⟩:ByteArray)))
else
(if(decide (a0=(⟨#[119,104,101,110]⟩:ByteArray)))then
some (decide (a0=(⟨#[119,104,101,110]⟩:ByteArray)))
else
(if(decide (a0=(⟨#[105,115]⟩:ByteArray)))then
some (decide (a0=(⟨#[105,115]⟩:ByteArray)))
else
(if(decide (a0=(⟨#[115,114,99]⟩:ByteArray)))then
some (decide (a0=(⟨#[115,114,99]⟩:ByteArray)))
else
(if(decide (a0=(⟨#[98,111,111,108]⟩:ByteArray)))then
some (decide (a0=(⟨#[98,111,111,108]⟩:ByteArray)))
else
(if(decide (a0=(⟨#[105,110,116]⟩:ByteArray)))then
some (decide (a0=(⟨#[105,110,116]⟩:ByteArray)))
else
(if(decide (a0=(⟨#[109,111,110,101,121]⟩:ByteArray)))then
some (decide (a0=(⟨#[109,111,110,101,121]⟩:ByteArray)))
else
(if(decide (a0=(⟨#[114,97,116,101]⟩:ByteArray)))then
some (decide (a0=(⟨#[114,97,116,101]⟩:ByteArray)))
else
(if(decide (a0=(⟨#[100,97,116,101]⟩:ByteArray)))then
some (decide (a0=(⟨#[100,97,116,101]⟩:ByteArray)))
else
(if(decide (a0=(⟨#[100,111,119,110]⟩:ByteArray)))then
some (decide (a0=(⟨#[100,111,119,110]⟩:ByteArray)))
else
(if(decide (a0=(⟨#[117,112]⟩:ByteArray)))then
some (decide (a0=(⟨#[117,112]⟩:ByteArray)))
else
(if(decide (a0=(⟨#[122,101,114,111]⟩:ByteArray)))then
some (decide (a0=(⟨#[122,101,114,111]⟩:ByteArray)))
else
(if(decide (a0=(⟨#[97,119,97,121]⟩:ByteArray)))then
some (decide (a0=(⟨#[97,119,97,121]⟩:ByteArray)))
else
(if(decide (a0=(⟨#[104,97,108,102]⟩:ByteArray)))then
some (decide (a0=(⟨#[104,97,108,102]⟩:ByteArray)))
else
some (decide (a0=(⟨#[101,118,101,110]⟩:ByteArray))))))))))))))))))))))))))))))))))))))))))))))))))))))))):Option Bool).bind fun j1=>
(if j1 then
some true
else
some false)
def XJ(N:Nat):bp:=⟨⟨[(0, .l .str)],[],[],0⟩,⟨[(0, .l .bool)],[],[],0⟩,fun(x:ByteArray)=>M.jM N x⟩
theorem XK(N:Nat):aq Tryz.prog 112 (XJ N):=fw (en [] false false) (N:=N) (.o (.two (.o (.two (.meet ⟨[(4, .l .bool)],[],[],32⟩ .nil .nil) .nil)) .nil)) Tryz.func112 (by kernel_rfl) fun x=>by kernel_rfl
def M.bS(N:Nat)(a0:ByteArray):Option Bool:=
((if(!decide (a0=(⟨#[]⟩:ByteArray)))then
(kF a0 0).bind fun x2=>
(M.iO N x2).bind fun y3=>
(if y3 then
(M.ir N a0).bind fun y4=>
(if(decide (y4=(a0.size:Int)))then
(if(decide ((a0.size:Int)<=16))then
(M.jM N a0).bind fun y5=>
some (!y5)
else
some false)
else
some false)
else
some false)
else
some false):Option Bool).bind fun j1=>
some j1
def S58(N:Nat):bp:=⟨⟨[(0, .l .str)],[],[],0⟩,⟨[(0, .l .bool)],[],[],0⟩,fun(x:ByteArray)=>M.bS N x⟩
theorem Tx(N:Nat):aq Tryz.prog 58 (S58 N):=fw (en [ck (Tw N),ck (XI N),ck (XK N)] false false) (N:=N) (.o (.meet ⟨[(2, .l .bool)],[],[],16⟩ .nil .nil)) Tryz.func58 (by kernel_rfl) fun x=>by kernel_rfl
def M.jN(N:Nat)(a0:bq.den)(a1:ByteArray):Option (Bool×ByteArray):=
some (decide (a0.1=a1),a1)
def PQ(N:Nat):bp:=⟨⟨[(0, .g bq),(1, .ptr 0 [] 0)],[(0, .box 9 (.leaf .str))],[],1⟩,⟨[(0, .l .bool)],[(0, .box 9 (.leaf .str))],[],2⟩,fun(x:bq.den×ByteArray)=>M.jN N x.1 x.2⟩
theorem PR(N:Nat):aq Tryz.prog 114 (PQ N):=fw (en [] false false) (N:=N) .nil Tryz.func114 (by kernel_rfl) fun x=>by kernel_rfl
def M.bi(N:Nat)(a0:List bq.den)(a1:ByteArray):Option (Int×ByteArray):=
Loop (S:=Int×ByteArray) (X:=Int×ByteArray) (fun s1=>
(if(decide (s1.1<(a0.length:Int)))then
(idx a0 s1.1).bind fun x2=>
(M.jN N x2 s1.2).bind fun y3=>
(if y3.1 then
some (.inr (s1.1,y3.2))
else
some (.inl (ai3.wrap (s1.1+1),y3.2)))
else
some (.inr ((-1),s1.2)))) N (0,a1)
def PS(N:Nat):bp:=⟨⟨[(0, .l (.slice bq)),(1, .fn 114 [(0,[],0)])],[(0, .box 9 (.leaf .str))],[],1⟩,⟨[(0, .l ae)],[(0, .box 9 (.leaf .str))],[],2⟩,fun(x:(List bq.den)×ByteArray)=>M.bi N x.1 x.2⟩
theorem PT(N:Nat):aq Tryz.prog 175 (PS N):=fw (en [ck (PR N)] false false) (N:=N) (.o (.two (.o (.two (.loop ⟨[(8, .l ae)],[(0, .box 9 (.leaf .str))],[],66⟩ .nil) .nil)) .nil)) Tryz.func175 (by kernel_rfl) fun x=>by kernel_rfl
def M.bA(N:Nat)(a0:List bq.den)(a1:ByteArray):Option (Bool×ByteArray):=
(M.bi N a0 a1).bind fun y1=>
some (decide (0<=y1.1),y1.2)
def PU(N:Nat):bp:=⟨⟨[(0, .l (.slice bq)),(1, .fn 114 [(0,[],0)])],[(0, .box 9 (.leaf .str))],[],1⟩,⟨[(0, .l .bool)],[(0, .box 9 (.leaf .str))],[],2⟩,fun(x:(List bq.den)×ByteArray)=>M.bA N x.1 x.2⟩
theorem PV(N:Nat):aq Tryz.prog 113 (PU N):=fw (en [ck (PT N)] false false) (N:=N) .nil Tryz.func113 (by kernel_rfl) fun x=>by kernel_rfl
def M.gR(N:Nat)(a0:List bq.den)(a1:ByteArray):Option Bool:=
(M.bA N a0 a1).bind fun y1=>
some y1.1
def S59(N:Nat):bp:=⟨⟨[(0, .l (.slice bq)),(1, .l .str)],[],[],0⟩,⟨[(0, .l .bool)],[],[],0⟩,fun(x:(List bq.den)×ByteArray)=>M.gR N x.1 x.2⟩
theorem XL(N:Nat):aq Tryz.prog 59 (S59 N):=fw (en [ck (PV N)] false false) (N:=N) .nil Tryz.func59 (by kernel_rfl) fun x=>by kernel_rfl
def M.db(N:Nat)(a0:List ByteArray)(a1:ByteArray):Option Int:=
Loop (S:=Int) (X:=Int) (fun s1=>
(if(decide (s1<(a0.length:Int)))then
(idx a0 s1).bind fun x2=>
(if(decide (a1=x2))then
some (.inr s1)
else
some (.inl (ai3.wrap (s1+1))))
else
some (.inr (-1)))) N 0
def XM(N:Nat):bp:=⟨⟨[(0, .l (.slice .str)),(1, .l .str)],[],[],0⟩,⟨[(0, .l ae)],[],[],0⟩,fun(x:(List ByteArray)×ByteArray)=>M.db N x.1 x.2⟩
theorem XN(N:Nat):aq Tryz.prog 172 (XM N):=fw (en [] false false) (N:=N) (.o (.two (.o (.two (.loop ⟨[(8, .l ae)],[],[],64⟩ .nil) .nil)) .nil)) Tryz.func172 (by kernel_rfl) fun x=>by kernel_rfl
def M.cP(N:Nat)(a0:List ByteArray)(a1:ByteArray):Option Bool:=
(M.db N a0 a1).bind fun y1=>
some (decide (0<=y1))
def XO(N:Nat):bp:=⟨⟨[(0, .l (.slice .str)),(1, .l .str)],[],[],0⟩,⟨[(0, .l .bool)],[],[],0⟩,fun(x:(List ByteArray)×ByteArray)=>M.cP N x.1 x.2⟩
theorem XP(N:Nat):aq Tryz.prog 105 (XO N):=fw (en [ck (XN N)] false false) (N:=N) .nil Tryz.func105 (by kernel_rfl) fun x=>by kernel_rfl
def M.kX(N:Nat)(a0:cn.den)(a1:Int)(a2:bq.den):Option (Int×Int):=
(M.bS N a2.1).bind fun y1=>
(if(!y1)then
some (2,0)
else
(eR a0.1 0 a1).bind fun l2=>
(M.gR N l2 a2.1).bind fun y3=>
(if y3 then
some (7,0)
else
(if(decide ((a2.2.length:Int)=0))then
some (5,0)
else
(if(decide (16<(a2.2.length:Int)))then
some (4,116)
else
Loop (S:=Int) (X:=Int×Int) (fun s4=>
(if(decide (s4<(a2.2.length:Int)))then
(idx a2.2 s4).bind fun x5=>
(M.bS N x5).bind fun y6=>
(if(!y6)then
some (.inr (2,ai3.wrap (100+s4)))
else
(eR a2.2 0 s4).bind fun l7=>
(M.cP N l7 x5).bind fun y8=>
(if y8 then
some (.inr (7,ai3.wrap (100+s4)))
else
some (.inl (ai3.wrap (s4+1)))))
else
some (.inr (0,0)))) N 0))))
def S56(N:Nat):bp:=⟨⟨[(0, .g cn),(1, .l ae),(2, .g bq)],[],[],0⟩,⟨[(0, .l ae),(1, .l ae)],[],[],0⟩,fun(x:cn.den×Int×bq.den)=>M.kX N x.1 x.2.1 x.2.2⟩
theorem W56(N:Nat):aq Tryz.prog 56 (S56 N):=fw (en [ck (Tx N),ck (XL N),ck (XP N)] false false) (N:=N) (.o (.o (.two (.o (.two (.loop ⟨[(36, .l ae)],[],[],496⟩ .nil) .nil)) .nil))) Tryz.func56 (by kernel_rfl) fun x=>by kernel_rfl
def M.jO(N:Nat)(a0:cn.den):Option (aQ.den):=
(if(decide (8<(a0.1.length:Int)))then
some (4,(1,(8,0)))
else
bJ (J:=Unit) (R:=aQ.den) (Loop (S:=Int) (X:=Unit⊕(aQ.den)) (fun s2=>
(if(decide (s2<(a0.1.length:Int)))then
(idx a0.1 s2).bind fun x3=>
(M.kX N a0 s2 x3).bind fun y4=>
(if(!decide (y4.1=0))then
some (.inr (.inr (y4.1,(1,(s2,y4.2)))))
else
some (.inl (ai3.wrap (s2+1))))
else
some (.inr (.inl ())))) N 0) fun j1=>
some (0,(0,(0,0))))
def S34(N:Nat):bp:=⟨⟨[(0, .g cn)],[],[],0⟩,⟨[(0, .g aQ)],[],[],0⟩,fun(x:cn.den)=>M.jO N x⟩
theorem W34(N:Nat):aq Tryz.prog 34 (S34 N):=fw (en [ck (W56 N)] false false) (N:=N) (.o (.o (.join ⟨[],[],[],96⟩ (.o (.two (.loop ⟨[(15, .l ae)],[],[],160⟩ .nil) .nil)) .nil))) Tryz.func34 (by kernel_rfl) fun x=>by kernel_rfl
def M.dT(N:Nat)(a0:aa.den):Option Bool:=
((if(decide (0<=a0.1))then
(if(decide (a0.1<=a0.2))then
some (decide (a0.2<=109573))
else
some false)
else
some false):Option Bool).bind fun j1=>
some j1
def S53(N:Nat):bp:=⟨⟨[(0, .g aa)],[],[],0⟩,⟨[(0, .l .bool)],[],[],0⟩,fun(x:aa.den)=>M.dT N x⟩
theorem XQ(N:Nat):aq Tryz.prog 53 (S53 N):=fw (en [] false false) (N:=N) (.o (.meet ⟨[(2, .l .bool)],[],[],32⟩ .nil .nil)) Tryz.func53 (by kernel_rfl) fun x=>by kernel_rfl
def M.bW(N:Nat)(a0:aa.den)(a1:List bq.den):Option Bool:=
((if(decide (a0.1=1))then
some (decide (a0.1=1))
else
(if(decide (a0.1=2))then
some (decide (a0.1=2))
else
(if(decide (a0.1=3))then
some (decide (a0.1=3))
else
(if(decide (a0.1=4))then
some (decide (a0.1=4))
else
some (decide (a0.1=5)))))):Option Bool).bind fun j1=>
(if j1 then
some (decide (a0.2=0))
else
(if(decide (a0.1=6))then
((if(decide (0<=a0.2))then
some (decide (a0.2<(a1.length:Int)))
else
some false):Option Bool).bind fun j2=>
some j2
else
some false))
def XR(N:Nat):bp:=⟨⟨[(0, .g aa),(1, .l (.slice bq))],[],[],0⟩,⟨[(0, .l .bool)],[],[],0⟩,fun(x:aa.den×List bq.den)=>M.bW N x.1 x.2⟩
theorem KE(N:Nat):aq Tryz.prog 106 (XR N):=fw (en [] false false) (N:=N) (.o (.two (.o (.two (.meet ⟨[(7, .l .bool)],[],[],64⟩ .nil (.o (.o (.two (.meet ⟨[(4, .l .bool)],[],[],96⟩ .nil .nil) .nil)))) .nil)) .nil)) Tryz.func106 (by kernel_rfl) fun x=>by kernel_rfl
def M.fe(N:Nat)(a0:aa.den)(a1:List bq.den):Option (Int×Int):=
(M.bW N a0 a1).bind fun y1=>
(if(!y1)then
some (0,(-1))
else
(if(decide (a0.1=1))then
some (0,1)
else
(if(decide (a0.1=2))then
some ((-1000000000000),1000000000000)
else
(if(decide (a0.1=3))then
some ((-1000000000000000),1000000000000000)
else
(if(decide (a0.1=4))then
some ((-1000000000),1000000000)
else
(if(decide (a0.1=5))then
some (0,109572)
else
(idx a1 a0.2).bind fun x2=>
some (0,ai3.wrap ((x2.2.length:Int)-1))))))))
def S83(N:Nat):bp:=⟨⟨[(0, .g aa),(1, .l (.slice bq))],[],[],0⟩,⟨[(0, .l ae),(1, .l ae)],[],[],0⟩,fun(x:aa.den×List bq.den)=>M.fe N x.1 x.2⟩
theorem XS(N:Nat):aq Tryz.prog 83 (S83 N):=fw (en [ck (KE N)] false false) (N:=N) .nil Tryz.func83 (by kernel_rfl) fun x=>by kernel_rfl
def M.dc(N:Nat)(a0:aa.den):Option Bool:=
((M.dT N a0).bind fun y2=>
(if y2 then
some (decide (a0.1<a0.2))
else
some false):Option Bool).bind fun j1=>
some j1
def S31(N:Nat):bp:=⟨⟨[(0, .g aa)],[],[],0⟩,⟨[(0, .l .bool)],[],[],0⟩,fun(x:aa.den)=>M.dc N x⟩
theorem W31(N:Nat):aq Tryz.prog 31 (S31 N):=fw (en [ck (XQ N)] false false) (N:=N) (.o (.meet ⟨[(2, .l .bool)],[],[],32⟩ .nil .nil)) Tryz.func31 (by kernel_rfl) fun x=>by kernel_rfl
def M.iG(N:Nat)(a0:aa.den)(a1:aa.den):Option (aa.den×Bool):=
((M.dc N a0).bind fun y2=>
(if(!y2)then
some true
else
(M.dc N a1).bind fun y3=>
some (!y3)):Option Bool).bind fun j1=>
(if j1 then
some ((0,0),false)
else
(if(decide ((if a1.2<a0.2 then a1.2 else a0.2)<=(if a0.1<a1.1 then a1.1 else a0.1)))then
some ((0,0),false)
else
some ((if a0.1<a1.1 then a1.1 else a0.1,if a1.2<a0.2 then a1.2 else a0.2),true)))
def XT(N:Nat):bp:=⟨⟨[(0, .g aa),(1, .g aa)],[],[],0⟩,⟨[(0, .g aa),(1, .l .bool)],[],[],0⟩,fun(x:aa.den×aa.den)=>M.iG N x.1 x.2⟩
theorem XU(N:Nat):aq Tryz.prog 173 (XT N):=fw (en [ck (W31 N)] false false) (N:=N) (.o (.two (.meet ⟨[(14, .l .bool)],[],[],64⟩ .nil .nil) .nil)) Tryz.func173 (by kernel_rfl) fun x=>by kernel_rfl
def M.jP(N:Nat)(a0:dy.den)(a1:dy.den):Option Bool:=
(M.iG N a0.1 a1.1).bind fun y1=>
((if y1.2 then
some (decide ((if a0.2.1<a1.2.1 then a1.2.1 else a0.2.1)<(if a1.2.2.1<a0.2.2.1 then a1.2.2.1 else a0.2.2.1)))
else
some false):Option Bool).bind fun j2=>
some j2
def XV(N:Nat):bp:=⟨⟨[(0, .g dy),(1, .g dy)],[],[],0⟩,⟨[(0, .l .bool)],[],[],0⟩,fun(x:dy.den×dy.den)=>M.jP N x.1 x.2⟩
theorem XW(N:Nat):aq Tryz.prog 109 (XV N):=fw (en [ck (XU N)] false false) (N:=N) (.o (.o (.meet ⟨[(4, .l .bool)],[],[],224⟩ .nil .nil))) Tryz.func109 (by kernel_rfl) fun x=>by kernel_rfl
def M.gS(N:Nat)(a0:dy.den)(a1:dy.den):Option (Bool×dy.den):=
(M.jP N a0 a1).bind fun y1=>
some (y1,a1)
def PW(N:Nat):bp:=⟨⟨[(0, .g dy),(1, .ptr 0 [] 0)],[(0, .box 75 (.leaf dy))],[],1⟩,⟨[(0, .l .bool)],[(0, .box 75 (.leaf dy))],[],2⟩,fun(x:dy.den×dy.den)=>M.gS N x.1 x.2⟩
theorem PX(N:Nat):aq Tryz.prog 108 (PW N):=fw (en [ck (XW N)] false false) (N:=N) .nil Tryz.func108 (by kernel_rfl) fun x=>by kernel_rfl
def M.bK(N:Nat)(a0:List dy.den)(a1:dy.den):Option (Int×Bool×dy.den):=
Loop (S:=Int×dy.den) (X:=Int×Bool×dy.den) (fun s1=>
(if(decide (s1.1<(a0.length:Int)))then
(idx a0 s1.1).bind fun x2=>
(M.gS N x2 s1.2).bind fun y3=>
(if y3.1 then
some (.inr (s1.1,true,y3.2))
else
some (.inl (ai3.wrap (s1.1+1),y3.2)))
else
some (.inr (0,false,s1.2)))) N (0,a1)
def PY(N:Nat):bp:=⟨⟨[(0, .l (.slice dy)),(1, .fn 108 [(0,[],0)])],[(0, .box 75 (.leaf dy))],[],1⟩,⟨[(0, .l ae),(1, .l .bool)],[(0, .box 75 (.leaf dy))],[],2⟩,fun(x:(List dy.den)×dy.den)=>M.bK N x.1 x.2⟩
theorem PZ(N:Nat):aq Tryz.prog 107 (PY N):=fw (en [ck (PX N)] false false) (N:=N) (.o (.two (.o (.two (.loop ⟨[(10, .l ae)],[(0, .box 75 (.leaf dy))],[],82⟩ .nil) .nil)) .nil)) Tryz.func107 (by kernel_rfl) fun x=>by kernel_rfl
def M.jQ(N:Nat)(a0:ax.den)(a1:List bq.den):Option (Int×Int):=
(if(decide (64<(a0.2.2.2.length:Int)))then
some (64,4)
else
((M.bW N a0.2.1 a1).bind fun y2=>
(if(!y2)then
some true
else
(M.bW N a0.2.2.1 a1).bind fun y3=>
some (!y3)):Option Bool).bind fun j1=>
(if j1 then
some ((-1),8)
else
(M.fe N a0.2.1 a1).bind fun y4=>
(M.fe N a0.2.2.1 a1).bind fun y5=>
Loop (S:=Int) (X:=Int×Int) (fun s6=>
(if(decide (s6<(a0.2.2.2.length:Int)))then
(idx a0.2.2.2 s6).bind fun x7=>
((M.dT N x7.1).bind fun y9=>
(if(!y9)then
some true
else
(if(decide (x7.1.1=x7.1.2))then
some true
else
some (decide (x7.2.2.1<=x7.2.1)))):Option Bool).bind fun j8=>
(if j8 then
some (.inr (s6,3))
else
((if(decide (x7.2.1<y4.1))then
some true
else
(if(decide (y4.2<x7.2.1))then
some true
else
(if(decide ((ai3.wrap (x7.2.2.1-1))<y4.1))then
some true
else
some (decide (y4.2<(ai3.wrap (x7.2.2.1-1))))))):Option Bool).bind fun qg=>
(if qg then
some (.inr (s6,3))
else
((if(decide (x7.2.2.2<y5.1))then
some true
else
some (decide (y5.2<x7.2.2.2))):Option Bool).bind fun CP=>
(if CP then
some (.inr (s6,3))
else
(eR a0.2.2.2 0 s6).bind fun FA=>
(M.bK N FA x7).bind fun BM=>
(if BM.2.1 then
some (.inr (s6,11))
else
some (.inl (ai3.wrap (s6+1)))))))
else
some (.inr (0,0)))) N 0))
def S57(N:Nat):bp:=⟨⟨[(0, .g ax),(1, .l (.slice bq))],[],[],0⟩,⟨[(0, .l ae),(1, .l ae)],[],[],0⟩,fun(x:ax.den×List bq.den)=>M.jQ N x.1 x.2⟩
theorem W57(N:Nat):aq Tryz.prog 57 (S57 N):=fw (en [ck (XQ N),ck (XS N),ck (KE N),ck (PZ N)] false false) (N:=N) (.o (.o (.two (.meet ⟨[(29, .l .bool)],[],[],112⟩ .nil .nil) (.o (.o (.two (.o (.two (.loop ⟨[(47, .l ae)],[],[],464⟩ (.o (.o (.two (.two (.o (.two (.meet ⟨[(71, .l .bool)],[],[],576⟩ .nil .nil) (.two (.meet ⟨[(96, .l .bool)],[],[],576⟩ .nil .nil) (.two (.meet ⟨[(107, .l .bool)],[],[],576⟩ .nil .nil) .nil)))) .nil) .nil)))) .nil)) .nil)))))) Tryz.func57 (by kernel_rfl) fun x=>by kernel_rfl
def M.jh(N:Nat)(a0:ax.den)(a1:ByteArray):Option (Bool×ByteArray):=
some (decide (a0.1=a1),a1)
def P0(N:Nat):bp:=⟨⟨[(0, .g ax),(1, .ptr 0 [] 0)],[(0, .box 9 (.leaf .str))],[],1⟩,⟨[(0, .l .bool)],[(0, .box 9 (.leaf .str))],[],2⟩,fun(x:ax.den×ByteArray)=>M.jh N x.1 x.2⟩
theorem P1(N:Nat):aq Tryz.prog 116 (P0 N):=fw (en [] false false) (N:=N) .nil Tryz.func116 (by kernel_rfl) fun x=>by kernel_rfl
def M.be(N:Nat)(a0:List ax.den)(a1:ByteArray):Option (Int×ByteArray):=
Loop (S:=Int×ByteArray) (X:=Int×ByteArray) (fun s1=>
(if(decide (s1.1<(a0.length:Int)))then
(idx a0 s1.1).bind fun x2=>
(M.jh N x2 s1.2).bind fun y3=>
(if y3.1 then
some (.inr (s1.1,y3.2))
else
some (.inl (ai3.wrap (s1.1+1),y3.2)))
else
some (.inr ((-1),s1.2)))) N (0,a1)
def P2(N:Nat):bp:=⟨⟨[(0, .l (.slice ax)),(1, .fn 116 [(0,[],0)])],[(0, .box 9 (.leaf .str))],[],1⟩,⟨[(0, .l ae)],[(0, .box 9 (.leaf .str))],[],2⟩,fun(x:(List ax.den)×ByteArray)=>M.be N x.1 x.2⟩
theorem P3(N:Nat):aq Tryz.prog 176 (P2 N):=fw (en [ck (P1 N)] false false) (N:=N) (.o (.two (.o (.two (.loop ⟨[(8, .l ae)],[(0, .box 9 (.leaf .str))],[],66⟩ .nil) .nil)) .nil)) Tryz.func176 (by kernel_rfl) fun x=>by kernel_rfl
def M.bu(N:Nat)(a0:List ax.den)(a1:ByteArray):Option (Bool×ByteArray):=
(M.be N a0 a1).bind fun y1=>
some (decide (0<=y1.1),y1.2)
def P4(N:Nat):bp:=⟨⟨[(0, .l (.slice ax)),(1, .fn 116 [(0,[],0)])],[(0, .box 9 (.leaf .str))],[],1⟩,⟨[(0, .l .bool)],[(0, .box 9 (.leaf .str))],[],2⟩,fun(x:(List ax.den)×ByteArray)=>M.bu N x.1 x.2⟩
theorem P5(N:Nat):aq Tryz.prog 115 (P4 N):=fw (en [ck (P3 N)] false false) (N:=N) .nil Tryz.func115 (by kernel_rfl) fun x=>by kernel_rfl
def M.iu(N:Nat)(a0:List ax.den)(a1:ByteArray):Option Bool:=
(M.bu N a0 a1).bind fun y1=>
some y1.1
def S60(N:Nat):bp:=⟨⟨[(0, .l (.slice ax)),(1, .l .str)],[],[],0⟩,⟨[(0, .l .bool)],[],[],0⟩,fun(x:(List ax.den)×ByteArray)=>M.iu N x.1 x.2⟩
theorem W60(N:Nat):aq Tryz.prog 60 (S60 N):=fw (en [ck (P5 N)] false false) (N:=N) .nil Tryz.func60 (by kernel_rfl) fun x=>by kernel_rfl
def M.iV(N:Nat)(a0:cn.den):Option (aQ.den):=
(if(decide (8<(a0.2.1.length:Int)))then
some (4,(2,(8,0)))
else
bJ (J:=Unit) (R:=aQ.den) (Loop (S:=Int) (X:=Unit⊕(aQ.den)) (fun s2=>
(if(decide (s2<(a0.2.1.length:Int)))then
(idx a0.2.1 s2).bind fun x3=>
(M.jQ N x3 a0.1).bind fun y4=>
((M.bS N x3.1).bind fun y6=>
(if(!y6)then
some (2,(2,(s2,0)))
else
((M.gR N a0.1 x3.1).bind fun y8=>
(if y8 then
some true
else
(eR a0.2.1 0 s2).bind fun l9=>
(M.iu N l9 x3.1).bind fun ox=>
some ox):Option Bool).bind fun j7=>
(if j7 then
some (7,(2,(s2,0)))
else
(if(!decide (y4.2=0))then
(if(!decide (y4.1=(-1)))then
some (y4.2,(2,(s2,ai3.wrap (100+y4.1))))
else
some (y4.2,(2,(s2,0))))
else
some (0,(2,(s2,0)))))):Option (aQ.den)).bind fun j5=>
(if(!decide (j5.1=0))then
some (.inr (.inr j5))
else
some (.inl (ai3.wrap (s2+1))))
else
some (.inr (.inl ())))) N 0) fun j1=>
some (0,(0,(0,0))))
def S35(N:Nat):bp:=⟨⟨[(0, .g cn)],[],[],0⟩,⟨[(0, .g aQ)],[],[],0⟩,fun(x:cn.den)=>M.iV N x⟩
theorem W35(N:Nat):aq Tryz.prog 35 (S35 N):=fw (en [ck (W57 N),ck (Tx N),ck (XL N),ck (W60 N)] false false) (N:=N) (.o (.o (.join ⟨[],[],[],96⟩ (.o (.two (.loop ⟨[(16, .l ae)],[],[],160⟩ (.o (.o (.two (.two (.o (.o (.o (.two (.meet ⟨[],[(304, .box 82 (.leaf aQ))],[],481⟩ (.o (.o (.meet ⟨[(36, .l .bool)],[],[],560⟩ .nil .nil))) .nil) .nil)))) .nil) .nil)))) .nil)) .nil))) Tryz.func35 (by kernel_rfl) fun x=>by kernel_rfl
def M.gU(N:Nat)(a0:aJ.den)(a1:aJ.den):Option (Bool×aJ.den):=
some (decide (a0.1=a1.1),a1)
def P6(N:Nat):bp:=⟨⟨[(0, .g aJ),(1, .ptr 0 [] 0)],[(0, .box 93 (.leaf aJ))],[],1⟩,⟨[(0, .l .bool)],[(0, .box 93 (.leaf aJ))],[],2⟩,fun(x:aJ.den×aJ.den)=>M.gU N x.1 x.2⟩
theorem P7(N:Nat):aq Tryz.prog 178 (P6 N):=fw (en [] false false) (N:=N) .nil Tryz.func178 (by kernel_rfl) fun x=>by kernel_rfl
def M.bf(N:Nat)(a0:List aJ.den)(a1:aJ.den):Option (Int×aJ.den):=
Loop (S:=Int×aJ.den) (X:=Int×aJ.den) (fun s1=>
(if(decide (s1.1<(a0.length:Int)))then
(idx a0 s1.1).bind fun x2=>
(M.gU N x2 s1.2).bind fun y3=>
(if y3.1 then
some (.inr (s1.1,y3.2))
else
some (.inl (ai3.wrap (s1.1+1),y3.2)))
else
some (.inr ((-1),s1.2)))) N (0,a1)
def P8(N:Nat):bp:=⟨⟨[(0, .l (.slice aJ)),(1, .fn 178 [(0,[],0)])],[(0, .box 93 (.leaf aJ))],[],1⟩,⟨[(0, .l ae)],[(0, .box 93 (.leaf aJ))],[],2⟩,fun(x:(List aJ.den)×aJ.den)=>M.bf N x.1 x.2⟩
theorem P9(N:Nat):aq Tryz.prog 229 (P8 N):=fw (en [ck (P7 N)] false false) (N:=N) (.o (.two (.o (.two (.loop ⟨[(8, .l ae)],[(0, .box 93 (.leaf aJ))],[],66⟩ .nil) .nil)) .nil)) Tryz.func229 (by kernel_rfl) fun x=>by kernel_rfl
def M.aF(N:Nat)(a0:List aJ.den)(a1:aJ.den):Option (Bool×aJ.den):=
(M.bf N a0 a1).bind fun y1=>
some (decide (0<=y1.1),y1.2)
def Qa(N:Nat):bp:=⟨⟨[(0, .l (.slice aJ)),(1, .fn 178 [(0,[],0)])],[(0, .box 93 (.leaf aJ))],[],1⟩,⟨[(0, .l .bool)],[(0, .box 93 (.leaf aJ))],[],2⟩,fun(x:(List aJ.den)×aJ.den)=>M.aF N x.1 x.2⟩
theorem Qb(N:Nat):aq Tryz.prog 179 (Qa N):=fw (en [ck (P9 N)] false false) (N:=N) .nil Tryz.func179 (by kernel_rfl) fun x=>by kernel_rfl
def M.gV(N:Nat)(a0:cn.den)(a1:aJ.den)(a2:List aJ.den)(a3:List aJ.den):Option Int:=
(M.bS N a1.1).bind fun y1=>
(if(!y1)then
some 2
else
((M.aF N a2 a1).bind fun y3=>
(if y3.1 then
some (true,y3.2)
else
(M.aF N a3 y3.2).bind fun y4=>
some (y4.1,y4.2)):Option (Bool×aJ.den)).bind fun j2=>
(if j2.1 then
some 7
else
(M.bW N j2.2.2 a0.1).bind fun y5=>
(if(!y5)then
some 8
else
some 0)))
def XX(N:Nat):bp:=⟨⟨[(0, .g cn),(1, .g aJ),(2, .l (.slice aJ)),(3, .l (.slice aJ))],[],[],0⟩,⟨[(0, .l ae)],[],[],0⟩,fun(x:cn.den×aJ.den×(List aJ.den)×List aJ.den)=>M.gV N x.1 x.2.1 x.2.2.1 x.2.2.2⟩
theorem XY(N:Nat):aq Tryz.prog 119 (XX N):=fw (en [ck (Tx N),ck (KE N),ck (Qb N)] false false) (N:=N) (.o (.o (.two (.two (.o (.o (.meet ⟨[(16, .l .bool)],[(16, .box 93 (.leaf aJ))],[],161⟩ .nil .nil))) .nil) .nil))) Tryz.func119 (by kernel_rfl) fun x=>by kernel_rfl
def M.jR(N:Nat)(a0:List aJ.den):Option (List aa.den):=
Loop (S:=Int×List aa.den) (X:=List aa.den) (fun s1=>
(if(decide (s1.1<(a0.length:Int)))then
(idx a0 s1.1).bind fun x2=>
(bR s1.2 ([x2.2]:List aa.den)).bind fun l3=>
some (.inl (ai3.wrap (s1.1+1),l3))
else
some (.inr s1.2))) N (0,([]:List aa.den))
def XZ(N:Nat):bp:=⟨⟨[(0, .l (.slice aJ))],[],[],0⟩,⟨[(0, .val false (.own 0))],[(0, .own 45 aa)],[],1⟩,fun(x:List aJ.den)=>M.jR N x⟩
theorem X0(N:Nat):aq Tryz.prog 180 (XZ N):=fw (en [] false false) (N:=N) (.o (.o (.two (.o (.two (.loop ⟨[(3, .val false (.own 80)),(8, .l ae)],[(80, .own 45 aa)],[],81⟩ .nil) .nil)) .nil))) Tryz.func180 (by kernel_rfl) fun x=>by kernel_rfl
def M.iH(N:Nat)(a0:cn.den)(a1:Int):Option ((List bq.den)×(List ax.den)×Bool×(List aa.den)×(List aa.den)×List aa.den):=
(idx a0.2.2 a1).bind fun x1=>
(M.jR N x1.2.2.1).bind fun y2=>
(M.jR N x1.2.2.2.1).bind fun y3=>
(((if(decide (0<=x1.2.1))then
some (decide (x1.2.1<(a0.2.2.length:Int)))
else
some false):Option Bool).bind fun j5=>
(if j5 then
(idx a0.2.2 x1.2.1).bind fun x6=>
(M.jR N x6.2.2.2.1).bind fun y7=>
some (y2,y3,a0.1,a0.2.1,true,y7)
else
some (y2,y3,a0.1,a0.2.1,false,([]:List aa.den))):Option ((List aa.den)×(List aa.den)×(List bq.den)×(List ax.den)×Bool×List aa.den)).bind fun j4=>
some (j4.2.2.1,j4.2.2.2.1,j4.2.2.2.2.1,j4.1,j4.2.1,j4.2.2.2.2.2)
def X1(N:Nat):bp:=⟨⟨[(0, .g cn),(1, .l ae)],[],[],0⟩,⟨[(0, .val true (.pair (.leaf (.slice bq)) (.pair (.leaf (.slice ax)) (.pair (.own 0) (.pair (.own 1) (.pair (.own 2) (.leaf .bool)))))))],[(0, .own 45 aa),(1, .own 45 aa),(2, .own 45 aa)],[],3⟩,fun(x:cn.den×Int)=>M.iH N x.1 x.2⟩
theorem X2(N:Nat):aq Tryz.prog 120 (X1 N):=fw (en [ck (X0 N)] false false) (N:=N) (.o (.o (.o (.meet ⟨[],[(240, .own 45 aa),(288, .own 45 aa),(320, .box 193 (.pair (.leaf (.slice bq)) (.pair (.leaf (.slice ax)) (.pair (.own 240) (.pair (.own 288) (.pair (.own 352) (.leaf .bool))))))),(352, .own 45 aa)],[],356⟩ (.meet ⟨[(33, .l .bool)],[],[],352⟩ .nil .nil) .nil)))) Tryz.func120 (by kernel_rfl) fun x=>by kernel_rfl
def M.strings_Contains(N:Nat)(a0:ByteArray)(a1:ByteArray):Option Bool:=pG (a0,a1)
def X3(N:Nat):bp:=⟨⟨[(0, .l .str),(1, .l .str)],[],[],0⟩,⟨[(0, .l .bool)],[],[],0⟩,fun(x:ByteArray×ByteArray)=>M.strings_Contains N x.1 x.2⟩
theorem X4(N:Nat):aq Tryz.prog 231 (X3 N):=BJ ⟨_,Tryz.func231,by kernel_rfl,by kernel_rfl⟩ Tryz.strings_Contains_one
def M.iW(N:Nat)(a0:ByteArray):Option Bool:=
((if(decide (64<(a0.size:Int)))then
some true
else
(M.strings_Contains N a0 (⟨#[34]⟩:ByteArray)).bind fun y2=>
some y2):Option Bool).bind fun j1=>
(if j1 then
some false
else
Loop (S:=Int) (X:=Bool) (fun s3=>
(if(decide (s3<(a0.size:Int)))then
((kF a0 s3).bind fun x5=>
(if(decide (x5<32))then
some true
else
(kF a0 s3).bind fun x6=>
some (decide (126<x6))):Option Bool).bind fun j4=>
(if j4 then
some (.inr false)
else
some (.inl (ai3.wrap (s3+1))))
else
some (.inr true))) N 0)
def X5(N:Nat):bp:=⟨⟨[(0, .l .str)],[],[],0⟩,⟨[(0, .l .bool)],[],[],0⟩,fun(x:ByteArray)=>M.iW N x⟩
theorem X6(N:Nat):aq Tryz.prog 183 (X5 N):=fw (en [ck (X4 N)] false false) (N:=N) (.o (.two (.meet ⟨[(10, .l .bool)],[],[],16⟩ .nil .nil) (.two (.o (.two (.loop ⟨[(13, .l ae)],[],[],64⟩ (.o (.o (.two (.two (.o (.meet ⟨[(25, .l .bool)],[],[],112⟩ .nil .nil)) .nil) .nil)))) .nil)) .nil))) Tryz.func183 (by kernel_rfl) fun x=>by kernel_rfl
def M.cV(N:Nat)(a0:Int):Option Int:=
((if(decide (a0=1))then
some (decide (a0=1))
else
(if(decide (a0=2))then
some (decide (a0=2))
else
(if(decide (a0=3))then
some (decide (a0=3))
else
(if(decide (a0=4))then
some (decide (a0=4))
else
(if(decide (a0=5))then
some (decide (a0=5))
else
(if(decide (a0=6))then
some (decide (a0=6))
else
(if(decide (a0=7))then
some (decide (a0=7))
else
(if(decide (a0=8))then
some (decide (a0=8))
else
(if(decide (a0=9))then
some (decide (a0=9))
else
(if(decide (a0=35))then
some (decide (a0=35))
else
(if(decide (a0=36))then
some (decide (a0=36))
else
(if(decide (a0=37))then
some (decide (a0=37))
else
(if(decide (a0=38))then
some (decide (a0=38))
else
some (decide (a0=39))))))))))))))):Option Bool).bind fun j1=>
(if j1 then
some 0
else
((if(decide (a0=10))then
some (decide (a0=10))
else
(if(decide (a0=25))then
some (decide (a0=25))
else
(if(decide (a0=31))then
some (decide (a0=31))
else
(if(decide (a0=32))then
some (decide (a0=32))
else
(if(decide (a0=33))then
some (decide (a0=33))
else
some (decide (a0=34))))))):Option Bool).bind fun j2=>
(if j2 then
some 1
else
((if(decide (a0=11))then
some (decide (a0=11))
else
(if(decide (a0=12))then
some (decide (a0=12))
else
(if(decide (a0=13))then
some (decide (a0=13))
else
(if(decide (a0=14))then
some (decide (a0=14))
else
(if(decide (a0=15))then
some (decide (a0=15))
else
(if(decide (a0=16))then
some (decide (a0=16))
else
(if(decide (a0=17))then
some (decide (a0=17))
else
(if(decide (a0=18))then
some (decide (a0=18))
else
(if(decide (a0=19))then
some (decide (a0=19))
else
(if(decide (a0=20))then
some (decide (a0=20))
else
(if(decide (a0=21))then
some (decide (a0=21))
else
(if(decide (a0=22))then
some (decide (a0=22))
else
(if(decide (a0=23))then
some (decide (a0=23))
else
(if(decide (a0=24))then
some (decide (a0=24))
else
(if(decide (a0=27))then
some (decide (a0=27))
else
(if(decide (a0=28))then
some (decide (a0=28))
else
(if(decide (a0=29))then
some (decide (a0=29))
else
some (decide (a0=30))))))))))))))))))):Option Bool).bind fun j3=>
(if j3 then
some 2
else
(if(decide (a0=26))then
some 3
else
some (-1)))))
def S92(N:Nat):bp:=⟨⟨[(0, .l ae)],[],[],0⟩,⟨[(0, .l ae)],[],[],0⟩,fun(x:Int)=>M.cV N x⟩
theorem Nb(N:Nat):aq Tryz.prog 92 (S92 N):=fw (en [] false false) (N:=N) (.o (.two (.o (.two (.meet ⟨[(4, .l .bool)],[],[],32⟩ .nil (.o (.meet ⟨[(19, .l .bool)],[],[],32⟩ .nil (.o (.meet ⟨[(26, .l .bool)],[],[],32⟩ .nil .nil))))) .nil)) .nil)) Tryz.func92 (by kernel_rfl) fun x=>by kernel_rfl
def M.eF(N:Nat)(a0:List aa.den):Option (Int×Int×List Int):=
(if(decide (48<(a0.length:Int)))then
some (0,4,([]:List Int))
else
(if(decide ((a0.length:Int)=0))then
some (0,5,([]:List Int))
else
(mV (a0.length:Int) 0).bind fun l1=>
bJ (J:=(List Int)×List Int) (R:=Int×Int×List Int) (Loop (S:=Int×(List Int)×List Int) (X:=((List Int)×List Int)⊕(Int×Int×List Int)) (fun s3=>
(if(decide (s3.1<(a0.length:Int)))then
(idx a0 s3.1).bind fun x4=>
(M.cV N x4.1).bind fun y5=>
(if(decide (y5<0))then
some (.inr (.inr (s3.1,2,([]:List Int))))
else
(if(decide ((s3.2.2.length:Int)<y5))then
some (.inr (.inr (s3.1,5,([]:List Int))))
else
(idx s3.2.1 s3.1).bind fun x6=>
((if(decide (0<y5))then
(idx s3.2.2 (ai3.wrap ((s3.2.2.length:Int)-y5))).bind fun x8=>
(idx (aT s3.2.1 s3.1 s3.1) s3.1).bind fun x9=>
some (aT (aT s3.2.1 s3.1 s3.1) s3.1 x8)
else
some (aT s3.2.1 s3.1 s3.1)):Option (List Int)).bind fun j7=>
(eR s3.2.2 0 (ai3.wrap ((s3.2.2.length:Int)-y5))).bind fun xj=>
(idx j7 s3.1).bind fun ow=>
(bR xj ([ow]:List Int)).bind fun FA=>
(if(decide (12<(FA.length:Int)))then
some (.inr (.inr (s3.1,16,([]:List Int))))
else
some (.inl (ai3.wrap (s3.1+1),j7,FA)))))
else
some (.inr (.inl (s3.2.1,s3.2.2))))) N (0,l1,([]:List Int))) fun j2=>
(if(decide (1<(j2.2.length:Int)))then
some ((a0.length:Int),4,([]:List Int))
else
some (0,0,j2.1))))
def X7(N:Nat):bp:=⟨⟨[(0, .l (.slice aa))],[],[],0⟩,⟨[(0, .val false (.own 0)),(1, .l ae),(2, .l ae)],[(0, .own 3 ae)],[],1⟩,fun(x:List aa.den)=>M.eF N x⟩
theorem Tz(N:Nat):aq Tryz.prog 188 (X7 N):=fw (en [ck (Nb N)] false false) (N:=N) (.o (.o (.o (.o (.o (.join ⟨[(6, .val false (.own 224))],[(176, .own 3 ae),(224, .own 3 ae)],[],226⟩ (.o (.two (.loop ⟨[(6, .val false (.own 272)),(21, .l ae)],[(176, .own 3 ae),(272, .own 3 ae)],[],274⟩ (.o (.o (.two (.two (.o (.o (.o (.o (.o (.meet ⟨[],[(176, .own 3 ae)],[],627⟩ .nil .nil)))))) .nil) .nil)))) .nil)) .nil)))))) Tryz.func188 (by kernel_rfl) fun x=>by kernel_rfl
def M.fo(N:Nat)(a0:Int):Option Bool:=
((if(decide (a0=1))then
some (decide (a0=1))
else
(if(decide (a0=2))then
some (decide (a0=2))
else
(if(decide (a0=3))then
some (decide (a0=3))
else
(if(decide (a0=4))then
some (decide (a0=4))
else
(if(decide (a0=5))then
some (decide (a0=5))
else
(if(decide (a0=6))then
some (decide (a0=6))
else
(if(decide (a0=7))then
some (decide (a0=7))
else
(if(decide (a0=8))then
some (decide (a0=8))
else
(if(decide (a0=14))then
some (decide (a0=14))
else
(if(decide (a0=15))then
some (decide (a0=15))
else
(if(decide (a0=16))then
some (decide (a0=16))
else
(if(decide (a0=33))then
some (decide (a0=33))
else
(if(decide (a0=34))then
some (decide (a0=34))
else
(if(decide (a0=36))then
some (decide (a0=36))
else
(if(decide (a0=37))then
some (decide (a0=37))
else
(if(decide (a0=38))then
some (decide (a0=38))
else
some (decide (a0=39)))))))))))))))))):Option Bool).bind fun j1=>
(if j1 then
some true
else
some false)
def X8(N:Nat):bp:=⟨⟨[(0, .l ae)],[],[],0⟩,⟨[(0, .l .bool)],[],[],0⟩,fun(x:Int)=>M.fo N x⟩
theorem TA(N:Nat):aq Tryz.prog 217 (X8 N):=fw (en [] false false) (N:=N) (.o (.two (.o (.two (.meet ⟨[(4, .l .bool)],[],[],32⟩ .nil .nil) .nil)) .nil)) Tryz.func217 (by kernel_rfl) fun x=>by kernel_rfl
def M.cw(N:Nat)(a0:Int)(a1:Int)(a2:aP.den):Option (aa.den×Int):=
(M.fe N (a1,0) a2.1).bind fun y1=>
((if(decide (a0<y1.1))then
some true
else
some (decide (y1.2<a0))):Option Bool).bind fun j2=>
(if j2 then
some ((0,0),3)
else
some ((a1,0),0))
def X9(N:Nat):bp:=⟨⟨[(0, .l ae),(1, .l ae),(2, .g aP)],[],[],0⟩,⟨[(0, .g aa),(1, .l ae)],[],[],0⟩,fun(x:Int×Int×aP.den)=>M.cw N x.1 x.2.1 x.2.2⟩
theorem Ya(N:Nat):aq Tryz.prog 282 (X9 N):=fw (en [ck (XS N)] false false) (N:=N) (.o (.o (.two (.o (.meet ⟨[(27, .l .bool)],[],[],256⟩ .nil .nil)) .nil))) Tryz.func282 (by kernel_rfl) fun x=>by kernel_rfl
def M.bE(N:Nat)(a0:Int)(a1:aP.den):Option (aa.den×Int):=
(if(decide (a0<0))then
some ((0,0),3)
else
((if(decide ((a1.1.length:Int)<=(ai3.wrap (ajo a0 16))))then
some true
else
(idx a1.1 (ai3.wrap (ajo a0 16))).bind fun x2=>
some (decide ((x2.2.length:Int)<=(ajL a0 16)))):Option Bool).bind fun j1=>
(if j1 then
some ((0,0),6)
else
some ((6,ai3.wrap (ajo a0 16)),0)))
def Yb(N:Nat):bp:=⟨⟨[(0, .l ae),(1, .g aP)],[],[],0⟩,⟨[(0, .g aa),(1, .l ae)],[],[],0⟩,fun(x:Int×aP.den)=>M.bE N x.1 x.2⟩
theorem Yc(N:Nat):aq Tryz.prog 283 (Yb N):=fw (en [] false false) (N:=N) (.o (.o (.o (.two (.meet ⟨[(30, .l .bool)],[],[],176⟩ .nil .nil) .nil)))) Tryz.func283 (by kernel_rfl) fun x=>by kernel_rfl
def M.dj(N:Nat)(a0:Int)(a1:List aa.den)(a2:aP.den):Option (aa.den×Int):=
((if(decide (a0<0))then
some true
else
some (decide ((a1.length:Int)<=a0))):Option Bool).bind fun j1=>
(if j1 then
some ((0,0),6)
else
(idx a1 a0).bind fun x2=>
(M.bW N x2 a2.1).bind fun y3=>
(if(!y3)then
some ((0,0),8)
else
(idx a1 a0).bind fun x4=>
some (x4,0)))
def Yd(N:Nat):bp:=⟨⟨[(0, .l ae),(1, .l (.slice aa)),(2, .g aP)],[],[],0⟩,⟨[(0, .g aa),(1, .l ae)],[],[],0⟩,fun(x:Int×(List aa.den)×aP.den)=>M.dj N x.1 x.2.1 x.2.2⟩
theorem TB(N:Nat):aq Tryz.prog 284 (Yd N):=fw (en [ck (KE N)] false false) (N:=N) (.o (.two (.meet ⟨[(15, .l .bool)],[],[],48⟩ .nil .nil) .nil)) Tryz.func284 (by kernel_rfl) fun x=>by kernel_rfl
def M.eG(N:Nat)(a0:Int):Option Bool:=
((if(decide (0<=a0))then
some (decide (a0<=5))
else
some false):Option Bool).bind fun j1=>
some j1
def Ye(N:Nat):bp:=⟨⟨[(0, .l ae)],[],[],0⟩,⟨[(0, .l .bool)],[],[],0⟩,fun(x:Int)=>M.eG N x⟩
theorem TC(N:Nat):aq Tryz.prog 287 (Ye N):=fw (en [] false false) (N:=N) (.o (.meet ⟨[(2, .l .bool)],[],[],16⟩ .nil .nil)) Tryz.func287 (by kernel_rfl) fun x=>by kernel_rfl
def M.fJ(N:Nat)(a0:aa.den)(a1:aa.den)(a2:aP.den):Option (aa.den×Int):=
bJ (J:=Int) (R:=aa.den×Int) ((if(decide (a0.1=34))then
((if(decide (a0.2<0))then
some true
else
(M.eG N (ajL a0.2 8)).bind fun y3=>
some (!y3)):Option Bool).bind fun j2=>
(if j2 then
some (.inr ((0,0),3))
else
some (.inl (ai3.wrap (ajo a0.2 8))))
else
some (.inl a0.2))) fun j1=>
((if(decide (j1<0))then
some true
else
some (decide ((a2.2.1.length:Int)<=j1))):Option Bool).bind fun j4=>
(if j4 then
some ((0,0),6)
else
(idx a2.2.1 j1).bind fun x5=>
(idx a2.2.1 j1).bind fun x6=>
((M.bW N x5.2.1 a2.1).bind fun y8=>
(if(!y8)then
some true
else
(M.bW N x6.2.2.1 a2.1).bind fun y9=>
(if(!y9)then
some true
else
some (!(nh aa a1 x5.2.1)))):Option Bool).bind fun j7=>
(if j7 then
some ((0,0),8)
else
(if(decide (a0.1=34))then
((if(!decide (x5.2.1.1=3))then
some true
else
some (!decide (x6.2.2.1.1=4))):Option Bool).bind fun qg=>
(if qg then
some ((0,0),8)
else
some (x5.2.1,0))
else
some (x6.2.2.1,0))))
def Yf(N:Nat):bp:=⟨⟨[(0, .g aa),(1, .g aa),(2, .g aP)],[],[],0⟩,⟨[(0, .g aa),(1, .l ae)],[],[],0⟩,fun(x:aa.den×aa.den×aP.den)=>M.fJ N x.1 x.2.1 x.2.2⟩
theorem Yg(N:Nat):aq Tryz.prog 285 (Yf N):=fw (en [ck (KE N),ck (TC N)] false false) (N:=N) (.o (.o (.join ⟨[(8, .l ae)],[],[],128⟩ (.o (.two (.two (.meet ⟨[(25, .l .bool)],[],[],176⟩ .nil .nil) .nil) .nil)) (.two (.meet ⟨[(38, .l .bool)],[],[],128⟩ .nil .nil) (.o (.two (.meet ⟨[(68, .l .bool)],[],[],384⟩ .nil .nil) (.two (.o (.two (.two (.meet ⟨[(80, .l .bool)],[],[],432⟩ .nil .nil) .nil) .nil)) .nil))))))) Tryz.func285 (by kernel_rfl) fun x=>by kernel_rfl
def M.da(N:Nat)(a0:Int):Option Bool:=
((if(decide (a0=2))then
some true
else
(if(decide (a0=3))then
some true
else
some (decide (a0=4)))):Option Bool).bind fun j1=>
some j1
def Yh(N:Nat):bp:=⟨⟨[(0, .l ae)],[],[],0⟩,⟨[(0, .l .bool)],[],[],0⟩,fun(x:Int)=>M.da N x⟩
theorem TD(N:Nat):aq Tryz.prog 326 (Yh N):=fw (en [] false false) (N:=N) (.o (.meet ⟨[(2, .l .bool)],[],[],16⟩ .nil .nil)) Tryz.func326 (by kernel_rfl) fun x=>by kernel_rfl
def M.bl(N:Nat)(a0:aa.den)(a1:aP.den):Option (aa.den×Int):=
(if(!a1.2.2.2.2.2)then
some ((0,0),6)
else
(if(decide (a0.1=35))then
some ((2,0),0)
else
(M.dj N a0.2 a1.2.2.2.2.1 a1).bind fun y1=>
(if(!decide (y1.2=0))then
some ((0,0),y1.2)
else
((if(decide (a0.1=36))then
(if(decide (y1.1.1=2))then
some true
else
some (decide (y1.1.1=3)))
else
((if(decide (a0.1=37))then
some (decide (a0.1=37))
else
some (decide (a0.1=38))):Option Bool).bind fun j3=>
(if j3 then
some (decide (y1.1.1=1))
else
(if(decide (a0.1=39))then
(M.da N y1.1.1).bind fun y4=>
(if y4 then
some true
else
some (decide (y1.1.1=5)))
else
some false))):Option Bool).bind fun j2=>
(if(!j2)then
some ((0,0),8)
else
some (y1.1,0)))))
def Yi(N:Nat):bp:=⟨⟨[(0, .g aa),(1, .g aP)],[],[],0⟩,⟨[(0, .g aa),(1, .l ae)],[],[],0⟩,fun(x:aa.den×aP.den)=>M.bl N x.1 x.2⟩
theorem Yj(N:Nat):aq Tryz.prog 286 (Yi N):=fw (en [ck (TB N),ck (TD N)] false false) (N:=N) (.o (.o (.o (.o (.o (.o (.two (.o (.meet ⟨[(8, .l .bool)],[],[],432⟩ (.o (.o (.meet ⟨[(42, .l .bool)],[],[],464⟩ .nil .nil))) .nil)) .nil))))))) Tryz.func286 (by kernel_rfl) fun x=>by kernel_rfl
def M.fK(N:Nat)(a0:Int)(a1:Int)(a2:Int):Option (aa.den×Bool):=
(if(decide (a0=14))then
((if(decide (a2=4))then
(if(decide (a1=3))then
some (true,(a1,0))
else
some (decide (a1=4),(a1,0)))
else
some (false,(a1,0))):Option (Bool×aa.den)).bind fun j1=>
some (j1.2,j1.1)
else
(if(decide (a2=2))then
((if(decide (a1=2))then
some (true,(a1,0))
else
some (decide (a1=3),(a1,0))):Option (Bool×aa.den)).bind fun j2=>
some (j2.2,j2.1)
else
((if(decide (a0=15))then
(if(decide (a1=3))then
some (decide (a2=3))
else
some false)
else
some false):Option Bool).bind fun j3=>
(if j3 then
some ((4,0),true)
else
some ((0,0),false))))
def Yk(N:Nat):bp:=⟨⟨[(0, .l ae),(1, .l ae),(2, .l ae)],[],[],0⟩,⟨[(0, .g aa),(1, .l .bool)],[],[],0⟩,fun(x:Int×Int×Int)=>M.fK N x.1 x.2.1 x.2.2⟩
theorem Yl(N:Nat):aq Tryz.prog 327 (Yk N):=fw (en [] false false) (N:=N) (.o (.two (.two (.o (.two (.meet ⟨[(7, .l .bool)],[(0, .box 45 (.leaf aa))],[],81⟩ .nil .nil) (.o (.two (.meet ⟨[(7, .l .bool)],[(0, .box 45 (.leaf aa))],[],129⟩ .nil .nil) (.meet ⟨[(34, .l .bool)],[],[],128⟩ .nil .nil))))) .nil) .nil)) Tryz.func327 (by kernel_rfl) fun x=>by kernel_rfl
def M.cr(N:Nat)(a0:Int)(a1:List aa.den):Option (aa.den×Bool):=
(if(decide (a0=10))then
(idx a1 0).bind fun x1=>
(idx a1 0).bind fun x2=>
(M.da N x2.1).bind fun y3=>
some (x1,y3)
else
(if(decide (a0=25))then
(idx a1 0).bind fun x4=>
some ((1,0),decide (x4.1=1))
else
((if(decide (a0=11))then
some (decide (a0=11))
else
some (decide (a0=12))):Option Bool).bind fun j5=>
(if j5 then
((idx a1 0).bind fun x7=>
(idx a1 0).bind fun x8=>
(idx a1 1).bind fun x9=>
(if(nh aa x8 x9)then
(idx a1 0).bind fun tO=>
(M.da N tO.1).bind fun qh=>
some (qh,x7)
else
some (false,x7)):Option (Bool×aa.den)).bind fun j6=>
some (j6.2,j6.1)
else
((if(decide (a0=13))then
some (decide (a0=13))
else
(if(decide (a0=14))then
some (decide (a0=14))
else
some (decide (a0=15)))):Option Bool).bind fun Aj=>
(if Aj then
(idx a1 0).bind fun pU=>
(idx a1 1).bind fun r9=>
(M.fK N a0 pU.1 r9.1).bind fun BN=>
some (BN.1,BN.2)
else
(if(decide (a0=16))then
((idx a1 0).bind fun OE=>
(idx a1 0).bind fun CO=>
(if(decide (CO.1=3))then
(idx a1 1).bind fun Qc=>
some (decide (Qc.1=3),OE)
else
some (false,OE)):Option (Bool×aa.den)).bind fun Qd=>
some (Qd.2,Qd.1)
else
((if(decide (a0=17))then
some (decide (a0=17))
else
some (decide (a0=18))):Option Bool).bind fun OF=>
(if OF then
((idx a1 0).bind fun TE=>
(idx a1 0).bind fun Ym=>
(idx a1 1).bind fun x24=>
(if(nh aa Ym x24)then
(idx a1 0).bind fun x25=>
(M.da N x25.1).bind fun Yn=>
(if Yn then
some (true,TE)
else
(idx a1 0).bind fun Vk=>
some (decide (Vk.1=5),TE))
else
some (false,TE)):Option (Bool×aa.den)).bind fun Yo=>
some (Yo.2,Yo.1)
else
((if(decide (a0=19))then
some (decide (a0=19))
else
some (decide (a0=20))):Option Bool).bind fun j28=>
(if j28 then
(idx a1 0).bind fun x29=>
(idx a1 1).bind fun BO=>
some ((1,0),(nh aa x29 BO))
else
((if(decide (a0=21))then
some (decide (a0=21))
else
some (decide (a0=22))):Option Bool).bind fun j31=>
(if j31 then
((idx a1 0).bind fun L1=>
(idx a1 1).bind fun TF=>
(if(nh aa L1 TF)then
(idx a1 0).bind fun x35=>
(M.da N x35.1).bind fun y36=>
(if y36 then
some (true,(1,0))
else
(idx a1 0).bind fun x37=>
some (decide (x37.1=5),(1,0)))
else
some (false,(1,0))):Option (Bool×aa.den)).bind fun j32=>
some (j32.2,j32.1)
else
((if(decide (a0=23))then
some (decide (a0=23))
else
some (decide (a0=24))):Option Bool).bind fun j38=>
(if j38 then
((idx a1 0).bind fun x40=>
(if(decide (x40.1=1))then
(idx a1 1).bind fun x41=>
some (decide (x41.1=1),(1,0))
else
some (false,(1,0))):Option (Bool×aa.den)).bind fun j39=>
some (j39.2,j39.1)
else
(if(decide (a0=26))then
((idx a1 1).bind fun x43=>
(idx a1 0).bind fun x44=>
(if(decide (x44.1=1))then
(idx a1 1).bind fun x45=>
(idx a1 2).bind fun x46=>
some ((nh aa x45 x46),x43)
else
some (false,x43)):Option (Bool×aa.den)).bind fun j42=>
some (j42.2,j42.1)
else
((if(decide (a0=27))then
some (decide (a0=27))
else
some (decide (a0=28))):Option Bool).bind fun j47=>
(if j47 then
((idx a1 0).bind fun x49=>
(idx a1 0).bind fun x50=>
(if(decide (x50.1=5))then
(idx a1 1).bind fun x51=>
some (decide (x51.1=2),x49)
else
some (false,x49)):Option (Bool×aa.den)).bind fun j48=>
some (j48.2,j48.1)
else
((if(decide (a0=29))then
some (decide (a0=29))
else
some (decide (a0=30))):Option Bool).bind fun j52=>
(if j52 then
((idx a1 0).bind fun x54=>
(if(decide (x54.1=5))then
(idx a1 1).bind fun x55=>
some (decide (x55.1=5),(2,0))
else
some (false,(2,0))):Option (Bool×aa.den)).bind fun j53=>
some (j53.2,j53.1)
else
((if(decide (a0=31))then
some (decide (a0=31))
else
some (decide (a0=32))):Option Bool).bind fun j56=>
(if j56 then
(idx a1 0).bind fun x57=>
some ((2,0),decide (x57.1=5))
else
some ((0,0),false))))))))))))))
def Yp(N:Nat):bp:=⟨⟨[(0, .l ae),(1, .l (.slice aa))],[],[],0⟩,⟨[(0, .g aa),(1, .l .bool)],[],[],0⟩,fun(x:Int×List aa.den)=>M.cr N x.1 x.2⟩
theorem Yq(N:Nat):aq Tryz.prog 288 (Yp N):=fw (en [ck (TD N),ck (Yl N)] false false) (N:=N) (.o (.o (.two (.o (.two (.o (.o (.o (.o (.meet ⟨[(27, .l .bool)],[],[],160⟩ .nil (.two (.meet ⟨[(5, .l .bool)],[(0, .box 45 (.leaf aa))],[],161⟩ .nil .nil) (.meet ⟨[(47, .l .bool)],[],[],160⟩ .nil (.o (.o (.two (.meet ⟨[(5, .l .bool)],[(0, .box 45 (.leaf aa))],[],193⟩ .nil .nil) (.meet ⟨[(80, .l .bool)],[],[],192⟩ .nil (.two (.meet ⟨[(5, .l .bool)],[(0, .box 45 (.leaf aa))],[],193⟩ .nil .nil) (.meet ⟨[(107, .l .bool)],[],[],192⟩ .nil (.o (.meet ⟨[(118, .l .bool)],[],[],192⟩ .nil (.two (.meet ⟨[(5, .l .bool)],[(0, .box 45 (.leaf aa))],[],193⟩ .nil .nil) (.meet ⟨[(143, .l .bool)],[],[],192⟩ .nil (.two (.meet ⟨[(5, .l .bool)],[(0, .box 45 (.leaf aa))],[],193⟩ .nil .nil) (.o (.two (.meet ⟨[(5, .l .bool)],[(0, .box 45 (.leaf aa))],[],225⟩ .nil .nil) (.meet ⟨[(178, .l .bool)],[],[],224⟩ .nil (.two (.meet ⟨[(5, .l .bool)],[(0, .box 45 (.leaf aa))],[],225⟩ .nil .nil) (.meet ⟨[(196, .l .bool)],[],[],224⟩ .nil (.two (.meet ⟨[(5, .l .bool)],[(0, .box 45 (.leaf aa))],[],225⟩ .nil .nil) (.meet ⟨[(212, .l .bool)],[],[],224⟩ .nil .nil))))))))))))))))))))))))) .nil)) .nil))) Tryz.func288 (by kernel_rfl) fun x=>by kernel_rfl
def M.aH(N:Nat)(a0:aa.den)(a1:List aa.den)(a2:aP.den):Option (aa.den×Int):=
bJ (J:=Unit) (R:=aa.den×Int) ((if(decide (a0.1=1))then
(M.cw N a0.2 1 a2).bind fun y2=>
some (.inr (y2.1,y2.2))
else
(if(decide (a0.1=2))then
(M.cw N a0.2 2 a2).bind fun y3=>
some (.inr (y3.1,y3.2))
else
(if(decide (a0.1=3))then
(M.cw N a0.2 3 a2).bind fun y4=>
some (.inr (y4.1,y4.2))
else
(if(decide (a0.1=4))then
(M.cw N a0.2 4 a2).bind fun y5=>
some (.inr (y5.1,y5.2))
else
(if(decide (a0.1=5))then
(M.cw N a0.2 5 a2).bind fun y6=>
some (.inr (y6.1,y6.2))
else
(if(decide (a0.1=6))then
(M.bE N a0.2 a2).bind fun y7=>
some (.inr (y7.1,y7.2))
else
(if(decide (a0.1=7))then
(M.dj N a0.2 a2.2.2.1 a2).bind fun y8=>
some (.inr (y8.1,y8.2))
else
(if(decide (a0.1=8))then
(M.dj N a0.2 a2.2.2.2.1 a2).bind fun y9=>
some (.inr (y9.1,y9.2))
else
(if(decide (a0.1=9))then
some (.inr ((5,0),0))
else
((if(decide (a0.1=33))then
some (decide (a0.1=33))
else
some (decide (a0.1=34))):Option Bool).bind fun qg=>
(if qg then
(idx a1 0).bind fun ow=>
(M.fJ N a0 ow a2).bind fun pV=>
some (.inr (pV.1,pV.2))
else
((if(decide (a0.1=35))then
some (decide (a0.1=35))
else
(if(decide (a0.1=36))then
some (decide (a0.1=36))
else
(if(decide (a0.1=37))then
some (decide (a0.1=37))
else
(if(decide (a0.1=38))then
some (decide (a0.1=38))
else
some (decide (a0.1=39)))))):Option Bool).bind fun II=>
(if II then
(M.bl N a0 a2).bind fun qV=>
some (.inr (qV.1,qV.2))
else
((if(decide (a0.1=14))then
some (decide (a0.1=14))
else
(if(decide (a0.1=15))then
some (decide (a0.1=15))
else
some (decide (a0.1=16)))):Option Bool).bind fun OD=>
(if OD then
(M.eG N a0.2).bind fun IJ=>
(if(!IJ)then
some (.inr ((0,0),3))
else
some (.inl ()))
else
some (.inl ())))))))))))))) fun j1=>
(M.cr N a0.1 a1).bind fun wL=>
(if(!wL.2)then
some ((0,0),8)
else
some (wL.1,0))
def Yr(N:Nat):bp:=⟨⟨[(0, .g aa),(1, .l (.slice aa)),(2, .g aP)],[],[],0⟩,⟨[(0, .g aa),(1, .l ae)],[],[],0⟩,fun(x:aa.den×(List aa.den)×aP.den)=>M.aH N x.1 x.2.1 x.2.2⟩
theorem Ys(N:Nat):aq Tryz.prog 259 (Yr N):=fw (en [ck (Ya N),ck (Yc N),ck (TB N),ck (Yg N),ck (Yj N),ck (TC N),ck (Yq N)] false false) (N:=N) (.o (.two (.o (.join ⟨[],[],[],96⟩ (.o (.o (.o (.o (.o (.o (.o (.o (.o (.o (.o (.o (.o (.o (.o (.o (.o (.o (.meet ⟨[(83, .l .bool)],[],[],384⟩ .nil (.o (.meet ⟨[(94, .l .bool)],[],[],384⟩ .nil (.o (.meet ⟨[(105, .l .bool)],[],[],384⟩ .nil .nil))))))))))))))))))))))) .nil)) .nil)) Tryz.func259 (by kernel_rfl) fun x=>by kernel_rfl
def M.fS(N:Nat)(a0:List aa.den)(a1:aP.den):Option (aa.den×Int×Int):=
(M.eF N a0).bind fun y1=>
(if(!decide (y1.2.1=0))then
some ((0,0),y1.1,y1.2.1)
else
bJ (J:=List aa.den) (R:=aa.den×Int×Int) (Loop (S:=Int×List aa.den) (X:=(List aa.den)⊕(aa.den×Int×Int)) (fun s3=>
(if(decide (s3.1<(a0.length:Int)))then
(idx a0 s3.1).bind fun x4=>
((if(!decide (x4.2=0))then
(M.fo N x4.1).bind fun y6=>
some (!y6)
else
some false):Option Bool).bind fun j5=>
(if j5 then
some (.inr (.inr ((0,0),s3.1,2)))
else
(M.cV N x4.1).bind fun y7=>
(eR s3.2 (ai3.wrap ((s3.2.length:Int)-y7)) (s3.2.length:Int)).bind fun l8=>
(M.aH N x4 l8 a1).bind fun y9=>
(if(!decide (y9.2=0))then
some (.inr (.inr ((0,0),s3.1,y9.2)))
else
(eR s3.2 0 (ai3.wrap ((s3.2.length:Int)-y7))).bind fun xj=>
(bR xj ([y9.1]:List aa.den)).bind fun HM=>
some (.inl (ai3.wrap (s3.1+1),HM))))
else
some (.inr (.inl s3.2)))) N (0,([]:List aa.den))) fun j2=>
(idx j2 0).bind fun rF=>
some (rF,0,0))
def Yt(N:Nat):bp:=⟨⟨[(0, .l (.slice aa)),(1, .g aP)],[],[],0⟩,⟨[(0, .g aa),(1, .l ae),(2, .l ae)],[],[],0⟩,fun(x:(List aa.den)×aP.den)=>M.fS N x.1 x.2⟩
theorem Yu(N:Nat):aq Tryz.prog 232 (Yt N):=fw (en [ck (Nb N),ck (Tz N),ck (TA N),ck (Ys N)] false false) (N:=N) (.o (.o (.o (.o (.join ⟨[(10, .val false (.own 256))],[(256, .own 45 aa)],[],257⟩ (.o (.two (.loop ⟨[(10, .val false (.own 304)),(29, .l ae)],[(304, .own 45 aa)],[],305⟩ (.o (.o (.two (.two (.o (.two (.meet ⟨[(42, .l .bool)],[],[],417⟩ .nil .nil) .nil)) .nil) .nil)))) .nil)) .nil))))) Tryz.func232 (by kernel_rfl) fun x=>by kernel_rfl
def M.fq(N:Nat)(a0:List aa.den)(a1:aP.den)(a2:aa.den):Option Int:=
(M.fS N a0 a1).bind fun y1=>
(if(!decide (y1.2.2=0))then
some y1.2.2
else
(if(!(nh aa y1.1 a2))then
some 8
else
some 0))
def Yv(N:Nat):bp:=⟨⟨[(0, .l (.slice aa)),(1, .g aP),(2, .g aa)],[],[],0⟩,⟨[(0, .l ae)],[],[],0⟩,fun(x:(List aa.den)×aP.den×aa.den)=>M.fq N x.1 x.2.1 x.2.2⟩
theorem Yw(N:Nat):aq Tryz.prog 184 (Yv N):=fw (en [ck (Yu N)] false false) (N:=N) .nil Tryz.func184 (by kernel_rfl) fun x=>by kernel_rfl
def M.iI(N:Nat)(a0:aN.den)(a1:aN.den):Option (Bool×aN.den):=
some (decide (a0.1=a1.1),a1)
def Qe(N:Nat):bp:=⟨⟨[(0, .g aN),(1, .ptr 0 [] 0)],[(0, .box 77 (.leaf aN))],[],1⟩,⟨[(0, .l .bool)],[(0, .box 77 (.leaf aN))],[],2⟩,fun(x:aN.den×aN.den)=>M.iI N x.1 x.2⟩
theorem Qf(N:Nat):aq Tryz.prog 182 (Qe N):=fw (en [] false false) (N:=N) .nil Tryz.func182 (by kernel_rfl) fun x=>by kernel_rfl
def M.bj(N:Nat)(a0:List aN.den)(a1:aN.den):Option (Int×aN.den):=
Loop (S:=Int×aN.den) (X:=Int×aN.den) (fun s1=>
(if(decide (s1.1<(a0.length:Int)))then
(idx a0 s1.1).bind fun x2=>
(M.iI N x2 s1.2).bind fun y3=>
(if y3.1 then
some (.inr (s1.1,y3.2))
else
some (.inl (ai3.wrap (s1.1+1),y3.2)))
else
some (.inr ((-1),s1.2)))) N (0,a1)
def Qg(N:Nat):bp:=⟨⟨[(0, .l (.slice aN)),(1, .fn 182 [(0,[],0)])],[(0, .box 77 (.leaf aN))],[],1⟩,⟨[(0, .l ae)],[(0, .box 77 (.leaf aN))],[],2⟩,fun(x:(List aN.den)×aN.den)=>M.bj N x.1 x.2⟩
theorem Qh(N:Nat):aq Tryz.prog 230 (Qg N):=fw (en [ck (Qf N)] false false) (N:=N) (.o (.two (.o (.two (.loop ⟨[(8, .l ae)],[(0, .box 77 (.leaf aN))],[],66⟩ .nil) .nil)) .nil)) Tryz.func230 (by kernel_rfl) fun x=>by kernel_rfl
def M.aZ(N:Nat)(a0:List aN.den)(a1:aN.den):Option (Bool×aN.den):=
(M.bj N a0 a1).bind fun y1=>
some (decide (0<=y1.1),y1.2)
def Qi(N:Nat):bp:=⟨⟨[(0, .l (.slice aN)),(1, .fn 182 [(0,[],0)])],[(0, .box 77 (.leaf aN))],[],1⟩,⟨[(0, .l .bool)],[(0, .box 77 (.leaf aN))],[],2⟩,fun(x:(List aN.den)×aN.den)=>M.aZ N x.1 x.2⟩
theorem Qj(N:Nat):aq Tryz.prog 181 (Qi N):=fw (en [ck (Qh N)] false false) (N:=N) .nil Tryz.func181 (by kernel_rfl) fun x=>by kernel_rfl
def M.iP(N:Nat)(a0:az.den)(a1:Int)(a2:aP.den):Option Int:=
(idx a0.2.2.2.2 a1).bind fun x1=>
((eR a0.2.2.2.2 0 a1).bind fun l3=>
Loop (S:=Int×Int) (X:=Int) (fun s4=>
(if(decide (s4.2<(l3.length:Int)))then
((idx l3 s4.2).bind fun x6=>
(if(decide (x6.2.1=x1.2.1))then
some (ai3.wrap (s4.1+1))
else
some s4.1):Option Int).bind fun j5=>
some (.inl (j5,ai3.wrap (s4.2+1)))
else
some (.inr s4.1))) N (0,0):Option Int).bind fun j2=>
(M.bS N x1.1).bind fun y7=>
(if(!y7)then
some 2
else
(eR a0.2.2.2.2 0 a1).bind fun l8=>
(M.aZ N l8 x1).bind fun y9=>
(if y9.1 then
some 7
else
((if(decide (y9.2.2.1<0))then
some true
else
some (decide ((a0.2.2.2.1.length:Int)<=y9.2.2.1))):Option Bool).bind fun qg=>
(if qg then
some 6
else
((if(!decide (y9.2.2.2.1=(-1)))then
(if(decide (y9.2.2.2.1<0))then
some true
else
(if(decide (a1<=y9.2.2.2.1))then
some true
else
(idx a0.2.2.2.2 y9.2.2.2.1).bind fun rF=>
some (!decide (rF.2.1=y9.2.2.1))))
else
some false):Option Bool).bind fun CP=>
(if CP then
some 9
else
((if(decide (y9.2.2.2.2.1<0))then
some true
else
some (decide (9<y9.2.2.2.2.1))):Option Bool).bind fun II=>
(if II then
some 3
else
((if(decide (y9.2.2.2.2.2.1.1<0))then
some true
else
(if(decide (y9.2.2.2.2.2.1.2<=y9.2.2.2.2.2.1.1))then
some true
else
some (decide (109573<y9.2.2.2.2.2.1.2)))):Option Bool).bind fun FB=>
(if FB then
some 3
else
(if(decide (8<=j2))then
some 4
else
(M.iW N y9.2.2.2.2.2.2.2.2).bind fun BN=>
(if(!BN)then
some 2
else
bJ (J:=Unit) (R:=Int) ((if(decide (0<(y9.2.2.2.2.2.2.1.length:Int)))then
(M.fq N y9.2.2.2.2.2.2.1 a2 (1,0)).bind fun wL=>
(if(!decide (wL=0))then
some (.inr wL)
else
some (.inl ()))
else
some (.inl ()))) fun Qd=>
(idx a0.2.2.2.1 y9.2.2.1).bind fun CO=>
(M.fq N y9.2.2.2.2.2.2.2.1 a2 CO.2).bind fun RW=>
some RW))))))))
def Yx(N:Nat):bp:=⟨⟨[(0, .g az),(1, .l ae),(2, .g aP)],[],[],0⟩,⟨[(0, .l ae)],[],[],0⟩,fun(x:az.den×Int×aP.den)=>M.iP N x.1 x.2.1 x.2.2⟩
theorem Yy(N:Nat):aq Tryz.prog 121 (Yx N):=fw (en [ck (Tx N),ck (Qj N),ck (X6 N),ck (Yw N)] false false) (N:=N) (.o (.o (.o (.meet ⟨[(8, .l ae)],[],[],176⟩ (.o (.two (.loop ⟨[(8, .l ae),(22, .l ae)],[],[],272⟩ (.o (.o (.two (.meet ⟨[(8, .l ae)],[],[],288⟩ .nil .nil) .nil)))) .nil)) (.two (.two (.o (.o (.o (.o (.meet ⟨[(46, .l .bool)],[],[],368⟩ .nil (.o (.meet ⟨[(58, .l .bool)],[],[],368⟩ .nil (.o (.meet ⟨[(85, .l .bool)],[],[],368⟩ .nil (.o (.meet ⟨[(94, .l .bool)],[],[],368⟩ .nil .nil))))))))))) .nil) (.join ⟨[],[],[],496⟩ .nil .nil)))))) Tryz.func121 (by kernel_rfl) fun x=>by kernel_rfl
def M.ff(N:Nat)(a0:List Int)(a1:Int):Option Int:=
Loop (S:=Int) (X:=Int) (fun s1=>
(if(decide (s1<(a0.length:Int)))then
(idx a0 s1).bind fun x2=>
(if(decide (a1=x2))then
some (.inr s1)
else
some (.inl (ai3.wrap (s1+1))))
else
some (.inr (-1)))) N 0
def Yz(N:Nat):bp:=⟨⟨[(0, .l (.slice ae)),(1, .l ae)],[],[],0⟩,⟨[(0, .l ae)],[],[],0⟩,fun(x:(List Int)×Int)=>M.ff N x.1 x.2⟩
theorem YA(N:Nat):aq Tryz.prog 185 (Yz N):=fw (en [] false false) (N:=N) (.o (.two (.o (.two (.loop ⟨[(8, .l ae)],[],[],64⟩ .nil) .nil)) .nil)) Tryz.func185 (by kernel_rfl) fun x=>by kernel_rfl
def M.dQ(N:Nat)(a0:List Int)(a1:Int):Option Bool:=
(M.ff N a0 a1).bind fun y1=>
some (decide (0<=y1))
def YB(N:Nat):bp:=⟨⟨[(0, .l (.slice ae)),(1, .l ae)],[],[],0⟩,⟨[(0, .l .bool)],[],[],0⟩,fun(x:(List Int)×Int)=>M.dQ N x.1 x.2⟩
theorem YC(N:Nat):aq Tryz.prog 122 (YB N):=fw (en [ck (YA N)] false false) (N:=N) .nil Tryz.func122 (by kernel_rfl) fun x=>by kernel_rfl
def M.bM(N:Nat)(a0:List Int):Option (List Int):=ye a0
def S32(N:Nat):bp:=⟨⟨[(0, .val false (.own 0))],[(0, .own 3 ae)],[],1⟩,⟨[],[(0, .own 3 ae)],[],2⟩,fun(x:List Int)=>M.bM N x⟩
theorem Vm(N:Nat):aq Tryz.prog 32 (S32 N):=M9 ⟨_,Tryz.func32,by kernel_rfl,by kernel_rfl⟩ Tryz.slices_Sort_int Tryz.slices_Sort_int_none
def M.bF(N:Nat)(a0:List Int):Option (List Int):=nE a0
def S33(N:Nat):bp:=⟨⟨[(0, .val false (.own 0))],[(0, .own 3 ae)],[],1⟩,⟨[(0, .val false (.own 1))],[(1, .own 3 ae)],[],2⟩,fun(x:List Int)=>M.bF N x⟩
theorem YD(N:Nat):aq Tryz.prog 33 (S33 N):=D1 ⟨_,Tryz.func33,by kernel_rfl,by kernel_rfl⟩ Tryz.slices_Compact_int Tryz.slices_Compact_int_empty
def M.fL(N:Nat)(a0:List Int):Option (List Int):=
(M.bM N a0).bind fun y1=>
(M.bF N y1).bind fun y2=>
some y2
def Qk(N:Nat):bp:=⟨⟨[(0, .val false (.own 0))],[(0, .own 3 ae)],[],1⟩,⟨[(0, .val false (.own 1))],[(1, .own 3 ae)],[],2⟩,fun(x:List Int)=>M.fL N x⟩
theorem Ql(N:Nat):aq Tryz.prog 233 (Qk N):=fw (en [ck (Vm N),ck (YD N)] false false) (N:=N) .nil Tryz.func233 (by kernel_rfl) fun x=>by kernel_rfl
def M.gk(N:Nat)(a0:List aa.den):Option ((List Int)×(List Int)×List Int):=
(Loop (S:=Int×(List Int)×(List Int)×List Int) (X:=(List Int)×(List Int)×List Int) (fun s2=>
(if(decide (s2.1<(a0.length:Int)))then
(idx a0 s2.1).bind fun x3=>
((if(decide (x3.1=7))then
(bR s2.2.1 ([x3.2]:List Int)).bind fun l5=>
some (l5,s2.2.2.1,s2.2.2.2)
else
(if(decide (x3.1=8))then
(bR s2.2.2.1 ([x3.2]:List Int)).bind fun l6=>
some (s2.2.1,l6,s2.2.2.2)
else
((if(decide (x3.1=36))then
some (decide (x3.1=36))
else
(if(decide (x3.1=37))then
some (decide (x3.1=37))
else
(if(decide (x3.1=38))then
some (decide (x3.1=38))
else
some (decide (x3.1=39))))):Option Bool).bind fun j7=>
(if j7 then
(bR s2.2.2.2 ([x3.2]:List Int)).bind fun l8=>
some (s2.2.1,s2.2.2.1,l8)
else
some (s2.2.1,s2.2.2.1,s2.2.2.2)))):Option ((List Int)×(List Int)×List Int)).bind fun j4=>
some (.inl (ai3.wrap (s2.1+1),j4.1,j4.2.1,j4.2.2))
else
some (.inr (s2.2.1,s2.2.2.1,s2.2.2.2)))) N (0,([]:List Int),([]:List Int),([]:List Int)):Option ((List Int)×(List Int)×List Int)).bind fun j1=>
(M.fL N j1.1).bind fun y9=>
(M.fL N j1.2.1).bind fun ox=>
(M.fL N j1.2.2).bind fun qh=>
some (y9,ox,qh)
def YE(N:Nat):bp:=⟨⟨[(0, .l (.slice aa))],[],[],0⟩,⟨[(0, .val false (.own 0)),(1, .val false (.own 1)),(2, .val false (.own 2))],[(0, .own 3 ae),(1, .own 3 ae),(2, .own 3 ae)],[],3⟩,fun(x:List aa.den)=>M.gk N x⟩
theorem YF(N:Nat):aq Tryz.prog 187 (YE N):=fw (en [ck (Ql N)] false false) (N:=N) (.o (.o (.meet ⟨[(5, .val false (.own 96)),(6, .val false (.own 97)),(7, .val false (.own 98))],[(96, .own 3 ae),(97, .own 3 ae),(98, .own 3 ae)],[],99⟩ (.o (.two (.loop ⟨[(5, .val false (.own 144)),(6, .val false (.own 145)),(7, .val false (.own 146)),(12, .l ae)],[(144, .own 3 ae),(145, .own 3 ae),(146, .own 3 ae)],[],147⟩ (.o (.o (.two (.two (.o (.o (.meet ⟨[(5, .val false (.own 259)),(6, .val false (.own 260)),(7, .val false (.own 261))],[(259, .own 3 ae),(260, .own 3 ae),(261, .own 3 ae)],[144,145,146],262⟩ (.o (.o (.o (.o (.meet ⟨[(32, .l .bool)],[],[],323⟩ .nil .nil))))) .nil))) .nil) .nil)))) .nil)) .nil))) Tryz.func187 (by kernel_rfl) fun x=>by kernel_rfl
def M.eH(N:Nat)(a0:aN.den)(a1:Int):Option (List Int):=
(M.gk N a0.2.2.2.2.2.1).bind fun y1=>
(M.gk N a0.2.2.2.2.2.2.1).bind fun y2=>
(Loop (S:=Int×List Int) (X:=List Int) (fun s4=>
(if(decide (s4.1<(y1.2.1.length:Int)))then
((idx y1.2.1 s4.1).bind fun x6=>
((if(decide (0<=x6))then
some (decide (x6<a1))
else
some false):Option Bool).bind fun j7=>
(if j7 then
(bR s4.2 ([x6]:List Int)).bind fun l8=>
some l8
else
some s4.2):Option (List Int)).bind fun j5=>
some (.inl (ai3.wrap (s4.1+1),j5))
else
some (.inr s4.2))) N (0,([]:List Int)):Option (List Int)).bind fun j3=>
Loop (S:=Int×List Int) (X:=List Int) (fun s9=>
(if(decide (s9.1<(y2.2.1.length:Int)))then
((idx y2.2.1 s9.1).bind fun ow=>
((if(decide (0<=ow))then
some (decide (ow<a1))
else
some false):Option Bool).bind fun Aj=>
(if Aj then
(bR s9.2 ([ow]:List Int)).bind fun YG=>
some YG
else
some s9.2):Option (List Int)).bind fun qg=>
some (.inl (ai3.wrap (s9.1+1),qg))
else
some (.inr s9.2))) N (0,j3)
def YH(N:Nat):bp:=⟨⟨[(0, .g aN),(1, .l ae)],[],[],0⟩,⟨[(0, .val false (.own 0))],[(0, .own 3 ae)],[],1⟩,fun(x:aN.den×Int)=>M.eH N x.1 x.2⟩
theorem TG(N:Nat):aq Tryz.prog 124 (YH N):=fw (en [ck (YF N)] false false) (N:=N) (.o (.o (.o (.o (.meet ⟨[(5, .val false (.own 368))],[(368, .own 3 ae)],[],369⟩ (.o (.two (.loop ⟨[(5, .val false (.own 416)),(32, .l ae)],[(416, .own 3 ae)],[],417⟩ (.o (.o (.two (.meet ⟨[(5, .val false (.own 433))],[(433, .own 3 ae)],[416],434⟩ (.o (.meet ⟨[(42, .l .bool)],[],[],481⟩ .nil .nil)) .nil) .nil)))) .nil)) (.two (.o (.two (.loop ⟨[(5, .val false (.own 417)),(50, .l ae)],[(417, .own 3 ae)],[368],418⟩ (.o (.o (.two (.meet ⟨[(5, .val false (.own 434))],[(434, .own 3 ae)],[417],435⟩ (.o (.meet ⟨[(60, .l .bool)],[],[],482⟩ .nil .nil)) .nil) .nil)))) .nil)) .nil)))))) Tryz.func124 (by kernel_rfl) fun x=>by kernel_rfl
def M.gA(N:Nat)(a0:List Int):Option (List Int):=
(M.bM N a0).bind fun y1=>
(M.bF N y1).bind fun y2=>
some y2
def Qm(N:Nat):bp:=⟨⟨[(0, .val false (.own 0))],[(0, .own 3 ae)],[],1⟩,⟨[(0, .val false (.own 1))],[(1, .own 3 ae)],[],2⟩,fun(x:List Int)=>M.gA N x⟩
theorem KF(N:Nat):aq Tryz.prog 125 (Qm N):=fw (en [ck (Vm N),ck (YD N)] false false) (N:=N) .nil Tryz.func125 (by kernel_rfl) fun x=>by kernel_rfl
def M.gW(N:Nat)(a0:az.den):Option (List (List Int)):=
(mV (a0.2.2.2.1.length:Int) ([]:List Int)).bind fun l1=>
(Loop (S:=Int×List (List Int)) (X:=List (List Int)) (fun s3=>
(if(decide (s3.1<(a0.2.2.2.2.length:Int)))then
((idx a0.2.2.2.2 s3.1).bind fun x5=>
((if(decide (0<=x5.2.1))then
some (decide (x5.2.1<(s3.2.length:Int)))
else
some false):Option Bool).bind fun j6=>
(if j6 then
(idx s3.2 x5.2.1).bind fun x7=>
(idx s3.2 x5.2.1).bind fun x8=>
(M.eH N x5 (s3.2.length:Int)).bind fun y9=>
(bR x8 y9).bind fun xj=>
(idx s3.2 x5.2.1).bind fun ow=>
(if decide (x5.2.1=x5.2.1)then
(idx s3.2 x5.2.1).bind fun rF=>
some (oH s3.2 x5.2.1 (fun m13=>xj))
else none)
else
some s3.2):Option (List (List Int))).bind fun j4=>
some (.inl (ai3.wrap (s3.1+1),j4))
else
some (.inr s3.2))) N (0,l1):Option (List (List Int))).bind fun j2=>
Loop (S:=Int×List (List Int)) (X:=List (List Int)) (fun qD=>
(if(decide (qD.1<(j2.length:Int)))then
(idx qD.2 qD.1).bind fun D5=>
(idx qD.2 qD.1).bind fun KD=>
(M.gA N KD).bind fun wL=>
(idx qD.2 qD.1).bind fun CO=>
(if decide (qD.1=qD.1)then
(idx qD.2 qD.1).bind fun Qc=>
some (.inl (ai3.wrap (qD.1+1),oH qD.2 qD.1 (fun m20=>wL)))
else none)
else
some (.inr qD.2))) N (0,j2)
def S62(N:Nat):bp:=⟨⟨[(0, .g az)],[],[],0⟩,⟨[(0, .val false (.own 0))],[(0, .deep 29 (.sl 3 (.leaf ae)))],[],1⟩,fun(x:az.den)=>M.gW N x⟩
theorem W62(N:Nat):aq Tryz.prog 62 (S62 N):=fw (en [ck (TG N),ck (KF N)] true false) (N:=N) (.o (.o (.meet ⟨[],[(80, .deep 29 (.sl 3 (.leaf ae)))],[],113⟩ (.o (.two (.loop ⟨[(15, .l ae)],[(80, .deep 29 (.sl 3 (.leaf ae)))],[],177⟩ (.o (.o (.two (.meet ⟨[],[(80, .deep 29 (.sl 3 (.leaf ae)))],[],194⟩ (.o (.meet ⟨[(28, .l .bool)],[],[],257⟩ .nil .nil)) .nil) .nil)))) .nil)) (.two (.o (.two (.loop ⟨[(46, .l ae)],[(80, .deep 29 (.sl 3 (.leaf ae)))],[],162⟩ .nil) .nil)) .nil)))) Tryz.func62 (by kernel_rfl) fun x=>by kernel_rfl
def M.lF(N:Nat)(a0:List (List Int))(a1:Int):Option (List Int):=
(mV (a0.length:Int) false).bind fun l1=>
(Loop (S:=(List Bool)×List Int) (X:=List Bool) (fun s3=>
(if(decide (0<(s3.2.length:Int)))then
(idx s3.2 0).bind fun x4=>
(eR s3.2 1 (s3.2.length:Int)).bind fun l5=>
(idx a0 x4).bind fun x6=>
Loop (S:=Int×(List Bool)×List Int) (X:=((List Bool)×List Int)⊕(List Bool)) (fun s7=>
(if(decide (s7.1<(x6.length:Int)))then
((idx x6 s7.1).bind fun x9=>
(idx s7.2.1 x9).bind fun tO=>
(if(!tO)then
(idx s7.2.1 x9).bind fun ow=>
(bR s7.2.2 ([x9]:List Int)).bind fun FA=>
some (aT s7.2.1 x9 true,FA)
else
some (s7.2.1,s7.2.2)):Option ((List Bool)×List Int)).bind fun j8=>
some (.inl (ai3.wrap (s7.1+1),j8.1,j8.2))
else
some (.inr (.inl (s7.2.1,s7.2.2))))) N (0,s3.1,l5)
else
some (.inr s3.1))) N (l1,([a1]:List Int)):Option (List Bool)).bind fun j2=>
Loop (S:=Int×List Int) (X:=List Int) (fun pI=>
(if(decide (pI.1<(j2.length:Int)))then
((idx j2 pI.1).bind fun D5=>
(if D5 then
(bR pI.2 ([pI.1]:List Int)).bind fun TH=>
some TH
else
some pI.2):Option (List Int)).bind fun FB=>
some (.inl (ai3.wrap (pI.1+1),FB))
else
some (.inr pI.2))) N (0,([]:List Int))
def YI(N:Nat):bp:=⟨⟨[(0, .l (.slice (.slice ae))),(1, .l ae)],[],[],0⟩,⟨[(0, .val false (.own 0))],[(0, .own 3 ae)],[],1⟩,fun(x:(List (List Int))×Int)=>M.lF N x.1 x.2⟩
theorem YJ(N:Nat):aq Tryz.prog 186 (YI N):=fw (en [] false true) (N:=N) (.o (.o (.o (.meet ⟨[],[(48, .own 4 .bool)],[96],129⟩ (.two (.loop ⟨[(6, .val false (.own 128))],[(48, .own 4 .bool),(128, .own 3 ae)],[96],130⟩ (.o (.two (.o (.o (.o (.two (.loop ⟨[(6, .val false (.own 386)),(31, .l ae)],[(48, .own 4 .bool),(386, .own 3 ae)],[258],388⟩ (.o (.o (.two (.meet ⟨[(6, .val false (.own 404))],[(48, .own 4 .bool),(404, .own 3 ae)],[386],406⟩ .nil .nil) .nil)))) .nil)))) .nil))) .nil) (.o (.two (.o (.two (.loop ⟨[(10, .val false (.own 193)),(50, .l ae)],[(193, .own 3 ae)],[],194⟩ (.o (.o (.two (.meet ⟨[(10, .val false (.own 210))],[(210, .own 3 ae)],[193],211⟩ .nil .nil) .nil)))) .nil)) .nil)))))) Tryz.func186 (by kernel_rfl) fun x=>by kernel_rfl
def M.gm(N:Nat)(a0:az.den)(a1:Int):Option (List Int):=
((if(decide (a1<0))then
some true
else
some (decide ((a0.2.2.2.1.length:Int)<=a1))):Option Bool).bind fun j1=>
(if j1 then
some ([]:List Int)
else
(M.gW N a0).bind fun y2=>
(M.lF N y2 a1).bind fun y3=>
some y3)
def YK(N:Nat):bp:=⟨⟨[(0, .g az),(1, .l ae)],[],[],0⟩,⟨[(0, .val false (.own 0))],[(0, .own 3 ae)],[],1⟩,fun(x:az.den×Int)=>M.gm N x.1 x.2⟩
theorem YL(N:Nat):aq Tryz.prog 123 (YK N):=fw (en [ck (W62 N),ck (YJ N)] false false) (N:=N) (.o (.two (.meet ⟨[(13, .l .bool)],[],[],32⟩ .nil .nil) .nil)) Tryz.func123 (by kernel_rfl) fun x=>by kernel_rfl
def M.gX(N:Nat)(a0:az.den)(a1:az.den):Option (Bool×az.den):=
some (decide (a0.1=a1.1),a1)
def Qn(N:Nat):bp:=⟨⟨[(0, .g az),(1, .ptr 0 [] 0)],[(0, .box 51 (.leaf az))],[],1⟩,⟨[(0, .l .bool)],[(0, .box 51 (.leaf az))],[],2⟩,fun(x:az.den×az.den)=>M.gX N x.1 x.2⟩
theorem Qo(N:Nat):aq Tryz.prog 118 (Qn N):=fw (en [] false false) (N:=N) .nil Tryz.func118 (by kernel_rfl) fun x=>by kernel_rfl
def M.bg(N:Nat)(a0:List az.den)(a1:az.den):Option (Int×az.den):=
Loop (S:=Int×az.den) (X:=Int×az.den) (fun s1=>
(if(decide (s1.1<(a0.length:Int)))then
(idx a0 s1.1).bind fun x2=>
(M.gX N x2 s1.2).bind fun y3=>
(if y3.1 then
some (.inr (s1.1,y3.2))
else
some (.inl (ai3.wrap (s1.1+1),y3.2)))
else
some (.inr ((-1),s1.2)))) N (0,a1)
def Qp(N:Nat):bp:=⟨⟨[(0, .l (.slice az)),(1, .fn 118 [(0,[],0)])],[(0, .box 51 (.leaf az))],[],1⟩,⟨[(0, .l ae)],[(0, .box 51 (.leaf az))],[],2⟩,fun(x:(List az.den)×az.den)=>M.bg N x.1 x.2⟩
theorem Qq(N:Nat):aq Tryz.prog 177 (Qp N):=fw (en [ck (Qo N)] false false) (N:=N) (.o (.two (.o (.two (.loop ⟨[(8, .l ae)],[(0, .box 51 (.leaf az))],[],66⟩ .nil) .nil)) .nil)) Tryz.func177 (by kernel_rfl) fun x=>by kernel_rfl
def M.aG(N:Nat)(a0:List az.den)(a1:az.den):Option (Bool×az.den):=
(M.bg N a0 a1).bind fun y1=>
some (decide (0<=y1.1),y1.2)
def Qr(N:Nat):bp:=⟨⟨[(0, .l (.slice az)),(1, .fn 118 [(0,[],0)])],[(0, .box 51 (.leaf az))],[],1⟩,⟨[(0, .l .bool)],[(0, .box 51 (.leaf az))],[],2⟩,fun(x:(List az.den)×az.den)=>M.aG N x.1 x.2⟩
theorem Qs(N:Nat):aq Tryz.prog 117 (Qr N):=fw (en [ck (Qq N)] false false) (N:=N) .nil Tryz.func117 (by kernel_rfl) fun x=>by kernel_rfl
def M.jS(N:Nat)(a0:cn.den)(a1:Int):Option (Int×Int):=
(idx a0.2.2 a1).bind fun x1=>
(eR a0.2.2 0 a1).bind fun l2=>
((M.gR N a0.1 x1.1).bind fun y4=>
(if y4 then
some (true,x1)
else
(M.iu N a0.2.1 x1.1).bind fun y5=>
(if y5 then
some (true,x1)
else
(M.aG N l2 x1).bind fun y6=>
some (y6.1,y6.2))):Option (Bool×az.den)).bind fun j3=>
(M.bS N j3.2.1).bind fun y7=>
(if(!y7)then
some (2,0)
else
(if j3.1 then
some (7,0)
else
((if(!decide (j3.2.2.1=(-1)))then
(if(decide (j3.2.2.1<0))then
some true
else
(if(decide (a1<=j3.2.2.1))then
some true
else
(idx l2 j3.2.2.1).bind fun x9=>
some (!decide (x9.2.1=(-1)))))
else
some false):Option Bool).bind fun j8=>
(if j8 then
some (6,0)
else
(if(decide (12<(j3.2.2.2.1.length:Int)))then
some (4,112)
else
(if(decide (12<(j3.2.2.2.2.1.length:Int)))then
some (4,212)
else
bJ (J:=Unit) (R:=Int×Int) (Loop (S:=Int) (X:=Unit⊕(Int×Int)) (fun qE=>
(if(decide (qE<(j3.2.2.2.1.length:Int)))then
(idx j3.2.2.2.1 qE).bind fun rF=>
(eR j3.2.2.2.1 0 qE).bind fun YG=>
(M.gV N a0 rF YG ([]:List aJ.den)).bind fun qV=>
(if(!decide (qV=0))then
some (.inr (.inr (qV,ai3.wrap (100+qE))))
else
some (.inl (ai3.wrap (qE+1))))
else
some (.inr (.inl ())))) N 0) fun qg=>
bJ (J:=Unit) (R:=Int×Int) (Loop (S:=Int) (X:=Unit⊕(Int×Int)) (fun FC=>
(if(decide (FC<(j3.2.2.2.2.1.length:Int)))then
(idx j3.2.2.2.2.1 FC).bind fun OE=>
(eR j3.2.2.2.2.1 0 FC).bind fun l18=>
(M.gV N a0 OE j3.2.2.2.1 l18).bind fun RW=>
(if(!decide (RW=0))then
some (.inr (.inr (RW,ai3.wrap (200+FC))))
else
some (.inl (ai3.wrap (FC+1))))
else
some (.inr (.inl ())))) N 0) fun OD=>
(M.iH N a0 a1).bind fun RX=>
bJ (J:=Unit) (R:=Int×Int) (Loop (S:=Int) (X:=Unit⊕(Int×Int)) (fun Vn=>
(if(decide (Vn<(j3.2.2.2.2.2.length:Int)))then
(M.iP N j3.2 Vn (RX.1,(RX.2.1,(RX.2.2.2.1,(RX.2.2.2.2.1,(RX.2.2.2.2.2,RX.2.2.1)))))).bind fun y23=>
(if(!decide (y23=0))then
some (.inr (.inr (y23,ai3.wrap (300+Vn))))
else
some (.inl (ai3.wrap (Vn+1))))
else
some (.inr (.inl ())))) N 0) fun Yo=>
Loop (S:=Int) (X:=Int×Int) (fun TJ=>
(if(decide (TJ<(j3.2.2.2.2.1.length:Int)))then
(M.gm N j3.2 TJ).bind fun TK=>
(M.dQ N TK TJ).bind fun Yn=>
(if Yn then
some (.inr (9,ai3.wrap (200+TJ)))
else
some (.inl (ai3.wrap (TJ+1))))
else
some (.inr (0,0)))) N 0)))))
def S61(N:Nat):bp:=⟨⟨[(0, .g cn),(1, .l ae)],[],[],0⟩,⟨[(0, .l ae),(1, .l ae)],[],[],0⟩,fun(x:cn.den×Int)=>M.jS N x.1 x.2⟩
theorem W61(N:Nat):aq Tryz.prog 61 (S61 N):=fw (en [ck (Tx N),ck (XL N),ck (W60 N),ck (Qs N),ck (XY N),ck (X2 N),ck (Yy N),ck (YC N),ck (YL N)] false false) (N:=N) (.o (.o (.o (.meet ⟨[(8, .l .bool)],[(128, .box 51 (.leaf az))],[],241⟩ .nil (.two (.two (.o (.o (.o (.o (.meet ⟨[(52, .l .bool)],[],[],353⟩ .nil .nil))))) .nil) (.join ⟨[],[],[],513⟩ (.o (.two (.loop ⟨[(89, .l ae)],[],[],577⟩ .nil) .nil)) (.join ⟨[],[],[],513⟩ (.o (.two (.loop ⟨[(110, .l ae)],[],[],577⟩ .nil) .nil)) (.o (.join ⟨[],[],[],593⟩ (.o (.two (.loop ⟨[(136, .l ae)],[],[],657⟩ .nil) .nil)) (.two (.o (.two (.loop ⟨[(152, .l ae)],[],[],657⟩ .nil) .nil)) .nil)))))))))) Tryz.func61 (by kernel_rfl) fun x=>by kernel_rfl
def M.iX(N:Nat)(a0:cn.den):Option (aQ.den):=
(if(decide (4<(a0.2.2.length:Int)))then
some (4,(3,(4,0)))
else
bJ (J:=Unit) (R:=aQ.den) (Loop (S:=Int) (X:=Unit⊕(aQ.den)) (fun s2=>
(if(decide (s2<(a0.2.2.length:Int)))then
(M.jS N a0 s2).bind fun y3=>
(if(!decide (y3.1=0))then
some (.inr (.inr (y3.1,(3,(s2,y3.2)))))
else
some (.inl (ai3.wrap (s2+1))))
else
some (.inr (.inl ())))) N 0) fun j1=>
some (0,(0,(0,0))))
def S36(N:Nat):bp:=⟨⟨[(0, .g cn)],[],[],0⟩,⟨[(0, .g aQ)],[],[],0⟩,fun(x:cn.den)=>M.iX N x⟩
theorem W36(N:Nat):aq Tryz.prog 36 (S36 N):=fw (en [ck (W61 N)] false false) (N:=N) (.o (.o (.join ⟨[],[],[],96⟩ (.o (.two (.loop ⟨[(14, .l ae)],[],[],160⟩ .nil) .nil)) .nil))) Tryz.func36 (by kernel_rfl) fun x=>by kernel_rfl
def M.ix(N:Nat)(a0:cn.den):Option (aQ.den):=
(M.jO N a0).bind fun y1=>
(if(!decide (y1.1=0))then
some y1
else
(M.iV N a0).bind fun y2=>
(if(!decide (y2.1=0))then
some y2
else
(M.iX N a0).bind fun y3=>
some y3))
def S18(N:Nat):bp:=⟨⟨[(0, .g cn)],[],[],0⟩,⟨[(0, .g aQ)],[],[],0⟩,fun(x:cn.den)=>M.ix N x⟩
theorem W18(N:Nat):aq Tryz.prog 18 (S18 N):=fw (en [ck (W34 N),ck (W35 N),ck (W36 N)] false false) (N:=N) .nil Tryz.func18 (by kernel_rfl) fun x=>by kernel_rfl
def M.dz(N:Nat)(a0:List Int):Option Int:=
some (a0.length:Int)
def S64(N:Nat):bp:=⟨⟨[(0, .l (.slice ae))],[],[],0⟩,⟨[(0, .l ae)],[],[],0⟩,fun(x:List Int)=>M.dz N x⟩
theorem YM(N:Nat):aq Tryz.prog 64 (S64 N):=fw (en [] false false) (N:=N) .nil Tryz.func64 (by kernel_rfl) fun x=>by kernel_rfl
def M.de(N:Nat)(a0:List Int)(a1:Int)(a2:Int):Option Bool:=
(idx a0 a1).bind fun x1=>
(idx a0 a2).bind fun x2=>
some (decide (x1<x2))
def YN(N:Nat):bp:=⟨⟨[(0, .l (.slice ae)),(1, .l ae),(2, .l ae)],[],[],0⟩,⟨[(0, .l .bool)],[],[],0⟩,fun(x:(List Int)×Int×Int)=>M.de N x.1 x.2.1 x.2.2⟩
theorem TL(N:Nat):aq Tryz.prog 375 (YN N):=fw (en [] false false) (N:=N) .nil Tryz.func375 (by kernel_rfl) fun x=>by kernel_rfl
def M.kO(N:Nat)(a0:List Int):Option (Int×List Int):=
(idx a0 (ai3.wrap ((a0.length:Int)-1))).bind fun x1=>
(eR a0 0 (ai3.wrap ((a0.length:Int)-1))).bind fun l2=>
some (x1,l2)
def YO(N:Nat):bp:=⟨⟨[(0, .ptr 0 [] 0)],[(0, .box 141 (.own 1)),(1, .own 3 ae)],[],2⟩,⟨[(0, .ifc 3 (.l ae))],[(0, .box 141 (.own 2)),(2, .own 3 ae)],[],4⟩,fun(x:List Int)=>M.kO N x⟩
theorem YP(N:Nat):aq Tryz.prog 376 (YO N):=fw (en [] false false) (N:=N) .nil Tryz.func376 (by kernel_rfl) fun x=>by kernel_rfl
def M.jT(N:Nat)(a0:az.den):Option (List (List Int)):=
(mV (a0.2.2.2.1.length:Int) ([]:List Int)).bind fun l1=>
(Loop (S:=Int×List (List Int)) (X:=List (List Int)) (fun s3=>
(if(decide (s3.1<(a0.2.2.2.2.length:Int)))then
((idx a0.2.2.2.2 s3.1).bind fun x5=>
((if(decide (0<=x5.2.1))then
some (decide (x5.2.1<(s3.2.length:Int)))
else
some false):Option Bool).bind fun j6=>
(if j6 then
(idx s3.2 x5.2.1).bind fun x7=>
(idx s3.2 x5.2.1).bind fun x8=>
(M.eH N x5 (s3.2.length:Int)).bind fun y9=>
(bR x8 y9).bind fun xj=>
(idx s3.2 x5.2.1).bind fun ow=>
(if decide (x5.2.1=x5.2.1)then
(idx s3.2 x5.2.1).bind fun rF=>
some (oH s3.2 x5.2.1 (fun m13=>xj))
else none)
else
some s3.2):Option (List (List Int))).bind fun j4=>
some (.inl (ai3.wrap (s3.1+1),j4))
else
some (.inr s3.2))) N (0,l1):Option (List (List Int))).bind fun j2=>
Loop (S:=Int×List (List Int)) (X:=List (List Int)) (fun qD=>
(if(decide (qD.1<(j2.length:Int)))then
(idx qD.2 qD.1).bind fun D5=>
(idx qD.2 qD.1).bind fun KD=>
(M.gA N KD).bind fun wL=>
(idx qD.2 qD.1).bind fun CO=>
(if decide (qD.1=qD.1)then
(idx qD.2 qD.1).bind fun Qc=>
some (.inl (ai3.wrap (qD.1+1),oH qD.2 qD.1 (fun m20=>wL)))
else none)
else
some (.inr qD.2))) N (0,j2)
def TM(N:Nat):bp:=⟨⟨[(0, .g az)],[],[],0⟩,⟨[(0, .val false (.own 0))],[(0, .deep 29 (.sl 3 (.leaf ae)))],[],1⟩,fun(x:az.den)=>M.jT N x⟩
theorem TN(N:Nat):aq Tryz.prog 62 (TM N):=fw (en [ck (TG N),ck (KF N)] true false) (N:=N) (.o (.o (.meet ⟨[],[(80, .deep 29 (.sl 3 (.leaf ae)))],[],113⟩ (.o (.two (.loop ⟨[(15, .l ae)],[(80, .deep 29 (.sl 3 (.leaf ae)))],[],177⟩ (.o (.o (.two (.meet ⟨[],[(80, .deep 29 (.sl 3 (.leaf ae)))],[],194⟩ (.o (.meet ⟨[(28, .l .bool)],[],[],257⟩ .nil .nil)) .nil) .nil)))) .nil)) (.two (.o (.two (.loop ⟨[(46, .l ae)],[(80, .deep 29 (.sl 3 (.leaf ae)))],[],162⟩ .nil) .nil)) .nil)))) Tryz.func62 (by kernel_rfl) fun x=>by kernel_rfl
def M.gY(N:Nat)(a0:Int)(a1:List Int):Option (List Int):=
(bR a1 ([a0]:List Int)).bind fun l1=>
some l1
def Qt(N:Nat):bp:=⟨⟨[(0, .ptr 0 [] 0),(1, .ifc 3 (.l ae))],[(0, .box 141 (.own 1)),(1, .own 3 ae)],[],2⟩,⟨[],[(0, .box 141 (.own 2)),(2, .own 3 ae)],[],4⟩,fun(x:Int×List Int)=>M.gY N x.1 x.2⟩
theorem Qu(N:Nat):aq Tryz.prog 377 (Qt N):=fw (en [] false false) (N:=N) .nil Tryz.func377 (by kernel_rfl) fun x=>by kernel_rfl
def M.cF(N:Nat)(a0:Int)(a1:Int)(a2:List Int):Option (List Int):=
(idx a2 a1).bind fun x1=>
(idx a2 a0).bind fun x2=>
(idx a2 a0).bind fun x3=>
(idx (aT a2 a0 x1) a1).bind fun x4=>
some (aT (aT a2 a0 x1) a1 x2)
def Qv(N:Nat):bp:=⟨⟨[(0, .val false (.own 0)),(1, .l ae),(2, .l ae)],[(0, .own 3 ae)],[],1⟩,⟨[],[(0, .own 3 ae)],[],2⟩,fun(x:Int×Int×List Int)=>M.cF N x.1 x.2.1 x.2.2⟩
theorem D6(N:Nat):aq Tryz.prog 378 (Qv N):=fw (en [] false false) (N:=N) .nil Tryz.func378 (by kernel_rfl) fun x=>by kernel_rfl
def M.fg(N:Nat)(a0:Int)(a1:List Int):Option (List Int):=
Loop (S:=Int×List Int) (X:=List Int) (fun s1=>
((if(decide ((ai3.wrap (ajo (ai3.wrap (s1.1-1)) 2))=s1.1))then
some true
else
(M.de N s1.2 s1.1 (ai3.wrap (ajo (ai3.wrap (s1.1-1)) 2))).bind fun y3=>
some (!y3)):Option Bool).bind fun j2=>
(if j2 then
some (.inr s1.2)
else
(M.cF N (ai3.wrap (ajo (ai3.wrap (s1.1-1)) 2)) s1.1 s1.2).bind fun y4=>
some (.inl (ai3.wrap (ajo (ai3.wrap (s1.1-1)) 2),y4)))) N (a0,a1)
def Qw(N:Nat):bp:=⟨⟨[(0, .ifc 140 (.ptr 0 [] 0)),(1, .l ae)],[(0, .box 141 (.own 1)),(1, .own 3 ae)],[],2⟩,⟨[],[(0, .box 141 (.own 1)),(1, .own 3 ae)],[],4⟩,fun(x:Int×List Int)=>M.fg N x.1 x.2⟩
theorem Qx(N:Nat):aq Tryz.prog 126 (Qw N):=fw (en [ck (TL N),ck (D6 N)] false false) (N:=N) (.two (.loop ⟨[(1, .l ae)],[(1, .own 3 ae)],[],3⟩ (.two (.o (.two (.meet ⟨[(17, .l .bool)],[],[],67⟩ .nil .nil) .nil)) .nil)) .nil) Tryz.func126 (by kernel_rfl) fun x=>by kernel_rfl
def M.cK(N:Nat)(a0:Int)(a1:List Int):Option (List Int):=
(M.gY N a0 a1).bind fun y1=>
(M.dz N y1).bind fun y2=>
(M.fg N (ai3.wrap (y2-1)) y1).bind fun y3=>
some y3
def TO(N:Nat):bp:=⟨⟨[(0, .ifc 140 (.ptr 0 [] 0)),(1, .ifc 3 (.l ae))],[(0, .box 141 (.own 1)),(1, .own 3 ae)],[],2⟩,⟨[],[(0, .box 141 (.own 2)),(2, .own 3 ae)],[],4⟩,fun(x:Int×List Int)=>M.cK N x.1 x.2⟩
theorem TP(N:Nat):aq Tryz.prog 63 (TO N):=fw (en [ck (YM N),ck (Qx N),ck (Qu N)] false false) (N:=N) .nil Tryz.func63 (by kernel_rfl) fun x=>by kernel_rfl
def M.ee(N:Nat)(a0:Int)(a1:Int)(a2:List Int):Option (Bool×List Int):=
(Loop (S:=Int×List Int) (X:=Int×List Int) (fun s2=>
((if(decide (a1<=(ai3.wrap ((ai3.wrap (2*s2.1))+1))))then
some true
else
some (decide ((ai3.wrap ((ai3.wrap (2*s2.1))+1))<0))):Option Bool).bind fun j3=>
(if j3 then
some (.inr (s2.1,s2.2))
else
(((if(decide ((ai3.wrap ((ai3.wrap ((ai3.wrap (2*s2.1))+1))+1))<a1))then
(M.de N s2.2 (ai3.wrap ((ai3.wrap ((ai3.wrap (2*s2.1))+1))+1)) (ai3.wrap ((ai3.wrap (2*s2.1))+1))).bind fun y6=>
some y6
else
some false):Option Bool).bind fun j5=>
(if j5 then
some (ai3.wrap ((ai3.wrap ((ai3.wrap (2*s2.1))+1))+1))
else
some (ai3.wrap ((ai3.wrap (2*s2.1))+1))):Option Int).bind fun j4=>
(M.de N s2.2 j4 s2.1).bind fun y7=>
(if(!y7)then
some (.inr (s2.1,s2.2))
else
(M.cF N s2.1 j4 s2.2).bind fun y8=>
some (.inl (j4,y8))))) N (a0,a2):Option (Int×List Int)).bind fun j1=>
some (decide (a0<j1.1),j1.2)
def Qy(N:Nat):bp:=⟨⟨[(0, .ifc 140 (.ptr 0 [] 0)),(1, .l ae),(2, .l ae)],[(0, .box 141 (.own 1)),(1, .own 3 ae)],[],2⟩,⟨[(0, .l .bool)],[(0, .box 141 (.own 1)),(1, .own 3 ae)],[],4⟩,fun(x:Int×Int×List Int)=>M.ee N x.1 x.2.1 x.2.2⟩
theorem Qz(N:Nat):aq Tryz.prog 127 (Qy N):=fw (en [ck (TL N),ck (D6 N)] false false) (N:=N) (.o (.o (.two (.meet ⟨[(7, .l ae)],[(1, .own 3 ae)],[],51⟩ (.loop ⟨[(7, .l ae)],[(1, .own 3 ae)],[],51⟩ (.two (.o (.two (.meet ⟨[(21, .l .bool)],[],[],115⟩ .nil .nil) (.o (.meet ⟨[(9, .l ae)],[],[],147⟩ (.o (.meet ⟨[(33, .l .bool)],[],[],195⟩ .nil .nil)) .nil)))) .nil)) .nil) .nil))) Tryz.func127 (by kernel_rfl) fun x=>by kernel_rfl
def M.eN(N:Nat)(a0:List Int):Option (Int×List Int):=
(M.dz N a0).bind fun y1=>
(M.cF N 0 (ai3.wrap (y1-1)) a0).bind fun y2=>
(M.ee N 0 (ai3.wrap (y1-1)) y2).bind fun y3=>
(M.kO N y3.2).bind fun y4=>
some (y4.1,y4.2)
def TQ(N:Nat):bp:=⟨⟨[(0, .ifc 140 (.ptr 0 [] 0))],[(0, .box 141 (.own 1)),(1, .own 3 ae)],[],2⟩,⟨[(0, .ifc 3 (.l ae))],[(0, .box 141 (.own 2)),(2, .own 3 ae)],[],4⟩,fun(x:List Int)=>M.eN N x⟩
theorem TR(N:Nat):aq Tryz.prog 65 (TQ N):=fw (en [ck (YM N),ck (Qz N),ck (YP N),ck (D6 N)] false false) (N:=N) .nil Tryz.func65 (by kernel_rfl) fun x=>by kernel_rfl
def M.cZ(N:Nat)(a0:az.den):Option (Int×List Int):=
((M.jT N a0).bind fun y2=>
some y2:Option (List (List Int))).bind fun j1=>
(mV (j1.length:Int) ([]:List Int)).bind fun l3=>
(mV (j1.length:Int) 0).bind fun l4=>
((Loop (S:=Int×(List (List Int))×(List Int)×List Int) (X:=(List (List Int))×(List Int)×List Int) (fun s7=>
(if(decide (s7.1<(j1.length:Int)))then
(((idx j1 s7.1).bind fun tO=>
(idx s7.2.2.1 s7.1).bind fun ow=>
(Loop (S:=Int×List (List Int)) (X:=List (List Int)) (fun pI=>
(if(decide (pI.1<(tO.length:Int)))then
(idx tO pI.1).bind fun r9=>
(idx pI.2 r9).bind fun D5=>
(idx pI.2 r9).bind fun KD=>
(bR KD ([s7.1]:List Int)).bind fun YQ=>
(idx pI.2 r9).bind fun CO=>
(if decide (r9=r9)then
(idx pI.2 r9).bind fun Qc=>
some (.inl (ai3.wrap (pI.1+1),oH pI.2 r9 (fun m20=>YQ)))
else none)
else
some (.inr pI.2))) N (0,s7.2.1):Option (List (List Int))).bind fun Aj=>
(if(decide ((tO.length:Int)=0))then
(M.cK N s7.1 s7.2.2.2).bind fun RU=>
some (Aj,aT s7.2.2.1 s7.1 (tO.length:Int),RU)
else
some (Aj,aT s7.2.2.1 s7.1 (tO.length:Int),s7.2.2.2)):Option ((List (List Int))×(List Int)×List Int)).bind fun j9=>
some (j9.1,j9.2.1,j9.2.2):Option ((List (List Int))×(List Int)×List Int)).bind fun j8=>
some (.inl (ai3.wrap (s7.1+1),j8.1,j8.2.1,j8.2.2))
else
some (.inr (s7.2.1,s7.2.2.1,s7.2.2.2)))) N (0,l3,l4,([]:List Int)):Option ((List (List Int))×(List Int)×List Int)).bind fun j6=>
some (j6.1,j6.2.1,j6.2.2):Option ((List (List Int))×(List Int)×List Int)).bind fun j5=>
(Loop (S:=(List Int)×(List Int)×List Int) (X:=(List Int)×List Int) (fun RY=>
(M.dz N RY.2.2).bind fun YR=>
(if(decide (0<YR))then
(M.eN N RY.2.2).bind fun TK=>
(bR RY.2.1 ([TK.1]:List Int)).bind fun l26=>
(idx j5.1 TK.1).bind fun Vk=>
Loop (S:=Int×(List Int)×List Int) (X:=((List Int)×(List Int)×List Int)⊕((List Int)×List Int)) (fun ug=>
(if(decide (ug.1<(Vk.length:Int)))then
((idx Vk ug.1).bind fun BO=>
(idx ug.2.1 BO).bind fun QA=>
(idx ug.2.1 BO).bind fun x32=>
(idx (aT ug.2.1 BO (ai3.wrap (QA-1))) BO).bind fun L1=>
(if(decide (L1=0))then
(M.cK N BO ug.2.2).bind fun YS=>
some (aT ug.2.1 BO (ai3.wrap (QA-1)),YS)
else
some (aT ug.2.1 BO (ai3.wrap (QA-1)),ug.2.2)):Option ((List Int)×List Int)).bind fun TS=>
some (.inl (ai3.wrap (ug.1+1),TS.1,TS.2))
else
some (.inr (.inl (ug.2.1,l26,ug.2.2))))) N (0,RY.1,TK.2)
else
some (.inr (RY.2.1,RY.2.2)))) N (j5.2.1,([]:List Int),j5.2.2):Option ((List Int)×List Int)).bind fun j22=>
(if(decide ((j22.1.length:Int)<(j1.length:Int)))then
some (9,([]:List Int))
else
some (0,j22.1))
def S37(N:Nat):bp:=⟨⟨[(0, .g az)],[],[],0⟩,⟨[(0, .val false (.own 0)),(1, .l ae)],[(0, .own 3 ae)],[],1⟩,fun(x:az.den)=>M.cZ N x⟩
theorem W37(N:Nat):aq Tryz.prog 37 (S37 N):=fw (en [ck (TN N),ck (TP N),ck (YM N),ck (TR N)] true false) (N:=N) (.o (.meet ⟨[(4, .l (.slice (.slice ae)))],[],[],48⟩ .nil (.o (.o (.o (.meet ⟨[(5, .l (.slice (.slice ae)))],[(144, .own 3 ae),(192, .box 141 (.own 224)),(224, .own 3 ae)],[80,176],227⟩ (.o (.meet ⟨[(5, .l (.slice (.slice ae)))],[(144, .own 3 ae),(192, .box 141 (.own 272)),(272, .own 3 ae)],[80,176],275⟩ (.loop ⟨[(29, .l ae)],[(80, .deep 29 (.sl 3 (.leaf ae))),(144, .own 3 ae),(192, .box 141 (.own 272)),(272, .own 3 ae)],[176],276⟩ (.o (.o (.meet ⟨[],[(80, .deep 29 (.sl 3 (.leaf ae))),(144, .own 3 ae),(192, .box 141 (.own 292)),(292, .own 3 ae)],[272],296⟩ (.meet ⟨[],[(80, .deep 29 (.sl 3 (.leaf ae))),(144, .own 3 ae),(192, .box 141 (.own 292)),(292, .own 3 ae)],[272],296⟩ (.o (.o (.meet ⟨[],[(80, .deep 29 (.sl 3 (.leaf ae)))],[],469⟩ (.o (.two (.loop ⟨[(41, .l ae)],[(80, .deep 29 (.sl 3 (.leaf ae)))],[],517⟩ .nil) .nil)) .nil))) .nil) .nil)))) .nil)) (.o (.meet ⟨[(12, .val false (.own 243))],[(192, .box 141 (.own 244)),(243, .own 3 ae),(244, .own 3 ae)],[144,224],246⟩ (.two (.loop ⟨[(12, .val false (.own 243))],[(144, .own 3 ae),(192, .box 141 (.own 244)),(243, .own 3 ae),(244, .own 3 ae)],[224],247⟩ (.o (.two (.o (.o (.o (.two (.loop ⟨[(86, .l ae)],[(144, .own 3 ae),(192, .box 141 (.own 647)),(647, .own 3 ae)],[361],650⟩ (.o (.o (.two (.meet ⟨[],[(144, .own 3 ae),(192, .box 141 (.own 666)),(666, .own 3 ae)],[647],669⟩ .nil .nil) .nil)))) .nil)))) .nil))) .nil) .nil)))))))) Tryz.func37 (by kernel_rfl) fun x=>by kernel_rfl
def M.bY(N:Nat)(a0:List ByteArray):Option (List ByteArray):=
(if aje (a0).length 0 then
vB (some ([]:List ByteArray))
((bR ([]:List ByteArray) a0).bind fun l1=>
some l1)
else
(bR ([]:List ByteArray) a0).bind fun l2=>
some l2)
def S66(N:Nat):bp:=⟨⟨[(0, .l (.slice .str))],[],[],0⟩,⟨[(0, .val false (.own 0))],[(0, .own 9 .str)],[],1⟩,fun(x:List ByteArray)=>M.bY N x⟩
theorem W66(N:Nat):aq Tryz.prog 66 (S66 N):=fw (en [] false false) (N:=N) .nil Tryz.func66 (by kernel_rfl) fun x=>by kernel_rfl
def M.bn(N:Nat)(a0:aa.den)(a1:Int):Option Bool:=
((M.dT N a0).bind fun y2=>
(if y2 then
(if(decide (a0.1<=a1))then
some (decide (a1<a0.2))
else
some false)
else
some false):Option Bool).bind fun j1=>
some j1
def S86(N:Nat):bp:=⟨⟨[(0, .g aa),(1, .l ae)],[],[],0⟩,⟨[(0, .l .bool)],[],[],0⟩,fun(x:aa.den×Int)=>M.bn N x.1 x.2⟩
theorem RZ(N:Nat):aq Tryz.prog 86 (S86 N):=fw (en [ck (XQ N)] false false) (N:=N) (.o (.meet ⟨[(4, .l .bool)],[],[],32⟩ .nil .nil)) Tryz.func86 (by kernel_rfl) fun x=>by kernel_rfl
def M.cW(N:Nat):Option (aa.den):=
some (0,109573)
def YT(N:Nat):bp:=⟨⟨[],[],[],0⟩,⟨[(0, .g aa)],[],[],0⟩,fun(x:Unit)=>M.cW N⟩
theorem TT(N:Nat):aq Tryz.prog 128 (YT N):=fw (en [] false false) (N:=N) .nil Tryz.func128 (by kernel_rfl) fun x=>by kernel_rfl
def M.cQ(N:Nat)(a0:ax.den)(a1:Int):Option (ByteArray×aa.den×aa.den×List dy.den):=
(Loop (S:=Int×List dy.den) (X:=List dy.den) (fun s2=>
(if(decide (s2.1<(a0.2.2.2.length:Int)))then
((idx a0.2.2.2 s2.1).bind fun x4=>
(M.bn N x4.1 a1).bind fun y5=>
(if y5 then
(M.cW N).bind fun y6=>
(bR s2.2 ([(y6,x4.2)]:List dy.den)).bind fun l7=>
some l7
else
some s2.2):Option (List dy.den)).bind fun j3=>
some (.inl (ai3.wrap (s2.1+1),j3))
else
some (.inr s2.2))) N (0,([]:List dy.den)):Option (List dy.den)).bind fun j1=>
some (a0.1,a0.2.1,a0.2.2.1,j1)
def S67(N:Nat):bp:=⟨⟨[(0, .g ax),(1, .l ae)],[],[],0⟩,⟨[(0, .val true (.pair (.leaf .str) (.pair (.leaf aa) (.pair (.leaf aa) (.own 0)))))],[(0, .own 75 dy)],[],1⟩,fun(x:ax.den×Int)=>M.cQ N x.1 x.2⟩
theorem W67(N:Nat):aq Tryz.prog 67 (S67 N):=fw (en [ck (RZ N),ck (TT N)] false false) (N:=N) (.o (.o (.meet ⟨[(5, .val false (.own 48))],[(48, .own 75 dy)],[],49⟩ (.o (.two (.loop ⟨[(5, .val false (.own 112)),(11, .l ae)],[(112, .own 75 dy)],[],113⟩ (.o (.o (.two (.meet ⟨[(5, .val false (.own 129))],[(129, .own 75 dy)],[112],130⟩ .nil .nil) .nil)))) .nil)) .nil))) Tryz.func67 (by kernel_rfl) fun x=>by kernel_rfl
def M.aj(N:Nat)(a0:List aa.den):Option (List aa.den):=
(if aje (a0).length 0 then
vB (some ([]:List aa.den))
((bR ([]:List aa.den) a0).bind fun l1=>
some l1)
else
(bR ([]:List aa.den) a0).bind fun l2=>
some l2)
def YU(N:Nat):bp:=⟨⟨[(0, .l (.slice aa))],[],[],0⟩,⟨[(0, .val false (.own 0))],[(0, .own 55 aa)],[],1⟩,fun(x:List aa.den)=>M.aj N x⟩
theorem Nc(N:Nat):aq Tryz.prog 130 (YU N):=fw (en [] false false) (N:=N) .nil Tryz.func130 (by kernel_rfl) fun x=>by kernel_rfl
def M.aX(N:Nat)(a0:List aJ.den):Option (List aJ.den):=
(if aje (a0).length 0 then
vB (some ([]:List aJ.den))
((bR ([]:List aJ.den) a0).bind fun l1=>
some l1)
else
(bR ([]:List aJ.den) a0).bind fun l2=>
some l2)
def YV(N:Nat):bp:=⟨⟨[(0, .l (.slice aJ))],[],[],0⟩,⟨[(0, .val false (.own 0))],[(0, .own 93 aJ)],[],1⟩,fun(x:List aJ.den)=>M.aX N x⟩
theorem YW(N:Nat):aq Tryz.prog 131 (YV N):=fw (en [] false false) (N:=N) .nil Tryz.func131 (by kernel_rfl) fun x=>by kernel_rfl
def M.bZ(N:Nat)(a0:aN.den)(a1:Int):Option (Bool×Int):=
(M.bn N a0.2.2.2.2.1 a1).bind fun y1=>
some (y1,a1)
def QB(N:Nat):bp:=⟨⟨[(0, .g aN),(1, .ptr 0 [] 0)],[(0, .box 3 (.leaf ae))],[],1⟩,⟨[(0, .l .bool)],[(0, .box 3 (.leaf ae))],[],2⟩,fun(x:aN.den×Int)=>M.bZ N x.1 x.2⟩
theorem QC(N:Nat):aq Tryz.prog 129 (QB N):=fw (en [ck (RZ N)] false false) (N:=N) .nil Tryz.func129 (by kernel_rfl) fun x=>by kernel_rfl
def M.bQ(N:Nat)(a0:List aN.den)(a1:Int):Option (Int×(List Int)×List Int):=
(mV (a0.length:Int) 0).bind fun l1=>
Loop (S:=Int×Int×(List Int)×(List Int)×List Int) (X:=Int×(List Int)×List Int) (fun s2=>
(if(decide (s2.1<(a0.length:Int)))then
((idx a0 s2.1).bind fun x4=>
(((if(decide (0<=x4.2.2.1))then
some (decide (x4.2.2.1<s2.1))
else
some false):Option Bool).bind fun j6=>
(if j6 then
(idx s2.2.2.1 x4.2.2.1).bind fun x7=>
some x7
else
some (-1)):Option Int).bind fun j5=>
(idx s2.2.2.1 s2.1).bind fun x8=>
(M.bZ N x4 s2.2.1).bind fun y9=>
(if y9.1 then
(idx (aT s2.2.2.1 s2.1 j5) s2.1).bind fun tO=>
(bR s2.2.2.2.1 ([s2.1]:List Int)).bind fun HM=>
(bR s2.2.2.2.2 ([j5]:List Int)).bind fun FA=>
some (y9.2,aT (aT s2.2.2.1 s2.1 j5) s2.1 (s2.2.2.2.1.length:Int),HM,FA)
else
some (y9.2,aT s2.2.2.1 s2.1 j5,s2.2.2.2.1,s2.2.2.2.2)):Option (Int×(List Int)×(List Int)×List Int)).bind fun j3=>
some (.inl (ai3.wrap (s2.1+1),j3.1,j3.2.1,j3.2.2.1,j3.2.2.2))
else
some (.inr (s2.2.1,s2.2.2.2.1,s2.2.2.2.2)))) N (0,a1,l1,([]:List Int),([]:List Int))
def TU(N:Nat):bp:=⟨⟨[(0, .l (.slice aN)),(1, .fn 129 [(0,[],0)])],[(0, .box 3 (.leaf ae))],[],1⟩,⟨[(0, .val false (.own 1)),(1, .val false (.own 2))],[(0, .box 3 (.leaf ae)),(1, .own 3 ae),(2, .own 3 ae)],[],4⟩,fun(x:(List aN.den)×Int)=>M.bQ N x.1 x.2⟩
theorem TV(N:Nat):aq Tryz.prog 84 (TU N):=fw (en [ck (QC N)] false false) (N:=N) (.o (.o (.o (.two (.o (.two (.loop ⟨[(6, .val false (.own 177)),(7, .val false (.own 178)),(17, .l ae)],[(0, .box 3 (.leaf ae)),(97, .own 3 ae),(177, .own 3 ae),(178, .own 3 ae)],[],181⟩ (.o (.o (.two (.meet ⟨[(6, .val false (.own 197)),(7, .val false (.own 198))],[(0, .box 3 (.leaf ae)),(97, .own 3 ae),(197, .own 3 ae),(198, .own 3 ae)],[177,178],201⟩ (.o (.o (.meet ⟨[(11, .l ae)],[],[],309⟩ (.meet ⟨[(30, .l .bool)],[],[],309⟩ .nil .nil) .nil))) .nil) .nil)))) .nil)) .nil)))) Tryz.func84 (by kernel_rfl) fun x=>by kernel_rfl
def M.cR(N:Nat)(a0:az.den)(a1:Int):Option (ByteArray×Int×(List aJ.den)×(List aJ.den)×List aN.den):=
(M.bQ N a0.2.2.2.2 a1).bind fun y1=>
(Loop (S:=Int×List aN.den) (X:=List aN.den) (fun s3=>
(if(decide (s3.1<(y1.2.1.length:Int)))then
(idx y1.2.1 s3.1).bind fun x4=>
(idx a0.2.2.2.2 x4).bind fun x5=>
(idx y1.2.2 s3.1).bind fun x6=>
(M.cW N).bind fun y7=>
(M.aj N x5.2.2.2.2.2.1).bind fun y8=>
(M.aj N x5.2.2.2.2.2.2.1).bind fun y9=>
(bR s3.2 ([(x5.1,(x5.2.1,(x6,(x5.2.2.2.1,(y7,(y8,(y9,x5.2.2.2.2.2.2.2)))))))]:List aN.den)).bind fun xj=>
some (.inl (ai3.wrap (s3.1+1),xj))
else
some (.inr s3.2))) N (0,([]:List aN.den)):Option (List aN.den)).bind fun j2=>
(M.aX N a0.2.2.1).bind fun qh=>
(M.aX N a0.2.2.2.1).bind fun pV=>
some (a0.1,a0.2.1,qh,pV,j2)
def S68(N:Nat):bp:=⟨⟨[(0, .g az),(1, .l ae)],[],[],0⟩,⟨[(0, .val true (.pair (.leaf .str) (.pair (.leaf ae) (.pair (.own 0) (.pair (.own 1) (.own 2))))))],[(0, .own 93 aJ),(1, .own 93 aJ),(2, .own 77 aN)],[],3⟩,fun(x:az.den×Int)=>M.cR N x.1 x.2⟩
theorem W68(N:Nat):aq Tryz.prog 68 (S68 N):=fw (en [ck (TV N),ck (TT N),ck (Nc N),ck (YW N)] false false) (N:=N) (.o (.o (.o (.meet ⟨[(7, .val false (.own 208))],[(208, .own 77 aN)],[],209⟩ (.o (.two (.loop ⟨[(7, .val false (.own 256)),(20, .l ae)],[(256, .own 77 aN)],[],257⟩ .nil) .nil)) .nil)))) Tryz.func68 (by kernel_rfl) fun x=>by kernel_rfl
def M.dl(N:Nat)(a0:cn.den)(a1:Int):Option ((List bq.den)×(List ax.den)×List az.den):=
(Loop (S:=Int×List bq.den) (X:=List bq.den) (fun s2=>
(if(decide (s2.1<(a0.1.length:Int)))then
(idx a0.1 s2.1).bind fun x3=>
(M.bY N x3.2).bind fun y4=>
(bR s2.2 ([(x3.1,y4)]:List bq.den)).bind fun l5=>
some (.inl (ai3.wrap (s2.1+1),l5))
else
some (.inr s2.2))) N (0,([]:List bq.den)):Option (List bq.den)).bind fun j1=>
(Loop (S:=Int×(List bq.den)×List ax.den) (X:=(List bq.den)×List ax.den) (fun s7=>
(if(decide (s7.1<(a0.2.1.length:Int)))then
(idx a0.2.1 s7.1).bind fun x8=>
(M.cQ N x8 a1).bind fun y9=>
(bR s7.2.2 ([(y9.1,(y9.2.1,(y9.2.2.1,y9.2.2.2)))]:List ax.den)).bind fun xj=>
some (.inl (ai3.wrap (s7.1+1),s7.2.1,xj))
else
some (.inr (s7.2.1,s7.2.2)))) N (0,j1,([]:List ax.den)):Option ((List bq.den)×List ax.den)).bind fun j6=>
(Loop (S:=Int×(List bq.den)×(List ax.den)×List az.den) (X:=(List bq.den)×(List ax.den)×List az.den) (fun rG=>
(if(decide (rG.1<(a0.2.2.length:Int)))then
(idx a0.2.2 rG.1).bind fun pU=>
(M.cR N pU a1).bind fun qV=>
(bR rG.2.2.2 ([(qV.1,(qV.2.1,(qV.2.2.1,(qV.2.2.2.1,qV.2.2.2.2))))]:List az.den)).bind fun TW=>
some (.inl (ai3.wrap (rG.1+1),rG.2.1,rG.2.2.1,TW))
else
some (.inr (rG.2.1,rG.2.2.1,rG.2.2.2)))) N (0,j6.1,j6.2,([]:List az.den)):Option ((List bq.den)×(List ax.den)×List az.den)).bind fun CP=>
some (CP.1,CP.2.1,CP.2.2)
def S38(N:Nat):bp:=⟨⟨[(0, .g cn),(1, .l ae)],[],[],0⟩,⟨[(0, .val true (.pair (.own 0) (.pair (.own 1) (.own 2))))],[(0, .own 43 bq),(1, .own 48 ax),(2, .own 51 az)],[],3⟩,fun(x:cn.den×Int)=>M.dl N x.1 x.2⟩
theorem W38(N:Nat):aq Tryz.prog 38 (S38 N):=fw (en [ck (W66 N),ck (W67 N),ck (W68 N)] false false) (N:=N) (.o (.o (.meet ⟨[],[(32, .box 26 (.pair (.own 48) (.pair .nil .nil))),(48, .own 43 bq)],[],50⟩ (.o (.two (.loop ⟨[(15, .l ae)],[(32, .box 26 (.pair (.own 112) (.pair .nil .nil))),(112, .own 43 bq)],[],114⟩ .nil) .nil)) (.meet ⟨[],[(32, .box 26 (.pair (.own 48) (.pair (.own 50) .nil))),(48, .own 43 bq),(50, .own 48 ax)],[],53⟩ (.o (.two (.loop ⟨[(33, .l ae)],[(32, .box 26 (.pair (.own 48) (.pair (.own 114) .nil))),(48, .own 43 bq),(114, .own 48 ax)],[],117⟩ .nil) .nil)) (.meet ⟨[],[(32, .box 26 (.pair (.own 48) (.pair (.own 50) (.own 53)))),(48, .own 43 bq),(50, .own 48 ax),(53, .own 51 az)],[],57⟩ (.o (.two (.loop ⟨[(49, .l ae)],[(32, .box 26 (.pair (.own 48) (.pair (.own 50) (.own 117)))),(48, .own 43 bq),(50, .own 48 ax),(117, .own 51 az)],[],121⟩ .nil) .nil)) .nil))))) Tryz.func38 (by kernel_rfl) fun x=>by kernel_rfl
def M.jz(N:Nat)(a0:List aa.den):Option (Int×List Int):=
(M.eF N a0).bind fun y1=>
some (y1.2.1,y1.2.2)
def YX(N:Nat):bp:=⟨⟨[(0, .l (.slice aa))],[],[],0⟩,⟨[(0, .val false (.own 0)),(1, .l ae)],[(0, .own 3 ae)],[],1⟩,fun(x:List aa.den)=>M.jz N x⟩
theorem TX(N:Nat):aq Tryz.prog 132 (YX N):=fw (en [ck (Tz N)] false false) (N:=N) .nil Tryz.func132 (by kernel_rfl) fun x=>by kernel_rfl
def M.kY(N:Nat)(a0:List aa.den)(a1:Int):Option (List Int):=
(M.jz N a0).bind fun y1=>
((if(!decide (y1.1=0))then
some true
else
(if(decide (a1<0))then
some true
else
some (decide ((a0.length:Int)<=a1)))):Option Bool).bind fun j2=>
(if j2 then
some ([]:List Int)
else
(idx a0 a1).bind fun x3=>
(M.cV N x3.1).bind fun y4=>
(mV y4 0).bind fun l5=>
Loop (S:=Int×Int×List Int) (X:=List Int) (fun s6=>
(if(decide (0<=s6.2.1))then
(idx s6.2.2 s6.2.1).bind fun x7=>
(idx y1.2 s6.1).bind fun x8=>
some (.inl (ai3.wrap (x8-1),ai3.wrap (s6.2.1-1),aT s6.2.2 s6.2.1 s6.1))
else
some (.inr s6.2.2))) N (ai3.wrap (a1-1),ai3.wrap ((l5.length:Int)-1),l5))
def YY(N:Nat):bp:=⟨⟨[(0, .l (.slice aa)),(1, .l ae)],[],[],0⟩,⟨[(0, .val false (.own 0))],[(0, .own 3 ae)],[],1⟩,fun(x:(List aa.den)×Int)=>M.kY N x.1 x.2⟩
theorem YZ(N:Nat):aq Tryz.prog 189 (YY N):=fw (en [ck (Nb N),ck (TX N)] false false) (N:=N) (.o (.o (.two (.meet ⟨[(26, .l .bool)],[],[],128⟩ .nil .nil) (.o (.o (.two (.o (.two (.loop ⟨[(8, .l ae),(9, .l ae)],[(224, .own 3 ae)],[],369⟩ .nil) .nil)) .nil)))))) Tryz.func189 (by kernel_rfl) fun x=>by kernel_rfl
def M.bo(B:Nat):Nat->(List aa.den)->Int->(List aa.den)->Option (List aa.den)
 |0,_,_,_=>none
 |N+1,a0,a1,a2=>
  (M.kY B a0 a1).bind fun y2=>
  (idx a0 a1).bind fun Vo=>
  ((if(decide (Vo.1=23))then
  some (decide (Vo.1=23))
  else
  some (decide (Vo.1=24))):Option Bool).bind fun j62=>
  (if j62 then
  ((idx a0 a1).bind fun x64=>
  (if(decide (x64.1=24))then
  some 53
  else
  some 52):Option Int).bind fun j63=>
  (idx y2 0).bind fun x65=>
  (M.bo B N a0 x65 a2).bind fun Y0=>
  (bR Y0 ([(j63,0)]:List aa.den)).bind fun l67=>
  (idx y2 1).bind fun x68=>
  (M.bo B N a0 x68 l67).bind fun Y1=>
  (idx Y1 (Y0.length:Int)).bind fun x70=>
  some (aT Y1 (Y0.length:Int) (x70.1,(Y1.length:Int)))
  else
  (if(decide (Vo.1=26))then
  (idx y2 0).bind fun x71=>
  (M.bo B N a0 x71 a2).bind fun Y2=>
  (bR Y2 ([(50,0)]:List aa.den)).bind fun l73=>
  (idx y2 1).bind fun x74=>
  (M.bo B N a0 x74 l73).bind fun Y3=>
  (bR Y3 ([(51,0)]:List aa.den)).bind fun Y4=>
  (idx Y4 (Y2.length:Int)).bind fun x77=>
  (idx y2 2).bind fun x78=>
  (M.bo B N a0 x78 (aT Y4 (Y2.length:Int) (x77.1,(Y4.length:Int)))).bind fun Y5=>
  (idx Y5 (Y3.length:Int)).bind fun x80=>
  some (aT Y5 (Y3.length:Int) (x80.1,(Y5.length:Int)))
  else
  (Loop (S:=Int×List aa.den) (X:=List aa.den) (fun vM=>
  (if(decide (vM.1<(y2.length:Int)))then
  (idx y2 vM.1).bind fun QD=>
  (M.bo B N a0 QD vM.2).bind fun QE=>
  some (.inl (ai3.wrap (vM.1+1),QE))
  else
  some (.inr vM.2))) B (0,a2):Option (List aa.den)).bind fun Y6=>
  (idx a0 a1).bind fun Y7=>
  (bR Y6 ([Y7]:List aa.den)).bind fun Y8=>
  some Y8))
def M.gZ(N:Nat)(a0:List aa.den)(a1:Int)(a2:List aa.den):Option (List aa.den):=M.bo N N a0 a1 a2
def Y9(N:Nat):bp:=⟨⟨[(0, .val false (.own 0)),(1, .l (.slice aa)),(2, .l ae)],[(0, .own 55 aa)],[],1⟩,⟨[(0, .val false (.own 1))],[(1, .own 55 aa)],[],2⟩,fun(x:(List aa.den)×Int×List aa.den)=>M.gZ N x.1 x.2.1 x.2.2⟩
def Za(B N:Nat):bp:={inn:=⟨[(0, .val false (.own 0)),(1, .l (.slice aa)),(2, .l ae)],[(0, .own 55 aa)],[],1⟩,out:=⟨[(0, .val false (.own 1))],[(1, .own 55 aa)],[],2⟩,fn:=fun(x:(List aa.den)×Int×List aa.den)=>M.bo B N x.1 x.2.1 x.2.2}
theorem OG(B:Nat):∀N,aq Tryz.prog 133 (Za B N)
 |0=>M6 Tryz.func133 (by kernel_rfl) (by kernel_rfl) fun _=>rfl
 |N+1=>fw (en [ck (OG B N),ck (YZ B)] false false) (N:=B) (.o (.o (.two (.o (.two (.meet ⟨[(22, .l .bool)],[],[],161⟩ .nil (.two (.o (.meet ⟨[(8, .l ae)],[],[],177⟩ .nil .nil)) .nil)) .nil)) (.meet ⟨[(0, .val false (.own 193))],[(193, .own 55 aa)],[0],194⟩ (.o (.two (.loop ⟨[(0, .val false (.own 241)),(104, .l ae)],[(241, .own 55 aa)],[0],242⟩ .nil) .nil)) .nil)))) Tryz.func133 (by kernel_rfl) fun x=>by kernel_rfl
theorem Zb(N:Nat):aq Tryz.prog 133 (Y9 N):=OG N N
def M.iy(N:Nat)(a0:List aa.den):Option (Int×List aa.den):=
(M.jz N a0).bind fun y1=>
(if(!decide (y1.1=0))then
some (y1.1,([]:List aa.den))
else
(M.gZ N a0 (ai3.wrap ((a0.length:Int)-1)) ([]:List aa.den)).bind fun y2=>
some (0,y2))
def S69(N:Nat):bp:=⟨⟨[(0, .l (.slice aa))],[],[],0⟩,⟨[(0, .val false (.own 0)),(1, .l ae)],[(0, .own 55 aa)],[],1⟩,fun(x:List aa.den)=>M.iy N x⟩
theorem W69(N:Nat):aq Tryz.prog 69 (S69 N):=fw (en [ck (TX N),ck (Zb N)] false false) (N:=N) .nil Tryz.func69 (by kernel_rfl) fun x=>by kernel_rfl
def M.dU(N:Nat)(a0:Int):Option Bool:=
((if(decide (50<=a0))then
some (decide (a0<=53))
else
some false):Option Bool).bind fun j1=>
some j1
def Zc(N:Nat):bp:=⟨⟨[(0, .l ae)],[],[],0⟩,⟨[(0, .l .bool)],[],[],0⟩,fun(x:Int)=>M.dU N x⟩
theorem TY(N:Nat):aq Tryz.prog 215 (Zc N):=fw (en [] false false) (N:=N) (.o (.meet ⟨[(2, .l .bool)],[],[],16⟩ .nil .nil)) Tryz.func215 (by kernel_rfl) fun x=>by kernel_rfl
def M.cL(N:Nat)(a0:Int):Option Bool:=
((if(decide (a0=23))then
some (decide (a0=23))
else
(if(decide (a0=24))then
some (decide (a0=24))
else
some (decide (a0=26)))):Option Bool).bind fun j1=>
(if j1 then
some false
else
((M.dU N a0).bind fun y3=>
(if y3 then
some true
else
(M.cV N a0).bind fun y4=>
some (decide (0<=y4))):Option Bool).bind fun j2=>
some j2)
def Zd(N:Nat):bp:=⟨⟨[(0, .l ae)],[],[],0⟩,⟨[(0, .l .bool)],[],[],0⟩,fun(x:Int)=>M.cL N x⟩
theorem Ze(N:Nat):aq Tryz.prog 214 (Zd N):=fw (en [ck (Nb N),ck (TY N)] false false) (N:=N) (.o (.two (.o (.two (.meet ⟨[(4, .l .bool)],[],[],32⟩ .nil .nil) .nil)) (.meet ⟨[(2, .l .bool)],[],[],32⟩ .nil .nil))) Tryz.func214 (by kernel_rfl) fun x=>by kernel_rfl
def M.aR(N:Nat)(a0:Int)(a1:Int)(a2:List Int):Option (Int×List Int):=
((idx a2 a0).bind fun x2=>
(if(decide (0<=x2))then
(idx a2 a0).bind fun x3=>
some (!decide (x3=a1))
else
some false):Option Bool).bind fun j1=>
(if j1 then
some (9,a2)
else
(idx a2 a0).bind fun x4=>
some (0,aT a2 a0 a1))
def Zf(N:Nat):bp:=⟨⟨[(0, .ptr 0 [] 0),(1, .l ae),(2, .l ae)],[(0, .box 224 (.own 1)),(1, .own 3 ae)],[],2⟩,⟨[(0, .l ae)],[(0, .box 224 (.own 1)),(1, .own 3 ae)],[],4⟩,fun(x:Int×Int×List Int)=>M.aR N x.1 x.2.1 x.2.2⟩
theorem Zg(N:Nat):aq Tryz.prog 216 (Zf N):=fw (en [] false false) (N:=N) (.o (.two (.meet ⟨[(25, .l .bool)],[],[],18⟩ .nil .nil) .nil)) Tryz.func216 (by kernel_rfl) fun x=>by kernel_rfl
def M.bw(N:Nat)(a0:List aa.den)(a1:Int)(a2:aa.den)(a3:List Int):Option (Int×List Int):=
((M.cL N a2.1).bind fun y2=>
(if(!y2)then
some true
else
(M.dU N a2.1).bind fun y3=>
(if y3 then
(if(decide (a2.2<=a1))then
some true
else
some (decide ((a0.length:Int)<a2.2)))
else
some false)):Option Bool).bind fun j1=>
(if j1 then
some (2,a3)
else
(idx a3 a1).bind fun x4=>
(if(decide (a2.1=51))then
(M.aR N a2.2 x4 a3).bind fun y5=>
some (y5.1,y5.2)
else
((if(decide (a2.1=50))then
some (decide (a2.1=50))
else
(if(decide (a2.1=52))then
some (decide (a2.1=52))
else
some (decide (a2.1=53)))):Option Bool).bind fun j6=>
(if j6 then
(if(decide (x4<1))then
some (5,a3)
else
(M.aR N (ai3.wrap (a1+1)) (ai3.wrap (x4-1)) a3).bind fun y7=>
(if(!decide (y7.1=0))then
some (y7.1,y7.2)
else
((if(decide (a2.1=50))then
some (ai3.wrap (x4-1))
else
some x4):Option Int).bind fun j8=>
(M.aR N a2.2 j8 y7.2).bind fun y9=>
some (y9.1,y9.2)))
else
(M.cV N a2.1).bind fun ox=>
(if(decide (x4<ox))then
some (5,a3)
else
(if(decide (12<(ai3.wrap ((ai3.wrap (x4-ox))+1))))then
some (16,a3)
else
(M.aR N (ai3.wrap (a1+1)) (ai3.wrap ((ai3.wrap (x4-ox))+1)) a3).bind fun qh=>
some (qh.1,qh.2))))))
def Zh(N:Nat):bp:=⟨⟨[(0, .ptr 0 [] 0),(1, .l (.slice aa)),(2, .l ae),(3, .g aa)],[(0, .box 224 (.own 1)),(1, .own 3 ae)],[],2⟩,⟨[(0, .l ae)],[(0, .box 224 (.own 1)),(1, .own 3 ae)],[],4⟩,fun(x:(List aa.den)×Int×aa.den×List Int)=>M.bw N x.1 x.2.1 x.2.2.1 x.2.2.2⟩
theorem Zi(N:Nat):aq Tryz.prog 159 (Zh N):=fw (en [ck (Nb N),ck (Ze N),ck (TY N),ck (Zg N)] false false) (N:=N) (.o (.two (.meet ⟨[(33, .l .bool)],[],[],34⟩ .nil .nil) (.o (.two (.o (.two (.o (.o (.meet ⟨[(50, .l .bool)],[],[],226⟩ .nil (.two (.o (.o (.meet ⟨[(9, .l ae)],[],[],402⟩ .nil .nil))) .nil)))) .nil)) .nil)))) Tryz.func159 (by kernel_rfl) fun x=>by kernel_rfl
def M.cJ(N:Nat)(a0:List aa.den):Option (Int×Int):=
(if(decide (128<(a0.length:Int)))then
some (0,4)
else
(if(decide ((a0.length:Int)=0))then
some (0,5)
else
(mV (ai3.wrap ((a0.length:Int)+1)) 0).bind fun l1=>
(Loop (S:=Int×List Int) (X:=List Int) (fun s3=>
(if(decide (s3.1<(l1.length:Int)))then
(idx s3.2 s3.1).bind fun x4=>
some (.inl (ai3.wrap (s3.1+1),aT s3.2 s3.1 (-1)))
else
some (.inr s3.2))) N (0,l1):Option (List Int)).bind fun j2=>
(idx j2 0).bind fun x5=>
bJ (J:=Int×List Int) (R:=Int×Int) (Loop (S:=Int×Int×List Int) (X:=(Int×List Int)⊕(Int×Int)) (fun s7=>
(if(decide (s7.2.1<(a0.length:Int)))then
bJ (J:=Int×List Int) (R:=(Int×Int×List Int)⊕((Int×List Int)⊕(Int×Int))) ((idx a0 s7.2.1).bind fun x9=>
(idx s7.2.2 s7.2.1).bind fun tO=>
(if(decide (tO<0))then
some (.inl (s7.1,s7.2.2))
else
(idx s7.2.2 s7.2.1).bind fun ow=>
(M.bw N a0 s7.2.1 x9 s7.2.2).bind fun pV=>
(if(!decide (pV.1=0))then
some (.inr (.inr (.inr (0,pV.1))))
else
some (.inl (if s7.1<ow then ow else s7.1,pV.2))))) fun j8=>
some (.inl (j8.1,ai3.wrap (s7.2.1+1),j8.2))
else
some (.inr (.inl (s7.1,s7.2.2))))) N (0,0,aT j2 0 0)) fun j6=>
(idx j6.2 (a0.length:Int)).bind fun pU=>
(if(decide (pU<=0))then
some (0,5)
else
(if(decide (1<pU))then
some (0,4)
else
some (if j6.1<pU then pU else j6.1,0)))))
def S90(N:Nat):bp:=⟨⟨[(0, .l (.slice aa))],[],[],0⟩,⟨[(0, .l ae),(1, .l ae)],[],[],0⟩,fun(x:List aa.den)=>M.cJ N x⟩
theorem W90(N:Nat):aq Tryz.prog 90 (S90 N):=fw (en [ck (Zi N)] false false) (N:=N) (.o (.o (.o (.o (.meet ⟨[],[(176, .own 3 ae)],[],241⟩ (.o (.two (.loop ⟨[(28, .l ae)],[(176, .own 3 ae)],[],337⟩ .nil) .nil)) (.o (.o (.join ⟨[(6, .l ae)],[(176, .own 3 ae),(208, .box 224 (.own 176))],[],355⟩ (.o (.two (.loop ⟨[(6, .l ae),(45, .l ae)],[(176, .own 3 ae),(208, .box 224 (.own 176))],[],403⟩ (.o (.o (.two (.join ⟨[(6, .l ae)],[(176, .own 3 ae),(208, .box 224 (.own 176))],[],421⟩ .nil .nil) .nil)))) .nil)) .nil)))))))) Tryz.func90 (by kernel_rfl) fun x=>by kernel_rfl
def M.dR(N:Nat)(a0:List aa.den):Option Bool:=
(M.cJ N a0).bind fun y1=>
some (decide (y1.2=0))
def Zj(N:Nat):bp:=⟨⟨[(0, .l (.slice aa))],[],[],0⟩,⟨[(0, .l .bool)],[],[],0⟩,fun(x:List aa.den)=>M.dR N x⟩
theorem QF(N:Nat):aq Tryz.prog 190 (Zj N):=fw (en [ck (W90 N)] false false) (N:=N) .nil Tryz.func190 (by kernel_rfl) fun x=>by kernel_rfl
def M.cT(N:Nat)(a0:Int):Option Bool:=
((if(decide (50<=a0))then
some (decide (a0<=53))
else
some false):Option Bool).bind fun j1=>
some j1
def Zk(N:Nat):bp:=⟨⟨[(0, .l ae)],[],[],0⟩,⟨[(0, .l .bool)],[],[],0⟩,fun(x:Int)=>M.cT N x⟩
theorem KG(N:Nat):aq Tryz.prog 194 (Zk N):=fw (en [] false false) (N:=N) (.o (.meet ⟨[(2, .l .bool)],[],[],16⟩ .nil .nil)) Tryz.func194 (by kernel_rfl) fun x=>by kernel_rfl
def M.eI(N:Nat)(a0:List aa.den):Option (List Bool):=
(mV (ai3.wrap ((a0.length:Int)+1)) false).bind fun l1=>
(idx l1 0).bind fun x2=>
(Loop (S:=Int×List Bool) (X:=List Bool) (fun s4=>
(if(decide (s4.1<(a0.length:Int)))then
((idx a0 s4.1).bind fun x6=>
(idx s4.2 s4.1).bind fun x7=>
(if(!x7)then
some s4.2
else
((if(!decide (x6.1=51))then
(idx s4.2 (ai3.wrap (s4.1+1))).bind fun x9=>
some (aT s4.2 (ai3.wrap (s4.1+1)) true)
else
some s4.2):Option (List Bool)).bind fun j8=>
(M.cT N x6.1).bind fun ox=>
(if ox then
(idx j8 x6.2).bind fun ow=>
some (aT j8 x6.2 true)
else
some j8)):Option (List Bool)).bind fun j5=>
some (.inl (ai3.wrap (s4.1+1),j5))
else
some (.inr s4.2))) N (0,aT l1 0 true):Option (List Bool)).bind fun j3=>
(eR j3 0 (a0.length:Int)).bind fun FA=>
some FA
def Zl(N:Nat):bp:=⟨⟨[(0, .l (.slice aa))],[],[],0⟩,⟨[(0, .val false (.own 0))],[(0, .own 4 .bool)],[],1⟩,fun(x:List aa.den)=>M.eI N x⟩
theorem Zm(N:Nat):aq Tryz.prog 191 (Zl N):=fw (en [ck (KG N)] false false) (N:=N) (.o (.o (.o (.meet ⟨[],[(64, .own 4 .bool)],[],145⟩ (.o (.two (.loop ⟨[(14, .l ae)],[(64, .own 4 .bool)],[],193⟩ (.o (.o (.two (.meet ⟨[],[(64, .own 4 .bool)],[],210⟩ (.o (.o (.meet ⟨[],[(64, .own 4 .bool)],[],386⟩ .nil .nil))) .nil) .nil)))) .nil)) .nil)))) Tryz.func191 (by kernel_rfl) fun x=>by kernel_rfl
def M.fW(N:Nat)(a0:List Bool)(a1:Bool):Option Int:=
Loop (S:=Int) (X:=Int) (fun s1=>
(if(decide (s1<(a0.length:Int)))then
(idx a0 s1).bind fun x2=>
(if(decide (a1=x2))then
some (.inr s1)
else
some (.inl (ai3.wrap (s1+1))))
else
some (.inr (-1)))) N 0
def Zn(N:Nat):bp:=⟨⟨[(0, .l (.slice .bool)),(1, .l .bool)],[],[],0⟩,⟨[(0, .l ae)],[],[],0⟩,fun(x:(List Bool)×Bool)=>M.fW N x.1 x.2⟩
theorem Zo(N:Nat):aq Tryz.prog 234 (Zn N):=fw (en [] false false) (N:=N) (.o (.two (.o (.two (.loop ⟨[(8, .l ae)],[],[],64⟩ .nil) .nil)) .nil)) Tryz.func234 (by kernel_rfl) fun x=>by kernel_rfl
def M.cN(N:Nat)(a0:List Bool)(a1:Bool):Option Bool:=
(M.fW N a0 a1).bind fun y1=>
some (decide (0<=y1))
def Zp(N:Nat):bp:=⟨⟨[(0, .l (.slice .bool)),(1, .l .bool)],[],[],0⟩,⟨[(0, .l .bool)],[],[],0⟩,fun(x:(List Bool)×Bool)=>M.cN N x.1 x.2⟩
theorem Zq(N:Nat):aq Tryz.prog 192 (Zp N):=fw (en [ck (Zo N)] false false) (N:=N) .nil Tryz.func192 (by kernel_rfl) fun x=>by kernel_rfl
def M.dt(N:Nat)(a0:List aa.den)(a1:List Bool):Option (List aa.den):=
(mV (ai3.wrap ((a0.length:Int)+1)) 0).bind fun l1=>
(Loop (S:=Int×(List Int)×List aa.den) (X:=(List Int)×List aa.den) (fun s3=>
(if(decide (s3.1<(a0.length:Int)))then
((idx a0 s3.1).bind fun x5=>
(idx s3.2.1 s3.1).bind fun x6=>
(idx a1 s3.1).bind fun x7=>
(if x7 then
(bR s3.2.2 ([x5]:List aa.den)).bind fun l8=>
some (aT s3.2.1 s3.1 (s3.2.2.length:Int),l8)
else
some (aT s3.2.1 s3.1 (s3.2.2.length:Int),s3.2.2)):Option ((List Int)×List aa.den)).bind fun j4=>
some (.inl (ai3.wrap (s3.1+1),j4.1,j4.2))
else
some (.inr (s3.2.1,s3.2.2)))) N (0,l1,([]:List aa.den)):Option ((List Int)×List aa.den)).bind fun j2=>
(idx j2.1 (a0.length:Int)).bind fun x9=>
Loop (S:=Int×List aa.den) (X:=List aa.den) (fun L2=>
(if(decide (L2.1<(j2.2.length:Int)))then
((idx L2.2 L2.1).bind fun rF=>
(M.cT N rF.1).bind fun BM=>
(if BM then
(idx (aT j2.1 (a0.length:Int) (j2.2.length:Int)) rF.2).bind fun r9=>
(idx L2.2 L2.1).bind fun D5=>
some (aT L2.2 L2.1 (D5.1,r9))
else
some L2.2):Option (List aa.den)).bind fun CP=>
some (.inl (ai3.wrap (L2.1+1),CP))
else
some (.inr L2.2))) N (0,j2.2)
def Zr(N:Nat):bp:=⟨⟨[(0, .l (.slice aa)),(1, .l (.slice .bool))],[],[],0⟩,⟨[(0, .val false (.own 0))],[(0, .own 55 aa)],[],1⟩,fun(x:(List aa.den)×List Bool)=>M.dt N x.1 x.2⟩
theorem Zs(N:Nat):aq Tryz.prog 193 (Zr N):=fw (en [ck (KG N)] false false) (N:=N) (.o (.o (.o (.meet ⟨[(6, .val false (.own 112))],[(64, .own 3 ae),(112, .own 55 aa)],[],114⟩ (.o (.two (.loop ⟨[(6, .val false (.own 160)),(17, .l ae)],[(64, .own 3 ae),(160, .own 55 aa)],[],162⟩ (.o (.o (.two (.meet ⟨[(6, .val false (.own 178))],[(64, .own 3 ae),(178, .own 55 aa)],[160],180⟩ .nil .nil) .nil)))) .nil)) (.o (.two (.o (.two (.loop ⟨[(44, .l ae)],[(112, .own 55 aa)],[],275⟩ (.o (.o (.two (.meet ⟨[],[(112, .own 55 aa)],[],292⟩ .nil .nil) .nil)))) .nil)) .nil)))))) Tryz.func193 (by kernel_rfl) fun x=>by kernel_rfl
def M.cG(N:Nat)(a0:List aa.den):Option (List aa.den):=
bJ (J:=List aa.den) (R:=List aa.den) ((M.aj N a0).bind fun y1=>
(M.dR N a0).bind fun y2=>
(if(!y2)then
some (.inr y1)
else
some (.inl y1)):Option ((List aa.den)⊕(List aa.den))) fun s3=>
Loop (S:=List aa.den) (X:=List aa.den) (fun s4=>
(M.eI N s4).bind fun y5=>
(Loop (S:=Int×List Bool) (X:=List Bool) (fun s7=>
(if(decide (s7.1<(s4.length:Int)))then
((idx s4 s7.1).bind fun x9=>
((if(decide (x9.1=51))then
some (decide (x9.2=(ai3.wrap (s7.1+1))))
else
some false):Option Bool).bind fun qg=>
(if qg then
(idx s7.2 s7.1).bind fun ow=>
some (aT s7.2 s7.1 false)
else
some s7.2):Option (List Bool)).bind fun j8=>
some (.inl (ai3.wrap (s7.1+1),j8))
else
some (.inr s7.2))) N (0,y5):Option (List Bool)).bind fun j6=>
(M.cN N j6 false).bind fun pV=>
(if pV then
(M.dt N s4 j6).bind fun BM=>
some (.inl BM)
else
some (.inr s4))) N s3
def TZ(N:Nat):bp:=⟨⟨[(0, .l (.slice aa))],[],[],0⟩,⟨[(0, .val false (.own 0))],[(0, .own 55 aa)],[],1⟩,fun(x:List aa.den)=>M.cG N x⟩
theorem Zt(N:Nat):aq Tryz.prog 134 (TZ N):=KB (E:=(en [ck (Nc N),ck (QF N),ck (Zm N),ck (Zq N),ck (Zs N)] false false)) (N:=N) (l:=0) (L:=⟨[(3, .val false (.own 16))],[(16, .own 55 aa)],[],17⟩) (a0:= .nil) (a1:=(.o (.o (.two .nil .nil)))) (a2:=(.o (.meet ⟨[],[(33, .own 4 .bool)],[],66⟩ (.o (.two (.loop ⟨[(17, .l ae)],[(33, .own 4 .bool)],[],114⟩ (.o (.o (.two (.meet ⟨[],[(33, .own 4 .bool)],[],131⟩ (.o (.meet ⟨[(31, .l .bool)],[],[],226⟩ .nil .nil)) .nil) .nil)))) .nil)) .nil))) (sg:=TZ N) (c:=Tryz.f134.body.getD .skip) (rs:=Tryz.f134.results.toList) Tryz.func134 (by kernel_rfl) (by kernel_rfl) rfl rfl rfl rfl (fun x=>by kernel_rfl)
def M.dL(N:Nat)(a0:List aa.den):Option (List aa.den):=
(M.aj N a0).bind fun y1=>
(M.dR N a0).bind fun y2=>
(if(!y2)then
some y1
else
Loop (S:=Int×List aa.den) (X:=List aa.den) (fun s3=>
(if(decide (s3.1<(a0.length:Int)))then
(((idx a0 s3.1).bind fun x6=>
(M.cT N x6.1).bind fun y7=>
(if(!y7)then
some s3.2
else
(Loop (S:=Int) (X:=Int) (fun s9=>
((if(decide (0<=s9))then
(if(decide (s9<(a0.length:Int)))then
(idx a0 s9).bind fun ow=>
(if(decide (ow.1=51))then
(idx a0 s9).bind fun rF=>
some (decide (s9<rF.2))
else
some false)
else
some false)
else
some false):Option Bool).bind fun qg=>
(if qg then
(idx a0 s9).bind fun pU=>
some (.inl pU.2)
else
some (.inr s9))) N x6.2:Option Int).bind fun j8=>
(idx s3.2 s3.1).bind fun r9=>
some (aT s3.2 s3.1 (r9.1,j8))):Option (List aa.den)).bind fun j5=>
some j5:Option (List aa.den)).bind fun j4=>
some (.inl (ai3.wrap (s3.1+1),j4))
else
some (.inr s3.2))) N (0,y1))
def Zu(N:Nat):bp:=⟨⟨[(0, .l (.slice aa))],[],[],0⟩,⟨[(0, .val false (.own 0))],[(0, .own 55 aa)],[],1⟩,fun(x:List aa.den)=>M.dL N x⟩
theorem Zv(N:Nat):aq Tryz.prog 135 (Zu N):=fw (en [ck (Nc N),ck (QF N),ck (KG N)] false false) (N:=N) (.o (.o (.o (.two (.o (.two (.loop ⟨[(15, .l ae)],[(32, .own 55 aa)],[],161⟩ (.o (.o (.meet ⟨[],[(32, .own 55 aa)],[],178⟩ (.meet ⟨[],[(32, .own 55 aa)],[],178⟩ (.o (.o (.o (.meet ⟨[(6, .l ae)],[],[],385⟩ (.two (.loop ⟨[(6, .l ae)],[],[],385⟩ (.two (.meet ⟨[(50, .l .bool)],[],[],385⟩ .nil .nil) .nil)) .nil) .nil)))) .nil) .nil)))) .nil)) .nil)))) Tryz.func135 (by kernel_rfl) fun x=>by kernel_rfl
def M.eZ(N:Nat)(a0:aa.den):Option Bool:=
((M.cV N a0.1).bind fun y2=>
(if(decide (y2<0))then
some true
else
(if(!decide (a0.2=0))then
(M.fo N a0.1).bind fun y3=>
some (!y3)
else
some false)):Option Bool).bind fun j1=>
(if j1 then
some false
else
((if(decide (a0.1=14))then
some (decide (a0.1=14))
else
(if(decide (a0.1=15))then
some (decide (a0.1=15))
else
some (decide (a0.1=16)))):Option Bool).bind fun j4=>
(if j4 then
((if(decide (0<=a0.2))then
some (decide (a0.2<=5))
else
some false):Option Bool).bind fun j5=>
some j5
else
(if(decide (a0.1=34))then
((if(decide (0<=a0.2))then
some (decide ((ajL a0.2 8)<=5))
else
some false):Option Bool).bind fun j6=>
some j6
else
(if(decide (a0.1=6))then
some (decide (0<=a0.2))
else
some true))))
def Zw(N:Nat):bp:=⟨⟨[(0, .g aa)],[],[],0⟩,⟨[(0, .l .bool)],[],[],0⟩,fun(x:aa.den)=>M.eZ N x⟩
theorem Zx(N:Nat):aq Tryz.prog 160 (Zw N):=fw (en [ck (Nb N),ck (TA N)] false false) (N:=N) (.o (.two (.meet ⟨[(17, .l .bool)],[],[],32⟩ .nil .nil) (.two (.o (.two (.meet ⟨[(20, .l .bool)],[],[],64⟩ .nil (.two (.meet ⟨[(2, .l .bool)],[],[],64⟩ .nil .nil) (.o (.two (.meet ⟨[(2, .l .bool)],[],[],96⟩ .nil .nil) .nil)))) .nil)) .nil))) Tryz.func160 (by kernel_rfl) fun x=>by kernel_rfl
def M.fh(N:Nat)(a0:aa.den)(a1:eo.den):Option Bool:=
(if(decide (a0.1=7))then
((if(decide (0<=a0.2))then
some (decide (a0.2<(a1.2.1.length:Int)))
else
some false):Option Bool).bind fun j1=>
some j1
else
(if(decide (a0.1=8))then
((if(decide (0<=a0.2))then
(if(decide (a0.2<(a1.2.2.1.length:Int)))then
(idx a1.2.2.1 a0.2).bind fun x3=>
some (!decide (x3.1=0))
else
some false)
else
some false):Option Bool).bind fun j2=>
some j2
else
(if(decide (a0.1=33))then
((if(decide (0<=a0.2))then
some (decide (a0.2<(a1.2.2.2.2.2.length:Int)))
else
some false):Option Bool).bind fun j4=>
some j4
else
(if(decide (a0.1=34))then
some (decide ((ai3.wrap (ajo a0.2 8))<(a1.2.2.2.2.2.length:Int)))
else
((if(decide (a0.1=36))then
some (decide (a0.1=36))
else
(if(decide (a0.1=37))then
some (decide (a0.1=37))
else
(if(decide (a0.1=38))then
some (decide (a0.1=38))
else
some (decide (a0.1=39))))):Option Bool).bind fun j5=>
(if j5 then
((if(decide (0<=a0.2))then
some (decide (a0.2<(a1.2.2.2.2.1.length:Int)))
else
some false):Option Bool).bind fun j6=>
some j6
else
some true)))))
def Zy(N:Nat):bp:=⟨⟨[(0, .g aa),(1, .g eo)],[],[],0⟩,⟨[(0, .l .bool)],[],[],0⟩,fun(x:aa.den×eo.den)=>M.fh N x.1 x.2⟩
theorem Zz(N:Nat):aq Tryz.prog 161 (Zy N):=fw (en [] false false) (N:=N) (.o (.two (.o (.two (.o (.two (.meet ⟨[(4, .l .bool)],[],[],112⟩ .nil .nil) (.o (.two (.meet ⟨[(4, .l .bool)],[],[],144⟩ .nil .nil) (.o (.two (.meet ⟨[(4, .l .bool)],[],[],176⟩ .nil .nil) (.o (.o (.meet ⟨[(65, .l .bool)],[],[],208⟩ .nil (.two (.meet ⟨[(4, .l .bool)],[],[],208⟩ .nil .nil) .nil)))))))))) .nil)) .nil)) Tryz.func161 (by kernel_rfl) fun x=>by kernel_rfl
def M.dg(N:Nat)(a0:af.den):Option Bool:=
((if(!decide (a0.1=6))then
some (!decide (a0.2.1=0))
else
some false):Option Bool).bind fun j1=>
(if j1 then
some false
else
(if(decide (a0.1=1))then
((if(decide (a0.2.2=0))then
some true
else
some (decide (a0.2.2=1))):Option Bool).bind fun j2=>
some j2
else
(if(decide (a0.1=2))then
((if(decide ((-1000000000000)<=a0.2.2))then
some (decide (a0.2.2<=1000000000000))
else
some false):Option Bool).bind fun j3=>
some j3
else
(if(decide (a0.1=3))then
((if(decide ((-1000000000000000)<=a0.2.2))then
some (decide (a0.2.2<=1000000000000000))
else
some false):Option Bool).bind fun j4=>
some j4
else
(if(decide (a0.1=4))then
((if(decide ((-1000000000)<=a0.2.2))then
some (decide (a0.2.2<=1000000000))
else
some false):Option Bool).bind fun j5=>
some j5
else
(if(decide (a0.1=5))then
((if(decide (0<=a0.2.2))then
some (decide (a0.2.2<=109572))
else
some false):Option Bool).bind fun j6=>
some j6
else
(if(decide (a0.1=6))then
((if(decide (0<=a0.2.1))then
(if(decide (a0.2.1<8))then
(if(decide (0<=a0.2.2))then
some (decide (a0.2.2<16))
else
some false)
else
some false)
else
some false):Option Bool).bind fun j7=>
some j7
else
some false)))))))
def ZA(N:Nat):bp:=⟨⟨[(0, .g af)],[],[],0⟩,⟨[(0, .l .bool)],[],[],0⟩,fun(x:af.den)=>M.dg N x⟩
theorem KH(N:Nat):aq Tryz.prog 165 (ZA N):=fw (en [] false false) (N:=N) (.o (.two (.meet ⟨[(10, .l .bool)],[],[],32⟩ .nil .nil) (.two (.o (.two (.o (.two (.meet ⟨[(2, .l .bool)],[],[],96⟩ .nil .nil) (.o (.two (.meet ⟨[(2, .l .bool)],[],[],128⟩ .nil .nil) (.o (.two (.meet ⟨[(2, .l .bool)],[],[],160⟩ .nil .nil) (.o (.two (.meet ⟨[(2, .l .bool)],[],[],192⟩ .nil .nil) (.o (.two (.meet ⟨[(2, .l .bool)],[],[],224⟩ .nil .nil) (.o (.two (.meet ⟨[(2, .l .bool)],[],[],256⟩ .nil .nil) .nil)))))))))))) .nil)) .nil))) Tryz.func165 (by kernel_rfl) fun x=>by kernel_rfl
def M.dS(N:Nat)(a0:List af.den):Option Bool:=
Loop (S:=Int) (X:=Bool) (fun s1=>
(if(decide (s1<(a0.length:Int)))then
(idx a0 s1).bind fun x2=>
(M.dg N x2).bind fun y3=>
(if(!y3)then
some (.inr false)
else
some (.inl (ai3.wrap (s1+1))))
else
some (.inr true))) N 0
def ZB(N:Nat):bp:=⟨⟨[(0, .l (.slice af))],[],[],0⟩,⟨[(0, .l .bool)],[],[],0⟩,fun(x:List af.den)=>M.dS N x⟩
theorem ZC(N:Nat):aq Tryz.prog 162 (ZB N):=fw (en [ck (KH N)] false false) (N:=N) (.o (.two (.o (.two (.loop ⟨[(7, .l ae)],[],[],64⟩ .nil) .nil)) .nil)) Tryz.func162 (by kernel_rfl) fun x=>by kernel_rfl
def M.jU(N:Nat)(a0:af.den)(a1:aa.den):Option Bool:=
((M.dg N a0).bind fun y2=>
(if y2 then
(if(decide (a0.1=a1.1))then
some (decide (a0.2.1=a1.2))
else
some false)
else
some false):Option Bool).bind fun j1=>
some j1
def ZD(N:Nat):bp:=⟨⟨[(0, .g af),(1, .g aa)],[],[],0⟩,⟨[(0, .l .bool)],[],[],0⟩,fun(x:af.den×aa.den)=>M.jU N x.1 x.2⟩
theorem T4(N:Nat):aq Tryz.prog 218 (ZD N):=fw (en [ck (KH N)] false false) (N:=N) (.o (.meet ⟨[(4, .l .bool)],[],[],48⟩ .nil .nil)) Tryz.func218 (by kernel_rfl) fun x=>by kernel_rfl
def M.fu(N:Nat)(a0:Int):Option Bool:=
((if(decide (a0=2))then
some true
else
(if(decide (a0=3))then
some true
else
some (decide (a0=4)))):Option Bool).bind fun j1=>
some j1
def ZE(N:Nat):bp:=⟨⟨[(0, .l ae)],[],[],0⟩,⟨[(0, .l .bool)],[],[],0⟩,fun(x:Int)=>M.fu N x⟩
theorem QG(N:Nat):aq Tryz.prog 249 (ZE N):=fw (en [] false false) (N:=N) (.o (.meet ⟨[(2, .l .bool)],[],[],16⟩ .nil .nil)) Tryz.func249 (by kernel_rfl) fun x=>by kernel_rfl
def M.fX(N:Nat)(a0:Int)(a1:aa.den):Option Bool:=
(if(!decide (a1.2=0))then
some false
else
(if(decide (a0=36))then
((if(decide (a1.1=2))then
some true
else
some (decide (a1.1=3))):Option Bool).bind fun j1=>
some j1
else
(if(decide (a0=39))then
((M.fu N a1.1).bind fun y3=>
(if y3 then
some true
else
some (decide (a1.1=5))):Option Bool).bind fun j2=>
some j2
else
some (decide (a1.1=1)))))
def ZF(N:Nat):bp:=⟨⟨[(0, .l ae),(1, .g aa)],[],[],0⟩,⟨[(0, .l .bool)],[],[],0⟩,fun(x:Int×aa.den)=>M.fX N x.1 x.2⟩
theorem ZG(N:Nat):aq Tryz.prog 219 (ZF N):=fw (en [ck (QG N)] false false) (N:=N) (.o (.o (.two (.o (.two (.o (.two (.meet ⟨[(4, .l .bool)],[],[],128⟩ .nil .nil) (.o (.two (.meet ⟨[(4, .l .bool)],[],[],160⟩ .nil .nil) .nil)))) .nil)) .nil))) Tryz.func219 (by kernel_rfl) fun x=>by kernel_rfl
def M.gB(N:Nat)(a0:Int)(a1:Int):Option Bool:=
(if(decide (a0=10))then
(M.fu N a1).bind fun y1=>
some y1
else
(if(decide (a0=25))then
some (decide (a1=1))
else
some (decide (a1=5))))
def ZH(N:Nat):bp:=⟨⟨[(0, .l ae),(1, .l ae)],[],[],0⟩,⟨[(0, .l .bool)],[],[],0⟩,fun(x:Int×Int)=>M.gB N x.1 x.2⟩
theorem ZI(N:Nat):aq Tryz.prog 220 (ZH N):=fw (en [ck (QG N)] false false) (N:=N) .nil Tryz.func220 (by kernel_rfl) fun x=>by kernel_rfl
def M.ei(N:Nat)(a0:af.den)(a1:af.den):Option Bool:=
((if(decide (a0.1=a1.1))then
some (decide (a0.2.1=a1.2.1))
else
some false):Option Bool).bind fun j1=>
some j1
def ZJ(N:Nat):bp:=⟨⟨[(0, .g af),(1, .g af)],[],[],0⟩,⟨[(0, .l .bool)],[],[],0⟩,fun(x:af.den×af.den)=>M.ei N x.1 x.2⟩
theorem T5(N:Nat):aq Tryz.prog 222 (ZJ N):=fw (en [] false false) (N:=N) (.o (.meet ⟨[(4, .l .bool)],[],[],48⟩ .nil .nil)) Tryz.func222 (by kernel_rfl) fun x=>by kernel_rfl
def M.fY(N:Nat)(a0:Int)(a1:af.den)(a2:af.den):Option Bool:=
((if(decide (a0=11))then
some (decide (a0=11))
else
some (decide (a0=12))):Option Bool).bind fun j1=>
(if j1 then
((M.ei N a1 a2).bind fun y3=>
(if y3 then
(M.fu N a1.1).bind fun y4=>
some y4
else
some false):Option Bool).bind fun j2=>
some j2
else
(if(decide (a0=13))then
((if(decide (a2.1=2))then
(if(decide (a1.1=2))then
some true
else
some (decide (a1.1=3)))
else
some false):Option Bool).bind fun j5=>
some j5
else
(if(decide (a0=14))then
((if(decide (a2.1=4))then
(if(decide (a1.1=3))then
some true
else
some (decide (a1.1=4)))
else
some false):Option Bool).bind fun j6=>
some j6
else
(if(decide (a0=15))then
(if(decide (a2.1=2))then
((if(decide (a1.1=2))then
some true
else
some (decide (a1.1=3))):Option Bool).bind fun j7=>
some j7
else
((if(decide (a1.1=3))then
some (decide (a2.1=3))
else
some false):Option Bool).bind fun j8=>
some j8)
else
(if(decide (a0=16))then
((if(decide (a1.1=3))then
some (decide (a2.1=3))
else
some false):Option Bool).bind fun j9=>
some j9
else
((if(decide (a0=17))then
some (decide (a0=17))
else
(if(decide (a0=18))then
some (decide (a0=18))
else
(if(decide (a0=21))then
some (decide (a0=21))
else
some (decide (a0=22))))):Option Bool).bind fun qg=>
(if qg then
((M.ei N a1 a2).bind fun pV=>
(if pV then
(M.fu N a1.1).bind fun BM=>
(if BM then
some true
else
some (decide (a1.1=5)))
else
some false):Option Bool).bind fun CP=>
some CP
else
((if(decide (a0=19))then
some (decide (a0=19))
else
some (decide (a0=20))):Option Bool).bind fun FB=>
(if FB then
(M.ei N a1 a2).bind fun BN=>
some BN
else
((if(decide (a0=23))then
some (decide (a0=23))
else
some (decide (a0=24))):Option Bool).bind fun Qd=>
(if Qd then
((if(decide (a1.1=1))then
some (decide (a2.1=1))
else
some false):Option Bool).bind fun R0=>
some R0
else
((if(decide (a0=27))then
some (decide (a0=27))
else
some (decide (a0=28))):Option Bool).bind fun ZK=>
(if ZK then
((if(decide (a1.1=5))then
some (decide (a2.1=2))
else
some false):Option Bool).bind fun RV=>
some RV
else
((if(decide (a1.1=5))then
some (decide (a2.1=5))
else
some false):Option Bool).bind fun OF=>
some OF)))))))))
def ZL(N:Nat):bp:=⟨⟨[(0, .l ae),(1, .g af),(2, .g af)],[],[],0⟩,⟨[(0, .l .bool)],[],[],0⟩,fun(x:Int×af.den×af.den)=>M.fY N x.1 x.2.1 x.2.2⟩
theorem ZM(N:Nat):aq Tryz.prog 221 (ZL N):=fw (en [ck (T5 N),ck (QG N)] false false) (N:=N) (.o (.two (.o (.two (.meet ⟨[(8, .l .bool)],[],[],64⟩ .nil (.two (.meet ⟨[(6, .l .bool)],[],[],64⟩ .nil .nil) (.o (.two (.meet ⟨[(6, .l .bool)],[],[],96⟩ .nil .nil) (.o (.two (.meet ⟨[(6, .l .bool)],[],[],128⟩ .nil .nil) (.o (.two (.two (.o (.two (.meet ⟨[(6, .l .bool)],[],[],208⟩ .nil .nil) .nil)) (.meet ⟨[(6, .l .bool)],[],[],208⟩ .nil .nil)) (.o (.two (.meet ⟨[(6, .l .bool)],[],[],192⟩ .nil .nil) (.meet ⟨[(80, .l .bool)],[],[],192⟩ .nil (.two (.meet ⟨[(6, .l .bool)],[],[],192⟩ .nil .nil) (.meet ⟨[(98, .l .bool)],[],[],192⟩ .nil (.o (.meet ⟨[(104, .l .bool)],[],[],192⟩ .nil (.two (.meet ⟨[(6, .l .bool)],[],[],192⟩ .nil .nil) (.meet ⟨[(115, .l .bool)],[],[],192⟩ .nil (.two (.meet ⟨[(6, .l .bool)],[],[],192⟩ .nil .nil) .nil)))))))))))))))))) .nil)) (.meet ⟨[(6, .l .bool)],[],[],192⟩ .nil .nil))) Tryz.func221 (by kernel_rfl) fun x=>by kernel_rfl
def M.fZ(N:Nat)(a0:aa.den)(a1:List af.den)(a2:eo.den):Option Bool:=
(if(decide (a0.1=7))then
(idx a2.2.1 a0.2).bind fun x1=>
(M.dg N x1).bind fun y2=>
some y2
else
(if(decide (a0.1=8))then
(idx a2.2.2.1 a0.2).bind fun x3=>
(M.dg N x3).bind fun y4=>
some y4
else
(if(decide (a0.1=33))then
(idx a2.2.2.2.2.2 a0.2).bind fun x5=>
((idx a1 0).bind fun x7=>
(M.jU N x7 x5.2.1).bind fun y8=>
(if y8 then
(if(decide (1<=x5.2.2.1.1))then
some (decide (x5.2.2.1.1<=6))
else
some false)
else
some false):Option Bool).bind fun j6=>
some j6
else
(if(decide (a0.1=34))then
(idx a2.2.2.2.2.2 (ai3.wrap (ajo a0.2 8))).bind fun x9=>
((idx a1 0).bind fun ow=>
(if(decide (ow.1=3))then
(if(nh aa x9.2.1 (3,0))then
some (nh aa x9.2.2.1 (4,0))
else
some false)
else
some false):Option Bool).bind fun qg=>
some qg
else
((if(decide (a0.1=36))then
some (decide (a0.1=36))
else
(if(decide (a0.1=37))then
some (decide (a0.1=37))
else
(if(decide (a0.1=38))then
some (decide (a0.1=38))
else
some (decide (a0.1=39))))):Option Bool).bind fun Aj=>
(if Aj then
(idx a2.2.2.2.2.1 a0.2).bind fun pU=>
(M.fX N a0.1 pU).bind fun qV=>
some qV
else
(if(decide ((a1.length:Int)=1))then
(idx a1 0).bind fun D5=>
(M.gB N a0.1 D5.1).bind fun IJ=>
some IJ
else
(if(decide ((a1.length:Int)=2))then
(idx a1 0).bind fun OE=>
(idx a1 1).bind fun CO=>
(M.fY N a0.1 OE CO).bind fun RW=>
some RW
else
(if(decide ((a1.length:Int)=3))then
((idx a1 0).bind fun x21=>
(if(decide (x21.1=1))then
(idx a1 1).bind fun TE=>
(idx a1 2).bind fun Ym=>
(M.ei N TE Ym).bind fun YR=>
some YR
else
some false):Option Bool).bind fun OF=>
some OF
else
some true))))))))
def ZN(N:Nat):bp:=⟨⟨[(0, .g aa),(1, .l (.slice af)),(2, .g eo)],[],[],0⟩,⟨[(0, .l .bool)],[],[],0⟩,fun(x:aa.den×(List af.den)×eo.den)=>M.fZ N x.1 x.2.1 x.2.2⟩
theorem ZO(N:Nat):aq Tryz.prog 163 (ZN N):=fw (en [ck (KH N),ck (T4 N),ck (ZG N),ck (ZI N),ck (ZM N),ck (T5 N)] false false) (N:=N) (.o (.two (.o (.two (.o (.o (.o (.o (.o (.two (.o (.meet ⟨[(6, .l .bool)],[],[],304⟩ .nil .nil)) (.o (.two (.o (.meet ⟨[(6, .l .bool)],[],[],352⟩ .nil .nil)) (.meet ⟨[(81, .l .bool)],[],[],208⟩ .nil .nil))))))))) .nil)) (.two (.o (.two (.o (.o (.o (.o (.o (.two (.meet ⟨[(6, .l .bool)],[],[],336⟩ .nil .nil) .nil)))))) .nil)) .nil))) Tryz.func163 (by kernel_rfl) fun x=>by kernel_rfl
def M.iz(N:Nat)(a0:aa.den)(a1:eo.den):Option (af.den×Int):=
(idx a1.2.2.2.2.1 a0.2).bind fun x1=>
((if(decide (a0.1=37))then
some (x1.1,(x1.2,1))
else
some (x1.1,(x1.2,0))):Option (af.den)).bind fun j2=>
((if(decide (a0.1=39))then
some (decide ((a1.2.2.2.1.length:Int)=0))
else
some false):Option Bool).bind fun j3=>
(if j3 then
some ((0,(0,0)),6)
else
bJ (J:=af.den) (R:=af.den×Int) (Loop (S:=Int×af.den) (X:=(af.den)⊕(af.den×Int)) (fun s5=>
(if(decide (s5.1<(a1.2.2.2.1.length:Int)))then
(idx a1.2.2.2.1 s5.1).bind fun x6=>
((if(decide ((x6.length:Int)<=a0.2))then
some true
else
(idx x6 a0.2).bind fun x8=>
some (decide (x8.1=0))):Option Bool).bind fun j7=>
(if j7 then
some (.inr (.inr ((0,(0,0)),6)))
else
(idx x6 a0.2).bind fun x9=>
(M.jU N x9 x1).bind fun ox=>
(if(!ox)then
some (.inr (.inr ((0,(0,0)),8)))
else
bJ (J:=af.den) (R:=(Int×af.den)⊕((af.den)⊕(af.den×Int))) ((if(decide (a0.1=36))then
(M.dg N (s5.2.1,(s5.2.2.1,ai3.wrap (s5.2.2.2+x9.2.2)))).bind fun pV=>
(if(!pV)then
some (.inr (.inr (.inr ((0,(0,0)),3))))
else
some (.inl (s5.2.1,(s5.2.2.1,ai3.wrap (s5.2.2.2+x9.2.2)))))
else
(if(decide (a0.1=37))then
some (.inl (s5.2.1,(s5.2.2.1,if x9.2.2<s5.2.2.2 then x9.2.2 else s5.2.2.2)))
else
(if(decide (a0.1=38))then
some (.inl (s5.2.1,(s5.2.2.1,if s5.2.2.2<x9.2.2 then x9.2.2 else s5.2.2.2)))
else
(if(decide (a0.1=39))then
((if(decide (s5.1=0))then
some true
else
some (decide (s5.2.2.2<x9.2.2))):Option Bool).bind fun II=>
(if II then
some (.inl x9)
else
some (.inl s5.2))
else
some (.inl s5.2)))))) fun CP=>
some (.inl (ai3.wrap (s5.1+1),CP))))
else
some (.inr (.inl s5.2)))) N (0,j2)) fun j4=>
some (j4,0))
def ZP(N:Nat):bp:=⟨⟨[(0, .g aa),(1, .g eo)],[],[],0⟩,⟨[(0, .g af),(1, .l ae)],[],[],0⟩,fun(x:aa.den×eo.den)=>M.iz N x.1 x.2⟩
theorem ZQ(N:Nat):aq Tryz.prog 223 (ZP N):=fw (en [ck (KH N),ck (T4 N)] false false) (N:=N) (.o (.o (.o (.meet ⟨[],[(272, .box 67 (.leaf af))],[],305⟩ .nil (.two (.meet ⟨[(34, .l .bool)],[],[],305⟩ .nil .nil) (.join ⟨[],[(272, .box 67 (.leaf af))],[],306⟩ (.o (.two (.loop ⟨[(39, .l ae)],[(272, .box 67 (.leaf af))],[],370⟩ (.o (.o (.two (.two (.o (.two (.meet ⟨[(57, .l .bool)],[],[],466⟩ .nil .nil) (.o (.o (.o (.join ⟨[],[(272, .box 67 (.leaf af))],[],675⟩ (.o (.o (.o (.o (.o (.o (.o (.two (.meet ⟨[(109, .l .bool)],[],[],802⟩ .nil .nil) .nil)))))))) .nil)))))) .nil) .nil)))) .nil)) .nil)))))) Tryz.func223 (by kernel_rfl) fun x=>by kernel_rfl
def M.ji(N:Nat)(a0:dy.den)(a1:Int)(a2:Int):Option (Bool×Int×Int):=
((M.bn N a0.1 a1).bind fun y2=>
(if y2 then
(if(decide (a0.2.1<=a2))then
some (decide (a2<a0.2.2.1))
else
some false)
else
some false):Option Bool).bind fun j1=>
some (j1,a1,a2)
def QH(N:Nat):bp:=⟨⟨[(0, .g dy),(1, .ptr 0 [] 0),(2, .ptr 1 [] 0)],[(0, .box 3 (.leaf ae)),(1, .box 3 (.leaf ae))],[],2⟩,⟨[(0, .l .bool)],[(0, .box 3 (.leaf ae)),(1, .box 3 (.leaf ae))],[],4⟩,fun(x:dy.den×Int×Int)=>M.ji N x.1 x.2.1 x.2.2⟩
theorem QI(N:Nat):aq Tryz.prog 250 (QH N):=fw (en [ck (RZ N)] false false) (N:=N) (.o (.meet ⟨[(4, .l .bool)],[],[],34⟩ .nil .nil)) Tryz.func250 (by kernel_rfl) fun x=>by kernel_rfl
def M.cM(N:Nat)(a0:List dy.den)(a1:Int)(a2:Int):Option (Int×Bool×Int×Int):=
Loop (S:=Int×Int×Int) (X:=Int×Bool×Int×Int) (fun s1=>
(if(decide (s1.1<(a0.length:Int)))then
(idx a0 s1.1).bind fun x2=>
(M.ji N x2 s1.2.1 s1.2.2).bind fun y3=>
(if y3.1 then
some (.inr (s1.1,true,y3.2.1,y3.2.2))
else
some (.inl (ai3.wrap (s1.1+1),y3.2.1,y3.2.2)))
else
some (.inr (0,false,s1.2.1,s1.2.2)))) N (0,a1,a2)
def QJ(N:Nat):bp:=⟨⟨[(0, .l (.slice dy)),(1, .fn 250 [(0,[],0),(1,[],0)])],[(0, .box 3 (.leaf ae)),(1, .box 3 (.leaf ae))],[],2⟩,⟨[(0, .l ae),(1, .l .bool)],[(0, .box 3 (.leaf ae)),(1, .box 3 (.leaf ae))],[],4⟩,fun(x:(List dy.den)×Int×Int)=>M.cM N x.1 x.2.1 x.2.2⟩
theorem QK(N:Nat):aq Tryz.prog 107 (QJ N):=fw (en [ck (QI N)] false false) (N:=N) (.o (.two (.o (.two (.loop ⟨[(10, .l ae)],[(0, .box 3 (.leaf ae)),(1, .box 3 (.leaf ae))],[],84⟩ .nil) .nil)) .nil)) Tryz.func107 (by kernel_rfl) fun x=>by kernel_rfl
def M.lG(N:Nat)(a0:ax.den)(a1:Int)(a2:Int):Option (Int×Bool):=
(M.cM N a0.2.2.2 a1 a2).bind fun y1=>
some (y1.1,y1.2.1)
def ZR(N:Nat):bp:=⟨⟨[(0, .g ax),(1, .l ae),(2, .l ae)],[],[],0⟩,⟨[(0, .l ae),(1, .l .bool)],[],[],0⟩,fun(x:ax.den×Int×Int)=>M.lG N x.1 x.2.1 x.2.2⟩
theorem ZS(N:Nat):aq Tryz.prog 224 (ZR N):=fw (en [ck (QK N)] false false) (N:=N) .nil Tryz.func224 (by kernel_rfl) fun x=>by kernel_rfl
def M.dV(N:Nat)(a0:Int)(a1:Int):Option (Int×Int):=
some (ajd.wrap ((ajd.wrap ((ajd.wrap ((fU .u64 a0 32)*(fU .u64 a1 32)))+(fU .u64 (ajd.wrap ((ajd.wrap ((fU .u64 a0 32)*(fb .and .u64 a1 4294967295)))+(fU .u64 (ajd.wrap ((fb .and .u64 a0 4294967295)*(fb .and .u64 a1 4294967295))) 32))) 32)))+(fU .u64 (ajd.wrap ((fb .and .u64 (ajd.wrap ((ajd.wrap ((fU .u64 a0 32)*(fb .and .u64 a1 4294967295)))+(fU .u64 (ajd.wrap ((fb .and .u64 a0 4294967295)*(fb .and .u64 a1 4294967295))) 32))) 4294967295)+(ajd.wrap ((fb .and .u64 a0 4294967295)*(fU .u64 a1 32))))) 32)),ajd.wrap (a0*a1))
def ZT(N:Nat):bp:=⟨⟨[(0, .l (.int .u64)),(1, .l (.int .u64))],[],[],0⟩,⟨[(0, .l (.int .u64)),(1, .l (.int .u64))],[],[],0⟩,fun(x:Int×Int)=>M.dV N x.1 x.2⟩
theorem Nd(N:Nat):aq Tryz.prog 269 (ZT N):=fw (en [] false false) (N:=N) .nil Tryz.func269 (by kernel_rfl) fun x=>by kernel_rfl
def M.iY(N:Nat)(a0:Int):Option Int:=
((if(decide (4294967296<=a0))then
some (fU .u64 a0 32,32)
else
some (a0,0)):Option (Int×Int)).bind fun j1=>
((if(decide (65536<=j1.1))then
some (fU .u64 j1.1 16,ai3.wrap (j1.2+16))
else
some (j1.1,j1.2)):Option (Int×Int)).bind fun j2=>
((if(decide (256<=j2.1))then
some (fU .u64 j2.1 8,ai3.wrap (j2.2+8))
else
some (j2.1,j2.2)):Option (Int×Int)).bind fun j3=>
(kF (⟨#[0,1,2,2,3,3,3,3,4,4,4,4,4,4,4,4,5,5,5,5,5,5,5,5,5,5,5,5,5,5,5,5,6,6,6,6,6,6,6,6,6,6,6,6,6,6,6,6,6,6,6,6,6,6,6,6,6,6,6,6,6,6,6,6,7,7,7,7,7,7,7,7,7,7,7,7,7,7,7,7,7,7,7,7,7,7,7,7,7,7,7,7,7,7,7,7,7,7,7,7,7,7,7,7,7,7,7,7,7,7,7,7,7,7,7,7,7,7,7,7,7,7,7,7,7,7,7,7,8,8,8,8,8,8,8,8,8,8,8,8,8,8,8,8,8,8,8,8,8,8,8,8,8,8,8,8,8,8,8,8,8,8,8,8,8,8,8,8,8,8,8,8,8,8,8,8,8,8,8,8,8,8,8,8,8,8,8,8,8,8,8,8,8,8,8,8,8,8,8,8,8,8,8,8,8,8,8,8,8,8,8,8,8,8,8,8,8,8,8,8,8,8,8,8,8,8,8,8,8,8,8,8,8,8,8,8,8,8,8,8,8,8,8,8,8,8,8,8,8,8,8,8,8,8,8,8]⟩:ByteArray) (IntKind.u8.wrap j3.1)).bind fun x4=>
some (ai3.wrap (j3.2+(ai3.wrap x4)))
def ZU(N:Nat):bp:=⟨⟨[(0, .l (.int .u64))],[],[],0⟩,⟨[(0, .l ae)],[],[],0⟩,fun(x:Int)=>M.iY N x⟩
theorem ZV(N:Nat):aq Tryz.prog 104 (ZU N):=fw (en [] false false) (N:=N) (.o (.meet ⟨[(0, .l (.int .u64)),(2, .l ae)],[],[],16⟩ .nil (.meet ⟨[(0, .l (.int .u64)),(2, .l ae)],[],[],16⟩ .nil (.meet ⟨[(0, .l (.int .u64)),(2, .l ae)],[],[],16⟩ .nil .nil)))) Tryz.func104 (by kernel_rfl) fun x=>by kernel_rfl
def M.fx(N:Nat)(a0:Int):Option Int:=
(M.iY N a0).bind fun y1=>
some (ai3.wrap (64-y1))
def ZW(N:Nat):bp:=⟨⟨[(0, .l (.int .u64))],[],[],0⟩,⟨[(0, .l ae)],[],[],0⟩,fun(x:Int)=>M.fx N x⟩
theorem ZX(N:Nat):aq Tryz.prog 310 (ZW N):=fw (en [ck (ZV N)] false false) (N:=N) .nil Tryz.func310 (by kernel_rfl) fun x=>by kernel_rfl
def M.dm(N:Nat)(a0:Int)(a1:Int)(a2:Int):Option (Int×Int):=
(if(decide (a2=0))then
none
else
(if(decide (a2<=a0))then
none
else
(if(decide (a0=0))then
(yF a1 a2).bind fun x1=>
(GG a1 a2).bind fun x2=>
some (ajd.wrap x1,x2)
else
(M.fx N a2).bind fun y3=>
(GD .u64 a2 (ajd.wrap y3)).bind fun x4=>
(GD .u64 a0 (ajd.wrap y3)).bind fun x5=>
(GF .u64 a1 (ajd.wrap (64-(ajd.wrap y3)))).bind fun x6=>
(GD .u64 a1 (ajd.wrap y3)).bind fun x7=>
(yF (fb .or .u64 x5 x6) (fU .u64 x4 32)).bind fun x8=>
((Loop (S:=Int×Int) (X:=Int) (fun qE=>
((if(decide (4294967296<=qE.1))then
some true
else
some (decide ((ajd.wrap ((ajd.wrap (4294967296*qE.2))+(fU .u64 x7 32)))<(ajd.wrap (qE.1*(fb .and .u64 x4 4294967295)))))):Option Bool).bind fun Aj=>
(if Aj then
(if(decide (4294967296<=(ajd.wrap (qE.2+(fU .u64 x4 32)))))then
some (.inr (ajd.wrap (qE.1-1)))
else
some (.inl (ajd.wrap (qE.1-1),ajd.wrap (qE.2+(fU .u64 x4 32)))))
else
some (.inr qE.1))) N (ajd.wrap x8,ajd.wrap ((fb .or .u64 x5 x6)-(ajd.wrap ((ajd.wrap x8)*(fU .u64 x4 32))))):Option Int).bind fun qg=>
some qg:Option Int).bind fun j9=>
(yF (ajd.wrap ((ajd.wrap ((ajd.wrap ((fb .or .u64 x5 x6)*4294967296))+(fU .u64 x7 32)))-(ajd.wrap (j9*x4)))) (fU .u64 x4 32)).bind fun pU=>
((Loop (S:=Int×Int) (X:=Int) (fun FC=>
((if(decide (4294967296<=FC.2))then
some true
else
some (decide ((ajd.wrap ((ajd.wrap (4294967296*FC.1))+(fb .and .u64 x7 4294967295)))<(ajd.wrap (FC.2*(fb .and .u64 x4 4294967295)))))):Option Bool).bind fun R0=>
(if R0 then
(if(decide (4294967296<=(ajd.wrap (FC.1+(fU .u64 x4 32)))))then
some (.inr (ajd.wrap (FC.2-1)))
else
some (.inl (ajd.wrap (FC.1+(fU .u64 x4 32)),ajd.wrap (FC.2-1))))
else
some (.inr FC.2))) N (ajd.wrap ((ajd.wrap ((ajd.wrap ((ajd.wrap ((fb .or .u64 x5 x6)*4294967296))+(fU .u64 x7 32)))-(ajd.wrap (j9*x4))))-(ajd.wrap ((ajd.wrap pU)*(fU .u64 x4 32)))),ajd.wrap pU):Option Int).bind fun OD=>
some OD:Option Int).bind fun FB=>
(GF .u64 (ajd.wrap ((ajd.wrap ((ajd.wrap ((ajd.wrap ((ajd.wrap ((ajd.wrap ((fb .or .u64 x5 x6)*4294967296))+(fU .u64 x7 32)))-(ajd.wrap (j9*x4))))*4294967296))+(fb .and .u64 x7 4294967295)))-(ajd.wrap (FB*x4)))) (ajd.wrap y3)).bind fun CO=>
some (ajd.wrap ((ajd.wrap (j9*4294967296))+FB),CO))))
def ZY(N:Nat):bp:=⟨⟨[(0, .l (.int .u64)),(1, .l (.int .u64)),(2, .l (.int .u64))],[],[],0⟩,⟨[(0, .l (.int .u64)),(1, .l (.int .u64))],[],[],0⟩,fun(x:Int×Int×Int)=>M.dm N x.1 x.2.1 x.2.2⟩
theorem QL(N:Nat):aq Tryz.prog 270 (ZY N):=fw (en [ck (ZX N)] false false) (N:=N) (.o (.o (.o (.o (.o (.o (.o (.o (.o (.o (.o (.o (.o (.o (.meet ⟨[(15, .l (.int .u64))],[],[],832⟩ (.meet ⟨[(15, .l (.int .u64))],[],[],832⟩ (.loop ⟨[(15, .l (.int .u64)),(16, .l (.int .u64))],[],[],832⟩ (.two (.meet ⟨[(78, .l .bool)],[],[],832⟩ .nil .nil) .nil)) .nil) (.o (.o (.o (.meet ⟨[(18, .l (.int .u64))],[],[],1136⟩ (.meet ⟨[(18, .l (.int .u64))],[],[],1136⟩ (.loop ⟨[(16, .l (.int .u64)),(18, .l (.int .u64))],[],[],1136⟩ (.two (.meet ⟨[(113, .l .bool)],[],[],1136⟩ .nil .nil) .nil)) .nil) .nil))))))))))))))))))) Tryz.func270 (by kernel_rfl) fun x=>by kernel_rfl
def M.ga(N:Nat)(a0:Int)(a1:Int):Option (Int×Int×Bool):=
((if(decide (a1<0))then
some (ajd.wrap (0-(ajd.wrap a1)))
else
some (ajd.wrap a1)):Option Int).bind fun j1=>
(M.dV N (ajd.wrap a0) j1).bind fun y2=>
(if(decide (1000000<=y2.1))then
some (0,0,false)
else
(M.dm N y2.1 y2.2 1000000).bind fun y3=>
(if(decide (1000000000000000<y3.1))then
some (0,0,false)
else
(if(decide (a1<0))then
some (ai3.wrap (0-(ai3.wrap y3.1)),ai3.wrap (0-(ai3.wrap y3.2)),true)
else
some (ai3.wrap y3.1,ai3.wrap y3.2,true))))
def ZZ(N:Nat):bp:=⟨⟨[(0, .l ae),(1, .l ae)],[],[],0⟩,⟨[(0, .l ae),(1, .l ae),(2, .l .bool)],[],[],0⟩,fun(x:Int×Int)=>M.ga N x.1 x.2⟩
theorem Z0(N:Nat):aq Tryz.prog 251 (ZZ N):=fw (en [ck (Nd N),ck (QL N)] false false) (N:=N) (.o (.o (.meet ⟨[(7, .l (.int .u64))],[],[],96⟩ .nil .nil))) Tryz.func251 (by kernel_rfl) fun x=>by kernel_rfl
def M.e8(N:Nat)(a0:Int):Option Bool:=
((if(decide (0<=a0))then
some (decide (a0<=5))
else
some false):Option Bool).bind fun j1=>
some j1
def Z1(N:Nat):bp:=⟨⟨[(0, .l ae)],[],[],0⟩,⟨[(0, .l .bool)],[],[],0⟩,fun(x:Int)=>M.e8 N x⟩
theorem QM(N:Nat):aq Tryz.prog 311 (Z1 N):=fw (en [] false false) (N:=N) (.o (.meet ⟨[(2, .l .bool)],[],[],16⟩ .nil .nil)) Tryz.func311 (by kernel_rfl) fun x=>by kernel_rfl
def M.dF(N:Nat)(a0:Int)(a1:Int):Option Bool:=
((if(decide (a1<a0))then
some true
else
some (decide (a0<(ai3.wrap (0-a1))))):Option Bool).bind fun j1=>
some j1
def Z2(N:Nat):bp:=⟨⟨[(0, .l ae),(1, .l ae)],[],[],0⟩,⟨[(0, .l .bool)],[],[],0⟩,fun(x:Int×Int)=>M.dF N x.1 x.2⟩
theorem QN(N:Nat):aq Tryz.prog 312 (Z2 N):=fw (en [] false false) (N:=N) (.o (.meet ⟨[(4, .l .bool)],[],[],16⟩ .nil .nil)) Tryz.func312 (by kernel_rfl) fun x=>by kernel_rfl
def M.dp(N:Nat)(a0:Int):Option Int:=
(if(decide (a0<0))then
some (ajd.wrap (0-(ajd.wrap a0)))
else
some (ajd.wrap a0))
def Z3(N:Nat):bp:=⟨⟨[(0, .l ae)],[],[],0⟩,⟨[(0, .l (.int .u64))],[],[],0⟩,fun(x:Int)=>M.dp N x⟩
theorem T6(N:Nat):aq Tryz.prog 313 (Z3 N):=fw (en [] false false) (N:=N) .nil Tryz.func313 (by kernel_rfl) fun x=>by kernel_rfl
def M.dM(N:Nat)(a0:Int)(a1:Int)(a2:Int)(a3:Bool)(a4:Int):Option Int:=
(if(decide (a1=0))then
some a0
else
((if(decide (a4=0))then
some a3
else
(if(decide (a4=1))then
some (!a3)
else
(if(decide (a4=3))then
some true
else
(if(decide (a4=4))then
some (decide ((ajd.wrap (a2-a1))<=a1))
else
(if(decide (a4=5))then
(if(decide ((ajd.wrap (a2-a1))<a1))then
some true
else
(if(decide (a1=(ajd.wrap (a2-a1))))then
some (decide ((ajL a0 2)=1))
else
some false))
else
some false))))):Option Bool).bind fun j1=>
((if j1 then
some (ajd.wrap (a0+1))
else
some a0):Option Int).bind fun j2=>
some j2)
def Z4(N:Nat):bp:=⟨⟨[(0, .l (.int .u64)),(1, .l (.int .u64)),(2, .l (.int .u64)),(3, .l .bool),(4, .l ae)],[],[],0⟩,⟨[(0, .l (.int .u64))],[],[],0⟩,fun(x:Int×Int×Int×Bool×Int)=>M.dM N x.1 x.2.1 x.2.2.1 x.2.2.2.1 x.2.2.2.2⟩
theorem T7(N:Nat):aq Tryz.prog 314 (Z4 N):=fw (en [] false false) (N:=N) (.o (.o (.o (.two (.o (.meet ⟨[(11, .l .bool)],[],[],80⟩ .nil .nil)) (.meet ⟨[(0, .l (.int .u64))],[],[],80⟩ .nil .nil))))) Tryz.func314 (by kernel_rfl) fun x=>by kernel_rfl
def M.jV(N:Nat)(a0:Int)(a1:Bool):Option Int:=
(if a1 then
some (ai3.wrap (0-(ai3.wrap a0)))
else
some (ai3.wrap a0))
def Z5(N:Nat):bp:=⟨⟨[(0, .l (.int .u64)),(1, .l .bool)],[],[],0⟩,⟨[(0, .l ae)],[],[],0⟩,fun(x:Int×Bool)=>M.jV N x.1 x.2⟩
theorem T8(N:Nat):aq Tryz.prog 315 (Z5 N):=fw (en [] false false) (N:=N) .nil Tryz.func315 (by kernel_rfl) fun x=>by kernel_rfl
def M.eJ(N:Nat)(a0:Int)(a1:Int)(a2:Int):Option (Int×Int):=
(M.e8 N a2).bind fun y1=>
(if(!y1)then
some (0,1)
else
(if(decide (a1=0))then
some (0,12)
else
((M.dF N a0 4611686018427387904).bind fun y3=>
(if y3 then
some true
else
(M.dF N a1 4611686018427387904).bind fun y4=>
some y4):Option Bool).bind fun j2=>
(if j2 then
some (0,3)
else
(M.dp N a0).bind fun y5=>
(M.dp N a1).bind fun y6=>
(yF y5 y6).bind fun x7=>
(GG y5 y6).bind fun x8=>
(M.dM N (ajd.wrap x7) x8 y6 (!decide ((decide (a0<0))=(decide (a1<0)))) a2).bind fun y9=>
(M.jV N y9 (!decide ((decide (a0<0))=(decide (a1<0))))).bind fun ox=>
some (ox,0))))
def Z6(N:Nat):bp:=⟨⟨[(0, .l ae),(1, .l ae),(2, .l ae)],[],[],0⟩,⟨[(0, .l ae),(1, .l ae)],[],[],0⟩,fun(x:Int×Int×Int)=>M.eJ N x.1 x.2.1 x.2.2⟩
theorem Nf(N:Nat):aq Tryz.prog 271 (Z6 N):=fw (en [ck (QM N),ck (QN N),ck (T6 N),ck (T7 N),ck (T8 N)] false false) (N:=N) (.o (.o (.o (.two (.meet ⟨[(22, .l .bool)],[],[],112⟩ .nil .nil) .nil)))) Tryz.func271 (by kernel_rfl) fun x=>by kernel_rfl
def M.hZ(N:Nat)(a0:Int)(a1:Int)(a2:Int):Option (Int×Int):=
((if(decide ((ai3.wrap (a0+(ai3.wrap (ajo a1 1000000))))<(-2000000000000000)))then
some true
else
some (decide (2000000000000000<(ai3.wrap (a0+(ai3.wrap (ajo a1 1000000))))))):Option Bool).bind fun j1=>
(if j1 then
some (0,3)
else
((if(decide (1<(ai3.wrap (a0+(ai3.wrap (ajo a1 1000000))))))then
some (ai3.wrap ((ajL (ai3.wrap (a0+(ai3.wrap (ajo a1 1000000)))) 2)+2))
else
(if(decide ((ai3.wrap (a0+(ai3.wrap (ajo a1 1000000))))<(-1)))then
some (ai3.wrap ((ajL (ai3.wrap (a0+(ai3.wrap (ajo a1 1000000)))) 2)-2))
else
some (ajL (ai3.wrap (a0+(ai3.wrap (ajo a1 1000000)))) 2))):Option Int).bind fun j2=>
(M.eJ N (ai3.wrap ((ai3.wrap (j2*1000000))+(ajL a1 1000000))) 1000000 a2).bind fun y3=>
(if(!decide (y3.2=0))then
some (0,y3.2)
else
((if(decide ((ai3.wrap ((ai3.wrap ((ai3.wrap (a0+(ai3.wrap (ajo a1 1000000))))-j2))+y3.1))<(-1000000000000000)))then
some true
else
some (decide (1000000000000000<(ai3.wrap ((ai3.wrap ((ai3.wrap (a0+(ai3.wrap (ajo a1 1000000))))-j2))+y3.1))))):Option Bool).bind fun j4=>
(if j4 then
some (0,3)
else
some (ai3.wrap ((ai3.wrap ((ai3.wrap (a0+(ai3.wrap (ajo a1 1000000))))-j2))+y3.1),0))))
def Z7(N:Nat):bp:=⟨⟨[(0, .l ae),(1, .l ae),(2, .l ae)],[],[],0⟩,⟨[(0, .l ae),(1, .l ae)],[],[],0⟩,fun(x:Int×Int×Int)=>M.hZ N x.1 x.2.1 x.2.2⟩
theorem Z8(N:Nat):aq Tryz.prog 252 (Z7 N):=fw (en [ck (Nf N)] false false) (N:=N) (.o (.o (.o (.two (.meet ⟨[(23, .l .bool)],[],[],160⟩ .nil .nil) (.o (.two (.meet ⟨[(8, .l ae)],[],[],208⟩ .nil .nil) (.o (.o (.o (.two (.meet ⟨[(58, .l .bool)],[],[],512⟩ .nil .nil) .nil)))))))))) Tryz.func252 (by kernel_rfl) fun x=>by kernel_rfl
def M.jW(N:Nat)(a0:ax.den)(a1:Int)(a2:Int)(a3:Int):Option (Int×Int):=
((if(decide (a3<0))then
some true
else
some (decide (5<a3))):Option Bool).bind fun j1=>
(if j1 then
some (0,1)
else
((if(!(nh aa a0.2.1 (3,0)))then
some true
else
some (!(nh aa a0.2.2.1 (4,0)))):Option Bool).bind fun j2=>
(if j2 then
some (0,8)
else
((if(decide (a2<(-1000000000000000)))then
some true
else
some (decide (1000000000000000<a2))):Option Bool).bind fun j3=>
(if j3 then
some (0,3)
else
bJ (J:=Int×Int) (R:=Int×Int) (Loop (S:=Int×Int×Int) (X:=(Int×Int)⊕(Int×Int)) (fun s5=>
(if(decide (s5.2.2<(a0.2.2.2.length:Int)))then
bJ (J:=Int×Int) (R:=(Int×Int×Int)⊕((Int×Int)⊕(Int×Int))) ((idx a0.2.2.2 s5.2.2).bind fun x7=>
((M.bn N x7.1 a1).bind fun y9=>
(if(!y9)then
some true
else
some (decide ((if a2<x7.2.2.1 then a2 else x7.2.2.1)<=(if x7.2.1<0 then 0 else x7.2.1)))):Option Bool).bind fun j8=>
(if j8 then
some (.inl (s5.1,s5.2.1))
else
(M.ga N (ai3.wrap ((if a2<x7.2.2.1 then a2 else x7.2.2.1)-(if x7.2.1<0 then 0 else x7.2.1))) x7.2.2.2).bind fun ox=>
(if(!ox.2.2)then
some (.inr (.inr (.inr (0,3))))
else
some (.inl (ai3.wrap (s5.1+ox.1),ai3.wrap (s5.2.1+ox.2.1)))))) fun j6=>
some (.inl (j6.1,j6.2,ai3.wrap (s5.2.2+1)))
else
some (.inr (.inl (s5.1,s5.2.1))))) N (0,0,0)) fun j4=>
(M.hZ N j4.1 j4.2 a3).bind fun qh=>
some (qh.1,qh.2))))
def Z9(N:Nat):bp:=⟨⟨[(0, .g ax),(1, .l ae),(2, .l ae),(3, .l ae)],[],[],0⟩,⟨[(0, .l ae),(1, .l ae)],[],[],0⟩,fun(x:ax.den×Int×Int×Int)=>M.jW N x.1 x.2.1 x.2.2.1 x.2.2.2⟩
theorem aaa(N:Nat):aq Tryz.prog 225 (Z9 N):=fw (en [ck (RZ N),ck (Z0 N),ck (Z8 N)] false false) (N:=N) (.o (.two (.meet ⟨[(24, .l .bool)],[],[],48⟩ .nil .nil) (.two (.meet ⟨[(34, .l .bool)],[],[],48⟩ .nil .nil) (.two (.meet ⟨[(40, .l .bool)],[],[],48⟩ .nil .nil) (.o (.join ⟨[(10, .l ae),(11, .l ae)],[],[],80⟩ (.o (.two (.loop ⟨[(10, .l ae),(11, .l ae),(44, .l ae)],[],[],144⟩ (.o (.o (.two (.join ⟨[(10, .l ae),(11, .l ae)],[],[],160⟩ (.o (.o (.two (.meet ⟨[(64, .l .bool)],[],[],368⟩ .nil .nil) .nil))) .nil) .nil)))) .nil)) .nil)))))) Tryz.func225 (by kernel_rfl) fun x=>by kernel_rfl
def M.dW(N:Nat)(a0:Bool):Option (af.den):=
(if a0 then
some (1,(0,1))
else
some (1,(0,0)))
def aab(N:Nat):bp:=⟨⟨[(0, .l .bool)],[],[],0⟩,⟨[(0, .g af)],[],[],0⟩,fun(x:Bool)=>M.dW N x⟩
theorem T9(N:Nat):aq Tryz.prog 253 (aab N):=fw (en [] false false) (N:=N) .nil Tryz.func253 (by kernel_rfl) fun x=>by kernel_rfl
def M.jk(N:Nat)(a0:Int):Option Bool:=
((if(decide (0<=a0))then
some (decide (a0<=109572))
else
some false):Option Bool).bind fun j1=>
some j1
def aac(N:Nat):bp:=⟨⟨[(0, .l ae)],[],[],0⟩,⟨[(0, .l .bool)],[],[],0⟩,fun(x:Int)=>M.jk N x⟩
theorem QO(N:Nat):aq Tryz.prog 272 (aac N):=fw (en [] false false) (N:=N) (.o (.meet ⟨[(2, .l .bool)],[],[],16⟩ .nil .nil)) Tryz.func272 (by kernel_rfl) fun x=>by kernel_rfl
def M.jX(N:Nat)(a0:Int):Option Int:=
some (ai3.wrap ((ai3.wrap ((ai3.wrap (ajo a0 4))-(ai3.wrap (ajo a0 100))))+(ai3.wrap (ajo a0 400))))
def aad(N:Nat):bp:=⟨⟨[(0, .l ae)],[],[],0⟩,⟨[(0, .l ae)],[],[],0⟩,fun(x:Int)=>M.jX N x⟩
theorem aae(N:Nat):aq Tryz.prog 316 (aad N):=fw (en [] false false) (N:=N) .nil Tryz.func316 (by kernel_rfl) fun x=>by kernel_rfl
def M.eK(N:Nat)(a0:Int):Option Int:=
(M.jX N (ai3.wrap (a0-1))).bind fun y1=>
(M.jX N 1899).bind fun y2=>
some (ai3.wrap ((ai3.wrap ((ai3.wrap ((ai3.wrap (a0-1900))*365))+y1))-y2))
def aaf(N:Nat):bp:=⟨⟨[(0, .l ae)],[],[],0⟩,⟨[(0, .l ae)],[],[],0⟩,fun(x:Int)=>M.eK N x⟩
theorem Ua(N:Nat):aq Tryz.prog 273 (aaf N):=fw (en [ck (aae N)] false false) (N:=N) .nil Tryz.func273 (by kernel_rfl) fun x=>by kernel_rfl
def M.oR(N:Nat)(a0:Int):Option Bool:=
((if(decide ((ajL a0 4)=0))then
(if(!decide ((ajL a0 100)=0))then
some true
else
some (decide ((ajL a0 400)=0)))
else
some false):Option Bool).bind fun j1=>
some j1
def aag(N:Nat):bp:=⟨⟨[(0, .l ae)],[],[],0⟩,⟨[(0, .l .bool)],[],[],0⟩,fun(x:Int)=>M.oR N x⟩
theorem aah(N:Nat):aq Tryz.prog 317 (aag N):=fw (en [] false false) (N:=N) (.o (.meet ⟨[(2, .l .bool)],[],[],16⟩ .nil .nil)) Tryz.func317 (by kernel_rfl) fun x=>by kernel_rfl
def M.dA(N:Nat)(a0:Int)(a1:Int):Option Int:=
((if(decide (a1<1))then
some true
else
some (decide (12<a1))):Option Bool).bind fun j1=>
(if j1 then
some 0
else
((if(decide (a1=2))then
(M.oR N a0).bind fun y3=>
some y3
else
some false):Option Bool).bind fun j2=>
(if j2 then
some 29
else
(idx ([31,28,31,30,31,30,31,31,30,31,30,31]:List Int) (ai3.wrap (a1-1))).bind fun x4=>
some x4))
def aai(N:Nat):bp:=⟨⟨[(0, .l ae),(1, .l ae)],[],[],0⟩,⟨[(0, .l ae)],[],[],0⟩,fun(x:Int×Int)=>M.dA N x.1 x.2⟩
theorem QP(N:Nat):aq Tryz.prog 274 (aai N):=fw (en [ck (aah N)] false false) (N:=N) (.o (.two (.meet ⟨[(10, .l .bool)],[],[],16⟩ .nil .nil) (.two (.meet ⟨[(16, .l .bool)],[],[],16⟩ .nil .nil) .nil))) Tryz.func274 (by kernel_rfl) fun x=>by kernel_rfl
def M.jm(N:Nat)(a0:Int):Option (Int×Int×Int):=
(M.jk N a0).bind fun y1=>
(if(!y1)then
some (0,0,0)
else
(Loop (S:=Int) (X:=Int) (fun s3=>
(M.eK N (ai3.wrap (s3+1))).bind fun y4=>
(if(decide (y4<=a0))then
some (.inl (ai3.wrap (s3+1)))
else
some (.inr s3))) N (ai3.wrap (1900+(ai3.wrap (ajo a0 366)))):Option Int).bind fun j2=>
(M.eK N j2).bind fun y5=>
Loop (S:=Int×Int) (X:=Int×Int×Int) (fun s6=>
(if(decide (s6.2<12))then
(M.dA N j2 (ai3.wrap (s6.2+1))).bind fun y7=>
(if(decide (s6.1<y7))then
some (.inr (j2,ai3.wrap (s6.2+1),ai3.wrap (s6.1+1)))
else
some (.inl (ai3.wrap (s6.1-y7),ai3.wrap (s6.2+1))))
else
some (.inr (0,0,0)))) N (ai3.wrap (a0-y5),0))
def aaj(N:Nat):bp:=⟨⟨[(0, .l ae)],[],[],0⟩,⟨[(0, .l ae),(1, .l ae),(2, .l ae)],[],[],0⟩,fun(x:Int)=>M.jm N x⟩
theorem QR(N:Nat):aq Tryz.prog 254 (aaj N):=fw (en [ck (QO N),ck (Ua N),ck (QP N)] false false) (N:=N) (.o (.o (.o (.meet ⟨[(5, .l ae)],[],[],160⟩ (.two (.loop ⟨[(5, .l ae)],[],[],160⟩ .nil) .nil) (.o (.two (.o (.two (.loop ⟨[(6, .l ae),(26, .l ae)],[],[],256⟩ .nil) .nil)) .nil)))))) Tryz.func254 (by kernel_rfl) fun x=>by kernel_rfl
def M.n4(N:Nat)(a0:Int)(a1:af.den):Option (af.den):=
(if(decide (a0=10))then
some (a1.1,(0,ai3.wrap (0-a1.2.2)))
else
(if(decide (a0=25))then
(M.dW N (decide (a1.2.2=0))).bind fun y1=>
some y1
else
(M.jm N a1.2.2).bind fun y2=>
(if(decide (a0=31))then
some (2,(0,y2.1))
else
some (2,(0,y2.2.1)))))
def aak(N:Nat):bp:=⟨⟨[(0, .l ae),(1, .g af)],[],[],0⟩,⟨[(0, .g af)],[],[],0⟩,fun(x:Int×af.den)=>M.n4 N x.1 x.2⟩
theorem aal(N:Nat):aq Tryz.prog 226 (aak N):=fw (en [ck (T9 N),ck (QR N)] false false) (N:=N) .nil Tryz.func226 (by kernel_rfl) fun x=>by kernel_rfl
def M.lH(N:Nat)(a0:Int)(a1:Int):Option (Int×Int):=
(M.dV N (ajd.wrap (if a0<(ai3.wrap (0-a0))then(ai3.wrap (0-a0))else a0)) (ajd.wrap (if a1<(ai3.wrap (0-a1))then(ai3.wrap (0-a1))else a1))).bind fun y1=>
((if(!decide (y1.1=0))then
some true
else
some (decide (1000000000000000<y1.2))):Option Bool).bind fun j2=>
(if j2 then
some (0,3)
else
(if(!decide ((decide (a0<0))=(decide (a1<0))))then
some (ai3.wrap (0-(ai3.wrap y1.2)),0)
else
some (ai3.wrap y1.2,0)))
def aam(N:Nat):bp:=⟨⟨[(0, .l ae),(1, .l ae)],[],[],0⟩,⟨[(0, .l ae),(1, .l ae)],[],[],0⟩,fun(x:Int×Int)=>M.lH N x.1 x.2⟩
theorem aan(N:Nat):aq Tryz.prog 275 (aam N):=fw (en [ck (Nd N)] false false) (N:=N) (.o (.o (.two (.meet ⟨[(27, .l .bool)],[],[],288⟩ .nil .nil) .nil))) Tryz.func275 (by kernel_rfl) fun x=>by kernel_rfl
def M.lI(N:Nat)(a0:Int)(a1:Int)(a2:Int)(a3:Int):Option (Int×Int):=
(M.e8 N a3).bind fun y1=>
(if(!y1)then
some (0,1)
else
(if(decide (a2=0))then
some (0,12)
else
((M.dF N a0 1000000000000000).bind fun y3=>
(if y3 then
some true
else
(M.dF N a1 1000000000).bind fun y4=>
(if y4 then
some true
else
(M.dF N a2 1000000000).bind fun y5=>
some y5)):Option Bool).bind fun j2=>
(if j2 then
some (0,3)
else
(M.dp N a0).bind fun y6=>
(M.dp N a1).bind fun y7=>
(M.dV N y6 y7).bind fun y8=>
(M.dp N a2).bind fun y9=>
(if(decide (y9<=y8.1))then
some (0,3)
else
(M.dm N y8.1 y8.2 y9).bind fun ox=>
(if(decide (1000000000000000<ox.1))then
some (0,3)
else
(M.dM N ox.1 ox.2 y9 (!decide ((!decide ((decide (a0<0))=(decide (a1<0))))=(decide (a2<0)))) a3).bind fun qh=>
(if(decide (1000000000000000<qh))then
some (0,3)
else
(M.jV N qh (!decide ((!decide ((decide (a0<0))=(decide (a1<0))))=(decide (a2<0))))).bind fun pV=>
some (pV,0)))))))
def aao(N:Nat):bp:=⟨⟨[(0, .l ae),(1, .l ae),(2, .l ae),(3, .l ae)],[],[],0⟩,⟨[(0, .l ae),(1, .l ae)],[],[],0⟩,fun(x:Int×Int×Int×Int)=>M.lI N x.1 x.2.1 x.2.2.1 x.2.2.2⟩
theorem aap(N:Nat):aq Tryz.prog 318 (aao N):=fw (en [ck (Nd N),ck (QL N),ck (QM N),ck (QN N),ck (T6 N),ck (T7 N),ck (T8 N)] false false) (N:=N) (.o (.o (.o (.two (.meet ⟨[(30, .l .bool)],[],[],112⟩ .nil .nil) .nil)))) Tryz.func318 (by kernel_rfl) fun x=>by kernel_rfl
def M.n5(N:Nat)(a0:Int)(a1:Int)(a2:Int):Option (Int×Int):=
(M.lI N a0 a1 1000000 a2).bind fun y1=>
some (y1.1,y1.2)
def aaq(N:Nat):bp:=⟨⟨[(0, .l ae),(1, .l ae),(2, .l ae)],[],[],0⟩,⟨[(0, .l ae),(1, .l ae)],[],[],0⟩,fun(x:Int×Int×Int)=>M.n5 N x.1 x.2.1 x.2.2⟩
theorem aar(N:Nat):aq Tryz.prog 276 (aaq N):=fw (en [ck (aap N)] false false) (N:=N) .nil Tryz.func276 (by kernel_rfl) fun x=>by kernel_rfl
def M.jY(N:Nat)(a0:Int):Option Bool:=
((if(decide (0<=a0))then
some (decide (a0<=5))
else
some false):Option Bool).bind fun j1=>
some j1
def aas(N:Nat):bp:=⟨⟨[(0, .l ae)],[],[],0⟩,⟨[(0, .l .bool)],[],[],0⟩,fun(x:Int)=>M.jY N x⟩
theorem Ub(N:Nat):aq Tryz.prog 319 (aas N):=fw (en [] false false) (N:=N) (.o (.meet ⟨[(2, .l .bool)],[],[],16⟩ .nil .nil)) Tryz.func319 (by kernel_rfl) fun x=>by kernel_rfl
def M.ic(N:Nat)(a0:Int)(a1:Int):Option Bool:=
((if(decide (a1<a0))then
some true
else
some (decide (a0<(ai3.wrap (0-a1))))):Option Bool).bind fun j1=>
some j1
def aat(N:Nat):bp:=⟨⟨[(0, .l ae),(1, .l ae)],[],[],0⟩,⟨[(0, .l .bool)],[],[],0⟩,fun(x:Int×Int)=>M.ic N x.1 x.2⟩
theorem Uc(N:Nat):aq Tryz.prog 320 (aat N):=fw (en [] false false) (N:=N) (.o (.meet ⟨[(4, .l .bool)],[],[],16⟩ .nil .nil)) Tryz.func320 (by kernel_rfl) fun x=>by kernel_rfl
def M.rH(N:Nat)(a0:Int)(a1:Int)(a2:Int):Option (Int×Int):=
(M.jY N a2).bind fun y1=>
(if(!y1)then
some (0,1)
else
((M.ic N a0 1000000000).bind fun y3=>
(if y3 then
some true
else
(M.ic N a1 1000000000).bind fun y4=>
some y4):Option Bool).bind fun j2=>
(if j2 then
some (0,3)
else
(M.eJ N (ai3.wrap (a0*a1)) 1000000 a2).bind fun y5=>
(if(!decide (y5.2=0))then
some (0,y5.2)
else
(M.ic N y5.1 1000000000).bind fun y6=>
(if y6 then
some (0,3)
else
some (y5.1,0)))))
def aau(N:Nat):bp:=⟨⟨[(0, .l ae),(1, .l ae),(2, .l ae)],[],[],0⟩,⟨[(0, .l ae),(1, .l ae)],[],[],0⟩,fun(x:Int×Int×Int)=>M.rH N x.1 x.2.1 x.2.2⟩
theorem aav(N:Nat):aq Tryz.prog 277 (aau N):=fw (en [ck (Nf N),ck (Ub N),ck (Uc N)] false false) (N:=N) (.o (.o (.two (.meet ⟨[(18, .l .bool)],[],[],80⟩ .nil .nil) .nil))) Tryz.func277 (by kernel_rfl) fun x=>by kernel_rfl
def M.kZ(N:Nat)(a0:Int)(a1:Int)(a2:Int):Option (Int×Int):=
(M.e8 N a2).bind fun y1=>
(if(!y1)then
some (0,1)
else
(if(decide (a1<1))then
some (0,12)
else
((M.dF N a0 1000000000000000).bind fun y3=>
(if y3 then
some true
else
some (decide (1000000000000000<a1))):Option Bool).bind fun j2=>
(if j2 then
some (0,3)
else
(M.eJ N a0 a1 a2).bind fun y4=>
(if(!decide (y4.2=0))then
some (0,y4.2)
else
(M.dF N (ai3.wrap (y4.1*a1)) 1000000000000000).bind fun y5=>
(if y5 then
some (0,3)
else
some (ai3.wrap (y4.1*a1),0))))))
def aaw(N:Nat):bp:=⟨⟨[(0, .l ae),(1, .l ae),(2, .l ae)],[],[],0⟩,⟨[(0, .l ae),(1, .l ae)],[],[],0⟩,fun(x:Int×Int×Int)=>M.kZ N x.1 x.2.1 x.2.2⟩
theorem aax(N:Nat):aq Tryz.prog 278 (aaw N):=fw (en [ck (Nf N),ck (QM N),ck (QN N)] false false) (N:=N) (.o (.o (.o (.two (.meet ⟨[(20, .l .bool)],[],[],112⟩ .nil .nil) .nil)))) Tryz.func278 (by kernel_rfl) fun x=>by kernel_rfl
def M.k6(N:Nat)(a0:Int)(a1:Int)(a2:Int)(a3:Bool)(a4:Int):Option Bool:=
(if(decide (a1=0))then
some false
else
(if(decide (a4=0))then
some a3
else
(if(decide (a4=1))then
some (!a3)
else
(if(decide (a4=3))then
some true
else
(if(decide (a4=4))then
some (decide ((ajd.wrap (a2-a1))<=a1))
else
(if(decide (a4=5))then
((if(decide ((ajd.wrap (a2-a1))<a1))then
some true
else
(if(decide (a1=(ajd.wrap (a2-a1))))then
some (decide ((ajL a0 2)=1))
else
some false)):Option Bool).bind fun j1=>
some j1
else
some false))))))
def aay(N:Nat):bp:=⟨⟨[(0, .l (.int .u64)),(1, .l (.int .u64)),(2, .l (.int .u64)),(3, .l .bool),(4, .l ae)],[],[],0⟩,⟨[(0, .l .bool)],[],[],0⟩,fun(x:Int×Int×Int×Bool×Int)=>M.k6 N x.1 x.2.1 x.2.2.1 x.2.2.2.1 x.2.2.2.2⟩
theorem aaz(N:Nat):aq Tryz.prog 321 (aay N):=fw (en [] false false) (N:=N) (.o (.o (.two (.o (.two (.o (.o (.o (.o (.o (.o (.o (.o (.o (.two (.meet ⟨[(10, .l .bool)],[],[],224⟩ .nil .nil) .nil)))))))))) .nil)) .nil))) Tryz.func321 (by kernel_rfl) fun x=>by kernel_rfl
def M.jZ(N:Nat)(a0:Int)(a1:Int)(a2:Int):Option (Int×Int):=
(M.jY N a2).bind fun y1=>
(if(!y1)then
some (0,1)
else
(if(decide (a1=0))then
some (0,12)
else
((M.ic N a0 1000000000000000).bind fun y3=>
(if y3 then
some true
else
(M.ic N a1 1000000000000000).bind fun y4=>
some y4):Option Bool).bind fun j2=>
(if j2 then
some (0,3)
else
(M.dV N (ajd.wrap (if a0<(ai3.wrap (0-a0))then(ai3.wrap (0-a0))else a0)) 1000000).bind fun y5=>
(if(decide ((ajd.wrap (if a1<(ai3.wrap (0-a1))then(ai3.wrap (0-a1))else a1))<=y5.1))then
some (0,3)
else
(M.dm N y5.1 y5.2 (ajd.wrap (if a1<(ai3.wrap (0-a1))then(ai3.wrap (0-a1))else a1))).bind fun y6=>
(if(decide (1000000000<y6.1))then
some (0,3)
else
((M.k6 N y6.1 y6.2 (ajd.wrap (if a1<(ai3.wrap (0-a1))then(ai3.wrap (0-a1))else a1)) (!decide ((decide (a0<0))=(decide (a1<0)))) a2).bind fun y8=>
(if y8 then
some (ai3.wrap ((ai3.wrap y6.1)+1))
else
some (ai3.wrap y6.1)):Option Int).bind fun j7=>
(if(decide (1000000000<j7))then
some (0,3)
else
((if(!decide ((decide (a0<0))=(decide (a1<0))))then
some (ai3.wrap (0-j7))
else
some j7):Option Int).bind fun j9=>
some (j9,0)))))))
def aaA(N:Nat):bp:=⟨⟨[(0, .l ae),(1, .l ae),(2, .l ae)],[],[],0⟩,⟨[(0, .l ae),(1, .l ae)],[],[],0⟩,fun(x:Int×Int×Int)=>M.jZ N x.1 x.2.1 x.2.2⟩
theorem aaB(N:Nat):aq Tryz.prog 279 (aaA N):=fw (en [ck (Nd N),ck (QL N),ck (Ub N),ck (Uc N),ck (aaz N)] false false) (N:=N) (.o (.o (.o (.two (.meet ⟨[(25, .l .bool)],[],[],112⟩ .nil .nil) (.o (.o (.o (.o (.o (.o (.o (.meet ⟨[(14, .l ae)],[],[],752⟩ .nil (.o (.meet ⟨[(14, .l ae)],[],[],784⟩ .nil .nil)))))))))))))) Tryz.func279 (by kernel_rfl) fun x=>by kernel_rfl
def M.mG(N:Nat)(a0:aa.den)(a1:af.den)(a2:af.den):Option (af.den×Int):=
((if(decide (a0.1=13))then
(M.lH N a1.2.2 a2.2.2).bind fun y2=>
some (y2.2,(a1.1,(0,y2.1)))
else
((if(decide (a0.1=14))then
some (decide (a1.1=3))
else
some false):Option Bool).bind fun j3=>
(if j3 then
(M.n5 N a1.2.2 a2.2.2 a0.2).bind fun y4=>
some (y4.2,(a1.1,(0,y4.1)))
else
(if(decide (a0.1=14))then
(M.rH N a1.2.2 a2.2.2 a0.2).bind fun y5=>
some (y5.2,(a1.1,(0,y5.1)))
else
(if(decide (a0.1=16))then
(M.kZ N a1.2.2 a2.2.2 a0.2).bind fun y6=>
some (y6.2,(a1.1,(0,y6.1)))
else
(if(decide (a2.1=2))then
(M.eJ N a1.2.2 a2.2.2 a0.2).bind fun y7=>
some (y7.2,(a1.1,(0,y7.1)))
else
(M.jZ N a1.2.2 a2.2.2 a0.2).bind fun y8=>
some (y8.2,(4,(0,y8.1)))))))):Option (Int×af.den)).bind fun j1=>
some (j1.2,j1.1)
def aaC(N:Nat):bp:=⟨⟨[(0, .g aa),(1, .g af),(2, .g af)],[],[],0⟩,⟨[(0, .g af),(1, .l ae)],[],[],0⟩,fun(x:aa.den×af.den×af.den)=>M.mG N x.1 x.2.1 x.2.2⟩
theorem aaD(N:Nat):aq Tryz.prog 255 (aaC N):=fw (en [ck (Nf N),ck (aan N),ck (aar N),ck (aav N),ck (aax N),ck (aaB N)] false false) (N:=N) (.o (.o (.two (.meet ⟨[(9, .l ae)],[(128, .box 67 (.leaf af))],[],177⟩ (.o (.o (.meet ⟨[(38, .l .bool)],[],[],240⟩ .nil .nil))) .nil) .nil))) Tryz.func255 (by kernel_rfl) fun x=>by kernel_rfl
def M.lJ(N:Nat)(a0:Int)(a1:Int)(a2:Int):Option (Int×Int):=
((if(decide (a0<1900))then
some true
else
(if(decide (2199<a0))then
some true
else
(if(decide (a1<1))then
some true
else
(if(decide (12<a1))then
some true
else
(if(decide (a2<1))then
some true
else
(M.dA N a0 a1).bind fun y2=>
some (decide (y2<a2))))))):Option Bool).bind fun j1=>
(if j1 then
some (0,3)
else
(M.eK N a0).bind fun y3=>
(Loop (S:=Int×Int) (X:=Int) (fun s5=>
(if(decide (s5.2<(ai3.wrap (a1-1))))then
(M.dA N a0 (ai3.wrap (s5.2+1))).bind fun y6=>
some (.inl (ai3.wrap (s5.1+y6),ai3.wrap (s5.2+1)))
else
some (.inr s5.1))) N (y3,0):Option Int).bind fun j4=>
some (ai3.wrap ((ai3.wrap (j4+a2))-1),0))
def aaE(N:Nat):bp:=⟨⟨[(0, .l ae),(1, .l ae),(2, .l ae)],[],[],0⟩,⟨[(0, .l ae),(1, .l ae)],[],[],0⟩,fun(x:Int×Int×Int)=>M.lJ N x.1 x.2.1 x.2.2⟩
theorem aaF(N:Nat):aq Tryz.prog 280 (aaE N):=fw (en [ck (Ua N),ck (QP N)] false false) (N:=N) (.o (.two (.meet ⟨[(34, .l .bool)],[],[],32⟩ .nil .nil) (.o (.meet ⟨[(8, .l ae)],[],[],80⟩ (.o (.two (.loop ⟨[(8, .l ae),(39, .l ae)],[],[],128⟩ .nil) .nil)) .nil)))) Tryz.func280 (by kernel_rfl) fun x=>by kernel_rfl
def M.ie(N:Nat)(a0:Int)(a1:Int):Option (Int×Int):=
((M.jk N a0).bind fun y2=>
(if(!y2)then
some true
else
(if(decide (a1<(-3600)))then
some true
else
some (decide (3600<a1)))):Option Bool).bind fun j1=>
(if j1 then
some (0,3)
else
(M.jm N a0).bind fun y3=>
((if(decide ((ai3.wrap ((ai3.wrap ((ai3.wrap ((ai3.wrap ((ai3.wrap (y3.1-1900))*12))+y3.2.1))-1))+a1))<0))then
some true
else
some (decide (3599<(ai3.wrap ((ai3.wrap ((ai3.wrap ((ai3.wrap ((ai3.wrap (y3.1-1900))*12))+y3.2.1))-1))+a1))))):Option Bool).bind fun j4=>
(if j4 then
some (0,3)
else
(M.dA N (ai3.wrap (1900+(ai3.wrap (ajo (ai3.wrap ((ai3.wrap ((ai3.wrap ((ai3.wrap ((ai3.wrap (y3.1-1900))*12))+y3.2.1))-1))+a1)) 12)))) (ai3.wrap ((ajL (ai3.wrap ((ai3.wrap ((ai3.wrap ((ai3.wrap ((ai3.wrap (y3.1-1900))*12))+y3.2.1))-1))+a1)) 12)+1))).bind fun y5=>
(M.lJ N (ai3.wrap (1900+(ai3.wrap (ajo (ai3.wrap ((ai3.wrap ((ai3.wrap ((ai3.wrap ((ai3.wrap (y3.1-1900))*12))+y3.2.1))-1))+a1)) 12)))) (ai3.wrap ((ajL (ai3.wrap ((ai3.wrap ((ai3.wrap ((ai3.wrap ((ai3.wrap (y3.1-1900))*12))+y3.2.1))-1))+a1)) 12)+1)) (if y5<y3.2.2 then y5 else y3.2.2)).bind fun y6=>
some (y6.1,y6.2)))
def aaG(N:Nat):bp:=⟨⟨[(0, .l ae),(1, .l ae)],[],[],0⟩,⟨[(0, .l ae),(1, .l ae)],[],[],0⟩,fun(x:Int×Int)=>M.ie N x.1 x.2⟩
theorem Ud(N:Nat):aq Tryz.prog 256 (aaG N):=fw (en [ck (QR N),ck (QO N),ck (QP N),ck (aaF N)] false false) (N:=N) (.o (.two (.meet ⟨[(20, .l .bool)],[],[],32⟩ .nil .nil) (.o (.o (.two (.meet ⟨[(40, .l .bool)],[],[],320⟩ .nil .nil) .nil))))) Tryz.func256 (by kernel_rfl) fun x=>by kernel_rfl
def M.gC(N:Nat)(a0:Int)(a1:Int):Option Int:=
((M.jk N a0).bind fun y2=>
(if(!y2)then
some true
else
(M.jk N a1).bind fun y3=>
(if(!y3)then
some true
else
some (decide (a1<a0)))):Option Bool).bind fun j1=>
(if j1 then
some 0
else
(M.jm N a0).bind fun y4=>
(M.jm N a1).bind fun y5=>
((M.ie N a0 (ai3.wrap (12*(ai3.wrap (y5.1-y4.1))))).bind fun y7=>
((if(!decide (y7.2=0))then
some true
else
some (decide (a1<y7.1))):Option Bool).bind fun j8=>
(if j8 then
some (ai3.wrap ((ai3.wrap (y5.1-y4.1))-1))
else
some (ai3.wrap (y5.1-y4.1))):Option Int).bind fun j6=>
some (if j6<0 then 0 else j6))
def aaH(N:Nat):bp:=⟨⟨[(0, .l ae),(1, .l ae)],[],[],0⟩,⟨[(0, .l ae)],[],[],0⟩,fun(x:Int×Int)=>M.gC N x.1 x.2⟩
theorem aaI(N:Nat):aq Tryz.prog 257 (aaH N):=fw (en [ck (QR N),ck (Ud N),ck (QO N)] false false) (N:=N) (.o (.two (.meet ⟨[(26, .l .bool)],[],[],16⟩ .nil .nil) (.o (.o (.o (.meet ⟨[(11, .l ae)],[],[],368⟩ (.o (.meet ⟨[(55, .l .bool)],[],[],512⟩ .nil .nil)) .nil)))))) Tryz.func257 (by kernel_rfl) fun x=>by kernel_rfl
def M.mH(N:Nat)(a0:aa.den)(a1:af.den)(a2:af.den):Option (af.den×Int):=
((if(decide (a0.1=11))then
some (decide (a0.1=11))
else
some (decide (a0.1=27))):Option Bool).bind fun j1=>
(if j1 then
some ((a1.1,(0,ai3.wrap (a1.2.2+a2.2.2))),0)
else
(if(decide (a0.1=12))then
some ((a1.1,(0,ai3.wrap (a1.2.2-a2.2.2))),0)
else
((if(decide (a0.1=13))then
some (decide (a0.1=13))
else
(if(decide (a0.1=14))then
some (decide (a0.1=14))
else
(if(decide (a0.1=15))then
some (decide (a0.1=15))
else
some (decide (a0.1=16))))):Option Bool).bind fun j2=>
(if j2 then
(M.mG N a0 a1 a2).bind fun y3=>
some (y3.1,y3.2)
else
((if(decide (a0.1=17))then
some (decide (a0.1=17))
else
some (decide (a0.1=18))):Option Bool).bind fun j4=>
(if j4 then
(if(decide ((decide (a0.1=17))=(decide (a2.2.2<a1.2.2))))then
some (a2,0)
else
some (a1,0))
else
(if(decide (a0.1=19))then
(M.dW N (decide (a1.2.2=a2.2.2))).bind fun y5=>
some (y5,0)
else
(if(decide (a0.1=20))then
(M.dW N (!decide (a1.2.2=a2.2.2))).bind fun y6=>
some (y6,0)
else
(if(decide (a0.1=21))then
(M.dW N (decide (a1.2.2<a2.2.2))).bind fun y7=>
some (y7,0)
else
(if(decide (a0.1=22))then
(M.dW N (decide (a1.2.2<=a2.2.2))).bind fun y8=>
some (y8,0)
else
(if(decide (a0.1=23))then
((if(decide (a1.2.2=1))then
(M.dW N (decide (a2.2.2=1))).bind fun ox=>
some (0,ox)
else
(M.dW N false).bind fun qh=>
some (0,qh)):Option (Int×af.den)).bind fun j9=>
some (j9.2,j9.1)
else
(if(decide (a0.1=24))then
((if(decide (a1.2.2=1))then
(M.dW N true).bind fun BM=>
some (0,BM)
else
(M.dW N (decide (a2.2.2=1))).bind fun qV=>
some (0,qV)):Option (Int×af.den)).bind fun Aj=>
some (Aj.2,Aj.1)
else
(if(decide (a0.1=28))then
(M.ie N a1.2.2 a2.2.2).bind fun BN=>
some ((5,(0,BN.1)),BN.2)
else
(if(decide (a0.1=29))then
some ((2,(0,ai3.wrap (a2.2.2-a1.2.2))),0)
else
(M.gC N a1.2.2 a2.2.2).bind fun IJ=>
some ((2,(0,IJ)),0)))))))))))))
def aaJ(N:Nat):bp:=⟨⟨[(0, .g aa),(1, .g af),(2, .g af)],[],[],0⟩,⟨[(0, .g af),(1, .l ae)],[],[],0⟩,fun(x:aa.den×af.den×af.den)=>M.mH N x.1 x.2.1 x.2.2⟩
theorem aaK(N:Nat):aq Tryz.prog 227 (aaJ N):=fw (en [ck (T9 N),ck (aaD N),ck (Ud N),ck (aaI N)] false false) (N:=N) (.o (.two (.o (.two (.meet ⟨[(12, .l .bool)],[],[],112⟩ .nil (.o (.o (.o (.meet ⟨[(33, .l .bool)],[],[],144⟩ .nil (.o (.meet ⟨[(44, .l .bool)],[],[],144⟩ .nil (.o (.o (.o (.o (.o (.o (.o (.o (.o (.o (.two (.meet ⟨[(7, .l ae)],[(48, .box 67 (.leaf af))],[],305⟩ .nil .nil) (.o (.two (.meet ⟨[(7, .l ae)],[(48, .box 67 (.leaf af))],[],337⟩ .nil .nil) .nil)))))))))))))))))))) .nil)) .nil)) Tryz.func227 (by kernel_rfl) fun x=>by kernel_rfl
def M.gf(N:Nat)(a0:aa.den)(a1:List af.den)(a2:eo.den):Option (af.den×Int):=
((if(decide (a0.1=1))then
some (decide (a0.1=1))
else
(if(decide (a0.1=2))then
some (decide (a0.1=2))
else
(if(decide (a0.1=3))then
some (decide (a0.1=3))
else
(if(decide (a0.1=4))then
some (decide (a0.1=4))
else
some (decide (a0.1=5)))))):Option Bool).bind fun j1=>
(if j1 then
some ((a0.1,(0,a0.2)),0)
else
(if(decide (a0.1=6))then
some ((6,(ai3.wrap (ajo a0.2 16),ajL a0.2 16)),0)
else
(if(decide (a0.1=7))then
(idx a2.2.1 a0.2).bind fun x2=>
some (x2,0)
else
(if(decide (a0.1=8))then
(idx a2.2.2.1 a0.2).bind fun x3=>
some (x3,0)
else
(if(decide (a0.1=9))then
some ((5,(0,a2.1)),0)
else
(if(decide (a0.1=35))then
some ((2,(0,(a2.2.2.2.1.length:Int))),0)
else
((if(decide (a0.1=36))then
some (decide (a0.1=36))
else
(if(decide (a0.1=37))then
some (decide (a0.1=37))
else
(if(decide (a0.1=38))then
some (decide (a0.1=38))
else
some (decide (a0.1=39))))):Option Bool).bind fun j4=>
(if j4 then
(M.iz N a0 a2).bind fun y5=>
some (y5.1,y5.2)
else
(if(decide (a0.1=33))then
(idx a2.2.2.2.2.2 a0.2).bind fun x6=>
(idx a1 0).bind fun x7=>
(M.lG N x6 a2.1 x7.2.2).bind fun y8=>
(if(!y8.2)then
some ((0,(0,0)),6)
else
(idx x6.2.2.2 y8.1).bind fun x9=>
some ((x6.2.2.1.1,(x6.2.2.1.2,x9.2.2.2)),0))
else
(if(decide (a0.1=34))then
(idx a2.2.2.2.2.2 (ai3.wrap (ajo a0.2 8))).bind fun tO=>
(idx a1 0).bind fun ow=>
(M.jW N tO a2.1 ow.2.2 (ajL a0.2 8)).bind fun pV=>
some ((3,(0,pV.1)),pV.2)
else
(if(decide ((a1.length:Int)=1))then
(idx a1 0).bind fun pU=>
(M.n4 N a0.1 pU).bind fun qV=>
some (qV,0)
else
(if(decide ((a1.length:Int)=2))then
(idx a1 0).bind fun D5=>
(idx a1 1).bind fun KD=>
(M.mH N a0 D5 KD).bind fun wL=>
some (wL.1,wL.2)
else
(idx a1 0).bind fun CO=>
(if(decide (CO.2.2=1))then
(idx a1 1).bind fun Qc=>
some (Qc,0)
else
(idx a1 2).bind fun XD=>
some (XD,0)))))))))))))
def aaL(N:Nat):bp:=⟨⟨[(0, .g aa),(1, .l (.slice af)),(2, .g eo)],[],[],0⟩,⟨[(0, .g af),(1, .l ae)],[],[],0⟩,fun(x:aa.den×(List af.den)×eo.den)=>M.gf N x.1 x.2.1 x.2.2⟩
theorem aaM(N:Nat):aq Tryz.prog 164 (aaL N):=fw (en [ck (ZQ N),ck (ZS N),ck (aaa N),ck (aal N),ck (aaK N)] false false) (N:=N) (.o (.two (.o (.two (.meet ⟨[(15, .l .bool)],[],[],96⟩ .nil (.o (.o (.o (.o (.o (.o (.o (.o (.o (.o (.o (.meet ⟨[(62, .l .bool)],[],[],256⟩ .nil .nil))))))))))))) .nil)) .nil)) Tryz.func164 (by kernel_rfl) fun x=>by kernel_rfl
end
end Go.Proofs.YtilaieogabgamaaGreatDoor
end
