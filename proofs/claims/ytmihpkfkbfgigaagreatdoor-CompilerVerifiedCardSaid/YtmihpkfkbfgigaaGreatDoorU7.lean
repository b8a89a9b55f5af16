/- Joined texts: Model. -/
import Derived.Test.YtmihpkfkbfgigaaGreatDoorU6
import Derived.Test.YtmihpkfkbfgigaaGreatDoorProg
section
open _root_.Int renaming tdiv->ajE,tmod->ajY
open _root_.Go.IntKind renaming i64->ajj,u64->ajt
open _root_.List renaming forall_mem_cons->akY
open _root_.Nat renaming beq->aju
namespace Go.Proofs.YtmihpkfkbfgigaaGreatDoor
open Go Go.RowKit
noncomputable section
set_option maxRecDepth 100000
set_option linter.unusedVariables false
@[reducible] def aa:Row:= .pair ae ae
@[reducible] def aN:Row:= .pair .str aa
@[reducible] def aZ:Row:= .pair .str (.pair ae (.pair ae (.pair ae (.pair aa (.pair (.slice aa) (.pair (.slice aa) .str))))))
@[reducible] def aB:Row:= .pair .str (.pair ae (.pair (.slice aN) (.pair (.slice aN) (.slice aZ))))
@[reducible] def bp:Row:= .pair .str (.slice .str)
@[reducible] def dJ:Row:= .pair aa (.pair ae aa)
@[reducible] def ay:Row:= .pair .str (.pair aa (.pair aa (.slice dJ)))
@[reducible] def cF:Row:= .pair (.slice bp) (.pair (.slice ay) (.slice aB))
@[reducible] def aS:Row:= .pair ae (.pair ae aa)
@[reducible] def aR:Row:= .pair (.slice bp) (.pair (.slice ay) (.pair (.slice aa) (.pair (.slice aa) (.pair (.slice aa) .bool))))
@[reducible] def af:Row:= .pair ae aa
@[reducible] def cE:Row:= .pair ae (.pair (.slice af) (.pair (.slice af) (.pair (.slice (.slice af)) (.pair (.slice aa) (.slice ay)))))
@[reducible] def vT:Row:= .pair (.slice ae) (.pair (.slice aZ) (.pair (.slice (.slice aa)) (.slice (.slice aa))))
@[reducible] def tO:Row:= .pair ae (.pair (.slice af) (.slice (.slice af)))
@[reducible] def bi:Row:= .pair aB (.pair vT (.slice ae))
@[reducible] def dU:Row:= .pair (.slice ae) (.pair (.slice ae) (.slice ae))
@[reducible] def bm:Row:= .pair (.slice af) (.slice ae)
@[reducible] def FC:Row:= .pair (.slice af) (.pair (.slice ae) (.slice bm))
@[reducible] def qg:Row:= .pair aB (.pair aB (.pair (.slice .bool) (.slice .bool)))
@[reducible] def dB:Row:= .pair (.slice aa) (.pair (.slice ae) cE)
theorem KO:TI Tryz.prog 3 ae:=TI.mk (k:=1) (by kernel_rfl) rfl
theorem Ti4:TI Tryz.prog 4 .bool:=TI.mk (k:=1) (by kernel_rfl) rfl
theorem Ti9:TI Tryz.prog 9 .str:=TI.mk (k:=1) (by kernel_rfl) rfl
theorem Xl:TI Tryz.prog 22 (.slice bp):=TI.mk (k:=1) (by kernel_rfl) rfl
theorem Xm:TI Tryz.prog 23 (.slice ay):=TI.mk (k:=1) (by kernel_rfl) rfl
theorem Xn:TI Tryz.prog 24 (.slice aB):=TI.mk (k:=1) (by kernel_rfl) rfl
theorem Xo:TI Tryz.prog 26 cF:=TI.mk (k:=3) (by kernel_rfl) rfl
theorem Xp:TI Tryz.prog 29 (.slice ae):=TI.mk (k:=1) (by kernel_rfl) rfl
theorem Xq:TI Tryz.prog 30 (.slice aZ):=TI.mk (k:=1) (by kernel_rfl) rfl
theorem Xr:TI Tryz.prog 31 (.slice (.slice aa)):=TI.mk (k:=1) (by kernel_rfl) rfl
theorem Xs:TI Tryz.prog 33 vT:=TI.mk (k:=4) (by kernel_rfl) rfl
theorem Tk:TI Tryz.prog 34 ae:=TI.mk (k:=1) (by kernel_rfl) rfl
theorem Xt:TI Tryz.prog 38 aa:=TI.mk (k:=2) (by kernel_rfl) rfl
theorem Xu:TI Tryz.prog 39 (.slice aa):=TI.mk (k:=1) (by kernel_rfl) rfl
theorem Xv:TI Tryz.prog 41 aZ:=TI.mk (k:=9) (by kernel_rfl) rfl
theorem Xw:TI Tryz.prog 45 (.slice af):=TI.mk (k:=1) (by kernel_rfl) rfl
theorem Xx:TI Tryz.prog 46 (.slice (.slice af)):=TI.mk (k:=1) (by kernel_rfl) rfl
theorem Xy:TI Tryz.prog 48 tO:=TI.mk (k:=3) (by kernel_rfl) rfl
theorem Xz:TI Tryz.prog 50 (.slice bm):=TI.mk (k:=1) (by kernel_rfl) rfl
theorem XA:TI Tryz.prog 52 FC:=TI.mk (k:=3) (by kernel_rfl) rfl
theorem XB:TI Tryz.prog 54 aS:=TI.mk (k:=4) (by kernel_rfl) rfl
theorem XC:TI Tryz.prog 59 (.slice .str):=TI.mk (k:=1) (by kernel_rfl) rfl
theorem XD:TI Tryz.prog 61 bp:=TI.mk (k:=2) (by kernel_rfl) rfl
theorem XE:TI Tryz.prog 63 aa:=TI.mk (k:=2) (by kernel_rfl) rfl
theorem XF:TI Tryz.prog 64 (.slice dJ):=TI.mk (k:=1) (by kernel_rfl) rfl
theorem XG:TI Tryz.prog 66 ay:=TI.mk (k:=6) (by kernel_rfl) rfl
theorem XH:TI Tryz.prog 67 (.slice aN):=TI.mk (k:=1) (by kernel_rfl) rfl
theorem XI:TI Tryz.prog 69 aB:=TI.mk (k:=5) (by kernel_rfl) rfl
theorem XJ:TI Tryz.prog 73 aa:=TI.mk (k:=2) (by kernel_rfl) rfl
theorem XK:TI Tryz.prog 76 af:=TI.mk (k:=3) (by kernel_rfl) rfl
theorem XL:TI Tryz.prog 78 aS:=TI.mk (k:=4) (by kernel_rfl) rfl
theorem XM:TI Tryz.prog 83 (.slice ae):=TI.mk (k:=1) (by kernel_rfl) rfl
theorem XN:TI Tryz.prog 87 (.slice aa):=TI.mk (k:=1) (by kernel_rfl) rfl
theorem XO:TI Tryz.prog 89 cE:=TI.mk (k:=6) (by kernel_rfl) rfl
theorem XP:TI Tryz.prog 93 bi:=TI.mk (k:=10) (by kernel_rfl) rfl
theorem XQ:TI Tryz.prog 95 aN:=TI.mk (k:=3) (by kernel_rfl) rfl
theorem Tl:TI Tryz.prog 100 bm:=TI.mk (k:=2) (by kernel_rfl) rfl
theorem Tm:TI Tryz.prog 104 (.slice .bool):=TI.mk (k:=1) (by kernel_rfl) rfl
theorem Tn:TI Tryz.prog 106 qg:=TI.mk (k:=12) (by kernel_rfl) rfl
theorem To:TI Tryz.prog 140 (.slice ae):=TI.mk (k:=1) (by kernel_rfl) rfl
theorem Tp:TI Tryz.prog 169 dJ:=TI.mk (k:=5) (by kernel_rfl) rfl
theorem Tq:TI Tryz.prog 183 aR:=TI.mk (k:=6) (by kernel_rfl) rfl
theorem Tr:TI Tryz.prog 217 dU:=TI.mk (k:=3) (by kernel_rfl) rfl
theorem Ts:TI Tryz.prog 224 dB:=TI.mk (k:=8) (by kernel_rfl) rfl
theorem Tt:TI Tryz.prog 250 (.int .u64):=TI.mk (k:=1) (by kernel_rfl) rfl
theorem Mh:q7 Tryz.prog 3 ae 1:=ER Tryz.underlying3
theorem XR:q7 Tryz.prog 63 aa 2:=nV Tryz.underlying63 (by kernel_rfl) (mn rfl rfl Tryz.underlying3 (by simp[jT]) KO Mh (ra rfl rfl Tryz.underlying3 (by simp[jT]) KO Mh))
theorem XS:q7 Tryz.prog 73 aa 2:=nV Tryz.underlying73 (by kernel_rfl) (mn rfl rfl Tryz.underlying3 (by simp[jT]) KO Mh (ra rfl rfl Tryz.underlying3 (by simp[jT]) KO Mh))
theorem XT:q7 Tryz.prog 34 ae 1:=ER Tryz.underlying34
theorem XU:q7 Tryz.prog 54 aS 2:=nV Tryz.underlying54 (by kernel_rfl) (mn rfl rfl Tryz.underlying34 (by simp[jT]) Tk XT (mn rfl rfl Tryz.underlying3 (by simp[jT]) KO Mh (mn rfl rfl Tryz.underlying3 (by simp[jT]) KO Mh (ra rfl rfl Tryz.underlying3 (by simp[jT]) KO Mh))))
theorem XV:q7 Tryz.prog 76 af 2:=nV Tryz.underlying76 (by kernel_rfl) (mn rfl rfl Tryz.underlying3 (by simp[jT]) KO Mh (mn rfl rfl Tryz.underlying3 (by simp[jT]) KO Mh (ra rfl rfl Tryz.underlying3 (by simp[jT]) KO Mh)))
theorem tu:∀p∈([(3, .int .i64),(4, .bool),(5, .int .u8),(9, .str),(20, .other),(22, .slice 61),(23, .slice 66),(24, .slice 69),(26, .struct [(22,0),(23,1),(24,2)]),(29, .slice 3),(30, .slice 41),(31, .slice 39),(33, .struct [(29,0),(30,1),(31,2),(31,3)]),(34, .int .i64),(38, .struct [(3,0),(3,1)]),(39, .slice 73),(41, .struct [(9,0),(3,1),(3,2),(3,3),(38,4),(39,6),(39,7),(9,8)]),(45, .slice 76),(46, .slice 45),(48, .struct [(3,0),(45,1),(46,2)]),(50, .slice 100),(52, .struct [(45,0),(29,1),(50,2)]),(54, .struct [(34,0),(3,1),(3,2),(3,3)]),(59, .slice 9),(61, .struct [(9,0),(59,1)]),(63, .struct [(3,0),(3,1)]),(64, .slice 169),(66, .struct [(9,0),(63,1),(63,3),(64,5)]),(67, .slice 95),(69, .struct [(9,0),(3,1),(67,2),(67,3),(30,4)]),(70, .other),(73, .struct [(3,0),(3,1)]),(76, .struct [(3,0),(3,1),(3,2)]),(78, .struct [(34,0),(3,1),(3,2),(3,3)]),(81, .ptr 83),(83, .struct [(29,0)]),(87, .slice 63),(89, .struct [(3,0),(45,1),(45,2),(46,3),(87,4),(23,5)]),(90, .ptr 93),(93, .struct [(69,0),(33,5),(29,9)]),(95, .struct [(9,0),(63,1)]),(98, .ptr 89),(100, .struct [(45,0),(29,1)]),(102, .ptr 106),(104, .slice 4),(106, .struct [(69,0),(69,5),(104,10),(104,11)]),(137, .slice 29),(139, .ptr 140),(140, .slice 3),(155, .other),(158, .int .u64),(169, .struct [(38,0),(3,2),(3,3),(3,4)]),(173, .other),(177, .other),(179, .other),(183, .struct [(22,0),(23,1),(87,2),(87,3),(87,4),(4,5)]),(191, .other),(210, .int .u32),(212, .int .u64),(217, .struct [(29,0),(29,1),(29,2)]),(224, .struct [(39,0),(29,1),(89,2)]),(232, .other),(250, .int .u64),(254, .ptr 3),(276, .ptr 250),(305, .array 12 3)]:List (Nat×IK)),xy Tryz.prog p.1 p.2:=by
 simp only[akY];exact⟨Tryz.underlying3,Tryz.underlying4,Tryz.underlying5,Tryz.underlying9,⟨_,Tryz.underlying20,rfl⟩,Tryz.underlying22,Tryz.underlying23,Tryz.underlying24,⟨_,Tryz.underlying26,rfl⟩,Tryz.underlying29,Tryz.underlying30,Tryz.underlying31,⟨_,Tryz.underlying33,rfl⟩,Tryz.underlying34,⟨_,Tryz.underlying38,rfl⟩,Tryz.underlying39,⟨_,Tryz.underlying41,rfl⟩,Tryz.underlying45,Tryz.underlying46,⟨_,Tryz.underlying48,rfl⟩,Tryz.underlying50,⟨_,Tryz.underlying52,rfl⟩,⟨_,Tryz.underlying54,rfl⟩,Tryz.underlying59,⟨_,Tryz.underlying61,rfl⟩,⟨_,Tryz.underlying63,rfl⟩,Tryz.underlying64,⟨_,Tryz.underlying66,rfl⟩,Tryz.underlying67,⟨_,Tryz.underlying69,rfl⟩,⟨_,Tryz.underlying70,rfl⟩,⟨_,Tryz.underlying73,rfl⟩,⟨_,Tryz.underlying76,rfl⟩,⟨_,Tryz.underlying78,rfl⟩,Tryz.underlying81,⟨_,Tryz.underlying83,rfl⟩,Tryz.underlying87,⟨_,Tryz.underlying89,rfl⟩,Tryz.underlying90,⟨_,Tryz.underlying93,rfl⟩,⟨_,Tryz.underlying95,rfl⟩,Tryz.underlying98,⟨_,Tryz.underlying100,rfl⟩,Tryz.underlying102,Tryz.underlying104,⟨_,Tryz.underlying106,rfl⟩,Tryz.underlying137,Tryz.underlying139,Tryz.underlying140,⟨_,Tryz.underlying155,rfl⟩,Tryz.underlying158,⟨_,Tryz.underlying169,rfl⟩,⟨_,Tryz.underlying173,rfl⟩,⟨_,Tryz.underlying177,rfl⟩,⟨_,Tryz.underlying179,rfl⟩,⟨_,Tryz.underlying183,rfl⟩,⟨_,Tryz.underlying191,rfl⟩,Tryz.underlying210,Tryz.underlying212,⟨_,Tryz.underlying217,rfl⟩,⟨_,Tryz.underlying224,rfl⟩,⟨_,Tryz.underlying232,rfl⟩,Tryz.underlying250,Tryz.underlying254,Tryz.underlying276,Tryz.underlying305,fun _ h=>absurd h (by simp)⟩
theorem tr:∀p∈([(3,ae),(4, .bool),(9, .str),(22,(.slice bp)),(23,(.slice ay)),(24,(.slice aB)),(26,cF),(29,(.slice ae)),(30,(.slice aZ)),(31,(.slice (.slice aa))),(33,vT),(34,ae),(38,aa),(39,(.slice aa)),(41,aZ),(45,(.slice af)),(46,(.slice (.slice af))),(48,tO),(50,(.slice bm)),(52,FC),(54,aS),(59,(.slice .str)),(61,bp),(63,aa),(64,(.slice dJ)),(66,ay),(67,(.slice aN)),(69,aB),(73,aa),(76,af),(78,aS),(83,(.slice ae)),(87,(.slice aa)),(89,cE),(93,bi),(95,aN),(100,bm),(104,(.slice .bool)),(106,qg),(140,(.slice ae)),(169,dJ),(183,aR),(217,dU),(224,dB),(250,(.int .u64))]:List (Nat×Row)),TI Tryz.prog p.1 p.2:=by
 simp only[akY];exact⟨KO,Ti4,Ti9,Xl,Xm,Xn,Xo,Xp,Xq,Xr,Xs,Tk,Xt,Xu,Xv,Xw,Xx,Xy,Xz,XA,XB,XC,XD,XE,XF,XG,XH,XI,XJ,XK,XL,XM,XN,XO,XP,XQ,Tl,Tm,Tn,To,Tp,Tq,Tr,Ts,Tt,fun _ h=>absurd h (by simp)⟩
theorem te:∀p∈([(54,aS),(63,aa),(73,aa),(76,af)]:List (Nat×Row)),∃K d,q7 Tryz.prog p.1 p.2 K/\d+K=10000/\Tryz.prog.eqGuardType Tryz.prog.depth p.1=false/\(Tryz.prog.underlying p.1).any jT=true:=by
 simp only[akY];exact⟨⟨2,9998,XU,rfl,by kernel_rfl,by kernel_rfl⟩,⟨2,9998,XR,rfl,by kernel_rfl,by kernel_rfl⟩,⟨2,9998,XS,rfl,by kernel_rfl,by kernel_rfl⟩,⟨2,9998,XV,rfl,by kernel_rfl,by kernel_rfl⟩,fun _ h=>absurd h (by simp)⟩
theorem tm:∀p∈([(139,("Len",(54,false))),(139,("Less",(257,false))),(139,("Pop",(258,true))),(139,("Push",(259,true))),(139,("Swap",(260,false)))]:List (TypeId×(String×(FuncId×Bool)))),p7 Tryz.prog p.1 p.2.1 p.2.2.1 p.2.2.2:=by
 simp only[akY];exact⟨(by unfold p7;kernel_rfl),(by unfold p7;kernel_rfl),(by unfold p7;kernel_rfl),(by unfold p7;kernel_rfl),(by unfold p7;kernel_rfl),fun _ h=>absurd h (by simp)⟩
def XW:be Tryz.prog:=⟨_,_,_,[],oH tu,oH tr,oH te,fun _ _ _ h=>(by cases h),_,tm⟩
theorem mixed:Tryz.prog.follows .mixedOrders=true:=by kernel_rfl
def en(l:List (CT Tryz.prog))(d p:Bool):Env Tryz.prog:=⟨XW,CT.tab l,CT.zG,mixed,d,p⟩
def M.jg(N:Nat)(a0:aB.den):Option Bool:=
((if(decide (80<(a0.1.size:Int)))then
some true
else
(if(decide (14<(a0.2.2.1.length:Int)))then
some true
else
(if(decide (14<(a0.2.2.2.1.length:Int)))then
some true
else
some (decide (60<(a0.2.2.2.2.length:Int)))))):Option Bool).bind fun j1=>
(if j1 then
some false
else
bM (J:=Unit) (R:=Bool) (Loop (S:=Int) (X:=Unit⊕Bool) (fun s3=>
(if(decide (s3<(a0.2.2.1.length:Int)))then
(idx a0.2.2.1 s3).bind fun x4=>
(if(decide (80<(x4.1.size:Int)))then
some (.inr (.inr false))
else
some (.inl (ajj.wrap (s3+1))))
else
some (.inr (.inl ())))) N 0) fun j2=>
bM (J:=Unit) (R:=Bool) (Loop (S:=Int) (X:=Unit⊕Bool) (fun s6=>
(if(decide (s6<(a0.2.2.2.1.length:Int)))then
(idx a0.2.2.2.1 s6).bind fun x7=>
(if(decide (80<(x7.1.size:Int)))then
some (.inr (.inr false))
else
some (.inl (ajj.wrap (s6+1))))
else
some (.inr (.inl ())))) N 0) fun j5=>
Loop (S:=Int) (X:=Bool) (fun s8=>
(if(decide (s8<(a0.2.2.2.2.length:Int)))then
(idx a0.2.2.2.2 s8).bind fun x9=>
((if(decide (80<(x9.1.size:Int)))then
some true
else
(if(decide (80<(x9.2.2.2.2.2.2.2.size:Int)))then
some true
else
(if(decide (50<(x9.2.2.2.2.2.1.length:Int)))then
some true
else
some (decide (50<(x9.2.2.2.2.2.2.1.length:Int)))))):Option Bool).bind fun qh=>
(if qh then
some (.inr false)
else
some (.inl (ajj.wrap (s8+1))))
else
some (.inr true))) N 0)
def S13(N:Nat):br:=⟨⟨[(0, .g aB)],[],[],0⟩,⟨[(0, .l .bool)],[],[],0⟩,fun(x:aB.den)=>M.jg N x⟩
theorem W13(N:Nat):av Tryz.prog 13 (S13 N):=fw (en [] false false) (N:=N) (.o (.two (.meet ⟨[(28, .l .bool)],[],[],32⟩ .nil .nil) (.join ⟨[],[],[],32⟩ (.o (.two (.loop ⟨[(3, .l ae)],[],[],48⟩ .nil) .nil)) (.join ⟨[],[],[],32⟩ (.o (.two (.loop ⟨[(4, .l ae)],[],[],48⟩ .nil) .nil)) (.two (.o (.two (.loop ⟨[(5, .l ae)],[],[],48⟩ (.o (.two (.two (.o (.meet ⟨[(92, .l .bool)],[],[],240⟩ .nil .nil)) .nil) .nil))) .nil)) .nil))))) Tryz.func13 (by kernel_rfl) fun x=>by kernel_rfl
def M.ld(N:Nat)(a0:cF.den):Option Bool:=
((if(decide (9<(a0.1.length:Int)))then
some true
else
(if(decide (9<(a0.2.1.length:Int)))then
some true
else
some (decide (5<(a0.2.2.length:Int))))):Option Bool).bind fun j1=>
(if j1 then
some false
else
bM (J:=Unit) (R:=Bool) (Loop (S:=Int) (X:=Unit⊕Bool) (fun s3=>
(if(decide (s3<(a0.1.length:Int)))then
bM (J:=Unit) (R:=Int⊕(Unit⊕Bool)) (((idx a0.1 s3).bind fun x6=>
(if(decide (80<(x6.1.size:Int)))then
some true
else
(idx a0.1 s3).bind fun x7=>
some (decide (20<(x7.2.length:Int)))):Option Bool).bind fun j5=>
(if j5 then
some (.inr (.inr (.inr false)))
else
Loop (S:=Int) (X:=Unit⊕(Int⊕(Unit⊕Bool))) (fun s8=>
(idx a0.1 s3).bind fun x9=>
(if(decide (s8<(x9.2.length:Int)))then
(idx a0.1 s3).bind fun r9=>
(idx r9.2 s8).bind fun oE=>
(if(decide (80<(oE.size:Int)))then
some (.inr (.inr (.inr (.inr false))))
else
some (.inl (ajj.wrap (s8+1))))
else
some (.inr (.inl ())))) N 0)) fun j4=>
some (.inl (ajj.wrap (s3+1)))
else
some (.inr (.inl ())))) N 0) fun j2=>
bM (J:=Unit) (R:=Bool) (Loop (S:=Int×Int) (X:=Unit⊕Bool) (fun pQ=>
(if(decide (pQ.2<(a0.2.1.length:Int)))then
(idx a0.2.1 pQ.2).bind fun sa=>
((idx a0.2.1 pQ.2).bind fun KP=>
(if(decide (80<(KP.1.size:Int)))then
some true
else
some (decide (150<(ajj.wrap (pQ.1+(sa.2.2.2.length:Int)))))):Option Bool).bind fun OX=>
(if OX then
some (.inr (.inr false))
else
some (.inl (ajj.wrap (pQ.1+(sa.2.2.2.length:Int)),ajj.wrap (pQ.2+1))))
else
some (.inr (.inl ())))) N (0,0)) fun Al=>
Loop (S:=Int×Int) (X:=Bool) (fun RN=>
(if(decide (RN.2<(a0.2.2.length:Int)))then
(idx a0.2.2 RN.2).bind fun CX=>
((if(decide (60<(ajj.wrap (RN.1+(CX.2.2.2.2.length:Int)))))then
some true
else
(idx a0.2.2 RN.2).bind fun Tu=>
(M.jg N Tu).bind fun Nv=>
some (!Nv)):Option Bool).bind fun OY=>
(if OY then
some (.inr false)
else
some (.inl (ajj.wrap (RN.1+(CX.2.2.2.2.length:Int)),ajj.wrap (RN.2+1))))
else
some (.inr true))) N (0,0))
def S5(N:Nat):br:=⟨⟨[(0, .g cF)],[],[],0⟩,⟨[(0, .l .bool)],[],[],0⟩,fun(x:cF.den)=>M.ld N x⟩
theorem W5(N:Nat):av Tryz.prog 5 (S5 N):=fw (en [ck (W13 N)] false false) (N:=N) (.o (.two (.meet ⟨[(24, .l .bool)],[],[],32⟩ .nil .nil) (.o (.o (.join ⟨[],[],[],64⟩ (.o (.two (.loop ⟨[(5, .l ae)],[],[],80⟩ (.o (.join ⟨[],[],[],160⟩ (.two (.two (.meet ⟨[(49, .l .bool)],[],[],160⟩ .nil .nil) (.o (.two (.loop ⟨[(6, .l ae)],[],[],176⟩ .nil) .nil))) .nil) .nil))) .nil)) (.join ⟨[],[],[],64⟩ (.o (.two (.loop ⟨[(3, .l ae),(7, .l ae)],[],[],80⟩ (.o (.two (.two (.o (.meet ⟨[(99, .l .bool)],[],[],320⟩ .nil .nil)) .nil) .nil))) .nil)) (.two (.o (.two (.loop ⟨[(4, .l ae),(8, .l ae)],[],[],80⟩ (.o (.two (.two (.o (.meet ⟨[(126, .l .bool)],[],[],320⟩ .nil .nil)) .nil) .nil))) .nil)) .nil))))))) Tryz.func5 (by kernel_rfl) fun x=>by kernel_rfl
def M.ja(N:Nat)(a0:Int):Option Bool:=
((if(decide (97<=a0))then
some (decide (a0<=122))
else
some false):Option Bool).bind fun j1=>
some j1
def S80(N:Nat):br:=⟨⟨[(0, .l (.int .u8))],[],[],0⟩,⟨[(0, .l .bool)],[],[],0⟩,fun(x:Int)=>M.ja N x⟩
theorem W80(N:Nat):av Tryz.prog 80 (S80 N):=fw (en [] false false) (N:=N) (.o (.meet ⟨[(2, .l .bool)],[],[],16⟩ .nil .nil)) Tryz.func80 (by kernel_rfl) fun x=>by kernel_rfl
def M.lf(N:Nat)(a0:Int):Option Bool:=
((if(decide (48<=a0))then
some (decide (a0<=57))
else
some false):Option Bool).bind fun j1=>
some j1
def XX(N:Nat):br:=⟨⟨[(0, .l (.int .u8))],[],[],0⟩,⟨[(0, .l .bool)],[],[],0⟩,fun(x:Int)=>M.lf N x⟩
theorem XY(N:Nat):av Tryz.prog 132 (XX N):=fw (en [] false false) (N:=N) (.o (.meet ⟨[(2, .l .bool)],[],[],16⟩ .nil .nil)) Tryz.func132 (by kernel_rfl) fun x=>by kernel_rfl
def M.iI(N:Nat)(a0:ByteArray):Option Int:=
Loop (S:=Int) (X:=Int) (fun s1=>
((if(decide (s1<(a0.size:Int)))then
(kT a0 s1).bind fun x3=>
(M.ja N x3).bind fun y4=>
(if y4 then
some true
else
(kT a0 s1).bind fun x5=>
(M.lf N x5).bind fun y6=>
(if y6 then
some true
else
(kT a0 s1).bind fun x7=>
some (decide (x7=95))))
else
some false):Option Bool).bind fun j2=>
(if j2 then
some (.inl (ajj.wrap (s1+1)))
else
some (.inr s1))) N 0
def S81(N:Nat):br:=⟨⟨[(0, .l .str)],[],[],0⟩,⟨[(0, .l ae)],[],[],0⟩,fun(x:ByteArray)=>M.iI N x⟩
theorem W81(N:Nat):av Tryz.prog 81 (S81 N):=fw (en [ck (W80 N),ck (XY N)] false false) (N:=N) (.o (.o (.two (.two (.loop ⟨[(3, .l ae)],[],[],32⟩ (.two (.meet ⟨[(25, .l .bool)],[],[],32⟩ .nil .nil) .nil)) .nil) .nil))) Tryz.func81 (by kernel_rfl) fun x=>by kernel_rfl
def M.jY(N:Nat)(a0:ByteArray):Option Bool:=
((if(decide (a0=(⟨#[105,102]⟩:ByteArray)))then
some (decide (a0=(⟨#[105,102]⟩:ByteArray)))
else
(if(decide (a0=(⟨#[116,104,101,110]⟩:ByteArray)))then
some (decide (a0=(⟨#[116,104,101,110]⟩:ByteArray)))
else
(if(decide (a0=(⟨#[101,108,115,101]⟩:ByteArray)))then
some (decide (a0=(⟨#[101,108,115,101]⟩:ByteArray)))
else
(if(decide (a0=(⟨#[111,114]⟩:ByteArray)))then
some (decide (a0=(⟨#[111,114]⟩:ByteArray)))
else
(if(decide (a0=(⟨#[97,110,100]⟩:ByteArray)))then
some (decide (a0=(⟨#[97,110,100]⟩:ByteArray)))
else
(if(decide (a0=(⟨#[110,111,116]⟩:ByteArray)))then
some (decide (a0=(⟨#[110,111,116]⟩:ByteArray)))
else
(if(decide (a0=(⟨#[116,114,117,101]⟩:ByteArray)))then
some (decide (a0=(⟨#[116,114,117,101]⟩:ByteArray)))
else
(if(decide (a0=(⟨#[102,97,108,115,101]⟩:ByteArray)))then
some (decide (a0=(⟨#[102,97,108,115,101]⟩:ByteArray)))
else
(if(decide (a0=(⟨#[116,111,100,97,121]⟩:ByteArray)))then
some (decide (a0=(⟨#[116,111,100,97,121]⟩:ByteArray)))
else
(if(decide (a0=(⟨#[115,104,97,114,101]⟩:ByteArray)))then
some (decide (a0=(⟨#[115,104,97,114,101]⟩:ByteArray)))
else
(if(decide (a0=(⟨#[100,105,118]⟩:ByteArray)))then
some (decide (a0=(⟨#[100,105,118]⟩:ByteArray)))
else
(if(decide (a0=(⟨#[114,111,117,110,100]⟩:ByteArray)))then
some (decide (a0=(⟨#[114,111,117,110,100]⟩:ByteArray)))
else
(if(decide (a0=(⟨#[109,105,110]⟩:ByteArray)))then
some (decide (a0=(⟨#[109,105,110]⟩:ByteArray)))
else
(if(decide (a0=(⟨#[109,97,120]⟩:ByteArray)))then
some (decide (a0=(⟨#[109,97,120]⟩:ByteArray)))
else
(if(decide (a0=(⟨#[112,108,117,115]⟩:ByteArray)))then
some (decide (a0=(⟨#[112,108,117,115]⟩:ByteArray)))
else
(if(decide (a0=(⟨#[109,111,110,116,104,115]⟩:ByteArray)))then
some (decide (a0=(⟨#[109,111,110,116,104,115]⟩:ByteArray)))
else
(if(decide (a0=(⟨#[100,97,121,115]⟩:ByteArray)))then
some (decide (a0=(⟨#[100,97,121,115]⟩:ByteArray)))
else
(if(decide (a0=(⟨#[121,101,97,114,115]⟩:ByteArray)))then
some (decide (a0=(⟨#[121,101,97,114,115]⟩:ByteArray)))
else
(if(decide (a0=(⟨#[121,101,97,114]⟩:ByteArray)))then
some (decide (a0=(⟨#[121,101,97,114]⟩:ByteArray)))
else
(if(decide (a0=(⟨#[109,111,110,116,104]⟩:ByteArray)))then
some (decide (a0=(⟨#[109,111,110,116,104]⟩:ByteArray)))
else
(if(decide (a0=(⟨#[116,97,98]⟩:ByteArray)))then
some (decide (a0=(⟨#[116,97,98]⟩:ByteArray)))
else
(if(decide (a0=(⟨#[98,97,110,100]⟩:ByteArray)))then
some (decide (a0=(⟨#[98,97,110,100]⟩:ByteArray)))
else
(if(decide (a0=(⟨#[99,111,117,110,116]⟩:ByteArray)))then
some (decide (a0=(⟨#[99,111,117,110,116]⟩:ByteArray)))
else
(if(decide (a0=(⟨#[115,117,109]⟩:ByteArray)))then
some (decide (a0=(⟨#[115,117,109]⟩:ByteArray)))
else
(if(decide (a0=(⟨#[97,108,108]⟩:ByteArray)))then
some (decide (a0=(⟨#[97,108,108]⟩:ByteArray)))
else
(if(decide (a0=(⟨#[97,110,121]⟩:ByteArray)))then
some (decide (a0=(⟨#[97,110,121]⟩:ByteArray)))
else
(if(decide (a0=(⟨#[109,111,115,116]⟩:ByteArray)))then
some (decide (a0=(⟨#[109,111,115,116]⟩:ByteArray)))
else
(if(decide (a0=(⟨#[101,110,117,109]⟩:ByteArray)))then
some (decide (a0=(⟨#[101,110,117,109]⟩:ByteArray)))
else
(if(decide (a0=(⟨#[116,97,98,108,101]⟩:ByteArray)))then
some (decide (a0=(⟨#[116,97,98,108,101]⟩:ByteArray)))
else
(if(decide (a0=(⟨#[114,111,119]⟩:ByteArray)))then
some (decide (a0=(⟨#[114,111,119]⟩:ByteArray)))
else
(if(decide (a0=(⟨#[115,99,111,112,101]⟩:ByteArray)))then
some (decide (a0=(⟨#[115,99,111,112,101]⟩:ByteArray)))
else
(if(decide (a0=(⟨#[109,101,109,98,101,114,115]⟩:ByteArray)))then
some (decide (a0=(⟨#[109,101,109,98,101,114,115]⟩:ByteArray)))
else
(if(decide (a0=(⟨#[105,110,112,117,116]⟩:ByteArray)))then
some (decide (a0=(⟨#[105,110,112,117,116]⟩:ByteArray)))
else
(if(decide (a0=(⟨#[100,101,102]⟩:ByteArray)))then
some (decide (a0=(⟨#[100,101,102]⟩:ByteArray)))
else
(if(decide (a0=(⟨#[114,117,108,101]⟩:ByteArray)))then
some (decide (a0=(⟨#[114,117,108,101]⟩:ByteArray)))
else
(if(decide (a0=(⟨#[111,102]⟩:ByteArray)))then
some (decide (a0=(⟨#[111,102]⟩:ByteArray)))
else
(if(decide (a0=(⟨#[111,118,101,114]⟩:ByteArray)))then
some (decide (a0=(⟨#[111,118,101,114]⟩:ByteArray)))
else
(if(decide (a0=(⟨#[112,114,105,111]⟩:ByteArray)))then
some (decide (a0=(⟨#[112,114,105,111]⟩:ByteArray)))
else
(if(decide (a0=(⟨#[102,114,111,109]⟩:ByteArray)))then
some (decide (a0=(⟨#[102,114,111,109]⟩:ByteArray)))
else
(if(decide (a0=(⟨#[116,111]⟩:ByteArray)))then
some (decide (a0=(⟨#[116,111]⟩:ByteArray)))
else
(if(decide (a0=(⟨#[101,110,100]⟩:ByteArray)))then
some (decide (a0=(⟨#[101,110,100]⟩:ByteArray)))
else
(if(decide (a0=(⟨#[119,104,101,110]⟩:ByteArray)))then
some (decide (a0=(⟨#[119,104,101,110]⟩:ByteArray)))
else
(if(decide (a0=(⟨#[105,115]⟩:ByteArray)))then
some (decide (a0=(⟨#[105,115]⟩:ByteArray)))
else
(if(decide (a0=(⟨#[115,114,99]⟩:ByteArray)))then
some (decide (a0=(⟨#[115,114,99]⟩:ByteArray)))
else
(if(decide (a0=(⟨#[98,111,111,108]⟩:ByteArray)))then
some (decide (a0=(⟨#[98,111,111,108]⟩:ByteArray)))
else
(if(decide (a0=(⟨#[105,110,116]⟩:ByteArray)))then
some (decide (a0=(⟨#[105,110,116]⟩:ByteArray)))
else
(if(decide (a0=(⟨#[109,111,110,101,121]⟩:ByteArray)))then
some (decide (a0=(⟨#[109,111,110,101,121]⟩:ByteArray)))
else
(if(decide (a0=(⟨#[114,97,116,101]⟩:ByteArray)))then
some (decide (a0=(⟨#[114,97,116,101]⟩:ByteArray)))
else
(if(decide (a0=(⟨#[100,97,116,101]⟩:ByteArray)))then
some (decide (a0=(⟨#[100,97,116,101]⟩:ByteArray)))
else
(if(decide (a0=(⟨#[100,111,119,110]⟩:ByteArray)))then
some (decide (a0=(⟨#[100,111,119,110]⟩:ByteArray)))
else
(if(decide (a0=(⟨#[117,112]⟩:ByteArray)))then
some (decide (a0=(⟨#[117,112]⟩:ByteArray)))
else
(if(decide (a0=(⟨#[122,101,114,111]⟩:ByteArray)))then
some (decide (a0=(⟨#[122,101,114,111]⟩:ByteArray)))
else
(if(decide (a0=(⟨#[97,119,97,121]⟩:ByteArray)))then
some (decide (a0=(⟨#[97,119,97,121]⟩:ByteArray)))
else
(if(decide (a0=(⟨#[104,97,108,102]⟩:ByteArray)))then
some (decide (a0=(⟨#[104,97,108,102]⟩:ByteArray)))
else
some (decide (a0=(⟨#[101,118,101,110]⟩:ByteArray))))))))))))))))))))))))))))))))))))))))))))))))))))))))):Option Bool).bind fun j1=>
(if j1 then
some true
else
some false)
def S82(N:Nat):br:=⟨⟨[(0, .l .str)],[],[],0⟩,⟨[(0, .l .bool)],[],[],0⟩,fun(x:ByteArray)=>M.jY N x⟩
theorem W82(N:Nat):av Tryz.prog 82 (S82 N):=fw (en [] false false) (N:=N) (.o (.two (.o (.two (.meet ⟨[(4, .l .bool)],[],[],32⟩ .nil .nil) .nil)) .nil)) Tryz.func82 (by kernel_rfl) fun x=>by kernel_rfl
def M.bV(N:Nat)(a0:ByteArray):Option Bool:=
((if(!decide (a0=(⟨#[]⟩:ByteArray)))then
(kT a0 0).bind fun x2=>
(M.ja N x2).bind fun y3=>
(if y3 then
(M.iI N a0).bind fun y4=>
(if(decide (y4=(a0.size:Int)))then
(if(decide ((a0.size:Int)<=16))then
(M.jY N a0).bind fun y5=>
some (!y5)
else
some false)
else
some false)
else
some false)
else
some false):Option Bool).bind fun j1=>
some j1
def S48(N:Nat):br:=⟨⟨[(0, .l .str)],[],[],0⟩,⟨[(0, .l .bool)],[],[],0⟩,fun(x:ByteArray)=>M.bV N x⟩
theorem Tv(N:Nat):av Tryz.prog 48 (S48 N):=fw (en [ck (W80 N),ck (W81 N),ck (W82 N)] false false) (N:=N) (.o (.meet ⟨[(2, .l .bool)],[],[],16⟩ .nil .nil)) Tryz.func48 (by kernel_rfl) fun x=>by kernel_rfl
def M.jZ(N:Nat)(a0:bp.den)(a1:ByteArray):Option (Bool×ByteArray):=
some (decide (a0.1=a1),a1)
def Tw(N:Nat):br:=⟨⟨[(0, .g bp),(1, .ptr 0 [] 0)],[(0, .box 9 (.leaf .str))],[],1⟩,⟨[(0, .l .bool)],[(0, .box 9 (.leaf .str))],[],2⟩,fun(x:bp.den×ByteArray)=>M.jZ N x.1 x.2⟩
theorem Tx(N:Nat):av Tryz.prog 84 (Tw N):=fw (en [] false false) (N:=N) .nil Tryz.func84 (by kernel_rfl) fun x=>by kernel_rfl
def M.bj(N:Nat)(a0:List bp.den)(a1:ByteArray):Option (Int×ByteArray):=
Loop (S:=Int×ByteArray) (X:=Int×ByteArray) (fun s1=>
(if(decide (s1.1<(a0.length:Int)))then
(idx a0 s1.1).bind fun x2=>
(M.jZ N x2 s1.2).bind fun y3=>
(if y3.1 then
some (.inr (s1.1,y3.2))
else
some (.inl (ajj.wrap (s1.1+1),y3.2)))
else
some (.inr ((-1),s1.2)))) N (0,a1)
def Qb(N:Nat):br:=⟨⟨[(0, .l (.slice bp)),(1, .fn 84 [(0,[],0)])],[(0, .box 9 (.leaf .str))],[],1⟩,⟨[(0, .l ae)],[(0, .box 9 (.leaf .str))],[],2⟩,fun(x:(List bp.den)×ByteArray)=>M.bj N x.1 x.2⟩
theorem Qc(N:Nat):av Tryz.prog 133 (Qb N):=fw (en [ck (Tx N)] false false) (N:=N) (.o (.two (.o (.two (.loop ⟨[(8, .l ae)],[(0, .box 9 (.leaf .str))],[],66⟩ .nil) .nil)) .nil)) Tryz.func133 (by kernel_rfl) fun x=>by kernel_rfl
def M.bC(N:Nat)(a0:List bp.den)(a1:ByteArray):Option (Bool×ByteArray):=
(M.bj N a0 a1).bind fun y1=>
some (decide (0<=y1.1),y1.2)
def Tz(N:Nat):br:=⟨⟨[(0, .l (.slice bp)),(1, .fn 84 [(0,[],0)])],[(0, .box 9 (.leaf .str))],[],1⟩,⟨[(0, .l .bool)],[(0, .box 9 (.leaf .str))],[],2⟩,fun(x:(List bp.den)×ByteArray)=>M.bC N x.1 x.2⟩
theorem TA(N:Nat):av Tryz.prog 83 (Tz N):=fw (en [ck (Qc N)] false false) (N:=N) .nil Tryz.func83 (by kernel_rfl) fun x=>by kernel_rfl
def M.ig(N:Nat)(a0:List bp.den)(a1:ByteArray):Option Bool:=
(M.bC N a0 a1).bind fun y1=>
some y1.1
def S49(N:Nat):br:=⟨⟨[(0, .l (.slice bp)),(1, .l .str)],[],[],0⟩,⟨[(0, .l .bool)],[],[],0⟩,fun(x:(List bp.den)×ByteArray)=>M.ig N x.1 x.2⟩
theorem XZ(N:Nat):av Tryz.prog 49 (S49 N):=fw (en [ck (TA N)] false false) (N:=N) .nil Tryz.func49 (by kernel_rfl) fun x=>by kernel_rfl
def M.du(N:Nat)(a0:List ByteArray)(a1:ByteArray):Option Int:=
Loop (S:=Int) (X:=Int) (fun s1=>
(if(decide (s1<(a0.length:Int)))then
(idx a0 s1).bind fun x2=>
(if(decide (a1=x2))then
some (.inr s1)
else
some (.inl (ajj.wrap (s1+1))))
else
some (.inr (-1)))) N 0
def X0(N:Nat):br:=⟨⟨[(0, .l (.slice .str)),(1, .l .str)],[],[],0⟩,⟨[(0, .l ae)],[],[],0⟩,fun(x:(List ByteArray)×ByteArray)=>M.du N x.1 x.2⟩
theorem X1(N:Nat):av Tryz.prog 130 (X0 N):=fw (en [] false false) (N:=N) (.o (.two (.o (.two (.loop ⟨[(8, .l ae)],[],[],64⟩ .nil) .nil)) .nil)) Tryz.func130 (by kernel_rfl) fun x=>by kernel_rfl
def M.cY(N:Nat)(a0:List ByteArray)(a1:ByteArray):Option Bool:=
(M.du N a0 a1).bind fun y1=>
some (decide (0<=y1))
def S74(N:Nat):br:=⟨⟨[(0, .l (.slice .str)),(1, .l .str)],[],[],0⟩,⟨[(0, .l .bool)],[],[],0⟩,fun(x:(List ByteArray)×ByteArray)=>M.cY N x.1 x.2⟩
theorem W74(N:Nat):av Tryz.prog 74 (S74 N):=fw (en [ck (X1 N)] false false) (N:=N) .nil Tryz.func74 (by kernel_rfl) fun x=>by kernel_rfl
def M.lg(N:Nat)(a0:cF.den)(a1:Int)(a2:bp.den):Option (Int×Int):=
(M.bV N a2.1).bind fun y1=>
(if(!y1)then
some (2,0)
else
(fa a0.1 0 a1).bind fun l2=>
(M.ig N l2 a2.1).bind fun y3=>
(if y3 then
some (7,0)
else
(if(decide ((a2.2.length:Int)=0))then
some (5,0)
else
(if(decide (16<(a2.2.length:Int)))then
some (4,116)
else
Loop (S:=Int) (X:=Int×Int) (fun s4=>
(if(decide (s4<(a2.2.length:Int)))then
(idx a2.2 s4).bind fun x5=>
(M.bV N x5).bind fun y6=>
(if(!y6)then
some (.inr (2,ajj.wrap (100+s4)))
else
(fa a2.2 0 s4).bind fun l7=>
(M.cY N l7 x5).bind fun y8=>
(if y8 then
some (.inr (7,ajj.wrap (100+s4)))
else
some (.inl (ajj.wrap (s4+1)))))
else
some (.inr (0,0)))) N 0))))
def S46(N:Nat):br:=⟨⟨[(0, .g cF),(1, .l ae),(2, .g bp)],[],[],0⟩,⟨[(0, .l ae),(1, .l ae)],[],[],0⟩,fun(x:cF.den×Int×bp.den)=>M.lg N x.1 x.2.1 x.2.2⟩
theorem W46(N:Nat):av Tryz.prog 46 (S46 N):=fw (en [ck (Tv N),ck (XZ N),ck (W74 N)] false false) (N:=N) (.o (.o (.two (.o (.two (.loop ⟨[(36, .l ae)],[],[],496⟩ .nil) .nil)) .nil))) Tryz.func46 (by kernel_rfl) fun x=>by kernel_rfl
def M.kc(N:Nat)(a0:cF.den):Option (aS.den):=
(if(decide (8<(a0.1.length:Int)))then
some (4,(1,(8,0)))
else
bM (J:=Unit) (R:=aS.den) (Loop (S:=Int) (X:=Unit⊕(aS.den)) (fun s2=>
(if(decide (s2<(a0.1.length:Int)))then
(idx a0.1 s2).bind fun x3=>
(M.lg N a0 s2 x3).bind fun y4=>
(if(!decide (y4.1=0))then
some (.inr (.inr (y4.1,(1,(s2,y4.2)))))
else
some (.inl (ajj.wrap (s2+1))))
else
some (.inr (.inl ())))) N 0) fun j1=>
some (0,(0,(0,0))))
def S28(N:Nat):br:=⟨⟨[(0, .g cF)],[],[],0⟩,⟨[(0, .g aS)],[],[],0⟩,fun(x:cF.den)=>M.kc N x⟩
theorem W28(N:Nat):av Tryz.prog 28 (S28 N):=fw (en [ck (W46 N)] false false) (N:=N) (.o (.o (.join ⟨[],[],[],96⟩ (.o (.two (.loop ⟨[(15, .l ae)],[],[],160⟩ .nil) .nil)) .nil))) Tryz.func28 (by kernel_rfl) fun x=>by kernel_rfl
def M.bY(N:Nat)(a0:aa.den)(a1:List bp.den):Option Bool:=
((if(decide (a0.1=1))then
some (decide (a0.1=1))
else
(if(decide (a0.1=2))then
some (decide (a0.1=2))
else
(if(decide (a0.1=3))then
some (decide (a0.1=3))
else
(if(decide (a0.1=4))then
some (decide (a0.1=4))
else
some (decide (a0.1=5)))))):Option Bool).bind fun j1=>
(if j1 then
some (decide (a0.2=0))
else
(if(decide (a0.1=6))then
((if(decide (0<=a0.2))then
some (decide (a0.2<(a1.length:Int)))
else
some false):Option Bool).bind fun j2=>
some j2
else
some false))
def S75(N:Nat):br:=⟨⟨[(0, .g aa),(1, .l (.slice bp))],[],[],0⟩,⟨[(0, .l .bool)],[],[],0⟩,fun(x:aa.den×List bp.den)=>M.bY N x.1 x.2⟩
theorem TB(N:Nat):av Tryz.prog 75 (S75 N):=fw (en [] false false) (N:=N) (.o (.two (.o (.two (.meet ⟨[(7, .l .bool)],[],[],64⟩ .nil (.o (.o (.two (.meet ⟨[(4, .l .bool)],[],[],96⟩ .nil .nil) .nil)))) .nil)) .nil)) Tryz.func75 (by kernel_rfl) fun x=>by kernel_rfl
def M.fo(N:Nat)(a0:aa.den)(a1:List bp.den):Option (Int×Int):=
(M.bY N a0 a1).bind fun y1=>
(if(!y1)then
some (0,(-1))
else
(if(decide (a0.1=1))then
some (0,1)
else
(if(decide (a0.1=2))then
some ((-1000000000000),1000000000000)
else
(if(decide (a0.1=3))then
some ((-1000000000000000),1000000000000000)
else
(if(decide (a0.1=4))then
some ((-1000000000),1000000000)
else
(if(decide (a0.1=5))then
some (0,109572)
else
(idx a1 a0.2).bind fun x2=>
some (0,ajj.wrap ((x2.2.length:Int)-1))))))))
def S61(N:Nat):br:=⟨⟨[(0, .g aa),(1, .l (.slice bp))],[],[],0⟩,⟨[(0, .l ae),(1, .l ae)],[],[],0⟩,fun(x:aa.den×List bp.den)=>M.fo N x.1 x.2⟩
theorem X2(N:Nat):av Tryz.prog 61 (S61 N):=fw (en [ck (TB N)] false false) (N:=N) .nil Tryz.func61 (by kernel_rfl) fun x=>by kernel_rfl
def M.ef(N:Nat)(a0:aa.den):Option Bool:=
((if(decide (0<=a0.1))then
(if(decide (a0.1<=a0.2))then
some (decide (a0.2<=109573))
else
some false)
else
some false):Option Bool).bind fun j1=>
some j1
def S76(N:Nat):br:=⟨⟨[(0, .g aa)],[],[],0⟩,⟨[(0, .l .bool)],[],[],0⟩,fun(x:aa.den)=>M.ef N x⟩
theorem X3(N:Nat):av Tryz.prog 76 (S76 N):=fw (en [] false false) (N:=N) (.o (.meet ⟨[(2, .l .bool)],[],[],32⟩ .nil .nil)) Tryz.func76 (by kernel_rfl) fun x=>by kernel_rfl
def M.gM(N:Nat)(a0:aa.den):Option Bool:=
((M.ef N a0).bind fun y2=>
(if y2 then
some (decide (a0.1<a0.2))
else
some false):Option Bool).bind fun j1=>
some j1
def X4(N:Nat):br:=⟨⟨[(0, .g aa)],[],[],0⟩,⟨[(0, .l .bool)],[],[],0⟩,fun(x:aa.den)=>M.gM N x⟩
theorem X5(N:Nat):av Tryz.prog 177 (X4 N):=fw (en [ck (X3 N)] false false) (N:=N) (.o (.meet ⟨[(2, .l .bool)],[],[],32⟩ .nil .nil)) Tryz.func177 (by kernel_rfl) fun x=>by kernel_rfl
def M.iT(N:Nat)(a0:aa.den)(a1:aa.den):Option (aa.den×Bool):=
((M.gM N a0).bind fun y2=>
(if(!y2)then
some true
else
(M.gM N a1).bind fun y3=>
some (!y3)):Option Bool).bind fun j1=>
(if j1 then
some ((0,0),false)
else
(if(decide ((if a1.2<a0.2 then a1.2 else a0.2)<=(if a0.1<a1.1 then a1.1 else a0.1)))then
some ((0,0),false)
else
some ((if a0.1<a1.1 then a1.1 else a0.1,if a1.2<a0.2 then a1.2 else a0.2),true)))
def X6(N:Nat):br:=⟨⟨[(0, .g aa),(1, .g aa)],[],[],0⟩,⟨[(0, .g aa),(1, .l .bool)],[],[],0⟩,fun(x:aa.den×aa.den)=>M.iT N x.1 x.2⟩
theorem X7(N:Nat):av Tryz.prog 131 (X6 N):=fw (en [ck (X5 N)] false false) (N:=N) (.o (.two (.meet ⟨[(14, .l .bool)],[],[],64⟩ .nil .nil) .nil)) Tryz.func131 (by kernel_rfl) fun x=>by kernel_rfl
def M.ke(N:Nat)(a0:dJ.den)(a1:dJ.den):Option Bool:=
(M.iT N a0.1 a1.1).bind fun y1=>
((if y1.2 then
some (decide ((if a0.2.1<a1.2.1 then a1.2.1 else a0.2.1)<(if a1.2.2.1<a0.2.2.1 then a1.2.2.1 else a0.2.2.1)))
else
some false):Option Bool).bind fun j2=>
some j2
def S79(N:Nat):br:=⟨⟨[(0, .g dJ),(1, .g dJ)],[],[],0⟩,⟨[(0, .l .bool)],[],[],0⟩,fun(x:dJ.den×dJ.den)=>M.ke N x.1 x.2⟩
theorem W79(N:Nat):av Tryz.prog 79 (S79 N):=fw (en [ck (X7 N)] false false) (N:=N) (.o (.o (.meet ⟨[(4, .l .bool)],[],[],224⟩ .nil .nil))) Tryz.func79 (by kernel_rfl) fun x=>by kernel_rfl
def M.ij(N:Nat)(a0:dJ.den)(a1:dJ.den):Option (Bool×dJ.den):=
(M.ke N a0 a1).bind fun y1=>
some (y1,a1)
def TC(N:Nat):br:=⟨⟨[(0, .g dJ),(1, .ptr 0 [] 0)],[(0, .box 169 (.leaf dJ))],[],1⟩,⟨[(0, .l .bool)],[(0, .box 169 (.leaf dJ))],[],2⟩,fun(x:dJ.den×dJ.den)=>M.ij N x.1 x.2⟩
theorem TD(N:Nat):av Tryz.prog 78 (TC N):=fw (en [ck (W79 N)] false false) (N:=N) .nil Tryz.func78 (by kernel_rfl) fun x=>by kernel_rfl
def M.bQ(N:Nat)(a0:List dJ.den)(a1:dJ.den):Option (Int×Bool×dJ.den):=
Loop (S:=Int×dJ.den) (X:=Int×Bool×dJ.den) (fun s1=>
(if(decide (s1.1<(a0.length:Int)))then
(idx a0 s1.1).bind fun x2=>
(M.ij N x2 s1.2).bind fun y3=>
(if y3.1 then
some (.inr (s1.1,true,y3.2))
else
some (.inl (ajj.wrap (s1.1+1),y3.2)))
else
some (.inr (0,false,s1.2)))) N (0,a1)
def TE(N:Nat):br:=⟨⟨[(0, .l (.slice dJ)),(1, .fn 78 [(0,[],0)])],[(0, .box 169 (.leaf dJ))],[],1⟩,⟨[(0, .l ae),(1, .l .bool)],[(0, .box 169 (.leaf dJ))],[],2⟩,fun(x:(List dJ.den)×dJ.den)=>M.bQ N x.1 x.2⟩
theorem TF(N:Nat):av Tryz.prog 77 (TE N):=fw (en [ck (TD N)] false false) (N:=N) (.o (.two (.o (.two (.loop ⟨[(10, .l ae)],[(0, .box 169 (.leaf dJ))],[],82⟩ .nil) .nil)) .nil)) Tryz.func77 (by kernel_rfl) fun x=>by kernel_rfl
def M.kf(N:Nat)(a0:ay.den)(a1:List bp.den):Option (Int×Int):=
(if(decide (64<(a0.2.2.2.length:Int)))then
some (64,4)
else
((M.bY N a0.2.1 a1).bind fun y2=>
(if(!y2)then
some true
else
(M.bY N a0.2.2.1 a1).bind fun y3=>
some (!y3)):Option Bool).bind fun j1=>
(if j1 then
some ((-1),8)
else
(M.fo N a0.2.1 a1).bind fun y4=>
(M.fo N a0.2.2.1 a1).bind fun y5=>
Loop (S:=Int) (X:=Int×Int) (fun s6=>
(if(decide (s6<(a0.2.2.2.length:Int)))then
(idx a0.2.2.2 s6).bind fun x7=>
((M.ef N x7.1).bind fun y9=>
(if(!y9)then
some true
else
(if(decide (x7.1.1=x7.1.2))then
some true
else
some (decide (x7.2.2.1<=x7.2.1)))):Option Bool).bind fun j8=>
(if j8 then
some (.inr (s6,3))
else
((if(decide (x7.2.1<y4.1))then
some true
else
(if(decide (y4.2<x7.2.1))then
some true
else
(if(decide ((ajj.wrap (x7.2.2.1-1))<y4.1))then
some true
else
some (decide (y4.2<(ajj.wrap (x7.2.2.1-1))))))):Option Bool).bind fun qh=>
(if qh then
some (.inr (s6,3))
else
((if(decide (x7.2.2.2<y5.1))then
some true
else
some (decide (y5.2<x7.2.2.2))):Option Bool).bind fun CY=>
(if CY then
some (.inr (s6,3))
else
(fa a0.2.2.2 0 s6).bind fun FD=>
(M.bQ N FD x7).bind fun BP=>
(if BP.2.1 then
some (.inr (s6,11))
else
some (.inl (ajj.wrap (s6+1)))))))
else
some (.inr (0,0)))) N 0))
def S47(N:Nat):br:=⟨⟨[(0, .g ay),(1, .l (.slice bp))],[],[],0⟩,⟨[(0, .l ae),(1, .l ae)],[],[],0⟩,fun(x:ay.den×List bp.den)=>M.kf N x.1 x.2⟩
theorem W47(N:Nat):av Tryz.prog 47 (S47 N):=fw (en [ck (X2 N),ck (TB N),ck (X3 N),ck (TF N)] false false) (N:=N) (.o (.o (.two (.meet ⟨[(29, .l .bool)],[],[],112⟩ .nil .nil) (.o (.o (.two (.o (.two (.loop ⟨[(47, .l ae)],[],[],464⟩ (.o (.o (.two (.two (.o (.two (.meet ⟨[(71, .l .bool)],[],[],576⟩ .nil .nil) (.two (.meet ⟨[(96, .l .bool)],[],[],576⟩ .nil .nil) (.two (.meet ⟨[(107, .l .bool)],[],[],576⟩ .nil .nil) .nil)))) .nil) .nil)))) .nil)) .nil)))))) Tryz.func47 (by kernel_rfl) fun x=>by kernel_rfl
def M.jw(N:Nat)(a0:ay.den)(a1:ByteArray):Option (Bool×ByteArray):=
some (decide (a0.1=a1),a1)
def TG(N:Nat):br:=⟨⟨[(0, .g ay),(1, .ptr 0 [] 0)],[(0, .box 9 (.leaf .str))],[],1⟩,⟨[(0, .l .bool)],[(0, .box 9 (.leaf .str))],[],2⟩,fun(x:ay.den×ByteArray)=>M.jw N x.1 x.2⟩
theorem TH(N:Nat):av Tryz.prog 86 (TG N):=fw (en [] false false) (N:=N) .nil Tryz.func86 (by kernel_rfl) fun x=>by kernel_rfl
def M.bf(N:Nat)(a0:List ay.den)(a1:ByteArray):Option (Int×ByteArray):=
Loop (S:=Int×ByteArray) (X:=Int×ByteArray) (fun s1=>
(if(decide (s1.1<(a0.length:Int)))then
(idx a0 s1.1).bind fun x2=>
(M.jw N x2 s1.2).bind fun y3=>
(if y3.1 then
some (.inr (s1.1,y3.2))
else
some (.inl (ajj.wrap (s1.1+1),y3.2)))
else
some (.inr ((-1),s1.2)))) N (0,a1)
def Qd(N:Nat):br:=⟨⟨[(0, .l (.slice ay)),(1, .fn 86 [(0,[],0)])],[(0, .box 9 (.leaf .str))],[],1⟩,⟨[(0, .l ae)],[(0, .box 9 (.leaf .str))],[],2⟩,fun(x:(List ay.den)×ByteArray)=>M.bf N x.1 x.2⟩
theorem Qe(N:Nat):av Tryz.prog 134 (Qd N):=fw (en [ck (TH N)] false false) (N:=N) (.o (.two (.o (.two (.loop ⟨[(8, .l ae)],[(0, .box 9 (.leaf .str))],[],66⟩ .nil) .nil)) .nil)) Tryz.func134 (by kernel_rfl) fun x=>by kernel_rfl
def M.bz(N:Nat)(a0:List ay.den)(a1:ByteArray):Option (Bool×ByteArray):=
(M.bf N a0 a1).bind fun y1=>
some (decide (0<=y1.1),y1.2)
def TJ(N:Nat):br:=⟨⟨[(0, .l (.slice ay)),(1, .fn 86 [(0,[],0)])],[(0, .box 9 (.leaf .str))],[],1⟩,⟨[(0, .l .bool)],[(0, .box 9 (.leaf .str))],[],2⟩,fun(x:(List ay.den)×ByteArray)=>M.bz N x.1 x.2⟩
theorem TK(N:Nat):av Tryz.prog 85 (TJ N):=fw (en [ck (Qe N)] false false) (N:=N) .nil Tryz.func85 (by kernel_rfl) fun x=>by kernel_rfl
def M.iJ(N:Nat)(a0:List ay.den)(a1:ByteArray):Option Bool:=
(M.bz N a0 a1).bind fun y1=>
some y1.1
def S50(N:Nat):br:=⟨⟨[(0, .l (.slice ay)),(1, .l .str)],[],[],0⟩,⟨[(0, .l .bool)],[],[],0⟩,fun(x:(List ay.den)×ByteArray)=>M.iJ N x.1 x.2⟩
theorem W50(N:Nat):av Tryz.prog 50 (S50 N):=fw (en [ck (TK N)] false false) (N:=N) .nil Tryz.func50 (by kernel_rfl) fun x=>by kernel_rfl
def M.jh(N:Nat)(a0:cF.den):Option (aS.den):=
(if(decide (8<(a0.2.1.length:Int)))then
some (4,(2,(8,0)))
else
bM (J:=Unit) (R:=aS.den) (Loop (S:=Int) (X:=Unit⊕(aS.den)) (fun s2=>
(if(decide (s2<(a0.2.1.length:Int)))then
(idx a0.2.1 s2).bind fun x3=>
(M.kf N x3 a0.1).bind fun y4=>
((M.bV N x3.1).bind fun y6=>
(if(!y6)then
some (2,(2,(s2,0)))
else
((M.ig N a0.1 x3.1).bind fun y8=>
(if y8 then
some true
else
(fa a0.2.1 0 s2).bind fun l9=>
(M.iJ N l9 x3.1).bind fun oW=>
some oW):Option Bool).bind fun j7=>
(if j7 then
some (7,(2,(s2,0)))
else
(if(!decide (y4.2=0))then
(if(!decide (y4.1=(-1)))then
some (y4.2,(2,(s2,ajj.wrap (100+y4.1))))
else
some (y4.2,(2,(s2,0))))
else
some (0,(2,(s2,0)))))):Option (aS.den)).bind fun j5=>
(if(!decide (j5.1=0))then
some (.inr (.inr j5))
else
some (.inl (ajj.wrap (s2+1))))
else
some (.inr (.inl ())))) N 0) fun j1=>
some (0,(0,(0,0))))
def S29(N:Nat):br:=⟨⟨[(0, .g cF)],[],[],0⟩,⟨[(0, .g aS)],[],[],0⟩,fun(x:cF.den)=>M.jh N x⟩
theorem W29(N:Nat):av Tryz.prog 29 (S29 N):=fw (en [ck (W47 N),ck (Tv N),ck (XZ N),ck (W50 N)] false false) (N:=N) (.o (.o (.join ⟨[],[],[],96⟩ (.o (.two (.loop ⟨[(16, .l ae)],[],[],160⟩ (.o (.o (.two (.two (.o (.o (.o (.two (.meet ⟨[],[(304, .box 78 (.leaf aS))],[],481⟩ (.o (.o (.meet ⟨[(36, .l .bool)],[],[],560⟩ .nil .nil))) .nil) .nil)))) .nil) .nil)))) .nil)) .nil))) Tryz.func29 (by kernel_rfl) fun x=>by kernel_rfl
def M.ik(N:Nat)(a0:aN.den)(a1:aN.den):Option (Bool×aN.den):=
some (decide (a0.1=a1.1),a1)
def Qf(N:Nat):br:=⟨⟨[(0, .g aN),(1, .ptr 0 [] 0)],[(0, .box 95 (.leaf aN))],[],1⟩,⟨[(0, .l .bool)],[(0, .box 95 (.leaf aN))],[],2⟩,fun(x:aN.den×aN.den)=>M.ik N x.1 x.2⟩
theorem Qg(N:Nat):av Tryz.prog 136 (Qf N):=fw (en [] false false) (N:=N) .nil Tryz.func136 (by kernel_rfl) fun x=>by kernel_rfl
def M.bg(N:Nat)(a0:List aN.den)(a1:aN.den):Option (Int×aN.den):=
Loop (S:=Int×aN.den) (X:=Int×aN.den) (fun s1=>
(if(decide (s1.1<(a0.length:Int)))then
(idx a0 s1.1).bind fun x2=>
(M.ik N x2 s1.2).bind fun y3=>
(if y3.1 then
some (.inr (s1.1,y3.2))
else
some (.inl (ajj.wrap (s1.1+1),y3.2)))
else
some (.inr ((-1),s1.2)))) N (0,a1)
def Qh(N:Nat):br:=⟨⟨[(0, .l (.slice aN)),(1, .fn 136 [(0,[],0)])],[(0, .box 95 (.leaf aN))],[],1⟩,⟨[(0, .l ae)],[(0, .box 95 (.leaf aN))],[],2⟩,fun(x:(List aN.den)×aN.den)=>M.bg N x.1 x.2⟩
theorem Qi(N:Nat):av Tryz.prog 178 (Qh N):=fw (en [ck (Qg N)] false false) (N:=N) (.o (.two (.o (.two (.loop ⟨[(8, .l ae)],[(0, .box 95 (.leaf aN))],[],66⟩ .nil) .nil)) .nil)) Tryz.func178 (by kernel_rfl) fun x=>by kernel_rfl
def M.aI(N:Nat)(a0:List aN.den)(a1:aN.den):Option (Bool×aN.den):=
(M.bg N a0 a1).bind fun y1=>
some (decide (0<=y1.1),y1.2)
def Qj(N:Nat):br:=⟨⟨[(0, .l (.slice aN)),(1, .fn 136 [(0,[],0)])],[(0, .box 95 (.leaf aN))],[],1⟩,⟨[(0, .l .bool)],[(0, .box 95 (.leaf aN))],[],2⟩,fun(x:(List aN.den)×aN.den)=>M.aI N x.1 x.2⟩
theorem Qk(N:Nat):av Tryz.prog 137 (Qj N):=fw (en [ck (Qi N)] false false) (N:=N) .nil Tryz.func137 (by kernel_rfl) fun x=>by kernel_rfl
def M.il(N:Nat)(a0:cF.den)(a1:aN.den)(a2:List aN.den)(a3:List aN.den):Option Int:=
(M.bV N a1.1).bind fun y1=>
(if(!y1)then
some 2
else
((M.aI N a2 a1).bind fun y3=>
(if y3.1 then
some (true,y3.2)
else
(M.aI N a3 y3.2).bind fun y4=>
some (y4.1,y4.2)):Option (Bool×aN.den)).bind fun j2=>
(if j2.1 then
some 7
else
(M.bY N j2.2.2 a0.1).bind fun y5=>
(if(!y5)then
some 8
else
some 0)))
def S89(N:Nat):br:=⟨⟨[(0, .g cF),(1, .g aN),(2, .l (.slice aN)),(3, .l (.slice aN))],[],[],0⟩,⟨[(0, .l ae)],[],[],0⟩,fun(x:cF.den×aN.den×(List aN.den)×List aN.den)=>M.il N x.1 x.2.1 x.2.2.1 x.2.2.2⟩
theorem W89(N:Nat):av Tryz.prog 89 (S89 N):=fw (en [ck (Tv N),ck (TB N),ck (Qk N)] false false) (N:=N) (.o (.o (.two (.two (.o (.o (.meet ⟨[(16, .l .bool)],[(16, .box 95 (.leaf aN))],[],161⟩ .nil .nil))) .nil) .nil))) Tryz.func89 (by kernel_rfl) fun x=>by kernel_rfl
def M.kg(N:Nat)(a0:List aN.den):Option (List aa.den):=
Loop (S:=Int×List aa.den) (X:=List aa.den) (fun s1=>
(if(decide (s1.1<(a0.length:Int)))then
(idx a0 s1.1).bind fun x2=>
(bZ s1.2 ([x2.2]:List aa.den)).bind fun l3=>
some (.inl (ajj.wrap (s1.1+1),l3))
else
some (.inr s1.2))) N (0,([]:List aa.den))
def X8(N:Nat):br:=⟨⟨[(0, .l (.slice aN))],[],[],0⟩,⟨[(0, .val false (.own 0))],[(0, .own 63 aa)],[],1⟩,fun(x:List aN.den)=>M.kg N x⟩
theorem X9(N:Nat):av Tryz.prog 138 (X8 N):=fw (en [] false false) (N:=N) (.o (.o (.two (.o (.two (.loop ⟨[(3, .val false (.own 80)),(8, .l ae)],[(80, .own 63 aa)],[],81⟩ .nil) .nil)) .nil))) Tryz.func138 (by kernel_rfl) fun x=>by kernel_rfl
def M.iU(N:Nat)(a0:cF.den)(a1:Int):Option ((List bp.den)×(List ay.den)×Bool×(List aa.den)×(List aa.den)×List aa.den):=
(idx a0.2.2 a1).bind fun x1=>
(M.kg N x1.2.2.1).bind fun y2=>
(M.kg N x1.2.2.2.1).bind fun y3=>
(((if(decide (0<=x1.2.1))then
some (decide (x1.2.1<(a0.2.2.length:Int)))
else
some false):Option Bool).bind fun j5=>
(if j5 then
(idx a0.2.2 x1.2.1).bind fun x6=>
(M.kg N x6.2.2.2.1).bind fun y7=>
some (y2,y3,a0.1,a0.2.1,true,y7)
else
some (y2,y3,a0.1,a0.2.1,false,([]:List aa.den))):Option ((List aa.den)×(List aa.den)×(List bp.den)×(List ay.den)×Bool×List aa.den)).bind fun j4=>
some (j4.2.2.1,j4.2.2.2.1,j4.2.2.2.2.1,j4.1,j4.2.1,j4.2.2.2.2.2)
def S90(N:Nat):br:=⟨⟨[(0, .g cF),(1, .l ae)],[],[],0⟩,⟨[(0, .val true (.pair (.leaf (.slice bp)) (.pair (.leaf (.slice ay)) (.pair (.own 0) (.pair (.own 1) (.pair (.own 2) (.leaf .bool)))))))],[(0, .own 63 aa),(1, .own 63 aa),(2, .own 63 aa)],[],3⟩,fun(x:cF.den×Int)=>M.iU N x.1 x.2⟩
theorem W90(N:Nat):av Tryz.prog 90 (S90 N):=fw (en [ck (X9 N)] false false) (N:=N) (.o (.o (.o (.meet ⟨[],[(240, .own 63 aa),(288, .own 63 aa),(320, .box 183 (.pair (.leaf (.slice bp)) (.pair (.leaf (.slice ay)) (.pair (.own 240) (.pair (.own 288) (.pair (.own 352) (.leaf .bool))))))),(352, .own 63 aa)],[],356⟩ (.meet ⟨[(33, .l .bool)],[],[],352⟩ .nil .nil) .nil)))) Tryz.func90 (by kernel_rfl) fun x=>by kernel_rfl
def M.strings_Contains(N:Nat)(a0:ByteArray)(a1:ByteArray):Option Bool:=pP (a0,a1)
def Ya(N:Nat):br:=⟨⟨[(0, .l .str),(1, .l .str)],[],[],0⟩,⟨[(0, .l .bool)],[],[],0⟩,fun(x:ByteArray×ByteArray)=>M.strings_Contains N x.1 x.2⟩
theorem Yb(N:Nat):av Tryz.prog 180 (Ya N):=BM ⟨_,Tryz.func180,by kernel_rfl,by kernel_rfl⟩ Tryz.strings_Contains_one
def M.ji(N:Nat)(a0:ByteArray):Option Bool:=
((if(decide (64<(a0.size:Int)))then
some true
else
(M.strings_Contains N a0 (⟨#[34]⟩:ByteArray)).bind fun y2=>
some y2):Option Bool).bind fun j1=>
(if j1 then
some false
else
Loop (S:=Int) (X:=Bool) (fun s3=>
(if(decide (s3<(a0.size:Int)))then
((kT a0 s3).bind fun x5=>
(if(decide (x5<32))then
some true
else
(kT a0 s3).bind fun x6=>
some (decide (126<x6))):Option Bool).bind fun j4=>
(if j4 then
some (.inr false)
else
some (.inl (ajj.wrap (s3+1))))
else
some (.inr true))) N 0)
def Yc(N:Nat):br:=⟨⟨[(0, .l .str)],[],[],0⟩,⟨[(0, .l .bool)],[],[],0⟩,fun(x:ByteArray)=>M.ji N x⟩
theorem Yd(N:Nat):av Tryz.prog 141 (Yc N):=fw (en [ck (Yb N)] false false) (N:=N) (.o (.two (.meet ⟨[(10, .l .bool)],[],[],16⟩ .nil .nil) (.two (.o (.two (.loop ⟨[(13, .l ae)],[],[],64⟩ (.o (.o (.two (.two (.o (.meet ⟨[(25, .l .bool)],[],[],112⟩ .nil .nil)) .nil) .nil)))) .nil)) .nil))) Tryz.func141 (by kernel_rfl) fun x=>by kernel_rfl
def M.dh(N:Nat)(a0:Int):Option Int:=
((if(decide (a0=1))then
some (decide (a0=1))
else
(if(decide (a0=2))then
some (decide (a0=2))
else
(if(decide (a0=3))then
some (decide (a0=3))
else
(if(decide (a0=4))then
some (decide (a0=4))
else
(if(decide (a0=5))then
some (decide (a0=5))
else
(if(decide (a0=6))then
some (decide (a0=6))
else
(if(decide (a0=7))then
some (decide (a0=7))
else
(if(decide (a0=8))then
some (decide (a0=8))
else
(if(decide (a0=9))then
some (decide (a0=9))
else
(if(decide (a0=35))then
some (decide (a0=35))
else
(if(decide (a0=36))then
some (decide (a0=36))
else
(if(decide (a0=37))then
some (decide (a0=37))
else
(if(decide (a0=38))then
some (decide (a0=38))
else
some (decide (a0=39))))))))))))))):Option Bool).bind fun j1=>
(if j1 then
some 0
else
((if(decide (a0=10))then
some (decide (a0=10))
else
(if(decide (a0=25))then
some (decide (a0=25))
else
(if(decide (a0=31))then
some (decide (a0=31))
else
(if(decide (a0=32))then
some (decide (a0=32))
else
(if(decide (a0=33))then
some (decide (a0=33))
else
some (decide (a0=34))))))):Option Bool).bind fun j2=>
(if j2 then
some 1
else
((if(decide (a0=11))then
some (decide (a0=11))
else
(if(decide (a0=12))then
some (decide (a0=12))
else
(if(decide (a0=13))then
some (decide (a0=13))
else
(if(decide (a0=14))then
some (decide (a0=14))
else
(if(decide (a0=15))then
some (decide (a0=15))
else
(if(decide (a0=16))then
some (decide (a0=16))
else
(if(decide (a0=17))then
some (decide (a0=17))
else
(if(decide (a0=18))then
some (decide (a0=18))
else
(if(decide (a0=19))then
some (decide (a0=19))
else
(if(decide (a0=20))then
some (decide (a0=20))
else
(if(decide (a0=21))then
some (decide (a0=21))
else
(if(decide (a0=22))then
some (decide (a0=22))
else
(if(decide (a0=23))then
some (decide (a0=23))
else
(if(decide (a0=24))then
some (decide (a0=24))
else
(if(decide (a0=27))then
some (decide (a0=27))
else
(if(decide (a0=28))then
some (decide (a0=28))
else
(if(decide (a0=29))then
some (decide (a0=29))
else
some (decide (a0=30))))))))))))))))))):Option Bool).bind fun j3=>
(if j3 then
some 2
else
(if(decide (a0=26))then
some 3
else
some (-1)))))
def S37(N:Nat):br:=⟨⟨[(0, .l ae)],[],[],0⟩,⟨[(0, .l ae)],[],[],0⟩,fun(x:Int)=>M.dh N x⟩
theorem Nw(N:Nat):av Tryz.prog 37 (S37 N):=fw (en [] false false) (N:=N) (.o (.two (.o (.two (.meet ⟨[(4, .l .bool)],[],[],32⟩ .nil (.o (.meet ⟨[(19, .l .bool)],[],[],32⟩ .nil (.o (.meet ⟨[(26, .l .bool)],[],[],32⟩ .nil .nil))))) .nil)) .nil)) Tryz.func37 (by kernel_rfl) fun x=>by kernel_rfl
def M.eQ(N:Nat)(a0:List aa.den):Option (Int×Int×List Int):=
(if(decide (48<(a0.length:Int)))then
some (0,4,([]:List Int))
else
(if(decide ((a0.length:Int)=0))then
some (0,5,([]:List Int))
else
(mI (a0.length:Int) 0).bind fun l1=>
bM (J:=(List Int)×List Int) (R:=Int×Int×List Int) (Loop (S:=Int×(List Int)×List Int) (X:=((List Int)×List Int)⊕(Int×Int×List Int)) (fun s3=>
(if(decide (s3.1<(a0.length:Int)))then
(idx a0 s3.1).bind fun x4=>
(M.dh N x4.1).bind fun y5=>
(if(decide (y5<0))then
some (.inr (.inr (s3.1,2,([]:List Int))))
else
(if(decide ((s3.2.2.length:Int)<y5))then
some (.inr (.inr (s3.1,5,([]:List Int))))
else
(idx s3.2.1 s3.1).bind fun x6=>
((if(decide (0<y5))then
(idx s3.2.2 (ajj.wrap ((s3.2.2.length:Int)-y5))).bind fun x8=>
(idx (aQ s3.2.1 s3.1 s3.1) s3.1).bind fun x9=>
some (aQ (aQ s3.2.1 s3.1 s3.1) s3.1 x8)
else
some (aQ s3.2.1 s3.1 s3.1)):Option (List Int)).bind fun j7=>
(fa s3.2.2 0 (ajj.wrap ((s3.2.2.length:Int)-y5))).bind fun xk=>
(idx j7 s3.1).bind fun oE=>
(bZ xk ([oE]:List Int)).bind fun FD=>
(if(decide (12<(FD.length:Int)))then
some (.inr (.inr (s3.1,16,([]:List Int))))
else
some (.inl (ajj.wrap (s3.1+1),j7,FD)))))
else
some (.inr (.inl (s3.2.1,s3.2.2))))) N (0,l1,([]:List Int))) fun j2=>
(if(decide (1<(j2.2.length:Int)))then
some ((a0.length:Int),4,([]:List Int))
else
some (0,0,j2.1))))
def Ye(N:Nat):br:=⟨⟨[(0, .l (.slice aa))],[],[],0⟩,⟨[(0, .val false (.own 0)),(1, .l ae),(2, .l ae)],[(0, .own 3 ae)],[],1⟩,fun(x:List aa.den)=>M.eQ N x⟩
theorem TL(N:Nat):av Tryz.prog 147 (Ye N):=fw (en [ck (Nw N)] false false) (N:=N) (.o (.o (.o (.o (.o (.join ⟨[(6, .val false (.own 224))],[(176, .own 3 ae),(224, .own 3 ae)],[],226⟩ (.o (.two (.loop ⟨[(6, .val false (.own 272)),(21, .l ae)],[(176, .own 3 ae),(272, .own 3 ae)],[],274⟩ (.o (.o (.two (.two (.o (.o (.o (.o (.o (.meet ⟨[],[(176, .own 3 ae)],[],627⟩ .nil .nil)))))) .nil) .nil)))) .nil)) .nil)))))) Tryz.func147 (by kernel_rfl) fun x=>by kernel_rfl
def M.fD(N:Nat)(a0:Int):Option Bool:=
((if(decide (a0=1))then
some (decide (a0=1))
else
(if(decide (a0=2))then
some (decide (a0=2))
else
(if(decide (a0=3))then
some (decide (a0=3))
else
(if(decide (a0=4))then
some (decide (a0=4))
else
(if(decide (a0=5))then
some (decide (a0=5))
else
(if(decide (a0=6))then
some (decide (a0=6))
else
(if(decide (a0=7))then
some (decide (a0=7))
else
(if(decide (a0=8))then
some (decide (a0=8))
else
(if(decide (a0=14))then
some (decide (a0=14))
else
(if(decide (a0=15))then
some (decide (a0=15))
else
(if(decide (a0=16))then
some (decide (a0=16))
else
(if(decide (a0=33))then
some (decide (a0=33))
else
(if(decide (a0=34))then
some (decide (a0=34))
else
(if(decide (a0=36))then
some (decide (a0=36))
else
(if(decide (a0=37))then
some (decide (a0=37))
else
(if(decide (a0=38))then
some (decide (a0=38))
else
some (decide (a0=39)))))))))))))))))):Option Bool).bind fun j1=>
(if j1 then
some true
else
some false)
def Yf(N:Nat):br:=⟨⟨[(0, .l ae)],[],[],0⟩,⟨[(0, .l .bool)],[],[],0⟩,fun(x:Int)=>M.fD N x⟩
theorem TM(N:Nat):av Tryz.prog 164 (Yf N):=fw (en [] false false) (N:=N) (.o (.two (.o (.two (.meet ⟨[(4, .l .bool)],[],[],32⟩ .nil .nil) .nil)) .nil)) Tryz.func164 (by kernel_rfl) fun x=>by kernel_rfl
def M.cy(N:Nat)(a0:Int)(a1:Int)(a2:aR.den):Option (aa.den×Int):=
(M.fo N (a1,0) a2.1).bind fun y1=>
((if(decide (a0<y1.1))then
some true
else
some (decide (y1.2<a0))):Option Bool).bind fun j2=>
(if j2 then
some ((0,0),3)
else
some ((a1,0),0))
def Yg(N:Nat):br:=⟨⟨[(0, .l ae),(1, .l ae),(2, .g aR)],[],[],0⟩,⟨[(0, .g aa),(1, .l ae)],[],[],0⟩,fun(x:Int×Int×aR.den)=>M.cy N x.1 x.2.1 x.2.2⟩
theorem Yh(N:Nat):av Tryz.prog 213 (Yg N):=fw (en [ck (X2 N)] false false) (N:=N) (.o (.o (.two (.o (.meet ⟨[(27, .l .bool)],[],[],256⟩ .nil .nil)) .nil))) Tryz.func213 (by kernel_rfl) fun x=>by kernel_rfl
def M.bF(N:Nat)(a0:Int)(a1:aR.den):Option (aa.den×Int):=
(if(decide (a0<0))then
some ((0,0),3)
else
((if(decide ((a1.1.length:Int)<=(ajj.wrap (ajE a0 16))))then
some true
else
(idx a1.1 (ajj.wrap (ajE a0 16))).bind fun x2=>
some (decide ((x2.2.length:Int)<=(ajY a0 16)))):Option Bool).bind fun j1=>
(if j1 then
some ((0,0),6)
else
some ((6,ajj.wrap (ajE a0 16)),0)))
def Yi(N:Nat):br:=⟨⟨[(0, .l ae),(1, .g aR)],[],[],0⟩,⟨[(0, .g aa),(1, .l ae)],[],[],0⟩,fun(x:Int×aR.den)=>M.bF N x.1 x.2⟩
theorem Yj(N:Nat):av Tryz.prog 214 (Yi N):=fw (en [] false false) (N:=N) (.o (.o (.o (.two (.meet ⟨[(30, .l .bool)],[],[],176⟩ .nil .nil) .nil)))) Tryz.func214 (by kernel_rfl) fun x=>by kernel_rfl
def M.dC(N:Nat)(a0:Int)(a1:List aa.den)(a2:aR.den):Option (aa.den×Int):=
((if(decide (a0<0))then
some true
else
some (decide ((a1.length:Int)<=a0))):Option Bool).bind fun j1=>
(if j1 then
some ((0,0),6)
else
(idx a1 a0).bind fun x2=>
(M.bY N x2 a2.1).bind fun y3=>
(if(!y3)then
some ((0,0),8)
else
(idx a1 a0).bind fun x4=>
some (x4,0)))
def Yk(N:Nat):br:=⟨⟨[(0, .l ae),(1, .l (.slice aa)),(2, .g aR)],[],[],0⟩,⟨[(0, .g aa),(1, .l ae)],[],[],0⟩,fun(x:Int×(List aa.den)×aR.den)=>M.dC N x.1 x.2.1 x.2.2⟩
theorem TN(N:Nat):av Tryz.prog 215 (Yk N):=fw (en [ck (TB N)] false false) (N:=N) (.o (.two (.meet ⟨[(15, .l .bool)],[],[],48⟩ .nil .nil) .nil)) Tryz.func215 (by kernel_rfl) fun x=>by kernel_rfl
def M.eR(N:Nat)(a0:Int):Option Bool:=
((if(decide (0<=a0))then
some (decide (a0<=5))
else
some false):Option Bool).bind fun j1=>
some j1
def Yl(N:Nat):br:=⟨⟨[(0, .l ae)],[],[],0⟩,⟨[(0, .l .bool)],[],[],0⟩,fun(x:Int)=>M.eR N x⟩
theorem TO(N:Nat):av Tryz.prog 218 (Yl N):=fw (en [] false false) (N:=N) (.o (.meet ⟨[(2, .l .bool)],[],[],16⟩ .nil .nil)) Tryz.func218 (by kernel_rfl) fun x=>by kernel_rfl
def M.fR(N:Nat)(a0:aa.den)(a1:aa.den)(a2:aR.den):Option (aa.den×Int):=
bM (J:=Int) (R:=aa.den×Int) ((if(decide (a0.1=34))then
((if(decide (a0.2<0))then
some true
else
(M.eR N (ajY a0.2 8)).bind fun y3=>
some (!y3)):Option Bool).bind fun j2=>
(if j2 then
some (.inr ((0,0),3))
else
some (.inl (ajj.wrap (ajE a0.2 8))))
else
some (.inl a0.2))) fun j1=>
((if(decide (j1<0))then
some true
else
some (decide ((a2.2.1.length:Int)<=j1))):Option Bool).bind fun j4=>
(if j4 then
some ((0,0),6)
else
(idx a2.2.1 j1).bind fun x5=>
(idx a2.2.1 j1).bind fun x6=>
((M.bY N x5.2.1 a2.1).bind fun y8=>
(if(!y8)then
some true
else
(M.bY N x6.2.2.1 a2.1).bind fun y9=>
(if(!y9)then
some true
else
some (!(oD aa a1 x5.2.1)))):Option Bool).bind fun j7=>
(if j7 then
some ((0,0),8)
else
(if(decide (a0.1=34))then
((if(!decide (x5.2.1.1=3))then
some true
else
some (!decide (x6.2.2.1.1=4))):Option Bool).bind fun qh=>
(if qh then
some ((0,0),8)
else
some (x5.2.1,0))
else
some (x6.2.2.1,0))))
def Ym(N:Nat):br:=⟨⟨[(0, .g aa),(1, .g aa),(2, .g aR)],[],[],0⟩,⟨[(0, .g aa),(1, .l ae)],[],[],0⟩,fun(x:aa.den×aa.den×aR.den)=>M.fR N x.1 x.2.1 x.2.2⟩
theorem Yn(N:Nat):av Tryz.prog 216 (Ym N):=fw (en [ck (TB N),ck (TO N)] false false) (N:=N) (.o (.o (.join ⟨[(8, .l ae)],[],[],128⟩ (.o (.two (.two (.meet ⟨[(25, .l .bool)],[],[],176⟩ .nil .nil) .nil) .nil)) (.two (.meet ⟨[(38, .l .bool)],[],[],128⟩ .nil .nil) (.o (.two (.meet ⟨[(68, .l .bool)],[],[],384⟩ .nil .nil) (.two (.o (.two (.two (.meet ⟨[(80, .l .bool)],[],[],432⟩ .nil .nil) .nil) .nil)) .nil))))))) Tryz.func216 (by kernel_rfl) fun x=>by kernel_rfl
def M.dt(N:Nat)(a0:Int):Option Bool:=
((if(decide (a0=2))then
some true
else
(if(decide (a0=3))then
some true
else
some (decide (a0=4)))):Option Bool).bind fun j1=>
some j1
def Yo(N:Nat):br:=⟨⟨[(0, .l ae)],[],[],0⟩,⟨[(0, .l .bool)],[],[],0⟩,fun(x:Int)=>M.dt N x⟩
theorem TP(N:Nat):av Tryz.prog 236 (Yo N):=fw (en [] false false) (N:=N) (.o (.meet ⟨[(2, .l .bool)],[],[],16⟩ .nil .nil)) Tryz.func236 (by kernel_rfl) fun x=>by kernel_rfl
def M.bn(N:Nat)(a0:aa.den)(a1:aR.den):Option (aa.den×Int):=
(if(!a1.2.2.2.2.2)then
some ((0,0),6)
else
(if(decide (a0.1=35))then
some ((2,0),0)
else
(M.dC N a0.2 a1.2.2.2.2.1 a1).bind fun y1=>
(if(!decide (y1.2=0))then
some ((0,0),y1.2)
else
((if(decide (a0.1=36))then
(if(decide (y1.1.1=2))then
some true
else
some (decide (y1.1.1=3)))
else
((if(decide (a0.1=37))then
some (decide (a0.1=37))
else
some (decide (a0.1=38))):Option Bool).bind fun j3=>
(if j3 then
some (decide (y1.1.1=1))
else
(if(decide (a0.1=39))then
(M.dt N y1.1.1).bind fun y4=>
(if y4 then
some true
else
some (decide (y1.1.1=5)))
else
some false))):Option Bool).bind fun j2=>
(if(!j2)then
some ((0,0),8)
else
some (y1.1,0)))))
def Yp(N:Nat):br:=⟨⟨[(0, .g aa),(1, .g aR)],[],[],0⟩,⟨[(0, .g aa),(1, .l ae)],[],[],0⟩,fun(x:aa.den×aR.den)=>M.bn N x.1 x.2⟩
theorem Yq(N:Nat):av Tryz.prog 217 (Yp N):=fw (en [ck (TN N),ck (TP N)] false false) (N:=N) (.o (.o (.o (.o (.o (.o (.two (.o (.meet ⟨[(8, .l .bool)],[],[],432⟩ (.o (.o (.meet ⟨[(42, .l .bool)],[],[],464⟩ .nil .nil))) .nil)) .nil))))))) Tryz.func217 (by kernel_rfl) fun x=>by kernel_rfl
def M.fS(N:Nat)(a0:Int)(a1:Int)(a2:Int):Option (aa.den×Bool):=
(if(decide (a0=14))then
((if(decide (a2=4))then
(if(decide (a1=3))then
some (true,(a1,0))
else
some (decide (a1=4),(a1,0)))
else
some (false,(a1,0))):Option (Bool×aa.den)).bind fun j1=>
some (j1.2,j1.1)
else
(if(decide (a2=2))then
((if(decide (a1=2))then
some (true,(a1,0))
else
some (decide (a1=3),(a1,0))):Option (Bool×aa.den)).bind fun j2=>
some (j2.2,j2.1)
else
((if(decide (a0=15))then
(if(decide (a1=3))then
some (decide (a2=3))
else
some false)
else
some false):Option Bool).bind fun j3=>
(if j3 then
some ((4,0),true)
else
some ((0,0),false))))
def Yr(N:Nat):br:=⟨⟨[(0, .l ae),(1, .l ae),(2, .l ae)],[],[],0⟩,⟨[(0, .g aa),(1, .l .bool)],[],[],0⟩,fun(x:Int×Int×Int)=>M.fS N x.1 x.2.1 x.2.2⟩
theorem Ys(N:Nat):av Tryz.prog 237 (Yr N):=fw (en [] false false) (N:=N) (.o (.two (.two (.o (.two (.meet ⟨[(7, .l .bool)],[(0, .box 63 (.leaf aa))],[],81⟩ .nil .nil) (.o (.two (.meet ⟨[(7, .l .bool)],[(0, .box 63 (.leaf aa))],[],129⟩ .nil .nil) (.meet ⟨[(34, .l .bool)],[],[],128⟩ .nil .nil))))) .nil) .nil)) Tryz.func237 (by kernel_rfl) fun x=>by kernel_rfl
def M.cu(N:Nat)(a0:Int)(a1:List aa.den):Option (aa.den×Bool):=
(if(decide (a0=10))then
(idx a1 0).bind fun x1=>
(idx a1 0).bind fun x2=>
(M.dt N x2.1).bind fun y3=>
some (x1,y3)
else
(if(decide (a0=25))then
(idx a1 0).bind fun x4=>
some ((1,0),decide (x4.1=1))
else
((if(decide (a0=11))then
some (decide (a0=11))
else
some (decide (a0=12))):Option Bool).bind fun j5=>
(if j5 then
((idx a1 0).bind fun x7=>
(idx a1 0).bind fun x8=>
(idx a1 1).bind fun x9=>
(if(oD aa x8 x9)then
(idx a1 0).bind fun r9=>
(M.dt N r9.1).bind fun qi=>
some (qi,x7)
else
some (false,x7)):Option (Bool×aa.den)).bind fun j6=>
some (j6.2,j6.1)
else
((if(decide (a0=13))then
some (decide (a0=13))
else
(if(decide (a0=14))then
some (decide (a0=14))
else
some (decide (a0=15)))):Option Bool).bind fun Al=>
(if Al then
(idx a1 0).bind fun oX=>
(idx a1 1).bind fun sa=>
(M.fS N a0 oX.1 sa.1).bind fun D9=>
some (D9.1,D9.2)
else
(if(decide (a0=16))then
((idx a1 0).bind fun IS=>
(idx a1 0).bind fun CX=>
(if(decide (CX.1=3))then
(idx a1 1).bind fun Ql=>
some (decide (Ql.1=3),IS)
else
some (false,IS)):Option (Bool×aa.den)).bind fun Qm=>
some (Qm.2,Qm.1)
else
((if(decide (a0=17))then
some (decide (a0=17))
else
some (decide (a0=18))):Option Bool).bind fun OZ=>
(if OZ then
((idx a1 0).bind fun Qn=>
(idx a1 0).bind fun Yt=>
(idx a1 1).bind fun x24=>
(if(oD aa Yt x24)then
(idx a1 0).bind fun x25=>
(M.dt N x25.1).bind fun Yu=>
(if Yu then
some (true,Qn)
else
(idx a1 0).bind fun VG=>
some (decide (VG.1=5),Qn))
else
some (false,Qn)):Option (Bool×aa.den)).bind fun Yv=>
some (Yv.2,Yv.1)
else
((if(decide (a0=19))then
some (decide (a0=19))
else
some (decide (a0=20))):Option Bool).bind fun j28=>
(if j28 then
(idx a1 0).bind fun x29=>
(idx a1 1).bind fun BQ=>
some ((1,0),(oD aa x29 BQ))
else
((if(decide (a0=21))then
some (decide (a0=21))
else
some (decide (a0=22))):Option Bool).bind fun j31=>
(if j31 then
((idx a1 0).bind fun Mi=>
(idx a1 1).bind fun TQ=>
(if(oD aa Mi TQ)then
(idx a1 0).bind fun x35=>
(M.dt N x35.1).bind fun y36=>
(if y36 then
some (true,(1,0))
else
(idx a1 0).bind fun x37=>
some (decide (x37.1=5),(1,0)))
else
some (false,(1,0))):Option (Bool×aa.den)).bind fun j32=>
some (j32.2,j32.1)
else
((if(decide (a0=23))then
some (decide (a0=23))
else
some (decide (a0=24))):Option Bool).bind fun j38=>
(if j38 then
((idx a1 0).bind fun x40=>
(if(decide (x40.1=1))then
(idx a1 1).bind fun x41=>
some (decide (x41.1=1),(1,0))
else
some (false,(1,0))):Option (Bool×aa.den)).bind fun j39=>
some (j39.2,j39.1)
else
(if(decide (a0=26))then
((idx a1 1).bind fun x43=>
(idx a1 0).bind fun x44=>
(if(decide (x44.1=1))then
(idx a1 1).bind fun x45=>
(idx a1 2).bind fun Yw=>
some ((oD aa x45 Yw),x43)
else
some (false,x43)):Option (Bool×aa.den)).bind fun j42=>
some (j42.2,j42.1)
else
((if(decide (a0=27))then
some (decide (a0=27))
else
some (decide (a0=28))):Option Bool).bind fun j47=>
(if j47 then
((idx a1 0).bind fun x49=>
(idx a1 0).bind fun x50=>
(if(decide (x50.1=5))then
(idx a1 1).bind fun x51=>
some (decide (x51.1=2),x49)
else
some (false,x49)):Option (Bool×aa.den)).bind fun j48=>
some (j48.2,j48.1)
else
((if(decide (a0=29))then
some (decide (a0=29))
else
some (decide (a0=30))):Option Bool).bind fun j52=>
(if j52 then
((idx a1 0).bind fun x54=>
(if(decide (x54.1=5))then
(idx a1 1).bind fun x55=>
some (decide (x55.1=5),(2,0))
else
some (false,(2,0))):Option (Bool×aa.den)).bind fun j53=>
some (j53.2,j53.1)
else
((if(decide (a0=31))then
some (decide (a0=31))
else
some (decide (a0=32))):Option Bool).bind fun j56=>
(if j56 then
(idx a1 0).bind fun x57=>
some ((2,0),decide (x57.1=5))
else
some ((0,0),false))))))))))))))
def Yx(N:Nat):br:=⟨⟨[(0, .l ae),(1, .l (.slice aa))],[],[],0⟩,⟨[(0, .g aa),(1, .l .bool)],[],[],0⟩,fun(x:Int×List aa.den)=>M.cu N x.1 x.2⟩
theorem Yy(N:Nat):av Tryz.prog 219 (Yx N):=fw (en [ck (TP N),ck (Ys N)] false false) (N:=N) (.o (.o (.two (.o (.two (.o (.o (.o (.o (.meet ⟨[(27, .l .bool)],[],[],160⟩ .nil (.two (.meet ⟨[(5, .l .bool)],[(0, .box 63 (.leaf aa))],[],161⟩ .nil .nil) (.meet ⟨[(47, .l .bool)],[],[],160⟩ .nil (.o (.o (.two (.meet ⟨[(5, .l .bool)],[(0, .box 63 (.leaf aa))],[],193⟩ .nil .nil) (.meet ⟨[(80, .l .bool)],[],[],192⟩ .nil (.two (.meet ⟨[(5, .l .bool)],[(0, .box 63 (.leaf aa))],[],193⟩ .nil .nil) (.meet ⟨[(107, .l .bool)],[],[],192⟩ .nil (.o (.meet ⟨[(118, .l .bool)],[],[],192⟩ .nil (.two (.meet ⟨[(5, .l .bool)],[(0, .box 63 (.leaf aa))],[],193⟩ .nil .nil) (.meet ⟨[(143, .l .bool)],[],[],192⟩ .nil (.two (.meet ⟨[(5, .l .bool)],[(0, .box 63 (.leaf aa))],[],193⟩ .nil .nil) (.o (.two (.meet ⟨[(5, .l .bool)],[(0, .box 63 (.leaf aa))],[],225⟩ .nil .nil) (.meet ⟨[(178, .l .bool)],[],[],224⟩ .nil (.two (.meet ⟨[(5, .l .bool)],[(0, .box 63 (.leaf aa))],[],225⟩ .nil .nil) (.meet ⟨[(196, .l .bool)],[],[],224⟩ .nil (.two (.meet ⟨[(5, .l .bool)],[(0, .box 63 (.leaf aa))],[],225⟩ .nil .nil) (.meet ⟨[(212, .l .bool)],[],[],224⟩ .nil .nil))))))))))))))))))))))))) .nil)) .nil))) Tryz.func219 (by kernel_rfl) fun x=>by kernel_rfl
def M.aK(N:Nat)(a0:aa.den)(a1:List aa.den)(a2:aR.den):Option (aa.den×Int):=
bM (J:=Unit) (R:=aa.den×Int) ((if(decide (a0.1=1))then
(M.cy N a0.2 1 a2).bind fun y2=>
some (.inr (y2.1,y2.2))
else
(if(decide (a0.1=2))then
(M.cy N a0.2 2 a2).bind fun y3=>
some (.inr (y3.1,y3.2))
else
(if(decide (a0.1=3))then
(M.cy N a0.2 3 a2).bind fun y4=>
some (.inr (y4.1,y4.2))
else
(if(decide (a0.1=4))then
(M.cy N a0.2 4 a2).bind fun y5=>
some (.inr (y5.1,y5.2))
else
(if(decide (a0.1=5))then
(M.cy N a0.2 5 a2).bind fun y6=>
some (.inr (y6.1,y6.2))
else
(if(decide (a0.1=6))then
(M.bF N a0.2 a2).bind fun y7=>
some (.inr (y7.1,y7.2))
else
(if(decide (a0.1=7))then
(M.dC N a0.2 a2.2.2.1 a2).bind fun y8=>
some (.inr (y8.1,y8.2))
else
(if(decide (a0.1=8))then
(M.dC N a0.2 a2.2.2.2.1 a2).bind fun y9=>
some (.inr (y9.1,y9.2))
else
(if(decide (a0.1=9))then
some (.inr ((5,0),0))
else
((if(decide (a0.1=33))then
some (decide (a0.1=33))
else
some (decide (a0.1=34))):Option Bool).bind fun qh=>
(if qh then
(idx a1 0).bind fun oE=>
(M.fR N a0 oE a2).bind fun qj=>
some (.inr (qj.1,qj.2))
else
((if(decide (a0.1=35))then
some (decide (a0.1=35))
else
(if(decide (a0.1=36))then
some (decide (a0.1=36))
else
(if(decide (a0.1=37))then
some (decide (a0.1=37))
else
(if(decide (a0.1=38))then
some (decide (a0.1=38))
else
some (decide (a0.1=39)))))):Option Bool).bind fun Mj=>
(if Mj then
(M.bn N a0 a2).bind fun qk=>
some (.inr (qk.1,qk.2))
else
((if(decide (a0.1=14))then
some (decide (a0.1=14))
else
(if(decide (a0.1=15))then
some (decide (a0.1=15))
else
some (decide (a0.1=16)))):Option Bool).bind fun OX=>
(if OX then
(M.eR N a0.2).bind fun IT=>
(if(!IT)then
some (.inr ((0,0),3))
else
some (.inl ()))
else
some (.inl ())))))))))))))) fun j1=>
(M.cu N a0.1 a1).bind fun wS=>
(if(!wS.2)then
some ((0,0),8)
else
some (wS.1,0))
def Yz(N:Nat):br:=⟨⟨[(0, .g aa),(1, .l (.slice aa)),(2, .g aR)],[],[],0⟩,⟨[(0, .g aa),(1, .l ae)],[],[],0⟩,fun(x:aa.den×(List aa.den)×aR.den)=>M.aK N x.1 x.2.1 x.2.2⟩
theorem YA(N:Nat):av Tryz.prog 199 (Yz N):=fw (en [ck (Yh N),ck (Yj N),ck (TN N),ck (Yn N),ck (Yq N),ck (TO N),ck (Yy N)] false false) (N:=N) (.o (.two (.o (.join ⟨[],[],[],96⟩ (.o (.o (.o (.o (.o (.o (.o (.o (.o (.o (.o (.o (.o (.o (.o (.o (.o (.o (.meet ⟨[(83, .l .bool)],[],[],384⟩ .nil (.o (.meet ⟨[(94, .l .bool)],[],[],384⟩ .nil (.o (.meet ⟨[(105, .l .bool)],[],[],384⟩ .nil .nil))))))))))))))))))))))) .nil)) .nil)) Tryz.func199 (by kernel_rfl) fun x=>by kernel_rfl
def M.gh(N:Nat)(a0:List aa.den)(a1:aR.den):Option (aa.den×Int×Int):=
(M.eQ N a0).bind fun y1=>
(if(!decide (y1.2.1=0))then
some ((0,0),y1.1,y1.2.1)
else
bM (J:=List aa.den) (R:=aa.den×Int×Int) (Loop (S:=Int×List aa.den) (X:=(List aa.den)⊕(aa.den×Int×Int)) (fun s3=>
(if(decide (s3.1<(a0.length:Int)))then
(idx a0 s3.1).bind fun x4=>
((if(!decide (x4.2=0))then
(M.fD N x4.1).bind fun y6=>
some (!y6)
else
some false):Option Bool).bind fun j5=>
(if j5 then
some (.inr (.inr ((0,0),s3.1,2)))
else
(M.dh N x4.1).bind fun y7=>
(fa s3.2 (ajj.wrap ((s3.2.length:Int)-y7)) (s3.2.length:Int)).bind fun l8=>
(M.aK N x4 l8 a1).bind fun y9=>
(if(!decide (y9.2=0))then
some (.inr (.inr ((0,0),s3.1,y9.2)))
else
(fa s3.2 0 (ajj.wrap ((s3.2.length:Int)-y7))).bind fun xk=>
(bZ xk ([y9.1]:List aa.den)).bind fun HU=>
some (.inl (ajj.wrap (s3.1+1),HU))))
else
some (.inr (.inl s3.2)))) N (0,([]:List aa.den))) fun j2=>
(idx j2 0).bind fun rH=>
some (rH,0,0))
def YB(N:Nat):br:=⟨⟨[(0, .l (.slice aa)),(1, .g aR)],[],[],0⟩,⟨[(0, .g aa),(1, .l ae),(2, .l ae)],[],[],0⟩,fun(x:(List aa.den)×aR.den)=>M.gh N x.1 x.2⟩
theorem YC(N:Nat):av Tryz.prog 181 (YB N):=fw (en [ck (Nw N),ck (TL N),ck (TM N),ck (YA N)] false false) (N:=N) (.o (.o (.o (.o (.join ⟨[(10, .val false (.own 256))],[(256, .own 63 aa)],[],257⟩ (.o (.two (.loop ⟨[(10, .val false (.own 304)),(29, .l ae)],[(304, .own 63 aa)],[],305⟩ (.o (.o (.two (.two (.o (.two (.meet ⟨[(42, .l .bool)],[],[],417⟩ .nil .nil) .nil)) .nil) .nil)))) .nil)) .nil))))) Tryz.func181 (by kernel_rfl) fun x=>by kernel_rfl
def M.fE(N:Nat)(a0:List aa.den)(a1:aR.den)(a2:aa.den):Option Int:=
(M.gh N a0 a1).bind fun y1=>
(if(!decide (y1.2.2=0))then
some y1.2.2
else
(if(!(oD aa y1.1 a2))then
some 8
else
some 0))
def YD(N:Nat):br:=⟨⟨[(0, .l (.slice aa)),(1, .g aR),(2, .g aa)],[],[],0⟩,⟨[(0, .l ae)],[],[],0⟩,fun(x:(List aa.den)×aR.den×aa.den)=>M.fE N x.1 x.2.1 x.2.2⟩
theorem YE(N:Nat):av Tryz.prog 142 (YD N):=fw (en [ck (YC N)] false false) (N:=N) .nil Tryz.func142 (by kernel_rfl) fun x=>by kernel_rfl
def M.iV(N:Nat)(a0:aZ.den)(a1:aZ.den):Option (Bool×aZ.den):=
some (decide (a0.1=a1.1),a1)
def Qo(N:Nat):br:=⟨⟨[(0, .g aZ),(1, .ptr 0 [] 0)],[(0, .box 41 (.leaf aZ))],[],1⟩,⟨[(0, .l .bool)],[(0, .box 41 (.leaf aZ))],[],2⟩,fun(x:aZ.den×aZ.den)=>M.iV N x.1 x.2⟩
theorem Qp(N:Nat):av Tryz.prog 140 (Qo N):=fw (en [] false false) (N:=N) .nil Tryz.func140 (by kernel_rfl) fun x=>by kernel_rfl
def M.bl(N:Nat)(a0:List aZ.den)(a1:aZ.den):Option (Int×aZ.den):=
Loop (S:=Int×aZ.den) (X:=Int×aZ.den) (fun s1=>
(if(decide (s1.1<(a0.length:Int)))then
(idx a0 s1.1).bind fun x2=>
(M.iV N x2 s1.2).bind fun y3=>
(if y3.1 then
some (.inr (s1.1,y3.2))
else
some (.inl (ajj.wrap (s1.1+1),y3.2)))
else
some (.inr ((-1),s1.2)))) N (0,a1)
def Qq(N:Nat):br:=⟨⟨[(0, .l (.slice aZ)),(1, .fn 140 [(0,[],0)])],[(0, .box 41 (.leaf aZ))],[],1⟩,⟨[(0, .l ae)],[(0, .box 41 (.leaf aZ))],[],2⟩,fun(x:(List aZ.den)×aZ.den)=>M.bl N x.1 x.2⟩
theorem Qr(N:Nat):av Tryz.prog 179 (Qq N):=fw (en [ck (Qp N)] false false) (N:=N) (.o (.two (.o (.two (.loop ⟨[(8, .l ae)],[(0, .box 41 (.leaf aZ))],[],66⟩ .nil) .nil)) .nil)) Tryz.func179 (by kernel_rfl) fun x=>by kernel_rfl
def M.ba(N:Nat)(a0:List aZ.den)(a1:aZ.den):Option (Bool×aZ.den):=
(M.bl N a0 a1).bind fun y1=>
some (decide (0<=y1.1),y1.2)
def Qs(N:Nat):br:=⟨⟨[(0, .l (.slice aZ)),(1, .fn 140 [(0,[],0)])],[(0, .box 41 (.leaf aZ))],[],1⟩,⟨[(0, .l .bool)],[(0, .box 41 (.leaf aZ))],[],2⟩,fun(x:(List aZ.den)×aZ.den)=>M.ba N x.1 x.2⟩
theorem Qt(N:Nat):av Tryz.prog 139 (Qs N):=fw (en [ck (Qr N)] false false) (N:=N) .nil Tryz.func139 (by kernel_rfl) fun x=>by kernel_rfl
def M.jb(N:Nat)(a0:aB.den)(a1:Int)(a2:aR.den):Option Int:=
(idx a0.2.2.2.2 a1).bind fun x1=>
((fa a0.2.2.2.2 0 a1).bind fun l3=>
Loop (S:=Int×Int) (X:=Int) (fun s4=>
(if(decide (s4.2<(l3.length:Int)))then
((idx l3 s4.2).bind fun x6=>
(if(decide (x6.2.1=x1.2.1))then
some (ajj.wrap (s4.1+1))
else
some s4.1):Option Int).bind fun j5=>
some (.inl (j5,ajj.wrap (s4.2+1)))
else
some (.inr s4.1))) N (0,0):Option Int).bind fun j2=>
(M.bV N x1.1).bind fun y7=>
(if(!y7)then
some 2
else
(fa a0.2.2.2.2 0 a1).bind fun l8=>
(M.ba N l8 x1).bind fun y9=>
(if y9.1 then
some 7
else
((if(decide (y9.2.2.1<0))then
some true
else
some (decide ((a0.2.2.2.1.length:Int)<=y9.2.2.1))):Option Bool).bind fun qh=>
(if qh then
some 6
else
((if(!decide (y9.2.2.2.1=(-1)))then
(if(decide (y9.2.2.2.1<0))then
some true
else
(if(decide (a1<=y9.2.2.2.1))then
some true
else
(idx a0.2.2.2.2 y9.2.2.2.1).bind fun rH=>
some (!decide (rH.2.1=y9.2.2.1))))
else
some false):Option Bool).bind fun CY=>
(if CY then
some 9
else
((if(decide (y9.2.2.2.2.1<0))then
some true
else
some (decide (9<y9.2.2.2.2.1))):Option Bool).bind fun Mj=>
(if Mj then
some 3
else
((if(decide (y9.2.2.2.2.2.1.1<0))then
some true
else
(if(decide (y9.2.2.2.2.2.1.2<=y9.2.2.2.2.2.1.1))then
some true
else
some (decide (109573<y9.2.2.2.2.2.1.2)))):Option Bool).bind fun FE=>
(if FE then
some 3
else
(if(decide (8<=j2))then
some 4
else
(M.ji N y9.2.2.2.2.2.2.2.2).bind fun D9=>
(if(!D9)then
some 2
else
bM (J:=Unit) (R:=Int) ((if(decide (0<(y9.2.2.2.2.2.2.1.length:Int)))then
(M.fE N y9.2.2.2.2.2.2.1 a2 (1,0)).bind fun wS=>
(if(!decide (wS=0))then
some (.inr wS)
else
some (.inl ()))
else
some (.inl ()))) fun Qm=>
(idx a0.2.2.2.1 y9.2.2.1).bind fun CX=>
(M.fE N y9.2.2.2.2.2.2.2.1 a2 CX.2).bind fun RO=>
some RO))))))))
def S91(N:Nat):br:=⟨⟨[(0, .g aB),(1, .l ae),(2, .g aR)],[],[],0⟩,⟨[(0, .l ae)],[],[],0⟩,fun(x:aB.den×Int×aR.den)=>M.jb N x.1 x.2.1 x.2.2⟩
theorem W91(N:Nat):av Tryz.prog 91 (S91 N):=fw (en [ck (Tv N),ck (Qt N),ck (Yd N),ck (YE N)] false false) (N:=N) (.o (.o (.o (.meet ⟨[(8, .l ae)],[],[],176⟩ (.o (.two (.loop ⟨[(8, .l ae),(22, .l ae)],[],[],272⟩ (.o (.o (.two (.meet ⟨[(8, .l ae)],[],[],288⟩ .nil .nil) .nil)))) .nil)) (.two (.two (.o (.o (.o (.o (.meet ⟨[(46, .l .bool)],[],[],368⟩ .nil (.o (.meet ⟨[(58, .l .bool)],[],[],368⟩ .nil (.o (.meet ⟨[(85, .l .bool)],[],[],368⟩ .nil (.o (.meet ⟨[(94, .l .bool)],[],[],368⟩ .nil .nil))))))))))) .nil) (.join ⟨[],[],[],496⟩ .nil .nil)))))) Tryz.func91 (by kernel_rfl) fun x=>by kernel_rfl
def M.fq(N:Nat)(a0:List Int)(a1:Int):Option Int:=
Loop (S:=Int) (X:=Int) (fun s1=>
(if(decide (s1<(a0.length:Int)))then
(idx a0 s1).bind fun x2=>
(if(decide (a1=x2))then
some (.inr s1)
else
some (.inl (ajj.wrap (s1+1))))
else
some (.inr (-1)))) N 0
def YF(N:Nat):br:=⟨⟨[(0, .l (.slice ae)),(1, .l ae)],[],[],0⟩,⟨[(0, .l ae)],[],[],0⟩,fun(x:(List Int)×Int)=>M.fq N x.1 x.2⟩
theorem YG(N:Nat):av Tryz.prog 143 (YF N):=fw (en [] false false) (N:=N) (.o (.two (.o (.two (.loop ⟨[(8, .l ae)],[],[],64⟩ .nil) .nil)) .nil)) Tryz.func143 (by kernel_rfl) fun x=>by kernel_rfl
def M.ec(N:Nat)(a0:List Int)(a1:Int):Option Bool:=
(M.fq N a0 a1).bind fun y1=>
some (decide (0<=y1))
def S92(N:Nat):br:=⟨⟨[(0, .l (.slice ae)),(1, .l ae)],[],[],0⟩,⟨[(0, .l .bool)],[],[],0⟩,fun(x:(List Int)×Int)=>M.ec N x.1 x.2⟩
theorem W92(N:Nat):av Tryz.prog 92 (S92 N):=fw (en [ck (YG N)] false false) (N:=N) .nil Tryz.func92 (by kernel_rfl) fun x=>by kernel_rfl
def M.cX(N:Nat)(a0:List Int):Option (List Int):=BL a0
def S41(N:Nat):br:=⟨⟨[(0, .val false (.own 0))],[(0, .own 3 ae)],[],1⟩,⟨[],[(0, .own 3 ae)],[],2⟩,fun(x:List Int)=>M.cX N x⟩
theorem YH(N:Nat):av Tryz.prog 41 (S41 N):=Nt ⟨_,Tryz.func41,by kernel_rfl,by kernel_rfl⟩ Tryz.slices_Sort_int Tryz.slices_Sort_int_none
def M.cN(N:Nat)(a0:List Int):Option (List Int):=oV a0
def YI(N:Nat):br:=⟨⟨[(0, .val false (.own 0))],[(0, .own 3 ae)],[],1⟩,⟨[(0, .val false (.own 1))],[(1, .own 3 ae)],[],2⟩,fun(x:List Int)=>M.cN N x⟩
theorem TR(N:Nat):av Tryz.prog 146 (YI N):=D8 ⟨_,Tryz.func146,by kernel_rfl,by kernel_rfl⟩ Tryz.slices_Compact_int Tryz.slices_Compact_int_empty
def M.fT(N:Nat)(a0:List Int):Option (List Int):=
(M.cX N a0).bind fun y1=>
(M.cN N y1).bind fun y2=>
some y2
def Qu(N:Nat):br:=⟨⟨[(0, .val false (.own 0))],[(0, .own 3 ae)],[],1⟩,⟨[(0, .val false (.own 1))],[(1, .own 3 ae)],[],2⟩,fun(x:List Int)=>M.fT N x⟩
theorem Qv(N:Nat):av Tryz.prog 182 (Qu N):=fw (en [ck (YH N),ck (TR N)] false false) (N:=N) .nil Tryz.func182 (by kernel_rfl) fun x=>by kernel_rfl
def M.gx(N:Nat)(a0:List aa.den):Option ((List Int)×(List Int)×List Int):=
(Loop (S:=Int×(List Int)×(List Int)×List Int) (X:=(List Int)×(List Int)×List Int) (fun s2=>
(if(decide (s2.1<(a0.length:Int)))then
(idx a0 s2.1).bind fun x3=>
((if(decide (x3.1=7))then
(bZ s2.2.1 ([x3.2]:List Int)).bind fun l5=>
some (l5,s2.2.2.1,s2.2.2.2)
else
(if(decide (x3.1=8))then
(bZ s2.2.2.1 ([x3.2]:List Int)).bind fun l6=>
some (s2.2.1,l6,s2.2.2.2)
else
((if(decide (x3.1=36))then
some (decide (x3.1=36))
else
(if(decide (x3.1=37))then
some (decide (x3.1=37))
else
(if(decide (x3.1=38))then
some (decide (x3.1=38))
else
some (decide (x3.1=39))))):Option Bool).bind fun j7=>
(if j7 then
(bZ s2.2.2.2 ([x3.2]:List Int)).bind fun l8=>
some (s2.2.1,s2.2.2.1,l8)
else
some (s2.2.1,s2.2.2.1,s2.2.2.2)))):Option ((List Int)×(List Int)×List Int)).bind fun j4=>
some (.inl (ajj.wrap (s2.1+1),j4.1,j4.2.1,j4.2.2))
else
some (.inr (s2.2.1,s2.2.2.1,s2.2.2.2)))) N (0,([]:List Int),([]:List Int),([]:List Int)):Option ((List Int)×(List Int)×List Int)).bind fun j1=>
(M.fT N j1.1).bind fun y9=>
(M.fT N j1.2.1).bind fun oW=>
(M.fT N j1.2.2).bind fun qi=>
some (y9,oW,qi)
def YJ(N:Nat):br:=⟨⟨[(0, .l (.slice aa))],[],[],0⟩,⟨[(0, .val false (.own 0)),(1, .val false (.own 1)),(2, .val false (.own 2))],[(0, .own 3 ae),(1, .own 3 ae),(2, .own 3 ae)],[],3⟩,fun(x:List aa.den)=>M.gx N x⟩
theorem YK(N:Nat):av Tryz.prog 145 (YJ N):=fw (en [ck (Qv N)] false false) (N:=N) (.o (.o (.meet ⟨[(5, .val false (.own 96)),(6, .val false (.own 97)),(7, .val false (.own 98))],[(96, .own 3 ae),(97, .own 3 ae),(98, .own 3 ae)],[],99⟩ (.o (.two (.loop ⟨[(5, .val false (.own 144)),(6, .val false (.own 145)),(7, .val false (.own 146)),(12, .l ae)],[(144, .own 3 ae),(145, .own 3 ae),(146, .own 3 ae)],[],147⟩ (.o (.o (.two (.two (.o (.o (.meet ⟨[(5, .val false (.own 259)),(6, .val false (.own 260)),(7, .val false (.own 261))],[(259, .own 3 ae),(260, .own 3 ae),(261, .own 3 ae)],[144,145,146],262⟩ (.o (.o (.o (.o (.meet ⟨[(32, .l .bool)],[],[],323⟩ .nil .nil))))) .nil))) .nil) .nil)))) .nil)) .nil))) Tryz.func145 (by kernel_rfl) fun x=>by kernel_rfl
def M.eT(N:Nat)(a0:aZ.den)(a1:Int):Option (List Int):=
(M.gx N a0.2.2.2.2.2.1).bind fun y1=>
(M.gx N a0.2.2.2.2.2.2.1).bind fun y2=>
(Loop (S:=Int×List Int) (X:=List Int) (fun s4=>
(if(decide (s4.1<(y1.2.1.length:Int)))then
((idx y1.2.1 s4.1).bind fun x6=>
((if(decide (0<=x6))then
some (decide (x6<a1))
else
some false):Option Bool).bind fun j7=>
(if j7 then
(bZ s4.2 ([x6]:List Int)).bind fun l8=>
some l8
else
some s4.2):Option (List Int)).bind fun j5=>
some (.inl (ajj.wrap (s4.1+1),j5))
else
some (.inr s4.2))) N (0,([]:List Int)):Option (List Int)).bind fun j3=>
Loop (S:=Int×List Int) (X:=List Int) (fun s9=>
(if(decide (s9.1<(y2.2.1.length:Int)))then
((idx y2.2.1 s9.1).bind fun oE=>
((if(decide (0<=oE))then
some (decide (oE<a1))
else
some false):Option Bool).bind fun Al=>
(if Al then
(bZ s9.2 ([oE]:List Int)).bind fun TS=>
some TS
else
some s9.2):Option (List Int)).bind fun qh=>
some (.inl (ajj.wrap (s9.1+1),qh))
else
some (.inr s9.2))) N (0,j3)
def S94(N:Nat):br:=⟨⟨[(0, .g aZ),(1, .l ae)],[],[],0⟩,⟨[(0, .val false (.own 0))],[(0, .own 3 ae)],[],1⟩,fun(x:aZ.den×Int)=>M.eT N x.1 x.2⟩
theorem W94(N:Nat):av Tryz.prog 94 (S94 N):=fw (en [ck (YK N)] false false) (N:=N) (.o (.o (.o (.o (.meet ⟨[(5, .val false (.own 368))],[(368, .own 3 ae)],[],369⟩ (.o (.two (.loop ⟨[(5, .val false (.own 416)),(32, .l ae)],[(416, .own 3 ae)],[],417⟩ (.o (.o (.two (.meet ⟨[(5, .val false (.own 433))],[(433, .own 3 ae)],[416],434⟩ (.o (.meet ⟨[(42, .l .bool)],[],[],481⟩ .nil .nil)) .nil) .nil)))) .nil)) (.two (.o (.two (.loop ⟨[(5, .val false (.own 417)),(50, .l ae)],[(417, .own 3 ae)],[368],418⟩ (.o (.o (.two (.meet ⟨[(5, .val false (.own 434))],[(434, .own 3 ae)],[417],435⟩ (.o (.meet ⟨[(60, .l .bool)],[],[],482⟩ .nil .nil)) .nil) .nil)))) .nil)) .nil)))))) Tryz.func94 (by kernel_rfl) fun x=>by kernel_rfl
def M.gN(N:Nat)(a0:List Int):Option (List Int):=
(M.cX N a0).bind fun y1=>
(M.cN N y1).bind fun y2=>
some y2
def TT(N:Nat):br:=⟨⟨[(0, .val false (.own 0))],[(0, .own 3 ae)],[],1⟩,⟨[(0, .val false (.own 1))],[(1, .own 3 ae)],[],2⟩,fun(x:List Int)=>M.gN N x⟩
theorem O0(N:Nat):av Tryz.prog 95 (TT N):=fw (en [ck (YH N),ck (TR N)] false false) (N:=N) .nil Tryz.func95 (by kernel_rfl) fun x=>by kernel_rfl
def M.im(N:Nat)(a0:aB.den):Option (List (List Int)):=
(mI (a0.2.2.2.1.length:Int) ([]:List Int)).bind fun l1=>
(Loop (S:=Int×List (List Int)) (X:=List (List Int)) (fun s3=>
(if(decide (s3.1<(a0.2.2.2.2.length:Int)))then
((idx a0.2.2.2.2 s3.1).bind fun x5=>
((if(decide (0<=x5.2.1))then
some (decide (x5.2.1<(s3.2.length:Int)))
else
some false):Option Bool).bind fun j6=>
(if j6 then
(idx s3.2 x5.2.1).bind fun x7=>
(idx s3.2 x5.2.1).bind fun x8=>
(M.eT N x5 (s3.2.length:Int)).bind fun y9=>
(bZ x8 y9).bind fun xk=>
(idx s3.2 x5.2.1).bind fun oE=>
(if decide (x5.2.1=x5.2.1)then
(idx s3.2 x5.2.1).bind fun rH=>
some (oK s3.2 x5.2.1 (fun m13=>xk))
else none)
else
some s3.2):Option (List (List Int))).bind fun j4=>
some (.inl (ajj.wrap (s3.1+1),j4))
else
some (.inr s3.2))) N (0,l1):Option (List (List Int))).bind fun j2=>
Loop (S:=Int×List (List Int)) (X:=List (List Int)) (fun qG=>
(if(decide (qG.1<(j2.length:Int)))then
(idx qG.2 qG.1).bind fun Ea=>
(idx qG.2 qG.1).bind fun KP=>
(M.gN N KP).bind fun wS=>
(idx qG.2 qG.1).bind fun CX=>
(if decide (qG.1=qG.1)then
(idx qG.2 qG.1).bind fun Ql=>
some (.inl (ajj.wrap (qG.1+1),oK qG.2 qG.1 (fun YL=>wS)))
else none)
else
some (.inr qG.2))) N (0,j2)
def S52(N:Nat):br:=⟨⟨[(0, .g aB)],[],[],0⟩,⟨[(0, .val false (.own 0))],[(0, .deep 29 (.sl 3 (.leaf ae)))],[],1⟩,fun(x:aB.den)=>M.im N x⟩
theorem W52(N:Nat):av Tryz.prog 52 (S52 N):=fw (en [ck (W94 N),ck (O0 N)] true false) (N:=N) (.o (.o (.meet ⟨[],[(80, .deep 29 (.sl 3 (.leaf ae)))],[],113⟩ (.o (.two (.loop ⟨[(15, .l ae)],[(80, .deep 29 (.sl 3 (.leaf ae)))],[],177⟩ (.o (.o (.two (.meet ⟨[],[(80, .deep 29 (.sl 3 (.leaf ae)))],[],194⟩ (.o (.meet ⟨[(28, .l .bool)],[],[],257⟩ .nil .nil)) .nil) .nil)))) .nil)) (.two (.o (.two (.loop ⟨[(46, .l ae)],[(80, .deep 29 (.sl 3 (.leaf ae)))],[],162⟩ .nil) .nil)) .nil)))) Tryz.func52 (by kernel_rfl) fun x=>by kernel_rfl
def M.lT(N:Nat)(a0:List (List Int))(a1:Int):Option (List Int):=
(mI (a0.length:Int) false).bind fun l1=>
(Loop (S:=(List Bool)×List Int) (X:=List Bool) (fun s3=>
(if(decide (0<(s3.2.length:Int)))then
(idx s3.2 0).bind fun x4=>
(fa s3.2 1 (s3.2.length:Int)).bind fun l5=>
(idx a0 x4).bind fun x6=>
Loop (S:=Int×(List Bool)×List Int) (X:=((List Bool)×List Int)⊕(List Bool)) (fun s7=>
(if(decide (s7.1<(x6.length:Int)))then
((idx x6 s7.1).bind fun x9=>
(idx s7.2.1 x9).bind fun r9=>
(if(!r9)then
(idx s7.2.1 x9).bind fun oE=>
(bZ s7.2.2 ([x9]:List Int)).bind fun FD=>
some (aQ s7.2.1 x9 true,FD)
else
some (s7.2.1,s7.2.2)):Option ((List Bool)×List Int)).bind fun j8=>
some (.inl (ajj.wrap (s7.1+1),j8.1,j8.2))
else
some (.inr (.inl (s7.2.1,s7.2.2))))) N (0,s3.1,l5)
else
some (.inr s3.1))) N (l1,([a1]:List Int)):Option (List Bool)).bind fun j2=>
Loop (S:=Int×List Int) (X:=List Int) (fun pQ=>
(if(decide (pQ.1<(j2.length:Int)))then
((idx j2 pQ.1).bind fun Ea=>
(if Ea then
(bZ pQ.2 ([pQ.1]:List Int)).bind fun TU=>
some TU
else
some pQ.2):Option (List Int)).bind fun FE=>
some (.inl (ajj.wrap (pQ.1+1),FE))
else
some (.inr pQ.2))) N (0,([]:List Int))
def YM(N:Nat):br:=⟨⟨[(0, .l (.slice (.slice ae))),(1, .l ae)],[],[],0⟩,⟨[(0, .val false (.own 0))],[(0, .own 3 ae)],[],1⟩,fun(x:(List (List Int))×Int)=>M.lT N x.1 x.2⟩
theorem YN(N:Nat):av Tryz.prog 144 (YM N):=fw (en [] false true) (N:=N) (.o (.o (.o (.meet ⟨[],[(48, .own 4 .bool)],[96],129⟩ (.two (.loop ⟨[(6, .val false (.own 128))],[(48, .own 4 .bool),(128, .own 3 ae)],[96],130⟩ (.o (.two (.o (.o (.o (.two (.loop ⟨[(6, .val false (.own 386)),(31, .l ae)],[(48, .own 4 .bool),(386, .own 3 ae)],[258],388⟩ (.o (.o (.two (.meet ⟨[(6, .val false (.own 404))],[(48, .own 4 .bool),(404, .own 3 ae)],[386],406⟩ .nil .nil) .nil)))) .nil)))) .nil))) .nil) (.o (.two (.o (.two (.loop ⟨[(10, .val false (.own 193)),(50, .l ae)],[(193, .own 3 ae)],[],194⟩ (.o (.o (.two (.meet ⟨[(10, .val false (.own 210))],[(210, .own 3 ae)],[193],211⟩ .nil .nil) .nil)))) .nil)) .nil)))))) Tryz.func144 (by kernel_rfl) fun x=>by kernel_rfl
def M.gz(N:Nat)(a0:aB.den)(a1:Int):Option (List Int):=
((if(decide (a1<0))then
some true
else
some (decide ((a0.2.2.2.1.length:Int)<=a1))):Option Bool).bind fun j1=>
(if j1 then
some ([]:List Int)
else
(M.im N a0).bind fun y2=>
(M.lT N y2 a1).bind fun y3=>
some y3)
def S93(N:Nat):br:=⟨⟨[(0, .g aB),(1, .l ae)],[],[],0⟩,⟨[(0, .val false (.own 0))],[(0, .own 3 ae)],[],1⟩,fun(x:aB.den×Int)=>M.gz N x.1 x.2⟩
theorem W93(N:Nat):av Tryz.prog 93 (S93 N):=fw (en [ck (W52 N),ck (YN N)] false false) (N:=N) (.o (.two (.meet ⟨[(13, .l .bool)],[],[],32⟩ .nil .nil) .nil)) Tryz.func93 (by kernel_rfl) fun x=>by kernel_rfl
def M.iq(N:Nat)(a0:aB.den)(a1:aB.den):Option (Bool×aB.den):=
some (decide (a0.1=a1.1),a1)
def TV(N:Nat):br:=⟨⟨[(0, .g aB),(1, .ptr 0 [] 0)],[(0, .box 69 (.leaf aB))],[],1⟩,⟨[(0, .l .bool)],[(0, .box 69 (.leaf aB))],[],2⟩,fun(x:aB.den×aB.den)=>M.iq N x.1 x.2⟩
theorem TW(N:Nat):av Tryz.prog 88 (TV N):=fw (en [] false false) (N:=N) .nil Tryz.func88 (by kernel_rfl) fun x=>by kernel_rfl
def M.bh(N:Nat)(a0:List aB.den)(a1:aB.den):Option (Int×aB.den):=
Loop (S:=Int×aB.den) (X:=Int×aB.den) (fun s1=>
(if(decide (s1.1<(a0.length:Int)))then
(idx a0 s1.1).bind fun x2=>
(M.iq N x2 s1.2).bind fun y3=>
(if y3.1 then
some (.inr (s1.1,y3.2))
else
some (.inl (ajj.wrap (s1.1+1),y3.2)))
else
some (.inr ((-1),s1.2)))) N (0,a1)
def Qw(N:Nat):br:=⟨⟨[(0, .l (.slice aB)),(1, .fn 88 [(0,[],0)])],[(0, .box 69 (.leaf aB))],[],1⟩,⟨[(0, .l ae)],[(0, .box 69 (.leaf aB))],[],2⟩,fun(x:(List aB.den)×aB.den)=>M.bh N x.1 x.2⟩
theorem Qx(N:Nat):av Tryz.prog 135 (Qw N):=fw (en [ck (TW N)] false false) (N:=N) (.o (.two (.o (.two (.loop ⟨[(8, .l ae)],[(0, .box 69 (.leaf aB))],[],66⟩ .nil) .nil)) .nil)) Tryz.func135 (by kernel_rfl) fun x=>by kernel_rfl
def M.aJ(N:Nat)(a0:List aB.den)(a1:aB.den):Option (Bool×aB.den):=
(M.bh N a0 a1).bind fun y1=>
some (decide (0<=y1.1),y1.2)
def TX(N:Nat):br:=⟨⟨[(0, .l (.slice aB)),(1, .fn 88 [(0,[],0)])],[(0, .box 69 (.leaf aB))],[],1⟩,⟨[(0, .l .bool)],[(0, .box 69 (.leaf aB))],[],2⟩,fun(x:(List aB.den)×aB.den)=>M.aJ N x.1 x.2⟩
theorem TY(N:Nat):av Tryz.prog 87 (TX N):=fw (en [ck (Qx N)] false false) (N:=N) .nil Tryz.func87 (by kernel_rfl) fun x=>by kernel_rfl
def M.kh(N:Nat)(a0:cF.den)(a1:Int):Option (Int×Int):=
(idx a0.2.2 a1).bind fun x1=>
(fa a0.2.2 0 a1).bind fun l2=>
((M.ig N a0.1 x1.1).bind fun y4=>
(if y4 then
some (true,x1)
else
(M.iJ N a0.2.1 x1.1).bind fun y5=>
(if y5 then
some (true,x1)
else
(M.aJ N l2 x1).bind fun y6=>
some (y6.1,y6.2))):Option (Bool×aB.den)).bind fun j3=>
(M.bV N j3.2.1).bind fun y7=>
(if(!y7)then
some (2,0)
else
(if j3.1 then
some (7,0)
else
((if(!decide (j3.2.2.1=(-1)))then
(if(decide (j3.2.2.1<0))then
some true
else
(if(decide (a1<=j3.2.2.1))then
some true
else
(idx l2 j3.2.2.1).bind fun x9=>
some (!decide (x9.2.1=(-1)))))
else
some false):Option Bool).bind fun j8=>
(if j8 then
some (6,0)
else
(if(decide (12<(j3.2.2.2.1.length:Int)))then
some (4,112)
else
(if(decide (12<(j3.2.2.2.2.1.length:Int)))then
some (4,212)
else
bM (J:=Unit) (R:=Int×Int) (Loop (S:=Int) (X:=Unit⊕(Int×Int)) (fun qH=>
(if(decide (qH<(j3.2.2.2.1.length:Int)))then
(idx j3.2.2.2.1 qH).bind fun rH=>
(fa j3.2.2.2.1 0 qH).bind fun TS=>
(M.il N a0 rH TS ([]:List aN.den)).bind fun qk=>
(if(!decide (qk=0))then
some (.inr (.inr (qk,ajj.wrap (100+qH))))
else
some (.inl (ajj.wrap (qH+1))))
else
some (.inr (.inl ())))) N 0) fun qh=>
bM (J:=Unit) (R:=Int×Int) (Loop (S:=Int) (X:=Unit⊕(Int×Int)) (fun FF=>
(if(decide (FF<(j3.2.2.2.2.1.length:Int)))then
(idx j3.2.2.2.2.1 FF).bind fun IS=>
(fa j3.2.2.2.2.1 0 FF).bind fun l18=>
(M.il N a0 IS j3.2.2.2.1 l18).bind fun RO=>
(if(!decide (RO=0))then
some (.inr (.inr (RO,ajj.wrap (200+FF))))
else
some (.inl (ajj.wrap (FF+1))))
else
some (.inr (.inl ())))) N 0) fun OX=>
(M.iU N a0 a1).bind fun RP=>
bM (J:=Unit) (R:=Int×Int) (Loop (S:=Int) (X:=Unit⊕(Int×Int)) (fun VH=>
(if(decide (VH<(j3.2.2.2.2.2.length:Int)))then
(M.jb N j3.2 VH (RP.1,(RP.2.1,(RP.2.2.2.1,(RP.2.2.2.2.1,(RP.2.2.2.2.2,RP.2.2.1)))))).bind fun TZ=>
(if(!decide (TZ=0))then
some (.inr (.inr (TZ,ajj.wrap (300+VH))))
else
some (.inl (ajj.wrap (VH+1))))
else
some (.inr (.inl ())))) N 0) fun Yv=>
Loop (S:=Int) (X:=Int×Int) (fun T4=>
(if(decide (T4<(j3.2.2.2.2.1.length:Int)))then
(M.gz N j3.2 T4).bind fun T5=>
(M.ec N T5 T4).bind fun Yu=>
(if Yu then
some (.inr (9,ajj.wrap (200+T4)))
else
some (.inl (ajj.wrap (T4+1))))
else
some (.inr (0,0)))) N 0)))))
def S51(N:Nat):br:=⟨⟨[(0, .g cF),(1, .l ae)],[],[],0⟩,⟨[(0, .l ae),(1, .l ae)],[],[],0⟩,fun(x:cF.den×Int)=>M.kh N x.1 x.2⟩
theorem W51(N:Nat):av Tryz.prog 51 (S51 N):=fw (en [ck (Tv N),ck (XZ N),ck (W50 N),ck (TY N),ck (W89 N),ck (W90 N),ck (W91 N),ck (W92 N),ck (W93 N)] false false) (N:=N) (.o (.o (.o (.meet ⟨[(8, .l .bool)],[(128, .box 69 (.leaf aB))],[],241⟩ .nil (.two (.two (.o (.o (.o (.o (.meet ⟨[(52, .l .bool)],[],[],353⟩ .nil .nil))))) .nil) (.join ⟨[],[],[],513⟩ (.o (.two (.loop ⟨[(89, .l ae)],[],[],577⟩ .nil) .nil)) (.join ⟨[],[],[],513⟩ (.o (.two (.loop ⟨[(110, .l ae)],[],[],577⟩ .nil) .nil)) (.o (.join ⟨[],[],[],593⟩ (.o (.two (.loop ⟨[(136, .l ae)],[],[],657⟩ .nil) .nil)) (.two (.o (.two (.loop ⟨[(152, .l ae)],[],[],657⟩ .nil) .nil)) .nil)))))))))) Tryz.func51 (by kernel_rfl) fun x=>by kernel_rfl
def M.jk(N:Nat)(a0:cF.den):Option (aS.den):=
(if(decide (4<(a0.2.2.length:Int)))then
some (4,(3,(4,0)))
else
bM (J:=Unit) (R:=aS.den) (Loop (S:=Int) (X:=Unit⊕(aS.den)) (fun s2=>
(if(decide (s2<(a0.2.2.length:Int)))then
(M.kh N a0 s2).bind fun y3=>
(if(!decide (y3.1=0))then
some (.inr (.inr (y3.1,(3,(s2,y3.2)))))
else
some (.inl (ajj.wrap (s2+1))))
else
some (.inr (.inl ())))) N 0) fun j1=>
some (0,(0,(0,0))))
def S30(N:Nat):br:=⟨⟨[(0, .g cF)],[],[],0⟩,⟨[(0, .g aS)],[],[],0⟩,fun(x:cF.den)=>M.jk N x⟩
theorem W30(N:Nat):av Tryz.prog 30 (S30 N):=fw (en [ck (W51 N)] false false) (N:=N) (.o (.o (.join ⟨[],[],[],96⟩ (.o (.two (.loop ⟨[(14, .l ae)],[],[],160⟩ .nil) .nil)) .nil))) Tryz.func30 (by kernel_rfl) fun x=>by kernel_rfl
def M.iK(N:Nat)(a0:cF.den):Option (aS.den):=
(M.kc N a0).bind fun y1=>
(if(!decide (y1.1=0))then
some y1
else
(M.jh N a0).bind fun y2=>
(if(!decide (y2.1=0))then
some y2
else
(M.jk N a0).bind fun y3=>
some y3))
def S16(N:Nat):br:=⟨⟨[(0, .g cF)],[],[],0⟩,⟨[(0, .g aS)],[],[],0⟩,fun(x:cF.den)=>M.iK N x⟩
theorem W16(N:Nat):av Tryz.prog 16 (S16 N):=fw (en [ck (W28 N),ck (W29 N),ck (W30 N)] false false) (N:=N) .nil Tryz.func16 (by kernel_rfl) fun x=>by kernel_rfl
def M.dK(N:Nat)(a0:List Int):Option Int:=
some (a0.length:Int)
def S54(N:Nat):br:=⟨⟨[(0, .l (.slice ae))],[],[],0⟩,⟨[(0, .l ae)],[],[],0⟩,fun(x:List Int)=>M.dK N x⟩
theorem YO(N:Nat):av Tryz.prog 54 (S54 N):=fw (en [] false false) (N:=N) .nil Tryz.func54 (by kernel_rfl) fun x=>by kernel_rfl
def M.dw(N:Nat)(a0:List Int)(a1:Int)(a2:Int):Option Bool:=
(idx a0 a1).bind fun x1=>
(idx a0 a2).bind fun x2=>
some (decide (x1<x2))
def YP(N:Nat):br:=⟨⟨[(0, .l (.slice ae)),(1, .l ae),(2, .l ae)],[],[],0⟩,⟨[(0, .l .bool)],[],[],0⟩,fun(x:(List Int)×Int×Int)=>M.dw N x.1 x.2.1 x.2.2⟩
theorem T6(N:Nat):av Tryz.prog 257 (YP N):=fw (en [] false false) (N:=N) .nil Tryz.func257 (by kernel_rfl) fun x=>by kernel_rfl
def M.k6(N:Nat)(a0:List Int):Option (Int×List Int):=
(idx a0 (ajj.wrap ((a0.length:Int)-1))).bind fun x1=>
(fa a0 0 (ajj.wrap ((a0.length:Int)-1))).bind fun l2=>
some (x1,l2)
def YQ(N:Nat):br:=⟨⟨[(0, .ptr 0 [] 0)],[(0, .box 140 (.own 1)),(1, .own 3 ae)],[],2⟩,⟨[(0, .ifc 3 (.l ae))],[(0, .box 140 (.own 2)),(2, .own 3 ae)],[],4⟩,fun(x:List Int)=>M.k6 N x⟩
theorem YR(N:Nat):av Tryz.prog 258 (YQ N):=fw (en [] false false) (N:=N) .nil Tryz.func258 (by kernel_rfl) fun x=>by kernel_rfl
def M.kj(N:Nat)(a0:aB.den):Option (List (List Int)):=
(mI (a0.2.2.2.1.length:Int) ([]:List Int)).bind fun l1=>
(Loop (S:=Int×List (List Int)) (X:=List (List Int)) (fun s3=>
(if(decide (s3.1<(a0.2.2.2.2.length:Int)))then
((idx a0.2.2.2.2 s3.1).bind fun x5=>
((if(decide (0<=x5.2.1))then
some (decide (x5.2.1<(s3.2.length:Int)))
else
some false):Option Bool).bind fun j6=>
(if j6 then
(idx s3.2 x5.2.1).bind fun x7=>
(idx s3.2 x5.2.1).bind fun x8=>
(M.eT N x5 (s3.2.length:Int)).bind fun y9=>
(bZ x8 y9).bind fun xk=>
(idx s3.2 x5.2.1).bind fun oE=>
(if decide (x5.2.1=x5.2.1)then
(idx s3.2 x5.2.1).bind fun rH=>
some (oK s3.2 x5.2.1 (fun m13=>xk))
else none)
else
some s3.2):Option (List (List Int))).bind fun j4=>
some (.inl (ajj.wrap (s3.1+1),j4))
else
some (.inr s3.2))) N (0,l1):Option (List (List Int))).bind fun j2=>
Loop (S:=Int×List (List Int)) (X:=List (List Int)) (fun qG=>
(if(decide (qG.1<(j2.length:Int)))then
(idx qG.2 qG.1).bind fun Ea=>
(idx qG.2 qG.1).bind fun KP=>
(M.gN N KP).bind fun wS=>
(idx qG.2 qG.1).bind fun CX=>
(if decide (qG.1=qG.1)then
(idx qG.2 qG.1).bind fun Ql=>
some (.inl (ajj.wrap (qG.1+1),oK qG.2 qG.1 (fun YL=>wS)))
else none)
else
some (.inr qG.2))) N (0,j2)
def T7(N:Nat):br:=⟨⟨[(0, .g aB)],[],[],0⟩,⟨[(0, .val false (.own 0))],[(0, .deep 29 (.sl 3 (.leaf ae)))],[],1⟩,fun(x:aB.den)=>M.kj N x⟩
theorem T8(N:Nat):av Tryz.prog 52 (T7 N):=fw (en [ck (W94 N),ck (O0 N)] true false) (N:=N) (.o (.o (.meet ⟨[],[(80, .deep 29 (.sl 3 (.leaf ae)))],[],113⟩ (.o (.two (.loop ⟨[(15, .l ae)],[(80, .deep 29 (.sl 3 (.leaf ae)))],[],177⟩ (.o (.o (.two (.meet ⟨[],[(80, .deep 29 (.sl 3 (.leaf ae)))],[],194⟩ (.o (.meet ⟨[(28, .l .bool)],[],[],257⟩ .nil .nil)) .nil) .nil)))) .nil)) (.two (.o (.two (.loop ⟨[(46, .l ae)],[(80, .deep 29 (.sl 3 (.leaf ae)))],[],162⟩ .nil) .nil)) .nil)))) Tryz.func52 (by kernel_rfl) fun x=>by kernel_rfl
def M.ir(N:Nat)(a0:Int)(a1:List Int):Option (List Int):=
(bZ a1 ([a0]:List Int)).bind fun l1=>
some l1
def Qy(N:Nat):br:=⟨⟨[(0, .ptr 0 [] 0),(1, .ifc 3 (.l ae))],[(0, .box 140 (.own 1)),(1, .own 3 ae)],[],2⟩,⟨[],[(0, .box 140 (.own 2)),(2, .own 3 ae)],[],4⟩,fun(x:Int×List Int)=>M.ir N x.1 x.2⟩
theorem Qz(N:Nat):av Tryz.prog 259 (Qy N):=fw (en [] false false) (N:=N) .nil Tryz.func259 (by kernel_rfl) fun x=>by kernel_rfl
def M.cI(N:Nat)(a0:Int)(a1:Int)(a2:List Int):Option (List Int):=
(idx a2 a1).bind fun x1=>
(idx a2 a0).bind fun x2=>
(idx a2 a0).bind fun x3=>
(idx (aQ a2 a0 x1) a1).bind fun x4=>
some (aQ (aQ a2 a0 x1) a1 x2)
def QA(N:Nat):br:=⟨⟨[(0, .val false (.own 0)),(1, .l ae),(2, .l ae)],[(0, .own 3 ae)],[],1⟩,⟨[],[(0, .own 3 ae)],[],2⟩,fun(x:Int×Int×List Int)=>M.cI N x.1 x.2.1 x.2.2⟩
theorem Eb(N:Nat):av Tryz.prog 260 (QA N):=fw (en [] false false) (N:=N) .nil Tryz.func260 (by kernel_rfl) fun x=>by kernel_rfl
def M.fu(N:Nat)(a0:Int)(a1:List Int):Option (List Int):=
Loop (S:=Int×List Int) (X:=List Int) (fun s1=>
((if(decide ((ajj.wrap (ajE (ajj.wrap (s1.1-1)) 2))=s1.1))then
some true
else
(M.dw N s1.2 s1.1 (ajj.wrap (ajE (ajj.wrap (s1.1-1)) 2))).bind fun y3=>
some (!y3)):Option Bool).bind fun j2=>
(if j2 then
some (.inr s1.2)
else
(M.cI N (ajj.wrap (ajE (ajj.wrap (s1.1-1)) 2)) s1.1 s1.2).bind fun y4=>
some (.inl (ajj.wrap (ajE (ajj.wrap (s1.1-1)) 2),y4)))) N (a0,a1)
def T9(N:Nat):br:=⟨⟨[(0, .ifc 139 (.ptr 0 [] 0)),(1, .l ae)],[(0, .box 140 (.own 1)),(1, .own 3 ae)],[],2⟩,⟨[],[(0, .box 140 (.own 1)),(1, .own 3 ae)],[],4⟩,fun(x:Int×List Int)=>M.fu N x.1 x.2⟩
theorem Ua(N:Nat):av Tryz.prog 96 (T9 N):=fw (en [ck (T6 N),ck (Eb N)] false false) (N:=N) (.two (.loop ⟨[(1, .l ae)],[(1, .own 3 ae)],[],3⟩ (.two (.o (.two (.meet ⟨[(17, .l .bool)],[],[],67⟩ .nil .nil) .nil)) .nil)) .nil) Tryz.func96 (by kernel_rfl) fun x=>by kernel_rfl
def M.cO(N:Nat)(a0:Int)(a1:List Int):Option (List Int):=
(M.ir N a0 a1).bind fun y1=>
(M.dK N y1).bind fun y2=>
(M.fu N (ajj.wrap (y2-1)) y1).bind fun y3=>
some y3
def Ub(N:Nat):br:=⟨⟨[(0, .ifc 139 (.ptr 0 [] 0)),(1, .ifc 3 (.l ae))],[(0, .box 140 (.own 1)),(1, .own 3 ae)],[],2⟩,⟨[],[(0, .box 140 (.own 2)),(2, .own 3 ae)],[],4⟩,fun(x:Int×List Int)=>M.cO N x.1 x.2⟩
theorem Uc(N:Nat):av Tryz.prog 53 (Ub N):=fw (en [ck (YO N),ck (Ua N),ck (Qz N)] false false) (N:=N) .nil Tryz.func53 (by kernel_rfl) fun x=>by kernel_rfl
def M.eC(N:Nat)(a0:Int)(a1:Int)(a2:List Int):Option (Bool×List Int):=
(Loop (S:=Int×List Int) (X:=Int×List Int) (fun s2=>
((if(decide (a1<=(ajj.wrap ((ajj.wrap (2*s2.1))+1))))then
some true
else
some (decide ((ajj.wrap ((ajj.wrap (2*s2.1))+1))<0))):Option Bool).bind fun j3=>
(if j3 then
some (.inr (s2.1,s2.2))
else
(((if(decide ((ajj.wrap ((ajj.wrap ((ajj.wrap (2*s2.1))+1))+1))<a1))then
(M.dw N s2.2 (ajj.wrap ((ajj.wrap ((ajj.wrap (2*s2.1))+1))+1)) (ajj.wrap ((ajj.wrap (2*s2.1))+1))).bind fun y6=>
some y6
else
some false):Option Bool).bind fun j5=>
(if j5 then
some (ajj.wrap ((ajj.wrap ((ajj.wrap (2*s2.1))+1))+1))
else
some (ajj.wrap ((ajj.wrap (2*s2.1))+1))):Option Int).bind fun j4=>
(M.dw N s2.2 j4 s2.1).bind fun y7=>
(if(!y7)then
some (.inr (s2.1,s2.2))
else
(M.cI N s2.1 j4 s2.2).bind fun y8=>
some (.inl (j4,y8))))) N (a0,a2):Option (Int×List Int)).bind fun j1=>
some (decide (a0<j1.1),j1.2)
def Ud(N:Nat):br:=⟨⟨[(0, .ifc 139 (.ptr 0 [] 0)),(1, .l ae),(2, .l ae)],[(0, .box 140 (.own 1)),(1, .own 3 ae)],[],2⟩,⟨[(0, .l .bool)],[(0, .box 140 (.own 1)),(1, .own 3 ae)],[],4⟩,fun(x:Int×Int×List Int)=>M.eC N x.1 x.2.1 x.2.2⟩
theorem Ue(N:Nat):av Tryz.prog 97 (Ud N):=fw (en [ck (T6 N),ck (Eb N)] false false) (N:=N) (.o (.o (.two (.meet ⟨[(7, .l ae)],[(1, .own 3 ae)],[],51⟩ (.loop ⟨[(7, .l ae)],[(1, .own 3 ae)],[],51⟩ (.two (.o (.two (.meet ⟨[(21, .l .bool)],[],[],115⟩ .nil .nil) (.o (.meet ⟨[(9, .l ae)],[],[],147⟩ (.o (.meet ⟨[(33, .l .bool)],[],[],195⟩ .nil .nil)) .nil)))) .nil)) .nil) .nil))) Tryz.func97 (by kernel_rfl) fun x=>by kernel_rfl
def M.eY(N:Nat)(a0:List Int):Option (Int×List Int):=
(M.dK N a0).bind fun y1=>
(M.cI N 0 (ajj.wrap (y1-1)) a0).bind fun y2=>
(M.eC N 0 (ajj.wrap (y1-1)) y2).bind fun y3=>
(M.k6 N y3.2).bind fun y4=>
some (y4.1,y4.2)
def Uf(N:Nat):br:=⟨⟨[(0, .ifc 139 (.ptr 0 [] 0))],[(0, .box 140 (.own 1)),(1, .own 3 ae)],[],2⟩,⟨[(0, .ifc 3 (.l ae))],[(0, .box 140 (.own 2)),(2, .own 3 ae)],[],4⟩,fun(x:List Int)=>M.eY N x⟩
theorem Ug(N:Nat):av Tryz.prog 55 (Uf N):=fw (en [ck (YO N),ck (Ue N),ck (YR N),ck (Eb N)] false false) (N:=N) .nil Tryz.func55 (by kernel_rfl) fun x=>by kernel_rfl
def M.dl(N:Nat)(a0:aB.den):Option (Int×List Int):=
((M.kj N a0).bind fun y2=>
some y2:Option (List (List Int))).bind fun j1=>
(mI (j1.length:Int) ([]:List Int)).bind fun l3=>
(mI (j1.length:Int) 0).bind fun l4=>
((Loop (S:=Int×(List (List Int))×(List Int)×List Int) (X:=(List (List Int))×(List Int)×List Int) (fun s7=>
(if(decide (s7.1<(j1.length:Int)))then
(((idx j1 s7.1).bind fun r9=>
(idx s7.2.2.1 s7.1).bind fun oE=>
(Loop (S:=Int×List (List Int)) (X:=List (List Int)) (fun pQ=>
(if(decide (pQ.1<(r9.length:Int)))then
(idx r9 pQ.1).bind fun sa=>
(idx pQ.2 sa).bind fun Ea=>
(idx pQ.2 sa).bind fun KP=>
(bZ KP ([s7.1]:List Int)).bind fun YS=>
(idx pQ.2 sa).bind fun CX=>
(if decide (sa=sa)then
(idx pQ.2 sa).bind fun Ql=>
some (.inl (ajj.wrap (pQ.1+1),oK pQ.2 sa (fun YL=>YS)))
else none)
else
some (.inr pQ.2))) N (0,s7.2.1):Option (List (List Int))).bind fun Al=>
(if(decide ((r9.length:Int)=0))then
(M.cO N s7.1 s7.2.2.2).bind fun Nv=>
some (Al,aQ s7.2.2.1 s7.1 (r9.length:Int),Nv)
else
some (Al,aQ s7.2.2.1 s7.1 (r9.length:Int),s7.2.2.2)):Option ((List (List Int))×(List Int)×List Int)).bind fun j9=>
some (j9.1,j9.2.1,j9.2.2):Option ((List (List Int))×(List Int)×List Int)).bind fun j8=>
some (.inl (ajj.wrap (s7.1+1),j8.1,j8.2.1,j8.2.2))
else
some (.inr (s7.2.1,s7.2.2.1,s7.2.2.2)))) N (0,l3,l4,([]:List Int)):Option ((List (List Int))×(List Int)×List Int)).bind fun j6=>
some (j6.1,j6.2.1,j6.2.2):Option ((List (List Int))×(List Int)×List Int)).bind fun j5=>
(Loop (S:=(List Int)×(List Int)×List Int) (X:=(List Int)×List Int) (fun RQ=>
(M.dK N RQ.2.2).bind fun YT=>
(if(decide (0<YT))then
(M.eY N RQ.2.2).bind fun T5=>
(bZ RQ.2.1 ([T5.1]:List Int)).bind fun l26=>
(idx j5.1 T5.1).bind fun VG=>
Loop (S:=Int×(List Int)×List Int) (X:=((List Int)×(List Int)×List Int)⊕((List Int)×List Int)) (fun ui=>
(if(decide (ui.1<(VG.length:Int)))then
((idx VG ui.1).bind fun BQ=>
(idx ui.2.1 BQ).bind fun QB=>
(idx ui.2.1 BQ).bind fun x32=>
(idx (aQ ui.2.1 BQ (ajj.wrap (QB-1))) BQ).bind fun Mi=>
(if(decide (Mi=0))then
(M.cO N BQ ui.2.2).bind fun YU=>
some (aQ ui.2.1 BQ (ajj.wrap (QB-1)),YU)
else
some (aQ ui.2.1 BQ (ajj.wrap (QB-1)),ui.2.2)):Option ((List Int)×List Int)).bind fun Uh=>
some (.inl (ajj.wrap (ui.1+1),Uh.1,Uh.2))
else
some (.inr (.inl (ui.2.1,l26,ui.2.2))))) N (0,RQ.1,T5.2)
else
some (.inr (RQ.2.1,RQ.2.2)))) N (j5.2.1,([]:List Int),j5.2.2):Option ((List Int)×List Int)).bind fun j22=>
(if(decide ((j22.1.length:Int)<(j1.length:Int)))then
some (9,([]:List Int))
else
some (0,j22.1))
def S31(N:Nat):br:=⟨⟨[(0, .g aB)],[],[],0⟩,⟨[(0, .val false (.own 0)),(1, .l ae)],[(0, .own 3 ae)],[],1⟩,fun(x:aB.den)=>M.dl N x⟩
theorem W31(N:Nat):av Tryz.prog 31 (S31 N):=fw (en [ck (T8 N),ck (Uc N),ck (YO N),ck (Ug N)] true false) (N:=N) (.o (.meet ⟨[(4, .l (.slice (.slice ae)))],[],[],48⟩ .nil (.o (.o (.o (.meet ⟨[(5, .l (.slice (.slice ae)))],[(144, .own 3 ae),(192, .box 140 (.own 224)),(224, .own 3 ae)],[80,176],227⟩ (.o (.meet ⟨[(5, .l (.slice (.slice ae)))],[(144, .own 3 ae),(192, .box 140 (.own 272)),(272, .own 3 ae)],[80,176],275⟩ (.loop ⟨[(29, .l ae)],[(80, .deep 29 (.sl 3 (.leaf ae))),(144, .own 3 ae),(192, .box 140 (.own 272)),(272, .own 3 ae)],[176],276⟩ (.o (.o (.meet ⟨[],[(80, .deep 29 (.sl 3 (.leaf ae))),(144, .own 3 ae),(192, .box 140 (.own 292)),(292, .own 3 ae)],[272],296⟩ (.meet ⟨[],[(80, .deep 29 (.sl 3 (.leaf ae))),(144, .own 3 ae),(192, .box 140 (.own 292)),(292, .own 3 ae)],[272],296⟩ (.o (.o (.meet ⟨[],[(80, .deep 29 (.sl 3 (.leaf ae)))],[],469⟩ (.o (.two (.loop ⟨[(41, .l ae)],[(80, .deep 29 (.sl 3 (.leaf ae)))],[],517⟩ .nil) .nil)) .nil))) .nil) .nil)))) .nil)) (.o (.meet ⟨[(12, .val false (.own 243))],[(192, .box 140 (.own 244)),(243, .own 3 ae),(244, .own 3 ae)],[144,224],246⟩ (.two (.loop ⟨[(12, .val false (.own 243))],[(144, .own 3 ae),(192, .box 140 (.own 244)),(243, .own 3 ae),(244, .own 3 ae)],[224],247⟩ (.o (.two (.o (.o (.o (.two (.loop ⟨[(86, .l ae)],[(144, .own 3 ae),(192, .box 140 (.own 647)),(647, .own 3 ae)],[361],650⟩ (.o (.o (.two (.meet ⟨[],[(144, .own 3 ae),(192, .box 140 (.own 666)),(666, .own 3 ae)],[647],669⟩ .nil .nil) .nil)))) .nil)))) .nil))) .nil) .nil)))))))) Tryz.func31 (by kernel_rfl) fun x=>by kernel_rfl
def M.b7(N:Nat)(a0:List ByteArray):Option (List ByteArray):=
(if aju (a0).length 0 then
vI (some ([]:List ByteArray))
((bZ ([]:List ByteArray) a0).bind fun l1=>
some l1)
else
(bZ ([]:List ByteArray) a0).bind fun l2=>
some l2)
def S56(N:Nat):br:=⟨⟨[(0, .l (.slice .str))],[],[],0⟩,⟨[(0, .val false (.own 0))],[(0, .own 9 .str)],[],1⟩,fun(x:List ByteArray)=>M.b7 N x⟩
theorem W56(N:Nat):av Tryz.prog 56 (S56 N):=fw (en [] false false) (N:=N) .nil Tryz.func56 (by kernel_rfl) fun x=>by kernel_rfl
def M.bG(N:Nat)(a0:aa.den)(a1:Int):Option Bool:=
((M.ef N a0).bind fun y2=>
(if y2 then
(if(decide (a0.1<=a1))then
some (decide (a1<a0.2))
else
some false)
else
some false):Option Bool).bind fun j1=>
some j1
def S64(N:Nat):br:=⟨⟨[(0, .g aa),(1, .l ae)],[],[],0⟩,⟨[(0, .l .bool)],[],[],0⟩,fun(x:aa.den×Int)=>M.bG N x.1 x.2⟩
theorem RR(N:Nat):av Tryz.prog 64 (S64 N):=fw (en [ck (X3 N)] false false) (N:=N) (.o (.meet ⟨[(4, .l .bool)],[],[],32⟩ .nil .nil)) Tryz.func64 (by kernel_rfl) fun x=>by kernel_rfl
def M.di(N:Nat):Option (aa.den):=
some (0,109573)
def S98(N:Nat):br:=⟨⟨[],[],[],0⟩,⟨[(0, .g aa)],[],[],0⟩,fun(x:Unit)=>M.di N⟩
theorem W98(N:Nat):av Tryz.prog 98 (S98 N):=fw (en [] false false) (N:=N) .nil Tryz.func98 (by kernel_rfl) fun x=>by kernel_rfl
def M.fx(N:Nat)(a0:ay.den)(a1:Int):Option (ByteArray×aa.den×aa.den×List dJ.den):=
(Loop (S:=Int×List dJ.den) (X:=List dJ.den) (fun s2=>
(if(decide (s2.1<(a0.2.2.2.length:Int)))then
((idx a0.2.2.2 s2.1).bind fun x4=>
(M.bG N x4.1 a1).bind fun y5=>
(if y5 then
(M.di N).bind fun y6=>
(bZ s2.2 ([(y6,x4.2)]:List dJ.den)).bind fun l7=>
some l7
else
some s2.2):Option (List dJ.den)).bind fun j3=>
some (.inl (ajj.wrap (s2.1+1),j3))
else
some (.inr s2.2))) N (0,([]:List dJ.den)):Option (List dJ.den)).bind fun j1=>
some (a0.1,a0.2.1,a0.2.2.1,j1)
def S57(N:Nat):br:=⟨⟨[(0, .g ay),(1, .l ae)],[],[],0⟩,⟨[(0, .val true (.pair (.leaf .str) (.pair (.leaf aa) (.pair (.leaf aa) (.own 0)))))],[(0, .own 169 dJ)],[],1⟩,fun(x:ay.den×Int)=>M.fx N x.1 x.2⟩
theorem W57(N:Nat):av Tryz.prog 57 (S57 N):=fw (en [ck (RR N),ck (W98 N)] false false) (N:=N) (.o (.o (.meet ⟨[(5, .val false (.own 48))],[(48, .own 169 dJ)],[],49⟩ (.o (.two (.loop ⟨[(5, .val false (.own 112)),(11, .l ae)],[(112, .own 169 dJ)],[],113⟩ (.o (.o (.two (.meet ⟨[(5, .val false (.own 129))],[(129, .own 169 dJ)],[112],130⟩ .nil .nil) .nil)))) .nil)) .nil))) Tryz.func57 (by kernel_rfl) fun x=>by kernel_rfl
def M.ak(N:Nat)(a0:List aa.den):Option (List aa.den):=
(if aju (a0).length 0 then
vI (some ([]:List aa.den))
((bZ ([]:List aa.den) a0).bind fun l1=>
some l1)
else
(bZ ([]:List aa.den) a0).bind fun l2=>
some l2)
def YV(N:Nat):br:=⟨⟨[(0, .l (.slice aa))],[],[],0⟩,⟨[(0, .val false (.own 0))],[(0, .own 73 aa)],[],1⟩,fun(x:List aa.den)=>M.ak N x⟩
theorem Nx(N:Nat):av Tryz.prog 100 (YV N):=fw (en [] false false) (N:=N) .nil Tryz.func100 (by kernel_rfl) fun x=>by kernel_rfl
def M.aX(N:Nat)(a0:List aN.den):Option (List aN.den):=
(if aju (a0).length 0 then
vI (some ([]:List aN.den))
((bZ ([]:List aN.den) a0).bind fun l1=>
some l1)
else
(bZ ([]:List aN.den) a0).bind fun l2=>
some l2)
def YW(N:Nat):br:=⟨⟨[(0, .l (.slice aN))],[],[],0⟩,⟨[(0, .val false (.own 0))],[(0, .own 95 aN)],[],1⟩,fun(x:List aN.den)=>M.aX N x⟩
theorem YX(N:Nat):av Tryz.prog 101 (YW N):=fw (en [] false false) (N:=N) .nil Tryz.func101 (by kernel_rfl) fun x=>by kernel_rfl
def M.dm(N:Nat)(a0:aZ.den)(a1:Int):Option (Bool×Int):=
(M.bG N a0.2.2.2.2.1 a1).bind fun y1=>
some (y1,a1)
def Ui(N:Nat):br:=⟨⟨[(0, .g aZ),(1, .ptr 0 [] 0)],[(0, .box 3 (.leaf ae))],[],1⟩,⟨[(0, .l .bool)],[(0, .box 3 (.leaf ae))],[],2⟩,fun(x:aZ.den×Int)=>M.dm N x.1 x.2⟩
theorem Uj(N:Nat):av Tryz.prog 99 (Ui N):=fw (en [ck (RR N)] false false) (N:=N) .nil Tryz.func99 (by kernel_rfl) fun x=>by kernel_rfl
def M.eD(N:Nat)(a0:List aZ.den)(a1:Int):Option (Int×(List Int)×List Int):=
(mI (a0.length:Int) 0).bind fun l1=>
Loop (S:=Int×Int×(List Int)×(List Int)×List Int) (X:=Int×(List Int)×List Int) (fun s2=>
(if(decide (s2.1<(a0.length:Int)))then
((idx a0 s2.1).bind fun x4=>
(((if(decide (0<=x4.2.2.1))then
some (decide (x4.2.2.1<s2.1))
else
some false):Option Bool).bind fun j6=>
(if j6 then
(idx s2.2.2.1 x4.2.2.1).bind fun x7=>
some x7
else
some (-1)):Option Int).bind fun j5=>
(idx s2.2.2.1 s2.1).bind fun x8=>
(M.dm N x4 s2.2.1).bind fun y9=>
(if y9.1 then
(idx (aQ s2.2.2.1 s2.1 j5) s2.1).bind fun r9=>
(bZ s2.2.2.2.1 ([s2.1]:List Int)).bind fun HU=>
(bZ s2.2.2.2.2 ([j5]:List Int)).bind fun FD=>
some (y9.2,aQ (aQ s2.2.2.1 s2.1 j5) s2.1 (s2.2.2.2.1.length:Int),HU,FD)
else
some (y9.2,aQ s2.2.2.1 s2.1 j5,s2.2.2.2.1,s2.2.2.2.2)):Option (Int×(List Int)×(List Int)×List Int)).bind fun j3=>
some (.inl (ajj.wrap (s2.1+1),j3.1,j3.2.1,j3.2.2.1,j3.2.2.2))
else
some (.inr (s2.2.1,s2.2.2.2.1,s2.2.2.2.2)))) N (0,a1,l1,([]:List Int),([]:List Int))
def Uk(N:Nat):br:=⟨⟨[(0, .l (.slice aZ)),(1, .fn 99 [(0,[],0)])],[(0, .box 3 (.leaf ae))],[],1⟩,⟨[(0, .val false (.own 1)),(1, .val false (.own 2))],[(0, .box 3 (.leaf ae)),(1, .own 3 ae),(2, .own 3 ae)],[],4⟩,fun(x:(List aZ.den)×Int)=>M.eD N x.1 x.2⟩
theorem Ul(N:Nat):av Tryz.prog 62 (Uk N):=fw (en [ck (Uj N)] false false) (N:=N) (.o (.o (.o (.two (.o (.two (.loop ⟨[(6, .val false (.own 177)),(7, .val false (.own 178)),(17, .l ae)],[(0, .box 3 (.leaf ae)),(97, .own 3 ae),(177, .own 3 ae),(178, .own 3 ae)],[],181⟩ (.o (.o (.two (.meet ⟨[(6, .val false (.own 197)),(7, .val false (.own 198))],[(0, .box 3 (.leaf ae)),(97, .own 3 ae),(197, .own 3 ae),(198, .own 3 ae)],[177,178],201⟩ (.o (.o (.meet ⟨[(11, .l ae)],[],[],309⟩ (.meet ⟨[(30, .l .bool)],[],[],309⟩ .nil .nil) .nil))) .nil) .nil)))) .nil)) .nil)))) Tryz.func62 (by kernel_rfl) fun x=>by kernel_rfl
def M.fy(N:Nat)(a0:aB.den)(a1:Int):Option (ByteArray×Int×(List aN.den)×(List aN.den)×List aZ.den):=
(M.eD N a0.2.2.2.2 a1).bind fun y1=>
(Loop (S:=Int×List aZ.den) (X:=List aZ.den) (fun s3=>
(if(decide (s3.1<(y1.2.1.length:Int)))then
(idx y1.2.1 s3.1).bind fun x4=>
(idx a0.2.2.2.2 x4).bind fun x5=>
(idx y1.2.2 s3.1).bind fun x6=>
(M.di N).bind fun y7=>
(M.ak N x5.2.2.2.2.2.1).bind fun y8=>
(M.ak N x5.2.2.2.2.2.2.1).bind fun y9=>
(bZ s3.2 ([(x5.1,(x5.2.1,(x6,(x5.2.2.2.1,(y7,(y8,(y9,x5.2.2.2.2.2.2.2)))))))]:List aZ.den)).bind fun xk=>
some (.inl (ajj.wrap (s3.1+1),xk))
else
some (.inr s3.2))) N (0,([]:List aZ.den)):Option (List aZ.den)).bind fun j2=>
(M.aX N a0.2.2.1).bind fun qi=>
(M.aX N a0.2.2.2.1).bind fun qj=>
some (a0.1,a0.2.1,qi,qj,j2)
def S58(N:Nat):br:=⟨⟨[(0, .g aB),(1, .l ae)],[],[],0⟩,⟨[(0, .val true (.pair (.leaf .str) (.pair (.leaf ae) (.pair (.own 0) (.pair (.own 1) (.own 2))))))],[(0, .own 95 aN),(1, .own 95 aN),(2, .own 41 aZ)],[],3⟩,fun(x:aB.den×Int)=>M.fy N x.1 x.2⟩
theorem W58(N:Nat):av Tryz.prog 58 (S58 N):=fw (en [ck (Ul N),ck (W98 N),ck (Nx N),ck (YX N)] false false) (N:=N) (.o (.o (.o (.meet ⟨[(7, .val false (.own 208))],[(208, .own 41 aZ)],[],209⟩ (.o (.two (.loop ⟨[(7, .val false (.own 256)),(20, .l ae)],[(256, .own 41 aZ)],[],257⟩ .nil) .nil)) .nil)))) Tryz.func58 (by kernel_rfl) fun x=>by kernel_rfl
def M.gA(N:Nat)(a0:cF.den)(a1:Int):Option ((List bp.den)×(List ay.den)×List aB.den):=
(Loop (S:=Int×List bp.den) (X:=List bp.den) (fun s2=>
(if(decide (s2.1<(a0.1.length:Int)))then
(idx a0.1 s2.1).bind fun x3=>
(M.b7 N x3.2).bind fun y4=>
(bZ s2.2 ([(x3.1,y4)]:List bp.den)).bind fun l5=>
some (.inl (ajj.wrap (s2.1+1),l5))
else
some (.inr s2.2))) N (0,([]:List bp.den)):Option (List bp.den)).bind fun j1=>
(Loop (S:=Int×(List bp.den)×List ay.den) (X:=(List bp.den)×List ay.den) (fun s7=>
(if(decide (s7.1<(a0.2.1.length:Int)))then
(idx a0.2.1 s7.1).bind fun x8=>
(M.fx N x8 a1).bind fun y9=>
(bZ s7.2.2 ([(y9.1,(y9.2.1,(y9.2.2.1,y9.2.2.2)))]:List ay.den)).bind fun xk=>
some (.inl (ajj.wrap (s7.1+1),s7.2.1,xk))
else
some (.inr (s7.2.1,s7.2.2)))) N (0,j1,([]:List ay.den)):Option ((List bp.den)×List ay.den)).bind fun j6=>
(Loop (S:=Int×(List bp.den)×(List ay.den)×List aB.den) (X:=(List bp.den)×(List ay.den)×List aB.den) (fun vU=>
(if(decide (vU.1<(a0.2.2.length:Int)))then
(idx a0.2.2 vU.1).bind fun oX=>
(M.fy N oX a1).bind fun qk=>
(bZ vU.2.2.2 ([(qk.1,(qk.2.1,(qk.2.2.1,(qk.2.2.2.1,qk.2.2.2.2))))]:List aB.den)).bind fun Um=>
some (.inl (ajj.wrap (vU.1+1),vU.2.1,vU.2.2.1,Um))
else
some (.inr (vU.2.1,vU.2.2.1,vU.2.2.2)))) N (0,j6.1,j6.2,([]:List aB.den)):Option ((List bp.den)×(List ay.den)×List aB.den)).bind fun CY=>
some (CY.1,CY.2.1,CY.2.2)
def S32(N:Nat):br:=⟨⟨[(0, .g cF),(1, .l ae)],[],[],0⟩,⟨[(0, .val true (.pair (.own 0) (.pair (.own 1) (.own 2))))],[(0, .own 61 bp),(1, .own 66 ay),(2, .own 69 aB)],[],3⟩,fun(x:cF.den×Int)=>M.gA N x.1 x.2⟩
theorem W32(N:Nat):av Tryz.prog 32 (S32 N):=fw (en [ck (W56 N),ck (W57 N),ck (W58 N)] false false) (N:=N) (.o (.o (.meet ⟨[],[(32, .box 26 (.pair (.own 48) (.pair .nil .nil))),(48, .own 61 bp)],[],50⟩ (.o (.two (.loop ⟨[(15, .l ae)],[(32, .box 26 (.pair (.own 112) (.pair .nil .nil))),(112, .own 61 bp)],[],114⟩ .nil) .nil)) (.meet ⟨[],[(32, .box 26 (.pair (.own 48) (.pair (.own 50) .nil))),(48, .own 61 bp),(50, .own 66 ay)],[],53⟩ (.o (.two (.loop ⟨[(33, .l ae)],[(32, .box 26 (.pair (.own 48) (.pair (.own 114) .nil))),(48, .own 61 bp),(114, .own 66 ay)],[],117⟩ .nil) .nil)) (.meet ⟨[],[(32, .box 26 (.pair (.own 48) (.pair (.own 50) (.own 53)))),(48, .own 61 bp),(50, .own 66 ay),(53, .own 69 aB)],[],57⟩ (.o (.two (.loop ⟨[(49, .l ae)],[(32, .box 26 (.pair (.own 48) (.pair (.own 50) (.own 117)))),(48, .own 61 bp),(50, .own 66 ay),(117, .own 69 aB)],[],121⟩ .nil) .nil)) .nil))))) Tryz.func32 (by kernel_rfl) fun x=>by kernel_rfl
def M.gi(N:Nat)(a0:List aa.den):Option (Int×List Int):=
(M.eQ N a0).bind fun y1=>
some (y1.2.1,y1.2.2)
def YY(N:Nat):br:=⟨⟨[(0, .l (.slice aa))],[],[],0⟩,⟨[(0, .val false (.own 0)),(1, .l ae)],[(0, .own 3 ae)],[],1⟩,fun(x:List aa.den)=>M.gi N x⟩
theorem Un(N:Nat):av Tryz.prog 102 (YY N):=fw (en [ck (TL N)] false false) (N:=N) .nil Tryz.func102 (by kernel_rfl) fun x=>by kernel_rfl
def M.lj(N:Nat)(a0:List aa.den)(a1:Int):Option (List Int):=
(M.gi N a0).bind fun y1=>
((if(!decide (y1.1=0))then
some true
else
(if(decide (a1<0))then
some true
else
some (decide ((a0.length:Int)<=a1)))):Option Bool).bind fun j2=>
(if j2 then
some ([]:List Int)
else
(idx a0 a1).bind fun x3=>
(M.dh N x3.1).bind fun y4=>
(mI y4 0).bind fun l5=>
Loop (S:=Int×Int×List Int) (X:=List Int) (fun s6=>
(if(decide (0<=s6.2.1))then
(idx s6.2.2 s6.2.1).bind fun x7=>
(idx y1.2 s6.1).bind fun x8=>
some (.inl (ajj.wrap (x8-1),ajj.wrap (s6.2.1-1),aQ s6.2.2 s6.2.1 s6.1))
else
some (.inr s6.2.2))) N (ajj.wrap (a1-1),ajj.wrap ((l5.length:Int)-1),l5))
def YZ(N:Nat):br:=⟨⟨[(0, .l (.slice aa)),(1, .l ae)],[],[],0⟩,⟨[(0, .val false (.own 0))],[(0, .own 3 ae)],[],1⟩,fun(x:(List aa.den)×Int)=>M.lj N x.1 x.2⟩
theorem Y0(N:Nat):av Tryz.prog 148 (YZ N):=fw (en [ck (Nw N),ck (Un N)] false false) (N:=N) (.o (.o (.two (.meet ⟨[(26, .l .bool)],[],[],128⟩ .nil .nil) (.o (.o (.two (.o (.two (.loop ⟨[(8, .l ae),(9, .l ae)],[(224, .own 3 ae)],[],369⟩ .nil) .nil)) .nil)))))) Tryz.func148 (by kernel_rfl) fun x=>by kernel_rfl
def M.bo(B:Nat):Nat->(List aa.den)->Int->(List aa.den)->Option (List aa.den)
 |0,_,_,_=>none
 |N+1,a0,a1,a2=>
  (M.lj B a0 a1).bind fun y2=>
  (idx a0 a1).bind fun VI=>
  ((if(decide (VI.1=23))then
  some (decide (VI.1=23))
  else
  some (decide (VI.1=24))):Option Bool).bind fun j62=>
  (if j62 then
  ((idx a0 a1).bind fun x64=>
  (if(decide (x64.1=24))then
  some 53
  else
  some 52):Option Int).bind fun j63=>
  (idx y2 0).bind fun x65=>
  (M.bo B N a0 x65 a2).bind fun Y1=>
  (bZ Y1 ([(j63,0)]:List aa.den)).bind fun l67=>
  (idx y2 1).bind fun x68=>
  (M.bo B N a0 x68 l67).bind fun Y2=>
  (idx Y2 (Y1.length:Int)).bind fun x70=>
  some (aQ Y2 (Y1.length:Int) (x70.1,(Y2.length:Int)))
  else
  (if(decide (VI.1=26))then
  (idx y2 0).bind fun x71=>
  (M.bo B N a0 x71 a2).bind fun Y3=>
  (bZ Y3 ([(50,0)]:List aa.den)).bind fun l73=>
  (idx y2 1).bind fun x74=>
  (M.bo B N a0 x74 l73).bind fun Y4=>
  (bZ Y4 ([(51,0)]:List aa.den)).bind fun Y5=>
  (idx Y5 (Y3.length:Int)).bind fun x77=>
  (idx y2 2).bind fun x78=>
  (M.bo B N a0 x78 (aQ Y5 (Y3.length:Int) (x77.1,(Y5.length:Int)))).bind fun Y6=>
  (idx Y6 (Y4.length:Int)).bind fun x80=>
  some (aQ Y6 (Y4.length:Int) (x80.1,(Y6.length:Int)))
  else
  (Loop (S:=Int×List aa.den) (X:=List aa.den) (fun vV=>
  (if(decide (vV.1<(y2.length:Int)))then
  (idx y2 vV.1).bind fun QC=>
  (M.bo B N a0 QC vV.2).bind fun QD=>
  some (.inl (ajj.wrap (vV.1+1),QD))
  else
  some (.inr vV.2))) B (0,a2):Option (List aa.den)).bind fun Y7=>
  (idx a0 a1).bind fun Y8=>
  (bZ Y7 ([Y8]:List aa.den)).bind fun Y9=>
  some Y9))
def M.iu(N:Nat)(a0:List aa.den)(a1:Int)(a2:List aa.den):Option (List aa.den):=M.bo N N a0 a1 a2
def Za(N:Nat):br:=⟨⟨[(0, .val false (.own 0)),(1, .l (.slice aa)),(2, .l ae)],[(0, .own 73 aa)],[],1⟩,⟨[(0, .val false (.own 1))],[(1, .own 73 aa)],[],2⟩,fun(x:(List aa.den)×Int×List aa.den)=>M.iu N x.1 x.2.1 x.2.2⟩
def Zb(B N:Nat):br:={inn:=⟨[(0, .val false (.own 0)),(1, .l (.slice aa)),(2, .l ae)],[(0, .own 73 aa)],[],1⟩,out:=⟨[(0, .val false (.own 1))],[(1, .own 73 aa)],[],2⟩,fn:=fun(x:(List aa.den)×Int×List aa.den)=>M.bo B N x.1 x.2.1 x.2.2}
theorem O1(B:Nat):∀N,av Tryz.prog 103 (Zb B N)
 |0=>Nq Tryz.func103 (by kernel_rfl) (by kernel_rfl) fun _=>rfl
 |N+1=>fw (en [ck (O1 B N),ck (Y0 B)] false false) (N:=B) (.o (.o (.two (.o (.two (.meet ⟨[(22, .l .bool)],[],[],161⟩ .nil (.two (.o (.meet ⟨[(8, .l ae)],[],[],177⟩ .nil .nil)) .nil)) .nil)) (.meet ⟨[(0, .val false (.own 193))],[(193, .own 73 aa)],[0],194⟩ (.o (.two (.loop ⟨[(0, .val false (.own 241)),(104, .l ae)],[(241, .own 73 aa)],[0],242⟩ .nil) .nil)) .nil)))) Tryz.func103 (by kernel_rfl) fun x=>by kernel_rfl
theorem Zc(N:Nat):av Tryz.prog 103 (Za N):=O1 N N
def M.iL(N:Nat)(a0:List aa.den):Option (Int×List aa.den):=
(M.gi N a0).bind fun y1=>
(if(!decide (y1.1=0))then
some (y1.1,([]:List aa.den))
else
(M.iu N a0 (ajj.wrap ((a0.length:Int)-1)) ([]:List aa.den)).bind fun y2=>
some (0,y2))
def S59(N:Nat):br:=⟨⟨[(0, .l (.slice aa))],[],[],0⟩,⟨[(0, .val false (.own 0)),(1, .l ae)],[(0, .own 73 aa)],[],1⟩,fun(x:List aa.den)=>M.iL N x⟩
theorem W59(N:Nat):av Tryz.prog 59 (S59 N):=fw (en [ck (Un N),ck (Zc N)] false false) (N:=N) .nil Tryz.func59 (by kernel_rfl) fun x=>by kernel_rfl
def M.eh(N:Nat)(a0:Int):Option Bool:=
((if(decide (50<=a0))then
some (decide (a0<=53))
else
some false):Option Bool).bind fun j1=>
some j1
def S35(N:Nat):br:=⟨⟨[(0, .l ae)],[],[],0⟩,⟨[(0, .l .bool)],[],[],0⟩,fun(x:Int)=>M.eh N x⟩
theorem W35(N:Nat):av Tryz.prog 35 (S35 N):=fw (en [] false false) (N:=N) (.o (.meet ⟨[(2, .l .bool)],[],[],16⟩ .nil .nil)) Tryz.func35 (by kernel_rfl) fun x=>by kernel_rfl
def M.cP(N:Nat)(a0:Int):Option Bool:=
((if(decide (a0=23))then
some (decide (a0=23))
else
(if(decide (a0=24))then
some (decide (a0=24))
else
some (decide (a0=26)))):Option Bool).bind fun j1=>
(if j1 then
some false
else
((M.eh N a0).bind fun y3=>
(if y3 then
some true
else
(M.dh N a0).bind fun y4=>
some (decide (0<=y4))):Option Bool).bind fun j2=>
some j2)
def S34(N:Nat):br:=⟨⟨[(0, .l ae)],[],[],0⟩,⟨[(0, .l .bool)],[],[],0⟩,fun(x:Int)=>M.cP N x⟩
theorem W34(N:Nat):av Tryz.prog 34 (S34 N):=fw (en [ck (W35 N),ck (Nw N)] false false) (N:=N) (.o (.two (.o (.two (.meet ⟨[(4, .l .bool)],[],[],32⟩ .nil .nil) .nil)) (.meet ⟨[(2, .l .bool)],[],[],32⟩ .nil .nil))) Tryz.func34 (by kernel_rfl) fun x=>by kernel_rfl
def M.aT(N:Nat)(a0:Int)(a1:Int)(a2:List Int):Option (Int×List Int):=
((idx a2 a0).bind fun x2=>
(if(decide (0<=x2))then
(idx a2 a0).bind fun x3=>
some (!decide (x3=a1))
else
some false):Option Bool).bind fun j1=>
(if j1 then
some (9,a2)
else
(idx a2 a0).bind fun x4=>
some (0,aQ a2 a0 a1))
def S36(N:Nat):br:=⟨⟨[(0, .ptr 0 [] 0),(1, .l ae),(2, .l ae)],[(0, .box 83 (.own 1)),(1, .own 3 ae)],[],2⟩,⟨[(0, .l ae)],[(0, .box 83 (.own 1)),(1, .own 3 ae)],[],4⟩,fun(x:Int×Int×List Int)=>M.aT N x.1 x.2.1 x.2.2⟩
theorem W36(N:Nat):av Tryz.prog 36 (S36 N):=fw (en [] false false) (N:=N) (.o (.two (.meet ⟨[(25, .l .bool)],[],[],18⟩ .nil .nil) .nil)) Tryz.func36 (by kernel_rfl) fun x=>by kernel_rfl
def M.bA(N:Nat)(a0:List aa.den)(a1:Int)(a2:aa.den)(a3:List Int):Option (Int×List Int):=
((M.cP N a2.1).bind fun y2=>
(if(!y2)then
some true
else
(M.eh N a2.1).bind fun y3=>
(if y3 then
(if(decide (a2.2<=a1))then
some true
else
some (decide ((a0.length:Int)<a2.2)))
else
some false)):Option Bool).bind fun j1=>
(if j1 then
some (2,a3)
else
(idx a3 a1).bind fun x4=>
(if(decide (a2.1=51))then
(M.aT N a2.2 x4 a3).bind fun y5=>
some (y5.1,y5.2)
else
((if(decide (a2.1=50))then
some (decide (a2.1=50))
else
(if(decide (a2.1=52))then
some (decide (a2.1=52))
else
some (decide (a2.1=53)))):Option Bool).bind fun j6=>
(if j6 then
(if(decide (x4<1))then
some (5,a3)
else
(M.aT N (ajj.wrap (a1+1)) (ajj.wrap (x4-1)) a3).bind fun y7=>
(if(!decide (y7.1=0))then
some (y7.1,y7.2)
else
((if(decide (a2.1=50))then
some (ajj.wrap (x4-1))
else
some x4):Option Int).bind fun j8=>
(M.aT N a2.2 j8 y7.2).bind fun y9=>
some (y9.1,y9.2)))
else
(M.dh N a2.1).bind fun oW=>
(if(decide (x4<oW))then
some (5,a3)
else
(if(decide (12<(ajj.wrap ((ajj.wrap (x4-oW))+1))))then
some (16,a3)
else
(M.aT N (ajj.wrap (a1+1)) (ajj.wrap ((ajj.wrap (x4-oW))+1)) a3).bind fun qi=>
some (qi.1,qi.2))))))
def S18(N:Nat):br:=⟨⟨[(0, .ptr 0 [] 0),(1, .l (.slice aa)),(2, .l ae),(3, .g aa)],[(0, .box 83 (.own 1)),(1, .own 3 ae)],[],2⟩,⟨[(0, .l ae)],[(0, .box 83 (.own 1)),(1, .own 3 ae)],[],4⟩,fun(x:(List aa.den)×Int×aa.den×List Int)=>M.bA N x.1 x.2.1 x.2.2.1 x.2.2.2⟩
theorem W18(N:Nat):av Tryz.prog 18 (S18 N):=fw (en [ck (W34 N),ck (W35 N),ck (W36 N),ck (Nw N)] false false) (N:=N) (.o (.two (.meet ⟨[(33, .l .bool)],[],[],34⟩ .nil .nil) (.o (.two (.o (.two (.o (.o (.meet ⟨[(50, .l .bool)],[],[],226⟩ .nil (.two (.o (.o (.meet ⟨[(9, .l ae)],[],[],402⟩ .nil .nil))) .nil)))) .nil)) .nil)))) Tryz.func18 (by kernel_rfl) fun x=>by kernel_rfl
def M.bH(N:Nat)(a0:List aa.den):Option (Int×Int):=
(if(decide (128<(a0.length:Int)))then
some (0,4)
else
(if(decide ((a0.length:Int)=0))then
some (0,5)
else
(mI (ajj.wrap ((a0.length:Int)+1)) 0).bind fun l1=>
(Loop (S:=Int×List Int) (X:=List Int) (fun s3=>
(if(decide (s3.1<(l1.length:Int)))then
(idx s3.2 s3.1).bind fun x4=>
some (.inl (ajj.wrap (s3.1+1),aQ s3.2 s3.1 (-1)))
else
some (.inr s3.2))) N (0,l1):Option (List Int)).bind fun j2=>
(idx j2 0).bind fun x5=>
bM (J:=Int×List Int) (R:=Int×Int) (Loop (S:=Int×Int×List Int) (X:=(Int×List Int)⊕(Int×Int)) (fun s7=>
(if(decide (s7.2.1<(a0.length:Int)))then
bM (J:=Int×List Int) (R:=(Int×Int×List Int)⊕((Int×List Int)⊕(Int×Int))) ((idx a0 s7.2.1).bind fun x9=>
(idx s7.2.2 s7.2.1).bind fun r9=>
(if(decide (r9<0))then
some (.inl (s7.1,s7.2.2))
else
(idx s7.2.2 s7.2.1).bind fun oE=>
(M.bA N a0 s7.2.1 x9 s7.2.2).bind fun qj=>
(if(!decide (qj.1=0))then
some (.inr (.inr (.inr (0,qj.1))))
else
some (.inl (if s7.1<oE then oE else s7.1,qj.2))))) fun j8=>
some (.inl (j8.1,ajj.wrap (s7.2.1+1),j8.2))
else
some (.inr (.inl (s7.1,s7.2.2))))) N (0,0,aQ j2 0 0)) fun j6=>
(idx j6.2 (a0.length:Int)).bind fun oX=>
(if(decide (oX<=0))then
some (0,5)
else
(if(decide (1<oX))then
some (0,4)
else
some (if j6.1<oX then oX else j6.1,0)))))
def S8(N:Nat):br:=⟨⟨[(0, .l (.slice aa))],[],[],0⟩,⟨[(0, .l ae),(1, .l ae)],[],[],0⟩,fun(x:List aa.den)=>M.bH N x⟩
theorem W8(N:Nat):av Tryz.prog 8 (S8 N):=fw (en [ck (W18 N)] false false) (N:=N) (.o (.o (.o (.o (.meet ⟨[],[(176, .own 3 ae)],[],241⟩ (.o (.two (.loop ⟨[(28, .l ae)],[(176, .own 3 ae)],[],337⟩ .nil) .nil)) (.o (.o (.join ⟨[(6, .l ae)],[(176, .own 3 ae),(208, .box 83 (.own 176))],[],355⟩ (.o (.two (.loop ⟨[(6, .l ae),(45, .l ae)],[(176, .own 3 ae),(208, .box 83 (.own 176))],[],403⟩ (.o (.o (.two (.join ⟨[(6, .l ae)],[(176, .own 3 ae),(208, .box 83 (.own 176))],[],421⟩ .nil .nil) .nil)))) .nil)) .nil)))))))) Tryz.func8 (by kernel_rfl) fun x=>by kernel_rfl
def M.ed(N:Nat)(a0:List aa.den):Option Bool:=
(M.bH N a0).bind fun y1=>
some (decide (y1.2=0))
def Zd(N:Nat):br:=⟨⟨[(0, .l (.slice aa))],[],[],0⟩,⟨[(0, .l .bool)],[],[],0⟩,fun(x:List aa.den)=>M.ed N x⟩
theorem QE(N:Nat):av Tryz.prog 149 (Zd N):=fw (en [ck (W8 N)] false false) (N:=N) .nil Tryz.func149 (by kernel_rfl) fun x=>by kernel_rfl
def M.dc(N:Nat)(a0:Int):Option Bool:=
((if(decide (50<=a0))then
some (decide (a0<=53))
else
some false):Option Bool).bind fun j1=>
some j1
def Ze(N:Nat):br:=⟨⟨[(0, .l ae)],[],[],0⟩,⟨[(0, .l .bool)],[],[],0⟩,fun(x:Int)=>M.dc N x⟩
theorem KQ(N:Nat):av Tryz.prog 153 (Ze N):=fw (en [] false false) (N:=N) (.o (.meet ⟨[(2, .l .bool)],[],[],16⟩ .nil .nil)) Tryz.func153 (by kernel_rfl) fun x=>by kernel_rfl
def M.eU(N:Nat)(a0:List aa.den):Option (List Bool):=
(mI (ajj.wrap ((a0.length:Int)+1)) false).bind fun l1=>
(idx l1 0).bind fun x2=>
(Loop (S:=Int×List Bool) (X:=List Bool) (fun s4=>
(if(decide (s4.1<(a0.length:Int)))then
((idx a0 s4.1).bind fun x6=>
(idx s4.2 s4.1).bind fun x7=>
(if(!x7)then
some s4.2
else
((if(!decide (x6.1=51))then
(idx s4.2 (ajj.wrap (s4.1+1))).bind fun x9=>
some (aQ s4.2 (ajj.wrap (s4.1+1)) true)
else
some s4.2):Option (List Bool)).bind fun j8=>
(M.dc N x6.1).bind fun oW=>
(if oW then
(idx j8 x6.2).bind fun oE=>
some (aQ j8 x6.2 true)
else
some j8)):Option (List Bool)).bind fun j5=>
some (.inl (ajj.wrap (s4.1+1),j5))
else
some (.inr s4.2))) N (0,aQ l1 0 true):Option (List Bool)).bind fun j3=>
(fa j3 0 (a0.length:Int)).bind fun FD=>
some FD
def Zf(N:Nat):br:=⟨⟨[(0, .l (.slice aa))],[],[],0⟩,⟨[(0, .val false (.own 0))],[(0, .own 4 .bool)],[],1⟩,fun(x:List aa.den)=>M.eU N x⟩
theorem Zg(N:Nat):av Tryz.prog 150 (Zf N):=fw (en [ck (KQ N)] false false) (N:=N) (.o (.o (.o (.meet ⟨[],[(64, .own 4 .bool)],[],145⟩ (.o (.two (.loop ⟨[(14, .l ae)],[(64, .own 4 .bool)],[],193⟩ (.o (.o (.two (.meet ⟨[],[(64, .own 4 .bool)],[],210⟩ (.o (.o (.meet ⟨[],[(64, .own 4 .bool)],[],386⟩ .nil .nil))) .nil) .nil)))) .nil)) .nil)))) Tryz.func150 (by kernel_rfl) fun x=>by kernel_rfl
def M.gp(N:Nat)(a0:List Bool)(a1:Bool):Option Int:=
Loop (S:=Int) (X:=Int) (fun s1=>
(if(decide (s1<(a0.length:Int)))then
(idx a0 s1).bind fun x2=>
(if(decide (a1=x2))then
some (.inr s1)
else
some (.inl (ajj.wrap (s1+1))))
else
some (.inr (-1)))) N 0
def Zh(N:Nat):br:=⟨⟨[(0, .l (.slice .bool)),(1, .l .bool)],[],[],0⟩,⟨[(0, .l ae)],[],[],0⟩,fun(x:(List Bool)×Bool)=>M.gp N x.1 x.2⟩
theorem Zi(N:Nat):av Tryz.prog 183 (Zh N):=fw (en [] false false) (N:=N) (.o (.two (.o (.two (.loop ⟨[(8, .l ae)],[],[],64⟩ .nil) .nil)) .nil)) Tryz.func183 (by kernel_rfl) fun x=>by kernel_rfl
def M.cS(N:Nat)(a0:List Bool)(a1:Bool):Option Bool:=
(M.gp N a0 a1).bind fun y1=>
some (decide (0<=y1))
def Zj(N:Nat):br:=⟨⟨[(0, .l (.slice .bool)),(1, .l .bool)],[],[],0⟩,⟨[(0, .l .bool)],[],[],0⟩,fun(x:(List Bool)×Bool)=>M.cS N x.1 x.2⟩
theorem Zk(N:Nat):av Tryz.prog 151 (Zj N):=fw (en [ck (Zi N)] false false) (N:=N) .nil Tryz.func151 (by kernel_rfl) fun x=>by kernel_rfl
def M.dH(N:Nat)(a0:List aa.den)(a1:List Bool):Option (List aa.den):=
(mI (ajj.wrap ((a0.length:Int)+1)) 0).bind fun l1=>
(Loop (S:=Int×(List Int)×List aa.den) (X:=(List Int)×List aa.den) (fun s3=>
(if(decide (s3.1<(a0.length:Int)))then
((idx a0 s3.1).bind fun x5=>
(idx s3.2.1 s3.1).bind fun x6=>
(idx a1 s3.1).bind fun x7=>
(if x7 then
(bZ s3.2.2 ([x5]:List aa.den)).bind fun l8=>
some (aQ s3.2.1 s3.1 (s3.2.2.length:Int),l8)
else
some (aQ s3.2.1 s3.1 (s3.2.2.length:Int),s3.2.2)):Option ((List Int)×List aa.den)).bind fun j4=>
some (.inl (ajj.wrap (s3.1+1),j4.1,j4.2))
else
some (.inr (s3.2.1,s3.2.2)))) N (0,l1,([]:List aa.den)):Option ((List Int)×List aa.den)).bind fun j2=>
(idx j2.1 (a0.length:Int)).bind fun x9=>
Loop (S:=Int×List aa.den) (X:=List aa.den) (fun Mk=>
(if(decide (Mk.1<(j2.2.length:Int)))then
((idx Mk.2 Mk.1).bind fun rH=>
(M.dc N rH.1).bind fun BP=>
(if BP then
(idx (aQ j2.1 (a0.length:Int) (j2.2.length:Int)) rH.2).bind fun sa=>
(idx Mk.2 Mk.1).bind fun Ea=>
some (aQ Mk.2 Mk.1 (Ea.1,sa))
else
some Mk.2):Option (List aa.den)).bind fun CY=>
some (.inl (ajj.wrap (Mk.1+1),CY))
else
some (.inr Mk.2))) N (0,j2.2)
def Zl(N:Nat):br:=⟨⟨[(0, .l (.slice aa)),(1, .l (.slice .bool))],[],[],0⟩,⟨[(0, .val false (.own 0))],[(0, .own 73 aa)],[],1⟩,fun(x:(List aa.den)×List Bool)=>M.dH N x.1 x.2⟩
theorem Zm(N:Nat):av Tryz.prog 152 (Zl N):=fw (en [ck (KQ N)] false false) (N:=N) (.o (.o (.o (.meet ⟨[(6, .val false (.own 112))],[(64, .own 3 ae),(112, .own 73 aa)],[],114⟩ (.o (.two (.loop ⟨[(6, .val false (.own 160)),(17, .l ae)],[(64, .own 3 ae),(160, .own 73 aa)],[],162⟩ (.o (.o (.two (.meet ⟨[(6, .val false (.own 178))],[(64, .own 3 ae),(178, .own 73 aa)],[160],180⟩ .nil .nil) .nil)))) .nil)) (.o (.two (.o (.two (.loop ⟨[(44, .l ae)],[(112, .own 73 aa)],[],275⟩ (.o (.o (.two (.meet ⟨[],[(112, .own 73 aa)],[],292⟩ .nil .nil) .nil)))) .nil)) .nil)))))) Tryz.func152 (by kernel_rfl) fun x=>by kernel_rfl
def M.cJ(N:Nat)(a0:List aa.den):Option (List aa.den):=
bM (J:=List aa.den) (R:=List aa.den) ((M.ak N a0).bind fun y1=>
(M.ed N a0).bind fun y2=>
(if(!y2)then
some (.inr y1)
else
some (.inl y1)):Option ((List aa.den)⊕(List aa.den))) fun s3=>
Loop (S:=List aa.den) (X:=List aa.den) (fun s4=>
(M.eU N s4).bind fun y5=>
(Loop (S:=Int×List Bool) (X:=List Bool) (fun s7=>
(if(decide (s7.1<(s4.length:Int)))then
((idx s4 s7.1).bind fun x9=>
((if(decide (x9.1=51))then
some (decide (x9.2=(ajj.wrap (s7.1+1))))
else
some false):Option Bool).bind fun qh=>
(if qh then
(idx s7.2 s7.1).bind fun oE=>
some (aQ s7.2 s7.1 false)
else
some s7.2):Option (List Bool)).bind fun j8=>
some (.inl (ajj.wrap (s7.1+1),j8))
else
some (.inr s7.2))) N (0,y5):Option (List Bool)).bind fun j6=>
(M.cS N j6 false).bind fun qj=>
(if qj then
(M.dH N s4 j6).bind fun BP=>
some (.inl BP)
else
some (.inr s4))) N s3
def Uo(N:Nat):br:=⟨⟨[(0, .l (.slice aa))],[],[],0⟩,⟨[(0, .val false (.own 0))],[(0, .own 73 aa)],[],1⟩,fun(x:List aa.den)=>M.cJ N x⟩
theorem Zn(N:Nat):av Tryz.prog 104 (Uo N):=KK (E:=(en [ck (Nx N),ck (QE N),ck (Zg N),ck (Zk N),ck (Zm N)] false false)) (N:=N) (l:=0) (L:=⟨[(3, .val false (.own 16))],[(16, .own 73 aa)],[],17⟩) (a0:= .nil) (a1:=(.o (.o (.two .nil .nil)))) (a2:=(.o (.meet ⟨[],[(33, .own 4 .bool)],[],66⟩ (.o (.two (.loop ⟨[(17, .l ae)],[(33, .own 4 .bool)],[],114⟩ (.o (.o (.two (.meet ⟨[],[(33, .own 4 .bool)],[],131⟩ (.o (.meet ⟨[(31, .l .bool)],[],[],226⟩ .nil .nil)) .nil) .nil)))) .nil)) .nil))) (sg:=Uo N) (c:=Tryz.f104.body.getD .skip) (rs:=Tryz.f104.results.toList) Tryz.func104 (by kernel_rfl) (by kernel_rfl) rfl rfl rfl rfl (fun x=>by kernel_rfl)
def M.dV(N:Nat)(a0:List aa.den):Option (List aa.den):=
(M.ak N a0).bind fun y1=>
(M.ed N a0).bind fun y2=>
(if(!y2)then
some y1
else
Loop (S:=Int×List aa.den) (X:=List aa.den) (fun s3=>
(if(decide (s3.1<(a0.length:Int)))then
(((idx a0 s3.1).bind fun x6=>
(M.dc N x6.1).bind fun y7=>
(if(!y7)then
some s3.2
else
(Loop (S:=Int) (X:=Int) (fun s9=>
((if(decide (0<=s9))then
(if(decide (s9<(a0.length:Int)))then
(idx a0 s9).bind fun oE=>
(if(decide (oE.1=51))then
(idx a0 s9).bind fun rH=>
some (decide (s9<rH.2))
else
some false)
else
some false)
else
some false):Option Bool).bind fun qh=>
(if qh then
(idx a0 s9).bind fun oX=>
some (.inl oX.2)
else
some (.inr s9))) N x6.2:Option Int).bind fun j8=>
(idx s3.2 s3.1).bind fun sa=>
some (aQ s3.2 s3.1 (sa.1,j8))):Option (List aa.den)).bind fun j5=>
some j5:Option (List aa.den)).bind fun j4=>
some (.inl (ajj.wrap (s3.1+1),j4))
else
some (.inr s3.2))) N (0,y1))
def Zo(N:Nat):br:=⟨⟨[(0, .l (.slice aa))],[],[],0⟩,⟨[(0, .val false (.own 0))],[(0, .own 73 aa)],[],1⟩,fun(x:List aa.den)=>M.dV N x⟩
theorem Zp(N:Nat):av Tryz.prog 105 (Zo N):=fw (en [ck (Nx N),ck (QE N),ck (KQ N)] false false) (N:=N) (.o (.o (.o (.two (.o (.two (.loop ⟨[(15, .l ae)],[(32, .own 73 aa)],[],161⟩ (.o (.o (.meet ⟨[],[(32, .own 73 aa)],[],178⟩ (.meet ⟨[],[(32, .own 73 aa)],[],178⟩ (.o (.o (.o (.meet ⟨[(6, .l ae)],[],[],385⟩ (.two (.loop ⟨[(6, .l ae)],[],[],385⟩ (.two (.meet ⟨[(50, .l .bool)],[],[],385⟩ .nil .nil) .nil)) .nil) .nil)))) .nil) .nil)))) .nil)) .nil)))) Tryz.func105 (by kernel_rfl) fun x=>by kernel_rfl
def M.cM(N:Nat)(a0:aa.den):Option Bool:=
((M.dh N a0.1).bind fun y2=>
(if(decide (y2<0))then
some true
else
(if(!decide (a0.2=0))then
(M.fD N a0.1).bind fun y3=>
some (!y3)
else
some false)):Option Bool).bind fun j1=>
(if j1 then
some false
else
((if(decide (a0.1=14))then
some (decide (a0.1=14))
else
(if(decide (a0.1=15))then
some (decide (a0.1=15))
else
some (decide (a0.1=16)))):Option Bool).bind fun j4=>
(if j4 then
((if(decide (0<=a0.2))then
some (decide (a0.2<=5))
else
some false):Option Bool).bind fun j5=>
some j5
else
(if(decide (a0.1=34))then
((if(decide (0<=a0.2))then
some (decide ((ajY a0.2 8)<=5))
else
some false):Option Bool).bind fun j6=>
some j6
else
(if(decide (a0.1=6))then
some (decide (0<=a0.2))
else
some true))))
def Zq(N:Nat):br:=⟨⟨[(0, .g aa)],[],[],0⟩,⟨[(0, .l .bool)],[],[],0⟩,fun(x:aa.den)=>M.cM N x⟩
theorem Zr(N:Nat):av Tryz.prog 123 (Zq N):=fw (en [ck (Nw N),ck (TM N)] false false) (N:=N) (.o (.two (.meet ⟨[(17, .l .bool)],[],[],32⟩ .nil .nil) (.two (.o (.two (.meet ⟨[(20, .l .bool)],[],[],64⟩ .nil (.two (.meet ⟨[(2, .l .bool)],[],[],64⟩ .nil .nil) (.o (.two (.meet ⟨[(2, .l .bool)],[],[],96⟩ .nil .nil) .nil)))) .nil)) .nil))) Tryz.func123 (by kernel_rfl) fun x=>by kernel_rfl
def M.dD(N:Nat)(a0:aa.den)(a1:cE.den):Option Bool:=
(if(decide (a0.1=7))then
((if(decide (0<=a0.2))then
some (decide (a0.2<(a1.2.1.length:Int)))
else
some false):Option Bool).bind fun j1=>
some j1
else
(if(decide (a0.1=8))then
((if(decide (0<=a0.2))then
(if(decide (a0.2<(a1.2.2.1.length:Int)))then
(idx a1.2.2.1 a0.2).bind fun x3=>
some (!decide (x3.1=0))
else
some false)
else
some false):Option Bool).bind fun j2=>
some j2
else
(if(decide (a0.1=33))then
((if(decide (0<=a0.2))then
some (decide (a0.2<(a1.2.2.2.2.2.length:Int)))
else
some false):Option Bool).bind fun j4=>
some j4
else
(if(decide (a0.1=34))then
some (decide ((ajj.wrap (ajE a0.2 8))<(a1.2.2.2.2.2.length:Int)))
else
((if(decide (a0.1=36))then
some (decide (a0.1=36))
else
(if(decide (a0.1=37))then
some (decide (a0.1=37))
else
(if(decide (a0.1=38))then
some (decide (a0.1=38))
else
some (decide (a0.1=39))))):Option Bool).bind fun j5=>
(if j5 then
((if(decide (0<=a0.2))then
some (decide (a0.2<(a1.2.2.2.2.1.length:Int)))
else
some false):Option Bool).bind fun j6=>
some j6
else
some true)))))
def Zs(N:Nat):br:=⟨⟨[(0, .g aa),(1, .g cE)],[],[],0⟩,⟨[(0, .l .bool)],[],[],0⟩,fun(x:aa.den×cE.den)=>M.dD N x.1 x.2⟩
theorem Zt(N:Nat):av Tryz.prog 124 (Zs N):=fw (en [] false false) (N:=N) (.o (.two (.o (.two (.o (.two (.meet ⟨[(4, .l .bool)],[],[],112⟩ .nil .nil) (.o (.two (.meet ⟨[(4, .l .bool)],[],[],144⟩ .nil .nil) (.o (.two (.meet ⟨[(4, .l .bool)],[],[],176⟩ .nil .nil) (.o (.o (.meet ⟨[(65, .l .bool)],[],[],208⟩ .nil (.two (.meet ⟨[(4, .l .bool)],[],[],208⟩ .nil .nil) .nil)))))))))) .nil)) .nil)) Tryz.func124 (by kernel_rfl) fun x=>by kernel_rfl
def M.cv(N:Nat)(a0:af.den):Option Bool:=
((if(!decide (a0.1=6))then
some (!decide (a0.2.1=0))
else
some false):Option Bool).bind fun j1=>
(if j1 then
some false
else
(if(decide (a0.1=1))then
((if(decide (a0.2.2=0))then
some true
else
some (decide (a0.2.2=1))):Option Bool).bind fun j2=>
some j2
else
(if(decide (a0.1=2))then
((if(decide ((-1000000000000)<=a0.2.2))then
some (decide (a0.2.2<=1000000000000))
else
some false):Option Bool).bind fun j3=>
some j3
else
(if(decide (a0.1=3))then
((if(decide ((-1000000000000000)<=a0.2.2))then
some (decide (a0.2.2<=1000000000000000))
else
some false):Option Bool).bind fun j4=>
some j4
else
(if(decide (a0.1=4))then
((if(decide ((-1000000000)<=a0.2.2))then
some (decide (a0.2.2<=1000000000))
else
some false):Option Bool).bind fun j5=>
some j5
else
(if(decide (a0.1=5))then
((if(decide (0<=a0.2.2))then
some (decide (a0.2.2<=109572))
else
some false):Option Bool).bind fun j6=>
some j6
else
(if(decide (a0.1=6))then
((if(decide (0<=a0.2.1))then
(if(decide (a0.2.1<8))then
(if(decide (0<=a0.2.2))then
some (decide (a0.2.2<16))
else
some false)
else
some false)
else
some false):Option Bool).bind fun j7=>
some j7
else
some false)))))))
def Zu(N:Nat):br:=⟨⟨[(0, .g af)],[],[],0⟩,⟨[(0, .l .bool)],[],[],0⟩,fun(x:af.den)=>M.cv N x⟩
theorem KR(N:Nat):av Tryz.prog 128 (Zu N):=fw (en [] false false) (N:=N) (.o (.two (.meet ⟨[(10, .l .bool)],[],[],32⟩ .nil .nil) (.two (.o (.two (.o (.two (.meet ⟨[(2, .l .bool)],[],[],96⟩ .nil .nil) (.o (.two (.meet ⟨[(2, .l .bool)],[],[],128⟩ .nil .nil) (.o (.two (.meet ⟨[(2, .l .bool)],[],[],160⟩ .nil .nil) (.o (.two (.meet ⟨[(2, .l .bool)],[],[],192⟩ .nil .nil) (.o (.two (.meet ⟨[(2, .l .bool)],[],[],224⟩ .nil .nil) (.o (.two (.meet ⟨[(2, .l .bool)],[],[],256⟩ .nil .nil) .nil)))))))))))) .nil)) .nil))) Tryz.func128 (by kernel_rfl) fun x=>by kernel_rfl
def M.cZ(N:Nat)(a0:List af.den):Option Bool:=
Loop (S:=Int) (X:=Bool) (fun s1=>
(if(decide (s1<(a0.length:Int)))then
(idx a0 s1).bind fun x2=>
(M.cv N x2).bind fun y3=>
(if(!y3)then
some (.inr false)
else
some (.inl (ajj.wrap (s1+1))))
else
some (.inr true))) N 0
def Zv(N:Nat):br:=⟨⟨[(0, .l (.slice af))],[],[],0⟩,⟨[(0, .l .bool)],[],[],0⟩,fun(x:List af.den)=>M.cZ N x⟩
theorem Zw(N:Nat):av Tryz.prog 125 (Zv N):=fw (en [ck (KR N)] false false) (N:=N) (.o (.two (.o (.two (.loop ⟨[(7, .l ae)],[],[],64⟩ .nil) .nil)) .nil)) Tryz.func125 (by kernel_rfl) fun x=>by kernel_rfl
def M.kl(N:Nat)(a0:af.den)(a1:aa.den):Option Bool:=
((M.cv N a0).bind fun y2=>
(if y2 then
(if(decide (a0.1=a1.1))then
some (decide (a0.2.1=a1.2))
else
some false)
else
some false):Option Bool).bind fun j1=>
some j1
def Zx(N:Nat):br:=⟨⟨[(0, .g af),(1, .g aa)],[],[],0⟩,⟨[(0, .l .bool)],[],[],0⟩,fun(x:af.den×aa.den)=>M.kl N x.1 x.2⟩
theorem Uq(N:Nat):av Tryz.prog 165 (Zx N):=fw (en [ck (KR N)] false false) (N:=N) (.o (.meet ⟨[(4, .l .bool)],[],[],48⟩ .nil .nil)) Tryz.func165 (by kernel_rfl) fun x=>by kernel_rfl
def M.fF(N:Nat)(a0:Int):Option Bool:=
((if(decide (a0=2))then
some true
else
(if(decide (a0=3))then
some true
else
some (decide (a0=4)))):Option Bool).bind fun j1=>
some j1
def Zy(N:Nat):br:=⟨⟨[(0, .l ae)],[],[],0⟩,⟨[(0, .l .bool)],[],[],0⟩,fun(x:Int)=>M.fF N x⟩
theorem QF(N:Nat):av Tryz.prog 188 (Zy N):=fw (en [] false false) (N:=N) (.o (.meet ⟨[(2, .l .bool)],[],[],16⟩ .nil .nil)) Tryz.func188 (by kernel_rfl) fun x=>by kernel_rfl
def M.gq(N:Nat)(a0:Int)(a1:aa.den):Option Bool:=
(if(!decide (a1.2=0))then
some false
else
(if(decide (a0=36))then
((if(decide (a1.1=2))then
some true
else
some (decide (a1.1=3))):Option Bool).bind fun j1=>
some j1
else
(if(decide (a0=39))then
((M.fF N a1.1).bind fun y3=>
(if y3 then
some true
else
some (decide (a1.1=5))):Option Bool).bind fun j2=>
some j2
else
some (decide (a1.1=1)))))
def Zz(N:Nat):br:=⟨⟨[(0, .l ae),(1, .g aa)],[],[],0⟩,⟨[(0, .l .bool)],[],[],0⟩,fun(x:Int×aa.den)=>M.gq N x.1 x.2⟩
theorem ZA(N:Nat):av Tryz.prog 166 (Zz N):=fw (en [ck (QF N)] false false) (N:=N) (.o (.o (.two (.o (.two (.o (.two (.meet ⟨[(4, .l .bool)],[],[],128⟩ .nil .nil) (.o (.two (.meet ⟨[(4, .l .bool)],[],[],160⟩ .nil .nil) .nil)))) .nil)) .nil))) Tryz.func166 (by kernel_rfl) fun x=>by kernel_rfl
def M.cC(N:Nat)(a0:Int)(a1:Int):Option Bool:=
(if(decide (a0=10))then
(M.fF N a1).bind fun y1=>
some y1
else
(if(decide (a0=25))then
some (decide (a1=1))
else
some (decide (a1=5))))
def ZB(N:Nat):br:=⟨⟨[(0, .l ae),(1, .l ae)],[],[],0⟩,⟨[(0, .l .bool)],[],[],0⟩,fun(x:Int×Int)=>M.cC N x.1 x.2⟩
theorem ZC(N:Nat):av Tryz.prog 167 (ZB N):=fw (en [ck (QF N)] false false) (N:=N) .nil Tryz.func167 (by kernel_rfl) fun x=>by kernel_rfl
def M.c9(N:Nat)(a0:af.den)(a1:af.den):Option Bool:=
((if(decide (a0.1=a1.1))then
some (decide (a0.2.1=a1.2.1))
else
some false):Option Bool).bind fun j1=>
some j1
def ZD(N:Nat):br:=⟨⟨[(0, .g af),(1, .g af)],[],[],0⟩,⟨[(0, .l .bool)],[],[],0⟩,fun(x:af.den×af.den)=>M.c9 N x.1 x.2⟩
theorem Ur(N:Nat):av Tryz.prog 169 (ZD N):=fw (en [] false false) (N:=N) (.o (.meet ⟨[(4, .l .bool)],[],[],48⟩ .nil .nil)) Tryz.func169 (by kernel_rfl) fun x=>by kernel_rfl
def M.cK(N:Nat)(a0:Int)(a1:af.den)(a2:af.den):Option Bool:=
((if(decide (a0=11))then
some (decide (a0=11))
else
some (decide (a0=12))):Option Bool).bind fun j1=>
(if j1 then
((M.c9 N a1 a2).bind fun y3=>
(if y3 then
(M.fF N a1.1).bind fun y4=>
some y4
else
some false):Option Bool).bind fun j2=>
some j2
else
(if(decide (a0=13))then
((if(decide (a2.1=2))then
(if(decide (a1.1=2))then
some true
else
some (decide (a1.1=3)))
else
some false):Option Bool).bind fun j5=>
some j5
else
(if(decide (a0=14))then
((if(decide (a2.1=4))then
(if(decide (a1.1=3))then
some true
else
some (decide (a1.1=4)))
else
some false):Option Bool).bind fun j6=>
some j6
else
(if(decide (a0=15))then
(if(decide (a2.1=2))then
((if(decide (a1.1=2))then
some true
else
some (decide (a1.1=3))):Option Bool).bind fun j7=>
some j7
else
((if(decide (a1.1=3))then
some (decide (a2.1=3))
else
some false):Option Bool).bind fun j8=>
some j8)
else
(if(decide (a0=16))then
((if(decide (a1.1=3))then
some (decide (a2.1=3))
else
some false):Option Bool).bind fun j9=>
some j9
else
((if(decide (a0=17))then
some (decide (a0=17))
else
(if(decide (a0=18))then
some (decide (a0=18))
else
(if(decide (a0=21))then
some (decide (a0=21))
else
some (decide (a0=22))))):Option Bool).bind fun qh=>
(if qh then
((M.c9 N a1 a2).bind fun qj=>
(if qj then
(M.fF N a1.1).bind fun BP=>
(if BP then
some true
else
some (decide (a1.1=5)))
else
some false):Option Bool).bind fun CY=>
some CY
else
((if(decide (a0=19))then
some (decide (a0=19))
else
some (decide (a0=20))):Option Bool).bind fun FE=>
(if FE then
(M.c9 N a1 a2).bind fun D9=>
some D9
else
((if(decide (a0=23))then
some (decide (a0=23))
else
some (decide (a0=24))):Option Bool).bind fun Qm=>
(if Qm then
((if(decide (a1.1=1))then
some (decide (a2.1=1))
else
some false):Option Bool).bind fun RS=>
some RS
else
((if(decide (a0=27))then
some (decide (a0=27))
else
some (decide (a0=28))):Option Bool).bind fun ZE=>
(if ZE then
((if(decide (a1.1=5))then
some (decide (a2.1=2))
else
some false):Option Bool).bind fun OY=>
some OY
else
((if(decide (a1.1=5))then
some (decide (a2.1=5))
else
some false):Option Bool).bind fun OZ=>
some OZ)))))))))
def ZF(N:Nat):br:=⟨⟨[(0, .l ae),(1, .g af),(2, .g af)],[],[],0⟩,⟨[(0, .l .bool)],[],[],0⟩,fun(x:Int×af.den×af.den)=>M.cK N x.1 x.2.1 x.2.2⟩
theorem ZG(N:Nat):av Tryz.prog 168 (ZF N):=fw (en [ck (Ur N),ck (QF N)] false false) (N:=N) (.o (.two (.o (.two (.meet ⟨[(8, .l .bool)],[],[],64⟩ .nil (.two (.meet ⟨[(6, .l .bool)],[],[],64⟩ .nil .nil) (.o (.two (.meet ⟨[(6, .l .bool)],[],[],96⟩ .nil .nil) (.o (.two (.meet ⟨[(6, .l .bool)],[],[],128⟩ .nil .nil) (.o (.two (.two (.o (.two (.meet ⟨[(6, .l .bool)],[],[],208⟩ .nil .nil) .nil)) (.meet ⟨[(6, .l .bool)],[],[],208⟩ .nil .nil)) (.o (.two (.meet ⟨[(6, .l .bool)],[],[],192⟩ .nil .nil) (.meet ⟨[(80, .l .bool)],[],[],192⟩ .nil (.two (.meet ⟨[(6, .l .bool)],[],[],192⟩ .nil .nil) (.meet ⟨[(98, .l .bool)],[],[],192⟩ .nil (.o (.meet ⟨[(104, .l .bool)],[],[],192⟩ .nil (.two (.meet ⟨[(6, .l .bool)],[],[],192⟩ .nil .nil) (.meet ⟨[(115, .l .bool)],[],[],192⟩ .nil (.two (.meet ⟨[(6, .l .bool)],[],[],192⟩ .nil .nil) .nil)))))))))))))))))) .nil)) (.meet ⟨[(6, .l .bool)],[],[],192⟩ .nil .nil))) Tryz.func168 (by kernel_rfl) fun x=>by kernel_rfl
def M.bt(N:Nat)(a0:aa.den)(a1:List af.den)(a2:cE.den):Option Bool:=
(if(decide (a0.1=7))then
(idx a2.2.1 a0.2).bind fun x1=>
(M.cv N x1).bind fun y2=>
some y2
else
(if(decide (a0.1=8))then
(idx a2.2.2.1 a0.2).bind fun x3=>
(M.cv N x3).bind fun y4=>
some y4
else
(if(decide (a0.1=33))then
(idx a2.2.2.2.2.2 a0.2).bind fun x5=>
((idx a1 0).bind fun x7=>
(M.kl N x7 x5.2.1).bind fun y8=>
(if y8 then
(if(decide (1<=x5.2.2.1.1))then
some (decide (x5.2.2.1.1<=6))
else
some false)
else
some false):Option Bool).bind fun j6=>
some j6
else
(if(decide (a0.1=34))then
(idx a2.2.2.2.2.2 (ajj.wrap (ajE a0.2 8))).bind fun x9=>
((idx a1 0).bind fun oE=>
(if(decide (oE.1=3))then
(if(oD aa x9.2.1 (3,0))then
some (oD aa x9.2.2.1 (4,0))
else
some false)
else
some false):Option Bool).bind fun qh=>
some qh
else
((if(decide (a0.1=36))then
some (decide (a0.1=36))
else
(if(decide (a0.1=37))then
some (decide (a0.1=37))
else
(if(decide (a0.1=38))then
some (decide (a0.1=38))
else
some (decide (a0.1=39))))):Option Bool).bind fun Al=>
(if Al then
(idx a2.2.2.2.2.1 a0.2).bind fun oX=>
(M.gq N a0.1 oX).bind fun qk=>
some qk
else
(if(decide ((a1.length:Int)=1))then
(idx a1 0).bind fun Ea=>
(M.cC N a0.1 Ea.1).bind fun IT=>
some IT
else
(if(decide ((a1.length:Int)=2))then
(idx a1 0).bind fun IS=>
(idx a1 1).bind fun CX=>
(M.cK N a0.1 IS CX).bind fun RO=>
some RO
else
(if(decide ((a1.length:Int)=3))then
((idx a1 0).bind fun x21=>
(if(decide (x21.1=1))then
(idx a1 1).bind fun Qn=>
(idx a1 2).bind fun Yt=>
(M.c9 N Qn Yt).bind fun YT=>
some YT
else
some false):Option Bool).bind fun OZ=>
some OZ
else
some true))))))))
def ZH(N:Nat):br:=⟨⟨[(0, .g aa),(1, .l (.slice af)),(2, .g cE)],[],[],0⟩,⟨[(0, .l .bool)],[],[],0⟩,fun(x:aa.den×(List af.den)×cE.den)=>M.bt N x.1 x.2.1 x.2.2⟩
theorem ZI(N:Nat):av Tryz.prog 126 (ZH N):=fw (en [ck (KR N),ck (Uq N),ck (ZA N),ck (ZC N),ck (ZG N),ck (Ur N)] false false) (N:=N) (.o (.two (.o (.two (.o (.o (.o (.o (.o (.two (.o (.meet ⟨[(6, .l .bool)],[],[],304⟩ .nil .nil)) (.o (.two (.o (.meet ⟨[(6, .l .bool)],[],[],352⟩ .nil .nil)) (.meet ⟨[(81, .l .bool)],[],[],208⟩ .nil .nil))))))))) .nil)) (.two (.o (.two (.o (.o (.o (.o (.o (.two (.meet ⟨[(6, .l .bool)],[],[],336⟩ .nil .nil) .nil)))))) .nil)) .nil))) Tryz.func126 (by kernel_rfl) fun x=>by kernel_rfl
def M.iM(N:Nat)(a0:aa.den)(a1:cE.den):Option (af.den×Int):=
(idx a1.2.2.2.2.1 a0.2).bind fun x1=>
((if(decide (a0.1=37))then
some (x1.1,(x1.2,1))
else
some (x1.1,(x1.2,0))):Option (af.den)).bind fun j2=>
((if(decide (a0.1=39))then
some (decide ((a1.2.2.2.1.length:Int)=0))
else
some false):Option Bool).bind fun j3=>
(if j3 then
some ((0,(0,0)),6)
else
bM (J:=af.den) (R:=af.den×Int) (Loop (S:=Int×af.den) (X:=(af.den)⊕(af.den×Int)) (fun s5=>
(if(decide (s5.1<(a1.2.2.2.1.length:Int)))then
(idx a1.2.2.2.1 s5.1).bind fun x6=>
((if(decide ((x6.length:Int)<=a0.2))then
some true
else
(idx x6 a0.2).bind fun x8=>
some (decide (x8.1=0))):Option Bool).bind fun j7=>
(if j7 then
some (.inr (.inr ((0,(0,0)),6)))
else
(idx x6 a0.2).bind fun x9=>
(M.kl N x9 x1).bind fun oW=>
(if(!oW)then
some (.inr (.inr ((0,(0,0)),8)))
else
bM (J:=af.den) (R:=(Int×af.den)⊕((af.den)⊕(af.den×Int))) ((if(decide (a0.1=36))then
(M.cv N (s5.2.1,(s5.2.2.1,ajj.wrap (s5.2.2.2+x9.2.2)))).bind fun qj=>
(if(!qj)then
some (.inr (.inr (.inr ((0,(0,0)),3))))
else
some (.inl (s5.2.1,(s5.2.2.1,ajj.wrap (s5.2.2.2+x9.2.2)))))
else
(if(decide (a0.1=37))then
some (.inl (s5.2.1,(s5.2.2.1,if x9.2.2<s5.2.2.2 then x9.2.2 else s5.2.2.2)))
else
(if(decide (a0.1=38))then
some (.inl (s5.2.1,(s5.2.2.1,if s5.2.2.2<x9.2.2 then x9.2.2 else s5.2.2.2)))
else
(if(decide (a0.1=39))then
((if(decide (s5.1=0))then
some true
else
some (decide (s5.2.2.2<x9.2.2))):Option Bool).bind fun Mj=>
(if Mj then
some (.inl x9)
else
some (.inl s5.2))
else
some (.inl s5.2)))))) fun CY=>
some (.inl (ajj.wrap (s5.1+1),CY))))
else
some (.inr (.inl s5.2)))) N (0,j2)) fun j4=>
some (j4,0))
def ZJ(N:Nat):br:=⟨⟨[(0, .g aa),(1, .g cE)],[],[],0⟩,⟨[(0, .g af),(1, .l ae)],[],[],0⟩,fun(x:aa.den×cE.den)=>M.iM N x.1 x.2⟩
theorem ZK(N:Nat):av Tryz.prog 170 (ZJ N):=fw (en [ck (KR N),ck (Uq N)] false false) (N:=N) (.o (.o (.o (.meet ⟨[],[(272, .box 76 (.leaf af))],[],305⟩ .nil (.two (.meet ⟨[(34, .l .bool)],[],[],305⟩ .nil .nil) (.join ⟨[],[(272, .box 76 (.leaf af))],[],306⟩ (.o (.two (.loop ⟨[(39, .l ae)],[(272, .box 76 (.leaf af))],[],370⟩ (.o (.o (.two (.two (.o (.two (.meet ⟨[(57, .l .bool)],[],[],466⟩ .nil .nil) (.o (.o (.o (.join ⟨[],[(272, .box 76 (.leaf af))],[],675⟩ (.o (.o (.o (.o (.o (.o (.o (.two (.meet ⟨[(109, .l .bool)],[],[],802⟩ .nil .nil) .nil)))))))) .nil)))))) .nil) .nil)))) .nil)) .nil)))))) Tryz.func170 (by kernel_rfl) fun x=>by kernel_rfl
def M.jx(N:Nat)(a0:dJ.den)(a1:Int)(a2:Int):Option (Bool×Int×Int):=
((M.bG N a0.1 a1).bind fun y2=>
(if y2 then
(if(decide (a0.2.1<=a2))then
some (decide (a2<a0.2.2.1))
else
some false)
else
some false):Option Bool).bind fun j1=>
some (j1,a1,a2)
def QG(N:Nat):br:=⟨⟨[(0, .g dJ),(1, .ptr 0 [] 0),(2, .ptr 1 [] 0)],[(0, .box 3 (.leaf ae)),(1, .box 3 (.leaf ae))],[],2⟩,⟨[(0, .l .bool)],[(0, .box 3 (.leaf ae)),(1, .box 3 (.leaf ae))],[],4⟩,fun(x:dJ.den×Int×Int)=>M.jx N x.1 x.2.1 x.2.2⟩
theorem QH(N:Nat):av Tryz.prog 189 (QG N):=fw (en [ck (RR N)] false false) (N:=N) (.o (.meet ⟨[(4, .l .bool)],[],[],34⟩ .nil .nil)) Tryz.func189 (by kernel_rfl) fun x=>by kernel_rfl
def M.cQ(N:Nat)(a0:List dJ.den)(a1:Int)(a2:Int):Option (Int×Bool×Int×Int):=
Loop (S:=Int×Int×Int) (X:=Int×Bool×Int×Int) (fun s1=>
(if(decide (s1.1<(a0.length:Int)))then
(idx a0 s1.1).bind fun x2=>
(M.jx N x2 s1.2.1 s1.2.2).bind fun y3=>
(if y3.1 then
some (.inr (s1.1,true,y3.2.1,y3.2.2))
else
some (.inl (ajj.wrap (s1.1+1),y3.2.1,y3.2.2)))
else
some (.inr (0,false,s1.2.1,s1.2.2)))) N (0,a1,a2)
def Us(N:Nat):br:=⟨⟨[(0, .l (.slice dJ)),(1, .fn 189 [(0,[],0),(1,[],0)])],[(0, .box 3 (.leaf ae)),(1, .box 3 (.leaf ae))],[],2⟩,⟨[(0, .l ae),(1, .l .bool)],[(0, .box 3 (.leaf ae)),(1, .box 3 (.leaf ae))],[],4⟩,fun(x:(List dJ.den)×Int×Int)=>M.cQ N x.1 x.2.1 x.2.2⟩
theorem Ut(N:Nat):av Tryz.prog 77 (Us N):=fw (en [ck (QH N)] false false) (N:=N) (.o (.two (.o (.two (.loop ⟨[(10, .l ae)],[(0, .box 3 (.leaf ae)),(1, .box 3 (.leaf ae))],[],84⟩ .nil) .nil)) .nil)) Tryz.func77 (by kernel_rfl) fun x=>by kernel_rfl
def M.km(N:Nat)(a0:ay.den)(a1:Int)(a2:Int):Option (Int×Bool):=
(M.cQ N a0.2.2.2 a1 a2).bind fun y1=>
some (y1.1,y1.2.1)
def ZL(N:Nat):br:=⟨⟨[(0, .g ay),(1, .l ae),(2, .l ae)],[],[],0⟩,⟨[(0, .l ae),(1, .l .bool)],[],[],0⟩,fun(x:ay.den×Int×Int)=>M.km N x.1 x.2.1 x.2.2⟩
theorem ZM(N:Nat):av Tryz.prog 171 (ZL N):=fw (en [ck (Ut N)] false false) (N:=N) .nil Tryz.func171 (by kernel_rfl) fun x=>by kernel_rfl
def M.ei(N:Nat)(a0:Int)(a1:Int):Option (Int×Int):=
some (ajt.wrap ((ajt.wrap ((ajt.wrap ((gm .u64 a0 32)*(gm .u64 a1 32)))+(gm .u64 (ajt.wrap ((ajt.wrap ((gm .u64 a0 32)*(fk .and .u64 a1 4294967295)))+(gm .u64 (ajt.wrap ((fk .and .u64 a0 4294967295)*(fk .and .u64 a1 4294967295))) 32))) 32)))+(gm .u64 (ajt.wrap ((fk .and .u64 (ajt.wrap ((ajt.wrap ((gm .u64 a0 32)*(fk .and .u64 a1 4294967295)))+(gm .u64 (ajt.wrap ((fk .and .u64 a0 4294967295)*(fk .and .u64 a1 4294967295))) 32))) 4294967295)+(ajt.wrap ((fk .and .u64 a0 4294967295)*(gm .u64 a1 32))))) 32)),ajt.wrap (a0*a1))
def ZN(N:Nat):br:=⟨⟨[(0, .l (.int .u64)),(1, .l (.int .u64))],[],[],0⟩,⟨[(0, .l (.int .u64)),(1, .l (.int .u64))],[],[],0⟩,fun(x:Int×Int)=>M.ei N x.1 x.2⟩
theorem Ny(N:Nat):av Tryz.prog 200 (ZN N):=fw (en [] false false) (N:=N) .nil Tryz.func200 (by kernel_rfl) fun x=>by kernel_rfl
def M.jl(N:Nat)(a0:Int):Option Int:=
((if(decide (4294967296<=a0))then
some (gm .u64 a0 32,32)
else
some (a0,0)):Option (Int×Int)).bind fun j1=>
((if(decide (65536<=j1.1))then
some (gm .u64 j1.1 16,ajj.wrap (j1.2+16))
else
some (j1.1,j1.2)):Option (Int×Int)).bind fun j2=>
((if(decide (256<=j2.1))then
some (gm .u64 j2.1 8,ajj.wrap (j2.2+8))
else
some (j2.1,j2.2)):Option (Int×Int)).bind fun j3=>
(kT (⟨#[0,1,2,2,3,3,3,3,4,4,4,4,4,4,4,4,5,5,5,5,5,5,5,5,5,5,5,5,5,5,5,5,6,6,6,6,6,6,6,6,6,6,6,6,6,6,6,6,6,6,6,6,6,6,6,6,6,6,6,6,6,6,6,6,7,7,7,7,7,7,7,7,7,7,7,7,7,7,7,7,7,7,7,7,7,7,7,7,7,7,7,7,7,7,7,7,7,7,7,7,7,7,7,7,7,7,7,7,7,7,7,7,7,7,7,7,7,7,7,7,7,7,7,7,7,7,7,7,8,8,8,8,8,8,8,8,8,8,8,8,8,8,8,8,8,8,8,8,8,8,8,8,8,8,8,8,8,8,8,8,8,8,8,8,8,8,8,8,8,8,8,8,8,8,8,8,8,8,8,8,8,8,8,8,8,8,8,8,8,8,8,8,8,8,8,8,8,8,8,8,8,8,8,8,8,8,8,8,8,8,8,8,8,8,8,8,8,8,8,8,8,8,8,8,8,8,8,8,8,8,8,8,8,8,8,8,8,8,8,8,8,8,8,8,8,8,8,8,8,8,8,8,8,8,8,8]⟩:ByteArray) (IntKind.u8.wrap j3.1)).bind fun x4=>
some (ajj.wrap (j3.2+(ajj.wrap x4)))
def ZO(N:Nat):br:=⟨⟨[(0, .l (.int .u64))],[],[],0⟩,⟨[(0, .l ae)],[],[],0⟩,fun(x:Int)=>M.jl N x⟩
theorem ZP(N:Nat):av Tryz.prog 117 (ZO N):=fw (en [] false false) (N:=N) (.o (.meet ⟨[(0, .l (.int .u64)),(2, .l ae)],[],[],16⟩ .nil (.meet ⟨[(0, .l (.int .u64)),(2, .l ae)],[],[],16⟩ .nil (.meet ⟨[(0, .l (.int .u64)),(2, .l ae)],[],[],16⟩ .nil .nil)))) Tryz.func117 (by kernel_rfl) fun x=>by kernel_rfl
def M.fG(N:Nat)(a0:Int):Option Int:=
(M.jl N a0).bind fun y1=>
some (ajj.wrap (64-y1))
def ZQ(N:Nat):br:=⟨⟨[(0, .l (.int .u64))],[],[],0⟩,⟨[(0, .l ae)],[],[],0⟩,fun(x:Int)=>M.fG N x⟩
theorem ZR(N:Nat):av Tryz.prog 220 (ZQ N):=fw (en [ck (ZP N)] false false) (N:=N) .nil Tryz.func220 (by kernel_rfl) fun x=>by kernel_rfl
def M.dE(N:Nat)(a0:Int)(a1:Int)(a2:Int):Option (Int×Int):=
(if(decide (a2=0))then
none
else
(if(decide (a2<=a0))then
none
else
(if(decide (a0=0))then
(yK a1 a2).bind fun x1=>
(GR a1 a2).bind fun x2=>
some (ajt.wrap x1,x2)
else
(M.fG N a2).bind fun y3=>
(GP .u64 a2 (ajt.wrap y3)).bind fun x4=>
(GP .u64 a0 (ajt.wrap y3)).bind fun x5=>
(GQ .u64 a1 (ajt.wrap (64-(ajt.wrap y3)))).bind fun x6=>
(GP .u64 a1 (ajt.wrap y3)).bind fun x7=>
(yK (fk .or .u64 x5 x6) (gm .u64 x4 32)).bind fun x8=>
((Loop (S:=Int×Int) (X:=Int) (fun qH=>
((if(decide (4294967296<=qH.1))then
some true
else
some (decide ((ajt.wrap ((ajt.wrap (4294967296*qH.2))+(gm .u64 x7 32)))<(ajt.wrap (qH.1*(fk .and .u64 x4 4294967295)))))):Option Bool).bind fun Al=>
(if Al then
(if(decide (4294967296<=(ajt.wrap (qH.2+(gm .u64 x4 32)))))then
some (.inr (ajt.wrap (qH.1-1)))
else
some (.inl (ajt.wrap (qH.1-1),ajt.wrap (qH.2+(gm .u64 x4 32)))))
else
some (.inr qH.1))) N (ajt.wrap x8,ajt.wrap ((fk .or .u64 x5 x6)-(ajt.wrap ((ajt.wrap x8)*(gm .u64 x4 32))))):Option Int).bind fun qh=>
some qh:Option Int).bind fun j9=>
(yK (ajt.wrap ((ajt.wrap ((ajt.wrap ((fk .or .u64 x5 x6)*4294967296))+(gm .u64 x7 32)))-(ajt.wrap (j9*x4)))) (gm .u64 x4 32)).bind fun oX=>
((Loop (S:=Int×Int) (X:=Int) (fun FF=>
((if(decide (4294967296<=FF.2))then
some true
else
some (decide ((ajt.wrap ((ajt.wrap (4294967296*FF.1))+(fk .and .u64 x7 4294967295)))<(ajt.wrap (FF.2*(fk .and .u64 x4 4294967295)))))):Option Bool).bind fun RS=>
(if RS then
(if(decide (4294967296<=(ajt.wrap (FF.1+(gm .u64 x4 32)))))then
some (.inr (ajt.wrap (FF.2-1)))
else
some (.inl (ajt.wrap (FF.1+(gm .u64 x4 32)),ajt.wrap (FF.2-1))))
else
some (.inr FF.2))) N (ajt.wrap ((ajt.wrap ((ajt.wrap ((ajt.wrap ((fk .or .u64 x5 x6)*4294967296))+(gm .u64 x7 32)))-(ajt.wrap (j9*x4))))-(ajt.wrap ((ajt.wrap oX)*(gm .u64 x4 32)))),ajt.wrap oX):Option Int).bind fun OX=>
some OX:Option Int).bind fun FE=>
(GQ .u64 (ajt.wrap ((ajt.wrap ((ajt.wrap ((ajt.wrap ((ajt.wrap ((ajt.wrap ((fk .or .u64 x5 x6)*4294967296))+(gm .u64 x7 32)))-(ajt.wrap (j9*x4))))*4294967296))+(fk .and .u64 x7 4294967295)))-(ajt.wrap (FE*x4)))) (ajt.wrap y3)).bind fun CX=>
some (ajt.wrap ((ajt.wrap (j9*4294967296))+FE),CX))))
def ZS(N:Nat):br:=⟨⟨[(0, .l (.int .u64)),(1, .l (.int .u64)),(2, .l (.int .u64))],[],[],0⟩,⟨[(0, .l (.int .u64)),(1, .l (.int .u64))],[],[],0⟩,fun(x:Int×Int×Int)=>M.dE N x.1 x.2.1 x.2.2⟩
theorem QI(N:Nat):av Tryz.prog 201 (ZS N):=fw (en [ck (ZR N)] false false) (N:=N) (.o (.o (.o (.o (.o (.o (.o (.o (.o (.o (.o (.o (.o (.o (.meet ⟨[(15, .l (.int .u64))],[],[],832⟩ (.meet ⟨[(15, .l (.int .u64))],[],[],832⟩ (.loop ⟨[(15, .l (.int .u64)),(16, .l (.int .u64))],[],[],832⟩ (.two (.meet ⟨[(78, .l .bool)],[],[],832⟩ .nil .nil) .nil)) .nil) (.o (.o (.o (.meet ⟨[(18, .l (.int .u64))],[],[],1136⟩ (.meet ⟨[(18, .l (.int .u64))],[],[],1136⟩ (.loop ⟨[(16, .l (.int .u64)),(18, .l (.int .u64))],[],[],1136⟩ (.two (.meet ⟨[(113, .l .bool)],[],[],1136⟩ .nil .nil) .nil)) .nil) .nil))))))))))))))))))) Tryz.func201 (by kernel_rfl) fun x=>by kernel_rfl
def M.gr(N:Nat)(a0:Int)(a1:Int):Option (Int×Int×Bool):=
((if(decide (a1<0))then
some (ajt.wrap (0-(ajt.wrap a1)))
else
some (ajt.wrap a1)):Option Int).bind fun j1=>
(M.ei N (ajt.wrap a0) j1).bind fun y2=>
(if(decide (1000000<=y2.1))then
some (0,0,false)
else
(M.dE N y2.1 y2.2 1000000).bind fun y3=>
(if(decide (1000000000000000<y3.1))then
some (0,0,false)
else
(if(decide (a1<0))then
some (ajj.wrap (0-(ajj.wrap y3.1)),ajj.wrap (0-(ajj.wrap y3.2)),true)
else
some (ajj.wrap y3.1,ajj.wrap y3.2,true))))
def ZT(N:Nat):br:=⟨⟨[(0, .l ae),(1, .l ae)],[],[],0⟩,⟨[(0, .l ae),(1, .l ae),(2, .l .bool)],[],[],0⟩,fun(x:Int×Int)=>M.gr N x.1 x.2⟩
theorem ZU(N:Nat):av Tryz.prog 190 (ZT N):=fw (en [ck (Ny N),ck (QI N)] false false) (N:=N) (.o (.o (.meet ⟨[(7, .l (.int .u64))],[],[],96⟩ .nil .nil))) Tryz.func190 (by kernel_rfl) fun x=>by kernel_rfl
def M.fi(N:Nat)(a0:Int):Option Bool:=
((if(decide (0<=a0))then
some (decide (a0<=5))
else
some false):Option Bool).bind fun j1=>
some j1
def ZV(N:Nat):br:=⟨⟨[(0, .l ae)],[],[],0⟩,⟨[(0, .l .bool)],[],[],0⟩,fun(x:Int)=>M.fi N x⟩
theorem QJ(N:Nat):av Tryz.prog 221 (ZV N):=fw (en [] false false) (N:=N) (.o (.meet ⟨[(2, .l .bool)],[],[],16⟩ .nil .nil)) Tryz.func221 (by kernel_rfl) fun x=>by kernel_rfl
def M.dP(N:Nat)(a0:Int)(a1:Int):Option Bool:=
((if(decide (a1<a0))then
some true
else
some (decide (a0<(ajj.wrap (0-a1))))):Option Bool).bind fun j1=>
some j1
def ZW(N:Nat):br:=⟨⟨[(0, .l ae),(1, .l ae)],[],[],0⟩,⟨[(0, .l .bool)],[],[],0⟩,fun(x:Int×Int)=>M.dP N x.1 x.2⟩
theorem QK(N:Nat):av Tryz.prog 222 (ZW N):=fw (en [] false false) (N:=N) (.o (.meet ⟨[(4, .l .bool)],[],[],16⟩ .nil .nil)) Tryz.func222 (by kernel_rfl) fun x=>by kernel_rfl
def M.dF(N:Nat)(a0:Int):Option Int:=
(if(decide (a0<0))then
some (ajt.wrap (0-(ajt.wrap a0)))
else
some (ajt.wrap a0))
def ZX(N:Nat):br:=⟨⟨[(0, .l ae)],[],[],0⟩,⟨[(0, .l (.int .u64))],[],[],0⟩,fun(x:Int)=>M.dF N x⟩
theorem Uu(N:Nat):av Tryz.prog 223 (ZX N):=fw (en [] false false) (N:=N) .nil Tryz.func223 (by kernel_rfl) fun x=>by kernel_rfl
def M.dW(N:Nat)(a0:Int)(a1:Int)(a2:Int)(a3:Bool)(a4:Int):Option Int:=
(if(decide (a1=0))then
some a0
else
((if(decide (a4=0))then
some a3
else
(if(decide (a4=1))then
some (!a3)
else
(if(decide (a4=3))then
some true
else
(if(decide (a4=4))then
some (decide ((ajt.wrap (a2-a1))<=a1))
else
(if(decide (a4=5))then
(if(decide ((ajt.wrap (a2-a1))<a1))then
some true
else
(if(decide (a1=(ajt.wrap (a2-a1))))then
some (decide ((ajY a0 2)=1))
else
some false))
else
some false))))):Option Bool).bind fun j1=>
((if j1 then
some (ajt.wrap (a0+1))
else
some a0):Option Int).bind fun j2=>
some j2)
def ZY(N:Nat):br:=⟨⟨[(0, .l (.int .u64)),(1, .l (.int .u64)),(2, .l (.int .u64)),(3, .l .bool),(4, .l ae)],[],[],0⟩,⟨[(0, .l (.int .u64))],[],[],0⟩,fun(x:Int×Int×Int×Bool×Int)=>M.dW N x.1 x.2.1 x.2.2.1 x.2.2.2.1 x.2.2.2.2⟩
theorem Uv(N:Nat):av Tryz.prog 224 (ZY N):=fw (en [] false false) (N:=N) (.o (.o (.o (.two (.o (.meet ⟨[(11, .l .bool)],[],[],80⟩ .nil .nil)) (.meet ⟨[(0, .l (.int .u64))],[],[],80⟩ .nil .nil))))) Tryz.func224 (by kernel_rfl) fun x=>by kernel_rfl
def M.ko(N:Nat)(a0:Int)(a1:Bool):Option Int:=
(if a1 then
some (ajj.wrap (0-(ajj.wrap a0)))
else
some (ajj.wrap a0))
def ZZ(N:Nat):br:=⟨⟨[(0, .l (.int .u64)),(1, .l .bool)],[],[],0⟩,⟨[(0, .l ae)],[],[],0⟩,fun(x:Int×Bool)=>M.ko N x.1 x.2⟩
theorem Uw(N:Nat):av Tryz.prog 225 (ZZ N):=fw (en [] false false) (N:=N) .nil Tryz.func225 (by kernel_rfl) fun x=>by kernel_rfl
def M.eV(N:Nat)(a0:Int)(a1:Int)(a2:Int):Option (Int×Int):=
(M.fi N a2).bind fun y1=>
(if(!y1)then
some (0,1)
else
(if(decide (a1=0))then
some (0,12)
else
((M.dP N a0 4611686018427387904).bind fun y3=>
(if y3 then
some true
else
(M.dP N a1 4611686018427387904).bind fun y4=>
some y4):Option Bool).bind fun j2=>
(if j2 then
some (0,3)
else
(M.dF N a0).bind fun y5=>
(M.dF N a1).bind fun y6=>
(yK y5 y6).bind fun x7=>
(GR y5 y6).bind fun x8=>
(M.dW N (ajt.wrap x7) x8 y6 (!decide ((decide (a0<0))=(decide (a1<0)))) a2).bind fun y9=>
(M.ko N y9 (!decide ((decide (a0<0))=(decide (a1<0))))).bind fun oW=>
some (oW,0))))
def Z0(N:Nat):br:=⟨⟨[(0, .l ae),(1, .l ae),(2, .l ae)],[],[],0⟩,⟨[(0, .l ae),(1, .l ae)],[],[],0⟩,fun(x:Int×Int×Int)=>M.eV N x.1 x.2.1 x.2.2⟩
theorem Nz(N:Nat):av Tryz.prog 202 (Z0 N):=fw (en [ck (QJ N),ck (QK N),ck (Uu N),ck (Uv N),ck (Uw N)] false false) (N:=N) (.o (.o (.o (.two (.meet ⟨[(22, .l .bool)],[],[],112⟩ .nil .nil) .nil)))) Tryz.func202 (by kernel_rfl) fun x=>by kernel_rfl
def M.ix(N:Nat)(a0:Int)(a1:Int)(a2:Int):Option (Int×Int):=
((if(decide ((ajj.wrap (a0+(ajj.wrap (ajE a1 1000000))))<(-2000000000000000)))then
some true
else
some (decide (2000000000000000<(ajj.wrap (a0+(ajj.wrap (ajE a1 1000000))))))):Option Bool).bind fun j1=>
(if j1 then
some (0,3)
else
((if(decide (1<(ajj.wrap (a0+(ajj.wrap (ajE a1 1000000))))))then
some (ajj.wrap ((ajY (ajj.wrap (a0+(ajj.wrap (ajE a1 1000000)))) 2)+2))
else
(if(decide ((ajj.wrap (a0+(ajj.wrap (ajE a1 1000000))))<(-1)))then
some (ajj.wrap ((ajY (ajj.wrap (a0+(ajj.wrap (ajE a1 1000000)))) 2)-2))
else
some (ajY (ajj.wrap (a0+(ajj.wrap (ajE a1 1000000)))) 2))):Option Int).bind fun j2=>
(M.eV N (ajj.wrap ((ajj.wrap (j2*1000000))+(ajY a1 1000000))) 1000000 a2).bind fun y3=>
(if(!decide (y3.2=0))then
some (0,y3.2)
else
((if(decide ((ajj.wrap ((ajj.wrap ((ajj.wrap (a0+(ajj.wrap (ajE a1 1000000))))-j2))+y3.1))<(-1000000000000000)))then
some true
else
some (decide (1000000000000000<(ajj.wrap ((ajj.wrap ((ajj.wrap (a0+(ajj.wrap (ajE a1 1000000))))-j2))+y3.1))))):Option Bool).bind fun j4=>
(if j4 then
some (0,3)
else
some (ajj.wrap ((ajj.wrap ((ajj.wrap (a0+(ajj.wrap (ajE a1 1000000))))-j2))+y3.1),0))))
def Z1(N:Nat):br:=⟨⟨[(0, .l ae),(1, .l ae),(2, .l ae)],[],[],0⟩,⟨[(0, .l ae),(1, .l ae)],[],[],0⟩,fun(x:Int×Int×Int)=>M.ix N x.1 x.2.1 x.2.2⟩
theorem Z2(N:Nat):av Tryz.prog 191 (Z1 N):=fw (en [ck (Nz N)] false false) (N:=N) (.o (.o (.o (.two (.meet ⟨[(23, .l .bool)],[],[],160⟩ .nil .nil) (.o (.two (.meet ⟨[(8, .l ae)],[],[],208⟩ .nil .nil) (.o (.o (.o (.two (.meet ⟨[(58, .l .bool)],[],[],512⟩ .nil .nil) .nil)))))))))) Tryz.func191 (by kernel_rfl) fun x=>by kernel_rfl
def M.iy(N:Nat)(a0:ay.den)(a1:Int)(a2:Int)(a3:Int):Option (Int×Int):=
((if(decide (a3<0))then
some true
else
some (decide (5<a3))):Option Bool).bind fun j1=>
(if j1 then
some (0,1)
else
((if(!(oD aa a0.2.1 (3,0)))then
some true
else
some (!(oD aa a0.2.2.1 (4,0)))):Option Bool).bind fun j2=>
(if j2 then
some (0,8)
else
((if(decide (a2<(-1000000000000000)))then
some true
else
some (decide (1000000000000000<a2))):Option Bool).bind fun j3=>
(if j3 then
some (0,3)
else
bM (J:=Int×Int) (R:=Int×Int) (Loop (S:=Int×Int×Int) (X:=(Int×Int)⊕(Int×Int)) (fun s5=>
(if(decide (s5.2.2<(a0.2.2.2.length:Int)))then
bM (J:=Int×Int) (R:=(Int×Int×Int)⊕((Int×Int)⊕(Int×Int))) ((idx a0.2.2.2 s5.2.2).bind fun x7=>
((M.bG N x7.1 a1).bind fun y9=>
(if(!y9)then
some true
else
some (decide ((if a2<x7.2.2.1 then a2 else x7.2.2.1)<=(if x7.2.1<0 then 0 else x7.2.1)))):Option Bool).bind fun j8=>
(if j8 then
some (.inl (s5.1,s5.2.1))
else
(M.gr N (ajj.wrap ((if a2<x7.2.2.1 then a2 else x7.2.2.1)-(if x7.2.1<0 then 0 else x7.2.1))) x7.2.2.2).bind fun oW=>
(if(!oW.2.2)then
some (.inr (.inr (.inr (0,3))))
else
some (.inl (ajj.wrap (s5.1+oW.1),ajj.wrap (s5.2.1+oW.2.1)))))) fun j6=>
some (.inl (j6.1,j6.2,ajj.wrap (s5.2.2+1)))
else
some (.inr (.inl (s5.1,s5.2.1))))) N (0,0,0)) fun j4=>
(M.ix N j4.1 j4.2 a3).bind fun qi=>
some (qi.1,qi.2))))
def Z3(N:Nat):br:=⟨⟨[(0, .g ay),(1, .l ae),(2, .l ae),(3, .l ae)],[],[],0⟩,⟨[(0, .l ae),(1, .l ae)],[],[],0⟩,fun(x:ay.den×Int×Int×Int)=>M.iy N x.1 x.2.1 x.2.2.1 x.2.2.2⟩
theorem Z4(N:Nat):av Tryz.prog 172 (Z3 N):=fw (en [ck (RR N),ck (ZU N),ck (Z2 N)] false false) (N:=N) (.o (.two (.meet ⟨[(24, .l .bool)],[],[],48⟩ .nil .nil) (.two (.meet ⟨[(34, .l .bool)],[],[],48⟩ .nil .nil) (.two (.meet ⟨[(40, .l .bool)],[],[],48⟩ .nil .nil) (.o (.join ⟨[(10, .l ae),(11, .l ae)],[],[],80⟩ (.o (.two (.loop ⟨[(10, .l ae),(11, .l ae),(44, .l ae)],[],[],144⟩ (.o (.o (.two (.join ⟨[(10, .l ae),(11, .l ae)],[],[],160⟩ (.o (.o (.two (.meet ⟨[(64, .l .bool)],[],[],368⟩ .nil .nil) .nil))) .nil) .nil)))) .nil)) .nil)))))) Tryz.func172 (by kernel_rfl) fun x=>by kernel_rfl
def M.dx(N:Nat)(a0:Bool):Option (af.den):=
(if a0 then
some (1,(0,1))
else
some (1,(0,0)))
def Z5(N:Nat):br:=⟨⟨[(0, .l .bool)],[],[],0⟩,⟨[(0, .g af)],[],[],0⟩,fun(x:Bool)=>M.dx N x⟩
theorem Ux(N:Nat):av Tryz.prog 192 (Z5 N):=fw (en [] false false) (N:=N) .nil Tryz.func192 (by kernel_rfl) fun x=>by kernel_rfl
def M.jy(N:Nat)(a0:Int):Option Bool:=
((if(decide (0<=a0))then
some (decide (a0<=109572))
else
some false):Option Bool).bind fun j1=>
some j1
def Z6(N:Nat):br:=⟨⟨[(0, .l ae)],[],[],0⟩,⟨[(0, .l .bool)],[],[],0⟩,fun(x:Int)=>M.jy N x⟩
theorem QL(N:Nat):av Tryz.prog 203 (Z6 N):=fw (en [] false false) (N:=N) (.o (.meet ⟨[(2, .l .bool)],[],[],16⟩ .nil .nil)) Tryz.func203 (by kernel_rfl) fun x=>by kernel_rfl
def M.kq(N:Nat)(a0:Int):Option Int:=
some (ajj.wrap ((ajj.wrap ((ajj.wrap (ajE a0 4))-(ajj.wrap (ajE a0 100))))+(ajj.wrap (ajE a0 400))))
def Z7(N:Nat):br:=⟨⟨[(0, .l ae)],[],[],0⟩,⟨[(0, .l ae)],[],[],0⟩,fun(x:Int)=>M.kq N x⟩
theorem Z8(N:Nat):av Tryz.prog 226 (Z7 N):=fw (en [] false false) (N:=N) .nil Tryz.func226 (by kernel_rfl) fun x=>by kernel_rfl
def M.eW(N:Nat)(a0:Int):Option Int:=
(M.kq N (ajj.wrap (a0-1))).bind fun y1=>
(M.kq N 1899).bind fun y2=>
some (ajj.wrap ((ajj.wrap ((ajj.wrap ((ajj.wrap (a0-1900))*365))+y1))-y2))
def Z9(N:Nat):br:=⟨⟨[(0, .l ae)],[],[],0⟩,⟨[(0, .l ae)],[],[],0⟩,fun(x:Int)=>M.eW N x⟩
theorem Uy(N:Nat):av Tryz.prog 204 (Z9 N):=fw (en [ck (Z8 N)] false false) (N:=N) .nil Tryz.func204 (by kernel_rfl) fun x=>by kernel_rfl
def M.oY(N:Nat)(a0:Int):Option Bool:=
((if(decide ((ajY a0 4)=0))then
(if(!decide ((ajY a0 100)=0))then
some true
else
some (decide ((ajY a0 400)=0)))
else
some false):Option Bool).bind fun j1=>
some j1
def aaa(N:Nat):br:=⟨⟨[(0, .l ae)],[],[],0⟩,⟨[(0, .l .bool)],[],[],0⟩,fun(x:Int)=>M.oY N x⟩
theorem aab(N:Nat):av Tryz.prog 227 (aaa N):=fw (en [] false false) (N:=N) (.o (.meet ⟨[(2, .l .bool)],[],[],16⟩ .nil .nil)) Tryz.func227 (by kernel_rfl) fun x=>by kernel_rfl
def M.dL(N:Nat)(a0:Int)(a1:Int):Option Int:=
((if(decide (a1<1))then
some true
else
some (decide (12<a1))):Option Bool).bind fun j1=>
(if j1 then
some 0
else
((if(decide (a1=2))then
(M.oY N a0).bind fun y3=>
some y3
else
some false):Option Bool).bind fun j2=>
(if j2 then
some 29
else
(idx ([31,28,31,30,31,30,31,31,30,31,30,31]:List Int) (ajj.wrap (a1-1))).bind fun x4=>
some x4))
def aac(N:Nat):br:=⟨⟨[(0, .l ae),(1, .l ae)],[],[],0⟩,⟨[(0, .l ae)],[],[],0⟩,fun(x:Int×Int)=>M.dL N x.1 x.2⟩
theorem QM(N:Nat):av Tryz.prog 205 (aac N):=fw (en [ck (aab N)] false false) (N:=N) (.o (.two (.meet ⟨[(10, .l .bool)],[],[],16⟩ .nil .nil) (.two (.meet ⟨[(16, .l .bool)],[],[],16⟩ .nil .nil) .nil))) Tryz.func205 (by kernel_rfl) fun x=>by kernel_rfl
def M.jz(N:Nat)(a0:Int):Option (Int×Int×Int):=
(M.jy N a0).bind fun y1=>
(if(!y1)then
some (0,0,0)
else
(Loop (S:=Int) (X:=Int) (fun s3=>
(M.eW N (ajj.wrap (s3+1))).bind fun y4=>
(if(decide (y4<=a0))then
some (.inl (ajj.wrap (s3+1)))
else
some (.inr s3))) N (ajj.wrap (1900+(ajj.wrap (ajE a0 366)))):Option Int).bind fun j2=>
(M.eW N j2).bind fun y5=>
Loop (S:=Int×Int) (X:=Int×Int×Int) (fun s6=>
(if(decide (s6.2<12))then
(M.dL N j2 (ajj.wrap (s6.2+1))).bind fun y7=>
(if(decide (s6.1<y7))then
some (.inr (j2,ajj.wrap (s6.2+1),ajj.wrap (s6.1+1)))
else
some (.inl (ajj.wrap (s6.1-y7),ajj.wrap (s6.2+1))))
else
some (.inr (0,0,0)))) N (ajj.wrap (a0-y5),0))
def aad(N:Nat):br:=⟨⟨[(0, .l ae)],[],[],0⟩,⟨[(0, .l ae),(1, .l ae),(2, .l ae)],[],[],0⟩,fun(x:Int)=>M.jz N x⟩
theorem QN(N:Nat):av Tryz.prog 193 (aad N):=fw (en [ck (QL N),ck (Uy N),ck (QM N)] false false) (N:=N) (.o (.o (.o (.meet ⟨[(5, .l ae)],[],[],160⟩ (.two (.loop ⟨[(5, .l ae)],[],[],160⟩ .nil) .nil) (.o (.two (.o (.two (.loop ⟨[(6, .l ae),(26, .l ae)],[],[],256⟩ .nil) .nil)) .nil)))))) Tryz.func193 (by kernel_rfl) fun x=>by kernel_rfl
def M.jA(N:Nat)(a0:Int)(a1:af.den):Option (af.den):=
(if(decide (a0=10))then
some (a1.1,(0,ajj.wrap (0-a1.2.2)))
else
(if(decide (a0=25))then
(M.dx N (decide (a1.2.2=0))).bind fun y1=>
some y1
else
(M.jz N a1.2.2).bind fun y2=>
(if(decide (a0=31))then
some (2,(0,y2.1))
else
some (2,(0,y2.2.1)))))
def aae(N:Nat):br:=⟨⟨[(0, .l ae),(1, .g af)],[],[],0⟩,⟨[(0, .g af)],[],[],0⟩,fun(x:Int×af.den)=>M.jA N x.1 x.2⟩
theorem aaf(N:Nat):av Tryz.prog 173 (aae N):=fw (en [ck (Ux N),ck (QN N)] false false) (N:=N) .nil Tryz.func173 (by kernel_rfl) fun x=>by kernel_rfl
def M.lU(N:Nat)(a0:Int)(a1:Int):Option (Int×Int):=
(M.ei N (ajt.wrap (if a0<(ajj.wrap (0-a0))then(ajj.wrap (0-a0))else a0)) (ajt.wrap (if a1<(ajj.wrap (0-a1))then(ajj.wrap (0-a1))else a1))).bind fun y1=>
((if(!decide (y1.1=0))then
some true
else
some (decide (1000000000000000<y1.2))):Option Bool).bind fun j2=>
(if j2 then
some (0,3)
else
(if(!decide ((decide (a0<0))=(decide (a1<0))))then
some (ajj.wrap (0-(ajj.wrap y1.2)),0)
else
some (ajj.wrap y1.2,0)))
def aag(N:Nat):br:=⟨⟨[(0, .l ae),(1, .l ae)],[],[],0⟩,⟨[(0, .l ae),(1, .l ae)],[],[],0⟩,fun(x:Int×Int)=>M.lU N x.1 x.2⟩
theorem aah(N:Nat):av Tryz.prog 206 (aag N):=fw (en [ck (Ny N)] false false) (N:=N) (.o (.o (.two (.meet ⟨[(27, .l .bool)],[],[],288⟩ .nil .nil) .nil))) Tryz.func206 (by kernel_rfl) fun x=>by kernel_rfl
def M.lV(N:Nat)(a0:Int)(a1:Int)(a2:Int)(a3:Int):Option (Int×Int):=
(M.fi N a3).bind fun y1=>
(if(!y1)then
some (0,1)
else
(if(decide (a2=0))then
some (0,12)
else
((M.dP N a0 1000000000000000).bind fun y3=>
(if y3 then
some true
else
(M.dP N a1 1000000000).bind fun y4=>
(if y4 then
some true
else
(M.dP N a2 1000000000).bind fun y5=>
some y5)):Option Bool).bind fun j2=>
(if j2 then
some (0,3)
else
(M.dF N a0).bind fun y6=>
(M.dF N a1).bind fun y7=>
(M.ei N y6 y7).bind fun y8=>
(M.dF N a2).bind fun y9=>
(if(decide (y9<=y8.1))then
some (0,3)
else
(M.dE N y8.1 y8.2 y9).bind fun oW=>
(if(decide (1000000000000000<oW.1))then
some (0,3)
else
(M.dW N oW.1 oW.2 y9 (!decide ((!decide ((decide (a0<0))=(decide (a1<0))))=(decide (a2<0)))) a3).bind fun qi=>
(if(decide (1000000000000000<qi))then
some (0,3)
else
(M.ko N qi (!decide ((!decide ((decide (a0<0))=(decide (a1<0))))=(decide (a2<0))))).bind fun qj=>
some (qj,0)))))))
def aai(N:Nat):br:=⟨⟨[(0, .l ae),(1, .l ae),(2, .l ae),(3, .l ae)],[],[],0⟩,⟨[(0, .l ae),(1, .l ae)],[],[],0⟩,fun(x:Int×Int×Int×Int)=>M.lV N x.1 x.2.1 x.2.2.1 x.2.2.2⟩
theorem aaj(N:Nat):av Tryz.prog 228 (aai N):=fw (en [ck (Ny N),ck (QI N),ck (QJ N),ck (QK N),ck (Uu N),ck (Uv N),ck (Uw N)] false false) (N:=N) (.o (.o (.o (.two (.meet ⟨[(30, .l .bool)],[],[],112⟩ .nil .nil) .nil)))) Tryz.func228 (by kernel_rfl) fun x=>by kernel_rfl
def M.n7(N:Nat)(a0:Int)(a1:Int)(a2:Int):Option (Int×Int):=
(M.lV N a0 a1 1000000 a2).bind fun y1=>
some (y1.1,y1.2)
def aak(N:Nat):br:=⟨⟨[(0, .l ae),(1, .l ae),(2, .l ae)],[],[],0⟩,⟨[(0, .l ae),(1, .l ae)],[],[],0⟩,fun(x:Int×Int×Int)=>M.n7 N x.1 x.2.1 x.2.2⟩
theorem aal(N:Nat):av Tryz.prog 207 (aak N):=fw (en [ck (aaj N)] false false) (N:=N) .nil Tryz.func207 (by kernel_rfl) fun x=>by kernel_rfl
def M.kr(N:Nat)(a0:Int):Option Bool:=
((if(decide (0<=a0))then
some (decide (a0<=5))
else
some false):Option Bool).bind fun j1=>
some j1
def aam(N:Nat):br:=⟨⟨[(0, .l ae)],[],[],0⟩,⟨[(0, .l .bool)],[],[],0⟩,fun(x:Int)=>M.kr N x⟩
theorem Uz(N:Nat):av Tryz.prog 229 (aam N):=fw (en [] false false) (N:=N) (.o (.meet ⟨[(2, .l .bool)],[],[],16⟩ .nil .nil)) Tryz.func229 (by kernel_rfl) fun x=>by kernel_rfl
def M.iz(N:Nat)(a0:Int)(a1:Int):Option Bool:=
((if(decide (a1<a0))then
some true
else
some (decide (a0<(ajj.wrap (0-a1))))):Option Bool).bind fun j1=>
some j1
def aan(N:Nat):br:=⟨⟨[(0, .l ae),(1, .l ae)],[],[],0⟩,⟨[(0, .l .bool)],[],[],0⟩,fun(x:Int×Int)=>M.iz N x.1 x.2⟩
theorem UA(N:Nat):av Tryz.prog 230 (aan N):=fw (en [] false false) (N:=N) (.o (.meet ⟨[(4, .l .bool)],[],[],16⟩ .nil .nil)) Tryz.func230 (by kernel_rfl) fun x=>by kernel_rfl
def M.rI(N:Nat)(a0:Int)(a1:Int)(a2:Int):Option (Int×Int):=
(M.kr N a2).bind fun y1=>
(if(!y1)then
some (0,1)
else
((M.iz N a0 1000000000).bind fun y3=>
(if y3 then
some true
else
(M.iz N a1 1000000000).bind fun y4=>
some y4):Option Bool).bind fun j2=>
(if j2 then
some (0,3)
else
(M.eV N (ajj.wrap (a0*a1)) 1000000 a2).bind fun y5=>
(if(!decide (y5.2=0))then
some (0,y5.2)
else
(M.iz N y5.1 1000000000).bind fun y6=>
(if y6 then
some (0,3)
else
some (y5.1,0)))))
def aao(N:Nat):br:=⟨⟨[(0, .l ae),(1, .l ae),(2, .l ae)],[],[],0⟩,⟨[(0, .l ae),(1, .l ae)],[],[],0⟩,fun(x:Int×Int×Int)=>M.rI N x.1 x.2.1 x.2.2⟩
theorem aap(N:Nat):av Tryz.prog 208 (aao N):=fw (en [ck (Nz N),ck (Uz N),ck (UA N)] false false) (N:=N) (.o (.o (.two (.meet ⟨[(18, .l .bool)],[],[],80⟩ .nil .nil) .nil))) Tryz.func208 (by kernel_rfl) fun x=>by kernel_rfl
def M.lk(N:Nat)(a0:Int)(a1:Int)(a2:Int):Option (Int×Int):=
(M.fi N a2).bind fun y1=>
(if(!y1)then
some (0,1)
else
(if(decide (a1<1))then
some (0,12)
else
((M.dP N a0 1000000000000000).bind fun y3=>
(if y3 then
some true
else
some (decide (1000000000000000<a1))):Option Bool).bind fun j2=>
(if j2 then
some (0,3)
else
(M.eV N a0 a1 a2).bind fun y4=>
(if(!decide (y4.2=0))then
some (0,y4.2)
else
(M.dP N (ajj.wrap (y4.1*a1)) 1000000000000000).bind fun y5=>
(if y5 then
some (0,3)
else
some (ajj.wrap (y4.1*a1),0))))))
def aaq(N:Nat):br:=⟨⟨[(0, .l ae),(1, .l ae),(2, .l ae)],[],[],0⟩,⟨[(0, .l ae),(1, .l ae)],[],[],0⟩,fun(x:Int×Int×Int)=>M.lk N x.1 x.2.1 x.2.2⟩
theorem aar(N:Nat):av Tryz.prog 209 (aaq N):=fw (en [ck (Nz N),ck (QJ N),ck (QK N)] false false) (N:=N) (.o (.o (.o (.two (.meet ⟨[(20, .l .bool)],[],[],112⟩ .nil .nil) .nil)))) Tryz.func209 (by kernel_rfl) fun x=>by kernel_rfl
def M.ll(N:Nat)(a0:Int)(a1:Int)(a2:Int)(a3:Bool)(a4:Int):Option Bool:=
(if(decide (a1=0))then
some false
else
(if(decide (a4=0))then
some a3
else
(if(decide (a4=1))then
some (!a3)
else
(if(decide (a4=3))then
some true
else
(if(decide (a4=4))then
some (decide ((ajt.wrap (a2-a1))<=a1))
else
(if(decide (a4=5))then
((if(decide ((ajt.wrap (a2-a1))<a1))then
some true
else
(if(decide (a1=(ajt.wrap (a2-a1))))then
some (decide ((ajY a0 2)=1))
else
some false)):Option Bool).bind fun j1=>
some j1
else
some false))))))
def aas(N:Nat):br:=⟨⟨[(0, .l (.int .u64)),(1, .l (.int .u64)),(2, .l (.int .u64)),(3, .l .bool),(4, .l ae)],[],[],0⟩,⟨[(0, .l .bool)],[],[],0⟩,fun(x:Int×Int×Int×Bool×Int)=>M.ll N x.1 x.2.1 x.2.2.1 x.2.2.2.1 x.2.2.2.2⟩
theorem aat(N:Nat):av Tryz.prog 231 (aas N):=fw (en [] false false) (N:=N) (.o (.o (.two (.o (.two (.o (.o (.o (.o (.o (.o (.o (.o (.o (.two (.meet ⟨[(10, .l .bool)],[],[],224⟩ .nil .nil) .nil)))))))))) .nil)) .nil))) Tryz.func231 (by kernel_rfl) fun x=>by kernel_rfl
def M.ku(N:Nat)(a0:Int)(a1:Int)(a2:Int):Option (Int×Int):=
(M.kr N a2).bind fun y1=>
(if(!y1)then
some (0,1)
else
(if(decide (a1=0))then
some (0,12)
else
((M.iz N a0 1000000000000000).bind fun y3=>
(if y3 then
some true
else
(M.iz N a1 1000000000000000).bind fun y4=>
some y4):Option Bool).bind fun j2=>
(if j2 then
some (0,3)
else
(M.ei N (ajt.wrap (if a0<(ajj.wrap (0-a0))then(ajj.wrap (0-a0))else a0)) 1000000).bind fun y5=>
(if(decide ((ajt.wrap (if a1<(ajj.wrap (0-a1))then(ajj.wrap (0-a1))else a1))<=y5.1))then
some (0,3)
else
(M.dE N y5.1 y5.2 (ajt.wrap (if a1<(ajj.wrap (0-a1))then(ajj.wrap (0-a1))else a1))).bind fun y6=>
(if(decide (1000000000<y6.1))then
some (0,3)
else
((M.ll N y6.1 y6.2 (ajt.wrap (if a1<(ajj.wrap (0-a1))then(ajj.wrap (0-a1))else a1)) (!decide ((decide (a0<0))=(decide (a1<0)))) a2).bind fun y8=>
(if y8 then
some (ajj.wrap ((ajj.wrap y6.1)+1))
else
some (ajj.wrap y6.1)):Option Int).bind fun j7=>
(if(decide (1000000000<j7))then
some (0,3)
else
((if(!decide ((decide (a0<0))=(decide (a1<0))))then
some (ajj.wrap (0-j7))
else
some j7):Option Int).bind fun j9=>
some (j9,0)))))))
def aau(N:Nat):br:=⟨⟨[(0, .l ae),(1, .l ae),(2, .l ae)],[],[],0⟩,⟨[(0, .l ae),(1, .l ae)],[],[],0⟩,fun(x:Int×Int×Int)=>M.ku N x.1 x.2.1 x.2.2⟩
theorem aav(N:Nat):av Tryz.prog 210 (aau N):=fw (en [ck (Ny N),ck (QI N),ck (Uz N),ck (UA N),ck (aat N)] false false) (N:=N) (.o (.o (.o (.two (.meet ⟨[(25, .l .bool)],[],[],112⟩ .nil .nil) (.o (.o (.o (.o (.o (.o (.o (.meet ⟨[(14, .l ae)],[],[],752⟩ .nil (.o (.meet ⟨[(14, .l ae)],[],[],784⟩ .nil .nil)))))))))))))) Tryz.func210 (by kernel_rfl) fun x=>by kernel_rfl
def M.jK(N:Nat)(a0:aa.den)(a1:af.den)(a2:af.den):Option (af.den×Int):=
((if(decide (a0.1=13))then
(M.lU N a1.2.2 a2.2.2).bind fun y2=>
some (y2.2,(a1.1,(0,y2.1)))
else
((if(decide (a0.1=14))then
some (decide (a1.1=3))
else
some false):Option Bool).bind fun j3=>
(if j3 then
(M.n7 N a1.2.2 a2.2.2 a0.2).bind fun y4=>
some (y4.2,(a1.1,(0,y4.1)))
else
(if(decide (a0.1=14))then
(M.rI N a1.2.2 a2.2.2 a0.2).bind fun y5=>
some (y5.2,(a1.1,(0,y5.1)))
else
(if(decide (a0.1=16))then
(M.lk N a1.2.2 a2.2.2 a0.2).bind fun y6=>
some (y6.2,(a1.1,(0,y6.1)))
else
(if(decide (a2.1=2))then
(M.eV N a1.2.2 a2.2.2 a0.2).bind fun y7=>
some (y7.2,(a1.1,(0,y7.1)))
else
(M.ku N a1.2.2 a2.2.2 a0.2).bind fun y8=>
some (y8.2,(4,(0,y8.1)))))))):Option (Int×af.den)).bind fun j1=>
some (j1.2,j1.1)
def aaw(N:Nat):br:=⟨⟨[(0, .g aa),(1, .g af),(2, .g af)],[],[],0⟩,⟨[(0, .g af),(1, .l ae)],[],[],0⟩,fun(x:aa.den×af.den×af.den)=>M.jK N x.1 x.2.1 x.2.2⟩
theorem aax(N:Nat):av Tryz.prog 194 (aaw N):=fw (en [ck (Nz N),ck (aah N),ck (aal N),ck (aap N),ck (aar N),ck (aav N)] false false) (N:=N) (.o (.o (.two (.meet ⟨[(9, .l ae)],[(128, .box 76 (.leaf af))],[],177⟩ (.o (.o (.meet ⟨[(38, .l .bool)],[],[],240⟩ .nil .nil))) .nil) .nil))) Tryz.func194 (by kernel_rfl) fun x=>by kernel_rfl
def M.lW(N:Nat)(a0:Int)(a1:Int)(a2:Int):Option (Int×Int):=
((if(decide (a0<1900))then
some true
else
(if(decide (2199<a0))then
some true
else
(if(decide (a1<1))then
some true
else
(if(decide (12<a1))then
some true
else
(if(decide (a2<1))then
some true
else
(M.dL N a0 a1).bind fun y2=>
some (decide (y2<a2))))))):Option Bool).bind fun j1=>
(if j1 then
some (0,3)
else
(M.eW N a0).bind fun y3=>
(Loop (S:=Int×Int) (X:=Int) (fun s5=>
(if(decide (s5.2<(ajj.wrap (a1-1))))then
(M.dL N a0 (ajj.wrap (s5.2+1))).bind fun y6=>
some (.inl (ajj.wrap (s5.1+y6),ajj.wrap (s5.2+1)))
else
some (.inr s5.1))) N (y3,0):Option Int).bind fun j4=>
some (ajj.wrap ((ajj.wrap (j4+a2))-1),0))
def aay(N:Nat):br:=⟨⟨[(0, .l ae),(1, .l ae),(2, .l ae)],[],[],0⟩,⟨[(0, .l ae),(1, .l ae)],[],[],0⟩,fun(x:Int×Int×Int)=>M.lW N x.1 x.2.1 x.2.2⟩
theorem aaz(N:Nat):av Tryz.prog 211 (aay N):=fw (en [ck (Uy N),ck (QM N)] false false) (N:=N) (.o (.two (.meet ⟨[(34, .l .bool)],[],[],32⟩ .nil .nil) (.o (.meet ⟨[(8, .l ae)],[],[],80⟩ (.o (.two (.loop ⟨[(8, .l ae),(39, .l ae)],[],[],128⟩ .nil) .nil)) .nil)))) Tryz.func211 (by kernel_rfl) fun x=>by kernel_rfl
def M.iA(N:Nat)(a0:Int)(a1:Int):Option (Int×Int):=
((M.jy N a0).bind fun y2=>
(if(!y2)then
some true
else
(if(decide (a1<(-3600)))then
some true
else
some (decide (3600<a1)))):Option Bool).bind fun j1=>
(if j1 then
some (0,3)
else
(M.jz N a0).bind fun y3=>
((if(decide ((ajj.wrap ((ajj.wrap ((ajj.wrap ((ajj.wrap ((ajj.wrap (y3.1-1900))*12))+y3.2.1))-1))+a1))<0))then
some true
else
some (decide (3599<(ajj.wrap ((ajj.wrap ((ajj.wrap ((ajj.wrap ((ajj.wrap (y3.1-1900))*12))+y3.2.1))-1))+a1))))):Option Bool).bind fun j4=>
(if j4 then
some (0,3)
else
(M.dL N (ajj.wrap (1900+(ajj.wrap (ajE (ajj.wrap ((ajj.wrap ((ajj.wrap ((ajj.wrap ((ajj.wrap (y3.1-1900))*12))+y3.2.1))-1))+a1)) 12)))) (ajj.wrap ((ajY (ajj.wrap ((ajj.wrap ((ajj.wrap ((ajj.wrap ((ajj.wrap (y3.1-1900))*12))+y3.2.1))-1))+a1)) 12)+1))).bind fun y5=>
(M.lW N (ajj.wrap (1900+(ajj.wrap (ajE (ajj.wrap ((ajj.wrap ((ajj.wrap ((ajj.wrap ((ajj.wrap (y3.1-1900))*12))+y3.2.1))-1))+a1)) 12)))) (ajj.wrap ((ajY (ajj.wrap ((ajj.wrap ((ajj.wrap ((ajj.wrap ((ajj.wrap (y3.1-1900))*12))+y3.2.1))-1))+a1)) 12)+1)) (if y5<y3.2.2 then y5 else y3.2.2)).bind fun y6=>
some (y6.1,y6.2)))
def aaA(N:Nat):br:=⟨⟨[(0, .l ae),(1, .l ae)],[],[],0⟩,⟨[(0, .l ae),(1, .l ae)],[],[],0⟩,fun(x:Int×Int)=>M.iA N x.1 x.2⟩
theorem UB(N:Nat):av Tryz.prog 195 (aaA N):=fw (en [ck (QN N),ck (QL N),ck (QM N),ck (aaz N)] false false) (N:=N) (.o (.two (.meet ⟨[(20, .l .bool)],[],[],32⟩ .nil .nil) (.o (.o (.two (.meet ⟨[(40, .l .bool)],[],[],320⟩ .nil .nil) .nil))))) Tryz.func195 (by kernel_rfl) fun x=>by kernel_rfl
def M.gO(N:Nat)(a0:Int)(a1:Int):Option Int:=
((M.jy N a0).bind fun y2=>
(if(!y2)then
some true
else
(M.jy N a1).bind fun y3=>
(if(!y3)then
some true
else
some (decide (a1<a0)))):Option Bool).bind fun j1=>
(if j1 then
some 0
else
(M.jz N a0).bind fun y4=>
(M.jz N a1).bind fun y5=>
((M.iA N a0 (ajj.wrap (12*(ajj.wrap (y5.1-y4.1))))).bind fun y7=>
((if(!decide (y7.2=0))then
some true
else
some (decide (a1<y7.1))):Option Bool).bind fun j8=>
(if j8 then
some (ajj.wrap ((ajj.wrap (y5.1-y4.1))-1))
else
some (ajj.wrap (y5.1-y4.1))):Option Int).bind fun j6=>
some (if j6<0 then 0 else j6))
def aaB(N:Nat):br:=⟨⟨[(0, .l ae),(1, .l ae)],[],[],0⟩,⟨[(0, .l ae)],[],[],0⟩,fun(x:Int×Int)=>M.gO N x.1 x.2⟩
theorem aaC(N:Nat):av Tryz.prog 196 (aaB N):=fw (en [ck (QN N),ck (UB N),ck (QL N)] false false) (N:=N) (.o (.two (.meet ⟨[(26, .l .bool)],[],[],16⟩ .nil .nil) (.o (.o (.o (.meet ⟨[(11, .l ae)],[],[],368⟩ (.o (.meet ⟨[(55, .l .bool)],[],[],512⟩ .nil .nil)) .nil)))))) Tryz.func196 (by kernel_rfl) fun x=>by kernel_rfl
def M.fA(N:Nat)(a0:aa.den)(a1:af.den)(a2:af.den):Option (af.den×Int):=
((if(decide (a0.1=11))then
some (decide (a0.1=11))
else
some (decide (a0.1=27))):Option Bool).bind fun j1=>
(if j1 then
some ((a1.1,(0,ajj.wrap (a1.2.2+a2.2.2))),0)
else
(if(decide (a0.1=12))then
some ((a1.1,(0,ajj.wrap (a1.2.2-a2.2.2))),0)
else
((if(decide (a0.1=13))then
some (decide (a0.1=13))
else
(if(decide (a0.1=14))then
some (decide (a0.1=14))
else
(if(decide (a0.1=15))then
some (decide (a0.1=15))
else
some (decide (a0.1=16))))):Option Bool).bind fun j2=>
(if j2 then
(M.jK N a0 a1 a2).bind fun y3=>
some (y3.1,y3.2)
else
((if(decide (a0.1=17))then
some (decide (a0.1=17))
else
some (decide (a0.1=18))):Option Bool).bind fun j4=>
(if j4 then
(if(decide ((decide (a0.1=17))=(decide (a2.2.2<a1.2.2))))then
some (a2,0)
else
some (a1,0))
else
(if(decide (a0.1=19))then
(M.dx N (decide (a1.2.2=a2.2.2))).bind fun y5=>
some (y5,0)
else
(if(decide (a0.1=20))then
(M.dx N (!decide (a1.2.2=a2.2.2))).bind fun y6=>
some (y6,0)
else
(if(decide (a0.1=21))then
(M.dx N (decide (a1.2.2<a2.2.2))).bind fun y7=>
some (y7,0)
else
(if(decide (a0.1=22))then
(M.dx N (decide (a1.2.2<=a2.2.2))).bind fun y8=>
some (y8,0)
else
(if(decide (a0.1=23))then
((if(decide (a1.2.2=1))then
(M.dx N (decide (a2.2.2=1))).bind fun oW=>
some (0,oW)
else
(M.dx N false).bind fun qi=>
some (0,qi)):Option (Int×af.den)).bind fun j9=>
some (j9.2,j9.1)
else
(if(decide (a0.1=24))then
((if(decide (a1.2.2=1))then
(M.dx N true).bind fun BP=>
some (0,BP)
else
(M.dx N (decide (a2.2.2=1))).bind fun qk=>
some (0,qk)):Option (Int×af.den)).bind fun Al=>
some (Al.2,Al.1)
else
(if(decide (a0.1=28))then
(M.iA N a1.2.2 a2.2.2).bind fun D9=>
some ((5,(0,D9.1)),D9.2)
else
(if(decide (a0.1=29))then
some ((2,(0,ajj.wrap (a2.2.2-a1.2.2))),0)
else
(M.gO N a1.2.2 a2.2.2).bind fun IT=>
some ((2,(0,IT)),0)))))))))))))
def aaD(N:Nat):br:=⟨⟨[(0, .g aa),(1, .g af),(2, .g af)],[],[],0⟩,⟨[(0, .g af),(1, .l ae)],[],[],0⟩,fun(x:aa.den×af.den×af.den)=>M.fA N x.1 x.2.1 x.2.2⟩
theorem aaE(N:Nat):av Tryz.prog 174 (aaD N):=fw (en [ck (Ux N),ck (aax N),ck (UB N),ck (aaC N)] false false) (N:=N) (.o (.two (.o (.two (.meet ⟨[(12, .l .bool)],[],[],112⟩ .nil (.o (.o (.o (.meet ⟨[(33, .l .bool)],[],[],144⟩ .nil (.o (.meet ⟨[(44, .l .bool)],[],[],144⟩ .nil (.o (.o (.o (.o (.o (.o (.o (.o (.o (.o (.two (.meet ⟨[(7, .l ae)],[(48, .box 76 (.leaf af))],[],305⟩ .nil .nil) (.o (.two (.meet ⟨[(7, .l ae)],[(48, .box 76 (.leaf af))],[],337⟩ .nil .nil) .nil)))))))))))))))))))) .nil)) .nil)) Tryz.func174 (by kernel_rfl) fun x=>by kernel_rfl
end
end Go.Proofs.YtmihpkfkbfgigaaGreatDoor
end
