/- Joined texts: Model. -/
import Derived.Test.YtbladfbbhijpmaaGreatU5
import Derived.Test.YtbladfbbhijpmaaGreatProg
import Derived.Test.YtbladfbbhijpmaaGreatU6
import Derived.Test.YtbladfbbhijpmaaGreatU7
open _root_.Decidable renaming decide->acS
open _root_.Bool renaming false->acR,true->acQ
open _root_.Option renaming none->acP
open _root_.ByteArray renaming empty->acF
open _root_.Int renaming tdiv->ab7,tmod->acu
open _root_.Go.IntKind renaming i64->aaV,u64->aa0
open _root_.List renaming forall_mem_cons->acs
open _root_.Nat renaming beq->aaY
namespace Go.Proofs.YtbladfbbhijpmaaGreat
open Go Go.RowKit
set_option maxRecDepth 100000
set_option linter.unusedSimpArgs false
set_option linter.unusedVariables false
set_option linter.defProp false
section
noncomputable section
set_option maxRecDepth 100000
set_option linter.unusedVariables false
@[reducible] def aa:Row:= .pair ae ae
@[reducible] def be:Row:= .pair .str aa
@[reducible] def cL:Row:= .pair .str (.pair ae (.pair ae (.pair ae (.pair aa (.pair (.slice aa) (.pair (.slice aa) .str))))))
@[reducible] def aV:Row:= .pair .str (.pair ae (.pair (.slice be) (.pair (.slice be) (.slice cL))))
@[reducible] def bR:Row:= .pair .str (.slice .str)
@[reducible] def fJ:Row:= .pair aa (.pair ae aa)
@[reducible] def bL:Row:= .pair .str (.pair aa (.pair aa (.slice fJ)))
@[reducible] def cC:Row:= .pair (.slice bR) (.pair (.slice bL) (.slice aV))
@[reducible] def al:Row:= .pair ae (.pair ae aa)
@[reducible] def aL:Row:= .pair (.slice bR) (.pair (.slice bL) (.pair (.slice aa) (.pair (.slice aa) (.pair (.slice aa) .bool))))
@[reducible] def eA:Row:= .pair (.slice ae) (.pair (.slice ae) (.slice ae))
@[reducible] def af:Row:= .pair aa ae
@[reducible] def cF:Row:= .pair ae (.pair (.slice (.slice aa)) (.pair (.slice ae) (.slice af)))
theorem HB:TI Tryz.prog 3 ae:=TI.mk (k:=1) (by kernel_rfl) rfl
theorem XJ:TI Tryz.prog 4 .bool:=TI.mk (k:=1) (by kernel_rfl) rfl
theorem XK:TI Tryz.prog 9 .str:=TI.mk (k:=1) (by kernel_rfl) rfl
theorem Se:TI Tryz.prog 22 (.slice bR):=TI.mk (k:=1) (by kernel_rfl) rfl
theorem Sf:TI Tryz.prog 23 (.slice bL):=TI.mk (k:=1) (by kernel_rfl) rfl
theorem Sg:TI Tryz.prog 24 (.slice aV):=TI.mk (k:=1) (by kernel_rfl) rfl
theorem Si:TI Tryz.prog 26 cC:=TI.mk (k:=3) (by kernel_rfl) rfl
theorem Sj:TI Tryz.prog 27 (.pair ae aa):=TI.mk (k:=3) (by kernel_rfl) rfl
theorem Sk:TI Tryz.prog 30 (.slice (.slice aa)):=TI.mk (k:=1) (by kernel_rfl) rfl
theorem Sl:TI Tryz.prog 31 (.slice ae):=TI.mk (k:=1) (by kernel_rfl) rfl
theorem Sm:TI Tryz.prog 32 (.slice af):=TI.mk (k:=1) (by kernel_rfl) rfl
theorem Sp:TI Tryz.prog 34 cF:=TI.mk (k:=4) (by kernel_rfl) rfl
theorem OP:TI Tryz.prog 35 ae:=TI.mk (k:=1) (by kernel_rfl) rfl
theorem Sq:TI Tryz.prog 45 al:=TI.mk (k:=4) (by kernel_rfl) rfl
theorem Sr:TI Tryz.prog 47 (.slice be):=TI.mk (k:=1) (by kernel_rfl) rfl
theorem Su:TI Tryz.prog 48 (.slice cL):=TI.mk (k:=1) (by kernel_rfl) rfl
theorem Sv:TI Tryz.prog 50 aV:=TI.mk (k:=5) (by kernel_rfl) rfl
theorem OQ:TI Tryz.prog 58 aa:=TI.mk (k:=2) (by kernel_rfl) rfl
theorem Sw:TI Tryz.prog 60 af:=TI.mk (k:=3) (by kernel_rfl) rfl
theorem Sz:TI Tryz.prog 62 (.slice .str):=TI.mk (k:=1) (by kernel_rfl) rfl
theorem SA:TI Tryz.prog 64 bR:=TI.mk (k:=2) (by kernel_rfl) rfl
theorem SB:TI Tryz.prog 66 aa:=TI.mk (k:=2) (by kernel_rfl) rfl
theorem SC:TI Tryz.prog 67 (.slice fJ):=TI.mk (k:=1) (by kernel_rfl) rfl
theorem SD:TI Tryz.prog 69 bL:=TI.mk (k:=6) (by kernel_rfl) rfl
theorem SE:TI Tryz.prog 74 aa:=TI.mk (k:=2) (by kernel_rfl) rfl
theorem SF:TI Tryz.prog 75 (.slice aa):=TI.mk (k:=1) (by kernel_rfl) rfl
theorem SG:TI Tryz.prog 77 cL:=TI.mk (k:=9) (by kernel_rfl) rfl
theorem SH:TI Tryz.prog 81 aa:=TI.mk (k:=2) (by kernel_rfl) rfl
theorem SI:TI Tryz.prog 96 eA:=TI.mk (k:=3) (by kernel_rfl) rfl
theorem OR:TI Tryz.prog 100 be:=TI.mk (k:=3) (by kernel_rfl) rfl
theorem OT:TI Tryz.prog 132 fJ:=TI.mk (k:=5) (by kernel_rfl) rfl
theorem OU:TI Tryz.prog 144 (.slice aa):=TI.mk (k:=1) (by kernel_rfl) rfl
theorem OV:TI Tryz.prog 146 aL:=TI.mk (k:=6) (by kernel_rfl) rfl
theorem OW:TI Tryz.prog 207 (.int .u64):=TI.mk (k:=1) (by kernel_rfl) rfl
theorem I9:me Tryz.prog 3 ae 1:=Cb Tryz.underlying3
theorem SJ:me Tryz.prog 66 aa 2:=kF Tryz.underlying66 (by kernel_rfl) (kE rfl rfl Tryz.underlying3 (by simp[gW]) HB I9 (mW rfl rfl Tryz.underlying3 (by simp[gW]) HB I9))
theorem SK:me Tryz.prog 81 aa 2:=kF Tryz.underlying81 (by kernel_rfl) (kE rfl rfl Tryz.underlying3 (by simp[gW]) HB I9 (mW rfl rfl Tryz.underlying3 (by simp[gW]) HB I9))
theorem OX:me Tryz.prog 58 aa 2:=kF Tryz.underlying58 (by kernel_rfl) (kE rfl rfl Tryz.underlying3 (by simp[gW]) HB I9 (mW rfl rfl Tryz.underlying3 (by simp[gW]) HB I9))
theorem SL:me Tryz.prog 35 ae 1:=Cb Tryz.underlying35
theorem SM:me Tryz.prog 45 al 2:=kF Tryz.underlying45 (by kernel_rfl) (kE rfl rfl Tryz.underlying35 (by simp[gW]) OP SL (kE rfl rfl Tryz.underlying3 (by simp[gW]) HB I9 (kE rfl rfl Tryz.underlying3 (by simp[gW]) HB I9 (mW rfl rfl Tryz.underlying3 (by simp[gW]) HB I9))))
theorem OY:me Tryz.prog 3 ae 2:=I9.lift 1
theorem SN:me Tryz.prog 60 af 3:=kF Tryz.underlying60 (by kernel_rfl) (kE rfl rfl Tryz.underlying58 (by intro h;cases h) OQ OX (mW rfl rfl Tryz.underlying3 (by simp[gW]) HB OY))
theorem tu:∀p∈([(3, .int .i64),(4, .bool),(5, .int .u8),(9, .str),(22, .slice 64),(23, .slice 69),(24, .slice 50),(26, .struct [(22,0),(23,1),(24,2)]),(27, .array 3 3),(30, .slice 75),(31, .slice 3),(32, .slice 60),(34, .struct [(3,0),(30,1),(31,2),(32,3)]),(35, .int .i64),(45, .struct [(35,0),(3,1),(3,2),(3,3)]),(47, .slice 100),(48, .slice 77),(50, .struct [(9,0),(3,1),(47,2),(47,3),(48,4)]),(54, .slice 4),(58, .struct [(3,0),(3,1)]),(60, .struct [(58,0),(3,2)]),(62, .slice 9),(64, .struct [(9,0),(62,1)]),(66, .struct [(3,0),(3,1)]),(67, .slice 132),(69, .struct [(9,0),(66,1),(66,3),(67,5)]),(70, .other),(74, .struct [(3,0),(3,1)]),(75, .slice 81),(77, .struct [(9,0),(3,1),(3,2),(3,3),(74,4),(75,6),(75,7),(9,8)]),(81, .struct [(3,0),(3,1)]),(92, .other),(96, .struct [(31,0),(31,1),(31,2)]),(100, .struct [(9,0),(66,1)]),(101, .slice 58),(114, .map 3 4),(115, .map 58 4),(132, .struct [(74,0),(3,2),(3,3),(3,4)]),(135, .other),(139, .other),(141, .other),(144, .slice 66),(146, .struct [(22,0),(23,1),(144,2),(144,3),(144,4),(4,5)]),(157, .int .u64),(158, .other),(171, .other),(176, .slice 31),(181, .int .u32),(183, .int .u64),(207, .int .u64),(211, .ptr 3),(225, .ptr 207)]:List (Nat×FC)),uW Tryz.prog p.1 p.2:=by
 simp only[acs];exact⟨Tryz.underlying3,Tryz.underlying4,Tryz.underlying5,Tryz.underlying9,Tryz.underlying22,Tryz.underlying23,Tryz.underlying24,⟨_,Tryz.underlying26,rfl⟩,Tryz.underlying27,Tryz.underlying30,Tryz.underlying31,Tryz.underlying32,⟨_,Tryz.underlying34,rfl⟩,Tryz.underlying35,⟨_,Tryz.underlying45,rfl⟩,Tryz.underlying47,Tryz.underlying48,⟨_,Tryz.underlying50,rfl⟩,Tryz.underlying54,⟨_,Tryz.underlying58,rfl⟩,⟨_,Tryz.underlying60,rfl⟩,Tryz.underlying62,⟨_,Tryz.underlying64,rfl⟩,⟨_,Tryz.underlying66,rfl⟩,Tryz.underlying67,⟨_,Tryz.underlying69,rfl⟩,⟨_,Tryz.underlying70,rfl⟩,⟨_,Tryz.underlying74,rfl⟩,Tryz.underlying75,⟨_,Tryz.underlying77,rfl⟩,⟨_,Tryz.underlying81,rfl⟩,⟨_,Tryz.underlying92,rfl⟩,⟨_,Tryz.underlying96,rfl⟩,⟨_,Tryz.underlying100,rfl⟩,Tryz.underlying101,Tryz.underlying114,Tryz.underlying115,⟨_,Tryz.underlying132,rfl⟩,⟨_,Tryz.underlying135,rfl⟩,⟨_,Tryz.underlying139,rfl⟩,⟨_,Tryz.underlying141,rfl⟩,Tryz.underlying144,⟨_,Tryz.underlying146,rfl⟩,Tryz.underlying157,⟨_,Tryz.underlying158,rfl⟩,⟨_,Tryz.underlying171,rfl⟩,Tryz.underlying176,Tryz.underlying181,Tryz.underlying183,Tryz.underlying207,Tryz.underlying211,Tryz.underlying225,λ_ h=>absurd h (by simp)⟩
theorem tr:∀p∈([(3,ae),(4, .bool),(9, .str),(22,(.slice bR)),(23,(.slice bL)),(24,(.slice aV)),(26,cC),(27,(.pair ae aa)),(30,(.slice (.slice aa))),(31,(.slice ae)),(32,(.slice af)),(34,cF),(35,ae),(45,al),(47,(.slice be)),(48,(.slice cL)),(50,aV),(58,aa),(60,af),(62,(.slice .str)),(64,bR),(66,aa),(67,(.slice fJ)),(69,bL),(74,aa),(75,(.slice aa)),(77,cL),(81,aa),(96,eA),(100,be),(132,fJ),(144,(.slice aa)),(146,aL),(207,(.int .u64))]:List (Nat×Row)),TI Tryz.prog p.1 p.2:=by
 simp only[acs];exact⟨HB,XJ,XK,Se,Sf,Sg,Si,Sj,Sk,Sl,Sm,Sp,OP,Sq,Sr,Su,Sv,OQ,Sw,Sz,SA,SB,SC,SD,SE,SF,SG,SH,SI,OR,OT,OU,OV,OW,λ_ h=>absurd h (by simp)⟩
theorem te:∀p∈([(45,al),(58,aa),(60,af),(66,aa),(81,aa)]:List (Nat×Row)),∃K d,me Tryz.prog p.1 p.2 K/\d+K=10000/\Tryz.prog.eqGuardType Tryz.prog.depth p.1=acR/\(Tryz.prog.underlying p.1).any gW=acQ:=by
 simp only[acs];exact⟨⟨2,9998,SM,rfl,by kernel_rfl,by kernel_rfl⟩,⟨2,9998,OX,rfl,by kernel_rfl,by kernel_rfl⟩,⟨3,9997,SN,rfl,by kernel_rfl,by kernel_rfl⟩,⟨2,9998,SJ,rfl,by kernel_rfl,by kernel_rfl⟩,⟨2,9998,SK,rfl,by kernel_rfl,by kernel_rfl⟩,λ_ h=>absurd h (by simp)⟩
theorem tz:∀p∈([(4,(acR, .bool))]:List (Nat×(Bool×Row))),wk Tryz.prog p.1 p.2.1 p.2.2:=by
 simp only[acs];exact⟨⟨_,by kernel_rfl,rfl⟩,λ_ h=>absurd h (by simp)⟩
theorem tk:∀t∈([58]:List TypeId),∀(em:Bool)(a b:Value)(w:World),(Instr.checkKey em 10000 t (.agg #[a,b])).run Tryz.prog w= .ok () w:=by
 simp only[acs];exact⟨λem a b w=>by kernel_rfl,λ_ h=>absurd h (by simp)⟩
def SO:aM Tryz.prog:=⟨_,_,_,_,kY tu,kY tr,kY te,λt a r h=>kY (Q:=λt p=>wk Tryz.prog t p.1 p.2) tz t (a,r) h,_,tk,[],λ_ h=>absurd h (by simp)⟩
theorem mixed:Tryz.prog.follows .mixedOrders=acQ:=by kernel_rfl
def en(l:List (CT Tryz.prog))(d p:Bool):Env Tryz.prog:=⟨SO,CT.tab l,CT.Hu,mixed,d,p⟩
abbrev Fo(f:Nat)(a b:JS)(g:cE a.rows->Option (cE b.rows)):Prop:=fH Tryz.prog f ⟨a,b,g⟩
theorem fz{f:FuncId}{fn:Func}{sg:ng}(N:Nat)(l:List (CT Tryz.prog))(a:rB)(hf:Tryz.prog.funcs[f]? =some fn)(hc:Sb fn sg=acQ:=by kernel_rfl)(yQ:∀x,sg.fn x=Mg (en l acR acR) fn.ntmps N (fn.body.getD .skip) fn.results.toList a sg.inn sg.out x:=by intro x;kernel_rfl):fH Tryz.prog f sg:=fw (en l acR acR) (N:=N) a hf hc yQ
def M.gP(N:Nat)(a0:aV.den):Option Bool:=
((if(acS (80<(a0.1.size:Int)))then
some acQ
else
(if(acS (14<(a0.2.2.1.length:Int)))then
some acQ
else
(if(acS (14<(a0.2.2.2.1.length:Int)))then
some acQ
else
some (acS (60<(a0.2.2.2.2.length:Int)))))):Option Bool).bind λj1=>
(if j1 then
some acR
else
br (J:=Unit) (R:=Bool) (Loop (S:=Int) (X:=Unit⊕Bool) (λs3=>
(if(acS (s3<(a0.2.2.1.length:Int)))then
(idx a0.2.2.1 s3).bind λx4=>
(if(acS (80<(x4.1.size:Int)))then
some (.inr (.inr acR))
else
some (.inl (aaV.wrap (s3+1))))
else
some (.inr (.inl ())))) N 0) λj2=>
br (J:=Unit) (R:=Bool) (Loop (S:=Int) (X:=Unit⊕Bool) (λs6=>
(if(acS (s6<(a0.2.2.2.1.length:Int)))then
(idx a0.2.2.2.1 s6).bind λx7=>
(if(acS (80<(x7.1.size:Int)))then
some (.inr (.inr acR))
else
some (.inl (aaV.wrap (s6+1))))
else
some (.inr (.inl ())))) N 0) λj5=>
Loop (S:=Int) (X:=Bool) (λs8=>
(if(acS (s8<(a0.2.2.2.2.length:Int)))then
(idx a0.2.2.2.2 s8).bind λx9=>
((if(acS (80<(x9.1.size:Int)))then
some acQ
else
(if(acS (80<(x9.2.2.2.2.2.2.2.size:Int)))then
some acQ
else
(if(acS (50<(x9.2.2.2.2.2.1.length:Int)))then
some acQ
else
some (acS (50<(x9.2.2.2.2.2.2.1.length:Int)))))):Option Bool).bind λpq=>
(if pq then
some (.inr acR)
else
some (.inl (aaV.wrap (s8+1))))
else
some (.inr acQ))) N 0)
theorem XL(N:Nat):Fo 21 (.i1 [.g aV]) (.i1 [.l .bool]) (M.gP N):=fz N [] (.o (.two (.mb 28 32) (.join ⟨[],[],[],32⟩ (.o (.two (.lp 3 48 .nil) .nil)) (.join ⟨[],[],[],32⟩ (.o (.two (.lp 4 48 .nil) .nil)) (.two (.o (.two (.lp 5 48 (.o (.two (.two (.o (.mb 92 240)) .nil) .nil))) .nil)) .nil))))) Tryz.func21
def M.ju(N:Nat)(a0:cC.den):Option Bool:=
((if(acS (9<(a0.1.length:Int)))then
some acQ
else
(if(acS (9<(a0.2.1.length:Int)))then
some acQ
else
some (acS (5<(a0.2.2.length:Int))))):Option Bool).bind λj1=>
(if j1 then
some acR
else
br (J:=Unit) (R:=Bool) (Loop (S:=Int) (X:=Unit⊕Bool) (λs3=>
(if(acS (s3<(a0.1.length:Int)))then
br (J:=Unit) (R:=Int⊕(Unit⊕Bool)) (((idx a0.1 s3).bind λx6=>
(if(acS (80<(x6.1.size:Int)))then
some acQ
else
(idx a0.1 s3).bind λx7=>
some (acS (20<(x7.2.length:Int)))):Option Bool).bind λj5=>
(if j5 then
some (.inr (.inr (.inr acR)))
else
Loop (S:=Int) (X:=Unit⊕(Int⊕(Unit⊕Bool))) (λs8=>
(idx a0.1 s3).bind λx9=>
(if(acS (s8<(x9.2.length:Int)))then
(idx a0.1 s3).bind λqe=>
(idx qe.2 s8).bind λsu=>
(if(acS (80<(su.size:Int)))then
some (.inr (.inr (.inr (.inr acR))))
else
some (.inl (aaV.wrap (s8+1))))
else
some (.inr (.inl ())))) N 0)) λj4=>
some (.inl (aaV.wrap (s3+1)))
else
some (.inr (.inl ())))) N 0) λj2=>
br (J:=Unit) (R:=Bool) (Loop (S:=Int×Int) (X:=Unit⊕Bool) (λCX=>
(if(acS (CX.2<(a0.2.1.length:Int)))then
(idx a0.2.1 CX.2).bind λCY=>
((idx a0.2.1 CX.2).bind λMj=>
(if(acS (80<(Mj.1.size:Int)))then
some acQ
else
some (acS (150<(aaV.wrap (CX.1+(CY.2.2.2.length:Int)))))):Option Bool).bind λHC=>
(if HC then
some (.inr (.inr acR))
else
some (.inl (aaV.wrap (CX.1+(CY.2.2.2.length:Int)),aaV.wrap (CX.2+1))))
else
some (.inr (.inl ())))) N (0,0)) λoG=>
Loop (S:=Int×Int) (X:=Bool) (λpU=>
(if(acS (pU.2<(a0.2.2.length:Int)))then
(idx a0.2.2 pU.2).bind λCZ=>
((if(acS (60<(aaV.wrap (pU.1+(CZ.2.2.2.2.length:Int)))))then
some acQ
else
(idx a0.2.2 pU.2).bind λVC=>
(M.gP N VC).bind λLj=>
some (!Lj)):Option Bool).bind λQx=>
(if Qx then
some (.inr acR)
else
some (.inl (aaV.wrap (pU.1+(CZ.2.2.2.2.length:Int)),aaV.wrap (pU.2+1))))
else
some (.inr acQ))) N (0,0))
theorem W7(N:Nat):Fo 7 (.i1 [.g cC]) (.i1 [.l .bool]) (M.ju N):=fz N [ck (XL N)] (.o (.two (.mb 24 32) (.o (.o (.join ⟨[],[],[],64⟩ (.o (.two (.lp 5 80 (.o (.join ⟨[],[],[],160⟩ (.two (.two (.mb 49 160) (.o (.two (.lp 6 176 .nil) .nil))) .nil) .nil))) .nil)) (.join ⟨[],[],[],64⟩ (.o (.two (.loop ⟨[(3, .l ae),(7, .l ae)],[],[],80⟩ (.o (.two (.two (.o (.mb 99 320)) .nil) .nil))) .nil)) (.two (.o (.two (.loop ⟨[(4, .l ae),(8, .l ae)],[],[],80⟩ (.o (.two (.two (.o (.mb 126 320)) .nil) .nil))) .nil)) .nil))))))) Tryz.func7
def M.gI(N:Nat)(a0:Int):Option Bool:=
((if(acS (97<=a0))then
some (acS (a0<=122))
else
some acR):Option Bool).bind λj1=>
some j1
theorem VD(N:Nat):Fo 89 (.i1 [.l (.int .u8)]) (.i1 [.l .bool]) (M.gI N):=fz N [] (.o (.mb 2 16)) Tryz.func89
def M.jv(N:Nat)(a0:Int):Option Bool:=
((if(acS (48<=a0))then
some (acS (a0<=57))
else
some acR):Option Bool).bind λj1=>
some j1
theorem SP(N:Nat):Fo 130 (.i1 [.l (.int .u8)]) (.i1 [.l .bool]) (M.jv N):=fz N [] (.o (.mb 2 16)) Tryz.func130
def M.fX(N:Nat)(a0:ByteArray):Option Int:=
Loop (S:=Int) (X:=Int) (λs1=>
((if(acS (s1<(a0.size:Int)))then
(iZ a0 s1).bind λx3=>
(M.gI N x3).bind λy4=>
(if y4 then
some acQ
else
(iZ a0 s1).bind λx5=>
(M.jv N x5).bind λy6=>
(if y6 then
some acQ
else
(iZ a0 s1).bind λx7=>
some (acS (x7=95))))
else
some acR):Option Bool).bind λj2=>
(if j2 then
some (.inl (aaV.wrap (s1+1)))
else
some (.inr s1))) N 0
theorem XM(N:Nat):Fo 90 (.i1 [.l .str]) (.i1 [.l ae]) (M.fX N):=fz N [ck (VD N),ck (SP N)] (.o (.o (.two (.two (.lp 3 32 (.two (.mb 25 32) .nil)) .nil) .nil))) Tryz.func90
def M.iy(N:Nat)(a0:ByteArray):Option Bool:=
((if(acS (a0=(⟨#[105,102]⟩:ByteArray)))then
some (acS (a0=(⟨#[105,102]⟩:ByteArray)))
else
(if(acS (a0=(⟨#[116,104,101,110]⟩:ByteArray)))then
some (acS (a0=(⟨#[116,104,101,110]⟩:ByteArray)))
else
(if(acS (a0=(⟨#[101,108,115,101]⟩:ByteArray)))then
some (acS (a0=(⟨#[101,108,115,101]⟩:ByteArray)))
else
(if(acS (a0=(⟨#[111,114]⟩:ByteArray)))then
some (acS (a0=(⟨#[111,114]⟩:ByteArray)))
else
(if(acS (a0=(⟨#[97,110,100]⟩:ByteArray)))then
some (acS (a0=(⟨#[97,110,100]⟩:ByteArray)))
else
(if(acS (a0=(⟨#[110,111,116]⟩:ByteArray)))then
some (acS (a0=(⟨#[110,111,116]⟩:ByteArray)))
else
(if(acS (a0=(⟨#[116,114,117,101]⟩:ByteArray)))then
some (acS (a0=(⟨#[116,114,117,101]⟩:ByteArray)))
else
(if(acS (a0=(⟨#[102,97,108,115,101]⟩:ByteArray)))then
some (acS (a0=(⟨#[102,97,108,115,101]⟩:ByteArray)))
else
(if(acS (a0=(⟨#[116,111,100,97,121]⟩:ByteArray)))then
some (acS (a0=(⟨#[116,111,100,97,121]⟩:ByteArray)))
else
(if(acS (a0=(⟨#[115,104,97,114,101]⟩:ByteArray)))then
some (acS (a0=(⟨#[115,104,97,114,101]⟩:ByteArray)))
else
(if(acS (a0=(⟨#[100,105,118]⟩:ByteArray)))then
some (acS (a0=(⟨#[100,105,118]⟩:ByteArray)))
else
(if(acS (a0=(⟨#[114,111,117,110,100]⟩:ByteArray)))then
some (acS (a0=(⟨#[114,111,117,110,100]⟩:ByteArray)))
else
(if(acS (a0=(⟨#[109,105,110]⟩:ByteArray)))then
some (acS (a0=(⟨#[109,105,110]⟩:ByteArray)))
else
(if(acS (a0=(⟨#[109,97,120]⟩:ByteArray)))then
some (acS (a0=(⟨#[109,97,120]⟩:ByteArray)))
else
(if(acS (a0=(⟨#[112,108,117,115]⟩:ByteArray)))then
some (acS (a0=(⟨#[112,108,117,115]⟩:ByteArray)))
else
(if(acS (a0=(⟨#[109,111,110,116,104,115]⟩:ByteArray)))then
some (acS (a0=(⟨#[109,111,110,116,104,115]⟩:ByteArray)))
else
(if(acS (a0=(⟨#[100,97,121,115]⟩:ByteArray)))then
some (acS (a0=(⟨#[100,97,121,115]⟩:ByteArray)))
else
(if(acS (a0=(⟨#[121,101,97,114,115]⟩:ByteArray)))then
some (acS (a0=(⟨#[121,101,97,114,115]⟩:ByteArray)))
else
(if(acS (a0=(⟨#[121,101,97,114]⟩:ByteArray)))then
some (acS (a0=(⟨#[121,101,97,114]⟩:ByteArray)))
else
(if(acS (a0=(⟨#[109,111,110,116,104]⟩:ByteArray)))then
some (acS (a0=(⟨#[109,111,110,116,104]⟩:ByteArray)))
else
(if(acS (a0=(⟨#[116,97,98]⟩:ByteArray)))then
some (acS (a0=(⟨#[116,97,98]⟩:ByteArray)))
else
(if(acS (a0=(⟨#[98,97,110,100]⟩:ByteArray)))then
some (acS (a0=(⟨#[98,97,110,100]⟩:ByteArray)))
else
(if(acS (a0=(⟨#[99,111,117,110,116]⟩:ByteArray)))then
some (acS (a0=(⟨#[99,111,117,110,116]⟩:ByteArray)))
else
(if(acS (a0=(⟨#[115,117,109]⟩:ByteArray)))then
some (acS (a0=(⟨#[115,117,109]⟩:ByteArray)))
else
(if(acS (a0=(⟨#[97,108,108]⟩:ByteArray)))then
some (acS (a0=(⟨#[97,108,108]⟩:ByteArray)))
else
(if(acS (a0=(⟨#[97,110,121]⟩:ByteArray)))then
some (acS (a0=(⟨#[97,110,121]⟩:ByteArray)))
else
(if(acS (a0=(⟨#[109,111,115,116]⟩:ByteArray)))then
some (acS (a0=(⟨#[109,111,115,116]⟩:ByteArray)))
else
(if(acS (a0=(⟨#[101,110,117,109]⟩:ByteArray)))then
some (acS (a0=(⟨#[101,110,117,109]⟩:ByteArray)))
else
(if(acS (a0=(⟨#[116,97,98,108,101]⟩:ByteArray)))then
some (acS (a0=(⟨#[116,97,98,108,101]⟩:ByteArray)))
else
(if(acS (a0=(⟨#[114,111,119]⟩:ByteArray)))then
some (acS (a0=(⟨#[114,111,119]⟩:ByteArray)))
else
(if(acS (a0=(⟨#[115,99,111,112,101]⟩:ByteArray)))then
some (acS (a0=(⟨#[115,99,111,112,101]⟩:ByteArray)))
else
(if(acS (a0=(⟨#[109,101,109,98,101,114,115]⟩:ByteArray)))then
some (acS (a0=(⟨#[109,101,109,98,101,114,115]⟩:ByteArray)))
else
(if(acS (a0=(⟨#[105,110,112,117,116]⟩:ByteArray)))then
some (acS (a0=(⟨#[105,110,112,117,116]⟩:ByteArray)))
else
(if(acS (a0=(⟨#[100,101,102]⟩:ByteArray)))then
some (acS (a0=(⟨#[100,101,102]⟩:ByteArray)))
else
(if(acS (a0=(⟨#[114,117,108,101]⟩:ByteArray)))then
some (acS (a0=(⟨#[114,117,108,101]⟩:ByteArray)))
else
(if(acS (a0=(⟨#[111,102]⟩:ByteArray)))then
some (acS (a0=(⟨#[111,102]⟩:ByteArray)))
else
(if(acS (a0=(⟨#[111,118,101,114]⟩:ByteArray)))then
some (acS (a0=(⟨#[111,118,101,114]⟩:ByteArray)))
else
(if(acS (a0=(⟨#[112,114,105,111]⟩:ByteArray)))then
some (acS (a0=(⟨#[112,114,105,111]⟩:ByteArray)))
else
(if(acS (a0=(⟨#[102,114,111,109]⟩:ByteArray)))then
some (acS (a0=(⟨#[102,114,111,109]⟩:ByteArray)))
else
(if(acS (a0=(⟨#[116,111]⟩:ByteArray)))then
some (acS (a0=(⟨#[116,111]⟩:ByteArray)))
else
(if(acS (a0=(⟨#[101,110,100]⟩:ByteArray)))then
some (acS (a0=(⟨#[101,110,100]⟩:ByteArray)))
else
(if(acS (a0=(⟨#[119,104,101,110]⟩:ByteArray)))then
some (acS (a0=(⟨#[119,104,101,110]⟩:ByteArray)))
else
(if(acS (a0=(⟨#[105,115]⟩:ByteArray)))then
some (acS (a0=(⟨#[105,115]⟩:ByteArray)))
else
(if(acS (a0=(⟨#[115,114,99]⟩:ByteArray)))then
some (acS (a0=(⟨#[115,114,99]⟩:ByteArray)))
else
(if(acS (a0=(⟨#[98,111,111,108]⟩:ByteArray)))then
some (acS (a0=(⟨#[98,111,111,108]⟩:ByteArray)))
else
(if(acS (a0=(⟨#[105,110,116]⟩:ByteArray)))then
some (acS (a0=(⟨#[105,110,116]⟩:ByteArray)))
else
(if(acS (a0=(⟨#[109,111,110,101,121]⟩:ByteArray)))then
some (acS (a0=(⟨#[109,111,110,101,121]⟩:ByteArray)))
else
(if(acS (a0=(⟨#[114,97,116,101]⟩:ByteArray)))then
some (acS (a0=(⟨#[114,97,116,101]⟩:ByteArray)))
else
(if(acS (a0=(⟨#[100,97,116,101]⟩:ByteArray)))then
some (acS (a0=(⟨#[100,97,116,101]⟩:ByteArray)))
else
(if(acS (a0=(⟨#[100,111,119,110]⟩:ByteArray)))then
some (acS (a0=(⟨#[100,111,119,110]⟩:ByteArray)))
else
(if(acS (a0=(⟨#[117,112]⟩:ByteArray)))then
some (acS (a0=(⟨#[117,112]⟩:ByteArray)))
else
(if(acS (a0=(⟨#[122,101,114,111]⟩:ByteArray)))then
some (acS (a0=(⟨#[122,101,114,111]⟩:ByteArray)))
else
(if(acS (a0=(⟨#[97,119,97,121]⟩:ByteArray)))then
some (acS (a0=(⟨#[97,119,97,121]⟩:ByteArray)))
else
(if(acS (a0=(⟨#[104,97,108,102]⟩:ByteArray)))then
some (acS (a0=(⟨#[104,97,108,102]⟩:ByteArray)))
else
some (acS (a0=(⟨#[101,118,101,110]⟩:ByteArray))))))))))))))))))))))))))))))))))))))))))))))))))))))))):Option Bool).bind λj1=>
(if j1 then
some acQ
else
some acR)
theorem XN(N:Nat):Fo 91 (.i1 [.l .str]) (.i1 [.l .bool]) (M.iy N):=fz N [] (.o (.two (.o (.two (.mb 4 32) .nil)) .nil)) Tryz.func91
def M.bB(N:Nat)(a0:ByteArray):Option Bool:=
((if(!acS (a0=(⟨#[]⟩:ByteArray)))then
(iZ a0 0).bind λx2=>
(M.gI N x2).bind λy3=>
(if y3 then
(M.fX N a0).bind λy4=>
(if(acS (y4=(a0.size:Int)))then
(if(acS ((a0.size:Int)<=16))then
(M.iy N a0).bind λy5=>
some (!y5)
else
some acR)
else
some acR)
else
some acR)
else
some acR):Option Bool).bind λj1=>
some j1
theorem OZ(N:Nat):Fo 61 (.i1 [.l .str]) (.i1 [.l .bool]) (M.bB N):=fz N [ck (VD N),ck (XM N),ck (XN N)] (.o (.mb 2 16)) Tryz.func61
def M.iz(N:Nat)(a0:bR.den)(a1:ByteArray):Option (Bool×ByteArray):=
some (acS (a0.1=a1),a1)
theorem O0(N:Nat):Fo 93 (.j1 [.g bR, .ptr 0 [] 0] [.box 9 (.leaf .str)] 1) (.j1 [.l .bool] [.box 9 (.leaf .str)] 2) (u2 (M.iz N)):=fz N [] .nil Tryz.func93
def M.aX(N:Nat)(a0:List bR.den)(a1:ByteArray):Option (Int×ByteArray):=
Loop (S:=Int×ByteArray) (X:=Int×ByteArray) (λs1=>
(if(acS (s1.1<(a0.length:Int)))then
(idx a0 s1.1).bind λx2=>
(M.iz N x2 s1.2).bind λy3=>
(if y3.1 then
some (.inr (s1.1,y3.2))
else
some (.inl (aaV.wrap (s1.1+1),y3.2)))
else
some (.inr ((-1),s1.2)))) N (0,a1)
theorem Mk(N:Nat):Fo 131 (.j1 [.l (.slice bR), .fn 93 [(0,[],0)]] [.box 9 (.leaf .str)] 1) (.j1 [.l ae] [.box 9 (.leaf .str)] 2) (u2 (M.aX N)):=fz N [ck (O0 N)] (.o (.two (.o (.two (.loop ⟨[(8, .l ae)],[(0, .box 9 (.leaf .str))],[],66⟩ .nil) .nil)) .nil)) Tryz.func131
def M.bl(N:Nat)(a0:List bR.den)(a1:ByteArray):Option (Bool×ByteArray):=
(M.aX N a0 a1).bind λy1=>
some (acS (0<=y1.1),y1.2)
theorem O1(N:Nat):Fo 92 (.j1 [.l (.slice bR), .fn 93 [(0,[],0)]] [.box 9 (.leaf .str)] 1) (.j1 [.l .bool] [.box 9 (.leaf .str)] 2) (u2 (M.bl N)):=fz N [ck (Mk N)] .nil Tryz.func92
def M.fK(N:Nat)(a0:List bR.den)(a1:ByteArray):Option Bool:=
(M.bl N a0 a1).bind λy1=>
some y1.1
theorem SQ(N:Nat):Fo 62 (.i1 [.l (.slice bR), .l .str]) (.i1 [.l .bool]) (u2 (M.fK N)):=fz N [ck (O1 N)] .nil Tryz.func62
def M.cN(N:Nat)(a0:List ByteArray)(a1:ByteArray):Option Int:=
Loop (S:=Int) (X:=Int) (λs1=>
(if(acS (s1<(a0.length:Int)))then
(idx a0 s1).bind λx2=>
(if(acS (a1=x2))then
some (.inr s1)
else
some (.inl (aaV.wrap (s1+1))))
else
some (.inr (-1)))) N 0
theorem SR(N:Nat):Fo 128 (.i1 [.l (.slice .str), .l .str]) (.i1 [.l ae]) (u2 (M.cN N)):=fz N [] (.o (.two (.o (.two (.lp 8 64 .nil) .nil)) .nil)) Tryz.func128
def M.cx(N:Nat)(a0:List ByteArray)(a1:ByteArray):Option Bool:=
(M.cN N a0 a1).bind λy1=>
some (acS (0<=y1))
theorem XO(N:Nat):Fo 83 (.i1 [.l (.slice .str), .l .str]) (.i1 [.l .bool]) (u2 (M.cx N)):=fz N [ck (SR N)] .nil Tryz.func83
def M.jw(N:Nat)(a0:cC.den)(a1:Int)(a2:bR.den):Option (Int×Int):=
(M.bB N a2.1).bind λy1=>
(if(!y1)then
some (2,0)
else
(dX a0.1 0 a1).bind λl2=>
(M.fK N l2 a2.1).bind λy3=>
(if y3 then
some (7,0)
else
(if(acS ((a2.2.length:Int)=0))then
some (5,0)
else
(if(acS (16<(a2.2.length:Int)))then
some (4,116)
else
Loop (S:=Int) (X:=Int×Int) (λs4=>
(if(acS (s4<(a2.2.length:Int)))then
(idx a2.2 s4).bind λx5=>
(M.bB N x5).bind λy6=>
(if(!y6)then
some (.inr (2,aaV.wrap (100+s4)))
else
(dX a2.2 0 s4).bind λl7=>
(M.cx N l7 x5).bind λy8=>
(if y8 then
some (.inr (7,aaV.wrap (100+s4)))
else
some (.inl (aaV.wrap (s4+1)))))
else
some (.inr (0,0)))) N 0))))
theorem XP(N:Nat):Fo 59 (.i1 [.g cC, .l ae, .g bR]) (.i1 [.l ae, .l ae]) (u3 (M.jw N)):=fz N [ck (OZ N),ck (SQ N),ck (XO N)] (.o (.o (.two (.o (.two (.lp 36 496 .nil) .nil)) .nil))) Tryz.func59
def M.iA(N:Nat)(a0:cC.den):Option (al.den):=
(if(acS (8<(a0.1.length:Int)))then
some (4,(1,(8,0)))
else
br (J:=Unit) (R:=al.den) (Loop (S:=Int) (X:=Unit⊕(al.den)) (λs2=>
(if(acS (s2<(a0.1.length:Int)))then
(idx a0.1 s2).bind λx3=>
(M.jw N a0 s2 x3).bind λy4=>
(if(!acS (y4.1=0))then
some (.inr (.inr (y4.1,(1,(s2,y4.2)))))
else
some (.inl (aaV.wrap (s2+1))))
else
some (.inr (.inl ())))) N 0) λj1=>
some (0,(0,(0,0))))
theorem XQ(N:Nat):Fo 37 (.i1 [.g cC]) (.i1 [.g al]) (M.iA N):=fz N [ck (XP N)] (.o (.o (.join ⟨[],[],[],96⟩ (.o (.two (.lp 15 160 .nil) .nil)) .nil))) Tryz.func37
def M.dL(N:Nat)(a0:aa.den):Option Bool:=
((if(acS (0<=a0.1))then
(if(acS (a0.1<=a0.2))then
some (acS (a0.2<=109573))
else
some acR)
else
some acR):Option Bool).bind λj1=>
some j1
theorem SU(N:Nat):Fo 65 (.i1 [.g aa]) (.i1 [.l .bool]) (M.dL N):=fz N [] (.o (.mb 2 32)) Tryz.func65
def M.b7(N:Nat)(a0:aa.den)(a1:List bR.den):Option Bool:=
((if(acS (a0.1=1))then
some (acS (a0.1=1))
else
(if(acS (a0.1=2))then
some (acS (a0.1=2))
else
(if(acS (a0.1=3))then
some (acS (a0.1=3))
else
(if(acS (a0.1=4))then
some (acS (a0.1=4))
else
some (acS (a0.1=5)))))):Option Bool).bind λj1=>
(if j1 then
some (acS (a0.2=0))
else
(if(acS (a0.1=6))then
((if(acS (0<=a0.2))then
some (acS (a0.2<(a1.length:Int)))
else
some acR):Option Bool).bind λj2=>
some j2
else
some acR))
theorem O2(N:Nat):Fo 84 (.i1 [.g aa, .l (.slice bR)]) (.i1 [.l .bool]) (u2 (M.b7 N)):=fz N [] (.o (.two (.o (.two (.meet ⟨[(7, .l .bool)],[],[],64⟩ .nil (.o (.o (.two (.mb 4 96) .nil)))) .nil)) .nil)) Tryz.func84
def M.fY(N:Nat)(a0:aa.den)(a1:List bR.den):Option (Int×Int):=
(M.b7 N a0 a1).bind λy1=>
(if(!y1)then
some (0,(-1))
else
(if(acS (a0.1=1))then
some (0,1)
else
(if(acS (a0.1=2))then
some ((-1000000000000),1000000000000)
else
(if(acS (a0.1=3))then
some ((-1000000000000000),1000000000000000)
else
(if(acS (a0.1=4))then
some ((-1000000000),1000000000)
else
(if(acS (a0.1=5))then
some (0,109572)
else
(idx a1 a0.2).bind λx2=>
some (0,aaV.wrap ((x2.2.length:Int)-1))))))))
theorem VE(N:Nat):Fo 85 (.i1 [.g aa, .l (.slice bR)]) (.i1 [.l ae, .l ae]) (u2 (M.fY N)):=fz N [ck (O2 N)] .nil Tryz.func85
def M.fu(N:Nat)(a0:aa.den):Option Bool:=
((M.dL N a0).bind λy2=>
(if y2 then
some (acS (a0.1<a0.2))
else
some acR):Option Bool).bind λj1=>
some j1
theorem SV(N:Nat):Fo 157 (.i1 [.g aa]) (.i1 [.l .bool]) (M.fu N):=fz N [ck (SU N)] (.o (.mb 2 32)) Tryz.func157
def M.gB(N:Nat)(a0:aa.den)(a1:aa.den):Option (aa.den×Bool):=
((M.fu N a0).bind λy2=>
(if(!y2)then
some acQ
else
(M.fu N a1).bind λy3=>
some (!y3)):Option Bool).bind λj1=>
(if j1 then
some ((0,0),acR)
else
(if(acS ((if a1.2<a0.2 then a1.2 else a0.2)<=(if a0.1<a1.1 then a1.1 else a0.1)))then
some ((0,0),acR)
else
some ((if a0.1<a1.1 then a1.1 else a0.1,if a1.2<a0.2 then a1.2 else a0.2),acQ)))
theorem SX(N:Nat):Fo 129 (.i1 [.g aa, .g aa]) (.i1 [.g aa, .l .bool]) (u2 (M.gB N)):=fz N [ck (SV N)] (.o (.two (.mb 14 64) .nil)) Tryz.func129
def M.iB(N:Nat)(a0:fJ.den)(a1:fJ.den):Option Bool:=
(M.gB N a0.1 a1.1).bind λy1=>
((if y1.2 then
some (acS ((if a0.2.1<a1.2.1 then a1.2.1 else a0.2.1)<(if a1.2.2.1<a0.2.2.1 then a1.2.2.1 else a0.2.2.1)))
else
some acR):Option Bool).bind λj2=>
some j2
theorem XR(N:Nat):Fo 88 (.i1 [.g fJ, .g fJ]) (.i1 [.l .bool]) (u2 (M.iB N)):=fz N [ck (SX N)] (.o (.o (.mb 4 224))) Tryz.func88
def M.fL(N:Nat)(a0:fJ.den)(a1:fJ.den):Option (Bool×fJ.den):=
(M.iB N a0 a1).bind λy1=>
some (y1,a1)
theorem O4(N:Nat):Fo 87 (.j1 [.g fJ, .ptr 0 [] 0] [.box 132 (.leaf fJ)] 1) (.j1 [.l .bool] [.box 132 (.leaf fJ)] 2) (u2 (M.fL N)):=fz N [ck (XR N)] .nil Tryz.func87
def M.bw(N:Nat)(a0:List fJ.den)(a1:fJ.den):Option (Int×Bool×fJ.den):=
Loop (S:=Int×fJ.den) (X:=Int×Bool×fJ.den) (λs1=>
(if(acS (s1.1<(a0.length:Int)))then
(idx a0 s1.1).bind λx2=>
(M.fL N x2 s1.2).bind λy3=>
(if y3.1 then
some (.inr (s1.1,acQ,y3.2))
else
some (.inl (aaV.wrap (s1.1+1),y3.2)))
else
some (.inr (0,acR,s1.2)))) N (0,a1)
theorem O5(N:Nat):Fo 86 (.j1 [.l (.slice fJ), .fn 87 [(0,[],0)]] [.box 132 (.leaf fJ)] 1) (.j1 [.l ae, .l .bool] [.box 132 (.leaf fJ)] 2) (u2 (M.bw N)):=fz N [ck (O4 N)] (.o (.two (.o (.two (.loop ⟨[(10, .l ae)],[(0, .box 132 (.leaf fJ))],[],82⟩ .nil) .nil)) .nil)) Tryz.func86
def M.iC(N:Nat)(a0:bL.den)(a1:List bR.den):Option (Int×Int):=
(if(acS (64<(a0.2.2.2.length:Int)))then
some (64,4)
else
((M.b7 N a0.2.1 a1).bind λy2=>
(if(!y2)then
some acQ
else
(M.b7 N a0.2.2.1 a1).bind λy3=>
some (!y3)):Option Bool).bind λj1=>
(if j1 then
some ((-1),8)
else
(M.fY N a0.2.1 a1).bind λy4=>
(M.fY N a0.2.2.1 a1).bind λy5=>
Loop (S:=Int) (X:=Int×Int) (λs6=>
(if(acS (s6<(a0.2.2.2.length:Int)))then
(idx a0.2.2.2 s6).bind λx7=>
((M.dL N x7.1).bind λy9=>
(if(!y9)then
some acQ
else
(if(acS (x7.1.1=x7.1.2))then
some acQ
else
some (acS (x7.2.2.1<=x7.2.1)))):Option Bool).bind λj8=>
(if j8 then
some (.inr (s6,3))
else
((if(acS (x7.2.1<y4.1))then
some acQ
else
(if(acS (y4.2<x7.2.1))then
some acQ
else
(if(acS ((aaV.wrap (x7.2.2.1-1))<y4.1))then
some acQ
else
some (acS (y4.2<(aaV.wrap (x7.2.2.1-1))))))):Option Bool).bind λpq=>
(if pq then
some (.inr (s6,3))
else
((if(acS (x7.2.2.2<y5.1))then
some acQ
else
some (acS (y5.2<x7.2.2.2))):Option Bool).bind λvJ=>
(if vJ then
some (.inr (s6,3))
else
(dX a0.2.2.2 0 s6).bind λC0=>
(M.bw N C0 x7).bind λHD=>
(if HD.2.1 then
some (.inr (s6,11))
else
some (.inl (aaV.wrap (s6+1)))))))
else
some (.inr (0,0)))) N 0))
theorem XS(N:Nat):Fo 60 (.i1 [.g bL, .l (.slice bR)]) (.i1 [.l ae, .l ae]) (u2 (M.iC N)):=fz N [ck (SU N),ck (O2 N),ck (VE N),ck (O5 N)] (.o (.o (.two (.mb 29 112) (.o (.o (.two (.o (.two (.lp 47 464 (.o (.o (.two (.two (.o (.two (.mb 71 576) (.two (.mb 96 576) (.two (.mb 107 576) .nil)))) .nil) .nil)))) .nil)) .nil)))))) Tryz.func60
def M.gZ(N:Nat)(a0:bL.den)(a1:ByteArray):Option (Bool×ByteArray):=
some (acS (a0.1=a1),a1)
theorem O6(N:Nat):Fo 95 (.j1 [.g bL, .ptr 0 [] 0] [.box 9 (.leaf .str)] 1) (.j1 [.l .bool] [.box 9 (.leaf .str)] 2) (u2 (M.gZ N)):=fz N [] .nil Tryz.func95
def M.aS(N:Nat)(a0:List bL.den)(a1:ByteArray):Option (Int×ByteArray):=
Loop (S:=Int×ByteArray) (X:=Int×ByteArray) (λs1=>
(if(acS (s1.1<(a0.length:Int)))then
(idx a0 s1.1).bind λx2=>
(M.gZ N x2 s1.2).bind λy3=>
(if y3.1 then
some (.inr (s1.1,y3.2))
else
some (.inl (aaV.wrap (s1.1+1),y3.2)))
else
some (.inr ((-1),s1.2)))) N (0,a1)
theorem Ml(N:Nat):Fo 132 (.j1 [.l (.slice bL), .fn 95 [(0,[],0)]] [.box 9 (.leaf .str)] 1) (.j1 [.l ae] [.box 9 (.leaf .str)] 2) (u2 (M.aS N)):=fz N [ck (O6 N)] (.o (.two (.o (.two (.loop ⟨[(8, .l ae)],[(0, .box 9 (.leaf .str))],[],66⟩ .nil) .nil)) .nil)) Tryz.func132
def M.bf(N:Nat)(a0:List bL.den)(a1:ByteArray):Option (Bool×ByteArray):=
(M.aS N a0 a1).bind λy1=>
some (acS (0<=y1.1),y1.2)
theorem O7(N:Nat):Fo 94 (.j1 [.l (.slice bL), .fn 95 [(0,[],0)]] [.box 9 (.leaf .str)] 1) (.j1 [.l .bool] [.box 9 (.leaf .str)] 2) (u2 (M.bf N)):=fz N [ck (Ml N)] .nil Tryz.func94
def M.fZ(N:Nat)(a0:List bL.den)(a1:ByteArray):Option Bool:=
(M.bf N a0 a1).bind λy1=>
some y1.1
theorem VF(N:Nat):Fo 63 (.i1 [.l (.slice bL), .l .str]) (.i1 [.l .bool]) (u2 (M.fZ N)):=fz N [ck (O7 N)] .nil Tryz.func63
def M.gQ(N:Nat)(a0:cC.den):Option (al.den):=
(if(acS (8<(a0.2.1.length:Int)))then
some (4,(2,(8,0)))
else
br (J:=Unit) (R:=al.den) (Loop (S:=Int) (X:=Unit⊕(al.den)) (λs2=>
(if(acS (s2<(a0.2.1.length:Int)))then
(idx a0.2.1 s2).bind λx3=>
(M.iC N x3 a0.1).bind λy4=>
((M.bB N x3.1).bind λy6=>
(if(!y6)then
some (2,(2,(s2,0)))
else
((M.fK N a0.1 x3.1).bind λy8=>
(if y8 then
some acQ
else
(dX a0.2.1 0 s2).bind λl9=>
(M.fZ N l9 x3.1).bind λHE=>
some HE):Option Bool).bind λj7=>
(if j7 then
some (7,(2,(s2,0)))
else
(if(!acS (y4.2=0))then
(if(!acS (y4.1=(-1)))then
some (y4.2,(2,(s2,aaV.wrap (100+y4.1))))
else
some (y4.2,(2,(s2,0))))
else
some (0,(2,(s2,0)))))):Option (al.den)).bind λj5=>
(if(!acS (j5.1=0))then
some (.inr (.inr j5))
else
some (.inl (aaV.wrap (s2+1))))
else
some (.inr (.inl ())))) N 0) λj1=>
some (0,(0,(0,0))))
theorem XT(N:Nat):Fo 38 (.i1 [.g cC]) (.i1 [.g al]) (M.gQ N):=fz N [ck (XS N),ck (OZ N),ck (SQ N),ck (VF N)] (.o (.o (.join ⟨[],[],[],96⟩ (.o (.two (.lp 16 160 (.o (.o (.two (.two (.o (.o (.o (.two (.meet ⟨[],[(304, .box 45 (.leaf al))],[],481⟩ (.o (.o (.mb 36 560))) .nil) .nil)))) .nil) .nil)))) .nil)) .nil))) Tryz.func38
def M.fM(N:Nat)(a0:be.den)(a1:be.den):Option (Bool×be.den):=
some (acS (a0.1=a1.1),a1)
theorem Mm(N:Nat):Fo 134 (.j1 [.g be, .ptr 0 [] 0] [.box 100 (.leaf be)] 1) (.j1 [.l .bool] [.box 100 (.leaf be)] 2) (u2 (M.fM N)):=fz N [] .nil Tryz.func134
def M.aT(N:Nat)(a0:List be.den)(a1:be.den):Option (Int×be.den):=
Loop (S:=Int×be.den) (X:=Int×be.den) (λs1=>
(if(acS (s1.1<(a0.length:Int)))then
(idx a0 s1.1).bind λx2=>
(M.fM N x2 s1.2).bind λy3=>
(if y3.1 then
some (.inr (s1.1,y3.2))
else
some (.inl (aaV.wrap (s1.1+1),y3.2)))
else
some (.inr ((-1),s1.2)))) N (0,a1)
theorem Mn(N:Nat):Fo 158 (.j1 [.l (.slice be), .fn 134 [(0,[],0)]] [.box 100 (.leaf be)] 1) (.j1 [.l ae] [.box 100 (.leaf be)] 2) (u2 (M.aT N)):=fz N [ck (Mm N)] (.o (.two (.o (.two (.loop ⟨[(8, .l ae)],[(0, .box 100 (.leaf be))],[],66⟩ .nil) .nil)) .nil)) Tryz.func158
def M.aD(N:Nat)(a0:List be.den)(a1:be.den):Option (Bool×be.den):=
(M.aT N a0 a1).bind λy1=>
some (acS (0<=y1.1),y1.2)
theorem Mo(N:Nat):Fo 135 (.j1 [.l (.slice be), .fn 134 [(0,[],0)]] [.box 100 (.leaf be)] 1) (.j1 [.l .bool] [.box 100 (.leaf be)] 2) (u2 (M.aD N)):=fz N [ck (Mn N)] .nil Tryz.func135
def M.fN(N:Nat)(a0:cC.den)(a1:be.den)(a2:List be.den)(a3:List be.den):Option Int:=
(M.bB N a1.1).bind λy1=>
(if(!y1)then
some 2
else
((M.aD N a2 a1).bind λy3=>
(if y3.1 then
some (acQ,y3.2)
else
(M.aD N a3 y3.2).bind λy4=>
some (y4.1,y4.2)):Option (Bool×be.den)).bind λj2=>
(if j2.1 then
some 7
else
(M.b7 N j2.2.2 a0.1).bind λy5=>
(if(!y5)then
some 8
else
some 0)))
theorem XU(N:Nat):Fo 98 (.i1 [.g cC, .g be, .l (.slice be), .l (.slice be)]) (.i1 [.l ae]) (u4 (M.fN N)):=fz N [ck (OZ N),ck (O2 N),ck (Mo N)] (.o (.o (.two (.two (.o (.o (.meet ⟨[(16, .l .bool)],[(16, .box 100 (.leaf be))],[],161⟩ .nil .nil))) .nil) .nil))) Tryz.func98
def M.iD(N:Nat)(a0:List be.den):Option (List aa.den):=
Loop (S:=Int×List aa.den) (X:=List aa.den) (λs1=>
(if(acS (s1.1<(a0.length:Int)))then
(idx a0 s1.1).bind λx2=>
(bK s1.2 ([x2.2]:List aa.den)).bind λl3=>
some (.inl (aaV.wrap (s1.1+1),l3))
else
some (.inr s1.2))) N (0,([]:List aa.den))
theorem SY(N:Nat):Fo 136 (.i1 [.l (.slice be)]) (.w1 66 aa) (M.iD N):=fz N [] (.o (.o (.two (.o (.two (.loop ⟨[(3, .val acR (.own 80)),(8, .l ae)],[(80, .own 66 aa)],[],81⟩ .nil) .nil)) .nil))) Tryz.func136
def M.gC(N:Nat)(a0:cC.den)(a1:Int):Option ((List bR.den)×(List bL.den)×Bool×(List aa.den)×(List aa.den)×List aa.den):=
(idx a0.2.2 a1).bind λx1=>
(M.iD N x1.2.2.1).bind λy2=>
(M.iD N x1.2.2.2.1).bind λy3=>
(((if(acS (0<=x1.2.1))then
some (acS (x1.2.1<(a0.2.2.length:Int)))
else
some acR):Option Bool).bind λj5=>
(if j5 then
(idx a0.2.2 x1.2.1).bind λx6=>
(M.iD N x6.2.2.2.1).bind λy7=>
some (y2,y3,a0.1,a0.2.1,acQ,y7)
else
some (y2,y3,a0.1,a0.2.1,acR,([]:List aa.den))):Option ((List aa.den)×(List aa.den)×(List bR.den)×(List bL.den)×Bool×List aa.den)).bind λj4=>
some (j4.2.2.1,j4.2.2.2.1,j4.2.2.2.2.1,j4.1,j4.2.1,j4.2.2.2.2.2)
theorem XV(N:Nat):Fo 99 (.i1 [.g cC, .l ae]) (.j1 [.val acQ (.pair (.leaf (.slice bR)) (.pair (.leaf (.slice bL)) (.pair (.own 0) (.pair (.own 1) (.pair (.own 2) (.leaf .bool))))))] [.own 66 aa, .own 66 aa, .own 66 aa] 3) (u2 (M.gC N)):=fz N [ck (SY N)] (.o (.o (.o (.meet ⟨[],[(240, .own 66 aa),(288, .own 66 aa),(320, .box 146 (.pair (.leaf (.slice bR)) (.pair (.leaf (.slice bL)) (.pair (.own 240) (.pair (.own 288) (.pair (.own 352) (.leaf .bool))))))),(352, .own 66 aa)],[],356⟩ (.mb 33 352) .nil)))) Tryz.func99
def M.strings_Contains(N:Nat)(a0:ByteArray)(a1:ByteArray):Option Bool:=oi (a0,a1)
def SZ(N:Nat):ng:=⟨.i1 [.l .str, .l .str], .i1 [.l .bool],u2 (M.strings_Contains N)⟩
theorem S0(N:Nat):fH Tryz.prog 160 (SZ N):=zr ⟨_,Tryz.func160,by kernel_rfl,by kernel_rfl⟩ Tryz.strings_Contains_one
def M.gR(N:Nat)(a0:ByteArray):Option Bool:=
((if(acS (64<(a0.size:Int)))then
some acQ
else
(M.strings_Contains N a0 (⟨#[34]⟩:ByteArray)).bind λy2=>
some y2):Option Bool).bind λj1=>
(if j1 then
some acR
else
Loop (S:=Int) (X:=Bool) (λs3=>
(if(acS (s3<(a0.size:Int)))then
((iZ a0 s3).bind λx5=>
(if(acS (x5<32))then
some acQ
else
(iZ a0 s3).bind λx6=>
some (acS (126<x6))):Option Bool).bind λj4=>
(if j4 then
some (.inr acR)
else
some (.inl (aaV.wrap (s3+1))))
else
some (.inr acQ))) N 0)
theorem S3(N:Nat):Fo 139 (.i1 [.l .str]) (.i1 [.l .bool]) (M.gR N):=fz N [ck (S0 N)] (.o (.two (.mb 10 16) (.two (.o (.two (.lp 13 64 (.o (.o (.two (.two (.o (.mb 25 112)) .nil) .nil)))) .nil)) .nil))) Tryz.func139
def M.kM(N:Nat)(a0:Int):Option Int:=
((if(acS (a0=1))then
some (acS (a0=1))
else
(if(acS (a0=2))then
some (acS (a0=2))
else
(if(acS (a0=3))then
some (acS (a0=3))
else
(if(acS (a0=4))then
some (acS (a0=4))
else
(if(acS (a0=5))then
some (acS (a0=5))
else
(if(acS (a0=6))then
some (acS (a0=6))
else
(if(acS (a0=7))then
some (acS (a0=7))
else
(if(acS (a0=8))then
some (acS (a0=8))
else
(if(acS (a0=9))then
some (acS (a0=9))
else
(if(acS (a0=35))then
some (acS (a0=35))
else
(if(acS (a0=36))then
some (acS (a0=36))
else
(if(acS (a0=37))then
some (acS (a0=37))
else
(if(acS (a0=38))then
some (acS (a0=38))
else
some (acS (a0=39))))))))))))))):Option Bool).bind λj1=>
(if j1 then
some 0
else
((if(acS (a0=10))then
some (acS (a0=10))
else
(if(acS (a0=25))then
some (acS (a0=25))
else
(if(acS (a0=31))then
some (acS (a0=31))
else
(if(acS (a0=32))then
some (acS (a0=32))
else
(if(acS (a0=33))then
some (acS (a0=33))
else
some (acS (a0=34))))))):Option Bool).bind λj2=>
(if j2 then
some 1
else
((if(acS (a0=11))then
some (acS (a0=11))
else
(if(acS (a0=12))then
some (acS (a0=12))
else
(if(acS (a0=13))then
some (acS (a0=13))
else
(if(acS (a0=14))then
some (acS (a0=14))
else
(if(acS (a0=15))then
some (acS (a0=15))
else
(if(acS (a0=16))then
some (acS (a0=16))
else
(if(acS (a0=17))then
some (acS (a0=17))
else
(if(acS (a0=18))then
some (acS (a0=18))
else
(if(acS (a0=19))then
some (acS (a0=19))
else
(if(acS (a0=20))then
some (acS (a0=20))
else
(if(acS (a0=21))then
some (acS (a0=21))
else
(if(acS (a0=22))then
some (acS (a0=22))
else
(if(acS (a0=23))then
some (acS (a0=23))
else
(if(acS (a0=24))then
some (acS (a0=24))
else
(if(acS (a0=27))then
some (acS (a0=27))
else
(if(acS (a0=28))then
some (acS (a0=28))
else
(if(acS (a0=29))then
some (acS (a0=29))
else
some (acS (a0=30))))))))))))))))))):Option Bool).bind λj3=>
(if j3 then
some 2
else
(if(acS (a0=26))then
some 3
else
some (-1)))))
theorem O8(N:Nat):Fo 182 (.i1 [.l ae]) (.i1 [.l ae]) (M.kM N):=fz N [] (.o (.two (.o (.two (.meet ⟨[(4, .l .bool)],[],[],32⟩ .nil (.o (.meet ⟨[(19, .l .bool)],[],[],32⟩ .nil (.o (.mb 26 32))))) .nil)) .nil)) Tryz.func182
def M.iE(N:Nat)(a0:List aa.den):Option (Int×Int×List Int):=
(if(acS (48<(a0.length:Int)))then
some (0,4,([]:List Int))
else
(if(acS ((a0.length:Int)=0))then
some (0,5,([]:List Int))
else
(uU (a0.length:Int) 0).bind λl1=>
br (J:=(List Int)×List Int) (R:=Int×Int×List Int) (Loop (S:=Int×(List Int)×List Int) (X:=((List Int)×List Int)⊕(Int×Int×List Int)) (λs3=>
(if(acS (s3.1<(a0.length:Int)))then
(idx a0 s3.1).bind λx4=>
(M.kM N x4.1).bind λy5=>
(if(acS (y5<0))then
some (.inr (.inr (s3.1,2,([]:List Int))))
else
(if(acS ((s3.2.2.length:Int)<y5))then
some (.inr (.inr (s3.1,5,([]:List Int))))
else
(idx s3.2.1 s3.1).bind λx6=>
((if(acS (0<y5))then
(idx s3.2.2 (aaV.wrap ((s3.2.2.length:Int)-y5))).bind λx8=>
(idx (bF s3.2.1 s3.1 s3.1) s3.1).bind λx9=>
some (bF (bF s3.2.1 s3.1 s3.1) s3.1 x8)
else
some (bF s3.2.1 s3.1 s3.1)):Option (List Int)).bind λj7=>
(dX s3.2.2 0 (aaV.wrap ((s3.2.2.length:Int)-y5))).bind λBA=>
(idx j7 s3.1).bind λsu=>
(bK BA ([su]:List Int)).bind λC0=>
(if(acS (12<(C0.length:Int)))then
some (.inr (.inr (s3.1,16,([]:List Int))))
else
some (.inl (aaV.wrap (s3.1+1),j7,C0)))))
else
some (.inr (.inl (s3.2.1,s3.2.2))))) N (0,l1,([]:List Int))) λj2=>
(if(acS (1<(j2.2.length:Int)))then
some ((a0.length:Int),4,([]:List Int))
else
some (0,0,j2.1))))
theorem S4(N:Nat):Fo 180 (.i1 [.l (.slice aa)]) (.j1 [.val acR (.own 0), .l ae, .l ae] [.own 3 ae] 1) (M.iE N):=fz N [ck (O8 N)] (.o (.o (.o (.o (.o (.join ⟨[(6, .val acR (.own 224))],[(176, .own 3 ae),(224, .own 3 ae)],[],226⟩ (.o (.two (.loop ⟨[(6, .val acR (.own 272)),(21, .l ae)],[(176, .own 3 ae),(272, .own 3 ae)],[],274⟩ (.o (.o (.two (.two (.o (.o (.o (.o (.o (.meet ⟨[],[(176, .own 3 ae)],[],627⟩ .nil .nil)))))) .nil) .nil)))) .nil)) .nil)))))) Tryz.func180
def M.mr(N:Nat)(a0:Int):Option Bool:=
((if(acS (a0=1))then
some (acS (a0=1))
else
(if(acS (a0=2))then
some (acS (a0=2))
else
(if(acS (a0=3))then
some (acS (a0=3))
else
(if(acS (a0=4))then
some (acS (a0=4))
else
(if(acS (a0=5))then
some (acS (a0=5))
else
(if(acS (a0=6))then
some (acS (a0=6))
else
(if(acS (a0=7))then
some (acS (a0=7))
else
(if(acS (a0=8))then
some (acS (a0=8))
else
(if(acS (a0=14))then
some (acS (a0=14))
else
(if(acS (a0=15))then
some (acS (a0=15))
else
(if(acS (a0=16))then
some (acS (a0=16))
else
(if(acS (a0=33))then
some (acS (a0=33))
else
(if(acS (a0=34))then
some (acS (a0=34))
else
(if(acS (a0=36))then
some (acS (a0=36))
else
(if(acS (a0=37))then
some (acS (a0=37))
else
(if(acS (a0=38))then
some (acS (a0=38))
else
some (acS (a0=39)))))))))))))))))):Option Bool).bind λj1=>
(if j1 then
some acQ
else
some acR)
theorem S5(N:Nat):Fo 181 (.i1 [.l ae]) (.i1 [.l .bool]) (M.mr N):=fz N [] (.o (.two (.o (.two (.mb 4 32) .nil)) .nil)) Tryz.func181
def M.cM(N:Nat)(a0:Int)(a1:Int)(a2:aL.den):Option (aa.den×Int):=
(M.fY N (a1,0) a2.1).bind λy1=>
((if(acS (a0<y1.1))then
some acQ
else
some (acS (y1.2<a0))):Option Bool).bind λj2=>
(if j2 then
some ((0,0),3)
else
some ((a1,0),0))
theorem S6(N:Nat):Fo 199 (.i1 [.l ae, .l ae, .g aL]) (.i1 [.g aa, .l ae]) (u3 (M.cM N)):=fz N [ck (VE N)] (.o (.o (.two (.o (.mb 27 256)) .nil))) Tryz.func199
def M.bA(N:Nat)(a0:Int)(a1:aL.den):Option (aa.den×Int):=
(if(acS (a0<0))then
some ((0,0),3)
else
((if(acS ((a1.1.length:Int)<=(aaV.wrap (ab7 a0 16))))then
some acQ
else
(idx a1.1 (aaV.wrap (ab7 a0 16))).bind λx2=>
some (acS ((x2.2.length:Int)<=(acu a0 16)))):Option Bool).bind λj1=>
(if j1 then
some ((0,0),6)
else
some ((6,aaV.wrap (ab7 a0 16)),0)))
theorem S7(N:Nat):Fo 200 (.i1 [.l ae, .g aL]) (.i1 [.g aa, .l ae]) (u2 (M.bA N)):=fz N [] (.o (.o (.o (.two (.mb 30 176) .nil)))) Tryz.func200
def M.dM(N:Nat)(a0:Int)(a1:List aa.den)(a2:aL.den):Option (aa.den×Int):=
((if(acS (a0<0))then
some acQ
else
some (acS ((a1.length:Int)<=a0))):Option Bool).bind λj1=>
(if j1 then
some ((0,0),6)
else
(idx a1 a0).bind λx2=>
(M.b7 N x2 a2.1).bind λy3=>
(if(!y3)then
some ((0,0),8)
else
(idx a1 a0).bind λx4=>
some (x4,0)))
theorem Pa(N:Nat):Fo 201 (.i1 [.l ae, .l (.slice aa), .g aL]) (.i1 [.g aa, .l ae]) (u3 (M.dM N)):=fz N [ck (O2 N)] (.o (.two (.mb 15 48) .nil)) Tryz.func201
def M.fO(N:Nat)(a0:Int):Option Bool:=
((if(acS (0<=a0))then
some (acS (a0<=5))
else
some acR):Option Bool).bind λj1=>
some j1
theorem Pb(N:Nat):Fo 204 (.i1 [.l ae]) (.i1 [.l .bool]) (M.fO N):=fz N [] (.o (.mb 2 16)) Tryz.func204
def M.iF(N:Nat)(a0:aa.den)(a1:aa.den)(a2:aL.den):Option (aa.den×Int):=
br (J:=Int) (R:=aa.den×Int) ((if(acS (a0.1=34))then
((if(acS (a0.2<0))then
some acQ
else
(M.fO N (acu a0.2 8)).bind λy3=>
some (!y3)):Option Bool).bind λj2=>
(if j2 then
some (.inr ((0,0),3))
else
some (.inl (aaV.wrap (ab7 a0.2 8))))
else
some (.inl a0.2))) λj1=>
((if(acS (j1<0))then
some acQ
else
some (acS ((a2.2.1.length:Int)<=j1))):Option Bool).bind λj4=>
(if j4 then
some ((0,0),6)
else
(idx a2.2.1 j1).bind λx5=>
(idx a2.2.1 j1).bind λx6=>
((M.b7 N x5.2.1 a2.1).bind λy8=>
(if(!y8)then
some acQ
else
(M.b7 N x6.2.2.1 a2.1).bind λy9=>
(if(!y9)then
some acQ
else
some (!(lz aa a1 x5.2.1)))):Option Bool).bind λj7=>
(if j7 then
some ((0,0),8)
else
(if(acS (a0.1=34))then
((if(!acS (x5.2.1.1=3))then
some acQ
else
some (!acS (x6.2.2.1.1=4))):Option Bool).bind λpq=>
(if pq then
some ((0,0),8)
else
some (x5.2.1,0))
else
some (x6.2.2.1,0))))
theorem S8(N:Nat):Fo 202 (.i1 [.g aa, .g aa, .g aL]) (.i1 [.g aa, .l ae]) (u3 (M.iF N)):=fz N [ck (O2 N),ck (Pb N)] (.o (.o (.join ⟨[(8, .l ae)],[],[],128⟩ (.o (.two (.two (.mb 25 176) .nil) .nil)) (.two (.mb 38 128) (.o (.two (.mb 68 384) (.two (.o (.two (.two (.mb 80 432) .nil) .nil)) .nil))))))) Tryz.func202
def M.dy(N:Nat)(a0:Int):Option Bool:=
((if(acS (a0=2))then
some acQ
else
(if(acS (a0=3))then
some acQ
else
some (acS (a0=4)))):Option Bool).bind λj1=>
some j1
theorem Pd(N:Nat):Fo 217 (.i1 [.l ae]) (.i1 [.l .bool]) (M.dy N):=fz N [] (.o (.mb 2 16)) Tryz.func217
def M.bi(N:Nat)(a0:aa.den)(a1:aL.den):Option (aa.den×Int):=
(if(!a1.2.2.2.2.2)then
some ((0,0),6)
else
(if(acS (a0.1=35))then
some ((2,0),0)
else
(M.dM N a0.2 a1.2.2.2.2.1 a1).bind λy1=>
(if(!acS (y1.2=0))then
some ((0,0),y1.2)
else
((if(acS (a0.1=36))then
(if(acS (y1.1.1=2))then
some acQ
else
some (acS (y1.1.1=3)))
else
((if(acS (a0.1=37))then
some (acS (a0.1=37))
else
some (acS (a0.1=38))):Option Bool).bind λj3=>
(if j3 then
some (acS (y1.1.1=1))
else
(if(acS (a0.1=39))then
(M.dy N y1.1.1).bind λy4=>
(if y4 then
some acQ
else
some (acS (y1.1.1=5)))
else
some acR))):Option Bool).bind λj2=>
(if(!j2)then
some ((0,0),8)
else
some (y1.1,0)))))
theorem S9(N:Nat):Fo 203 (.i1 [.g aa, .g aL]) (.i1 [.g aa, .l ae]) (u2 (M.bi N)):=fz N [ck (Pa N),ck (Pd N)] (.o (.o (.o (.o (.o (.o (.two (.o (.meet ⟨[(8, .l .bool)],[],[],432⟩ (.o (.o (.mb 42 464))) .nil)) .nil))))))) Tryz.func203
def M.ji(N:Nat)(a0:Int)(a1:Int)(a2:Int):Option (aa.den×Bool):=
(if(acS (a0=14))then
((if(acS (a2=4))then
(if(acS (a1=3))then
some (acQ,(a1,0))
else
some (acS (a1=4),(a1,0)))
else
some (acR,(a1,0))):Option (Bool×aa.den)).bind λj1=>
some (j1.2,j1.1)
else
(if(acS (a2=2))then
((if(acS (a1=2))then
some (acQ,(a1,0))
else
some (acS (a1=3),(a1,0))):Option (Bool×aa.den)).bind λj2=>
some (j2.2,j2.1)
else
((if(acS (a0=15))then
(if(acS (a1=3))then
some (acS (a2=3))
else
some acR)
else
some acR):Option Bool).bind λj3=>
(if j3 then
some ((4,0),acQ)
else
some ((0,0),acR))))
theorem Ta(N:Nat):Fo 218 (.i1 [.l ae, .l ae, .l ae]) (.i1 [.g aa, .l .bool]) (u3 (M.ji N)):=fz N [] (.o (.two (.two (.o (.two (.meet ⟨[(7, .l .bool)],[(0, .box 66 (.leaf aa))],[],81⟩ .nil .nil) (.o (.two (.meet ⟨[(7, .l .bool)],[(0, .box 66 (.leaf aa))],[],129⟩ .nil .nil) (.mb 34 128))))) .nil) .nil)) Tryz.func218
def M.cQ(N:Nat)(a0:Int)(a1:List aa.den):Option (aa.den×Bool):=
(if(acS (a0=10))then
(idx a1 0).bind λx1=>
(idx a1 0).bind λx2=>
(M.dy N x2.1).bind λy3=>
some (x1,y3)
else
(if(acS (a0=25))then
(idx a1 0).bind λx4=>
some ((1,0),acS (x4.1=1))
else
((if(acS (a0=11))then
some (acS (a0=11))
else
some (acS (a0=12))):Option Bool).bind λj5=>
(if j5 then
((idx a1 0).bind λx7=>
(idx a1 0).bind λx8=>
(idx a1 1).bind λx9=>
(if(lz aa x8 x9)then
(idx a1 0).bind λqe=>
(M.dy N qe.1).bind λBC=>
some (BC,x7)
else
some (acR,x7)):Option (Bool×aa.den)).bind λj6=>
some (j6.2,j6.1)
else
((if(acS (a0=13))then
some (acS (a0=13))
else
(if(acS (a0=14))then
some (acS (a0=14))
else
some (acS (a0=15)))):Option Bool).bind λoG=>
(if oG then
(idx a1 0).bind λrU=>
(idx a1 1).bind λCY=>
(M.ji N a0 rU.1 CY.1).bind λmT=>
some (mT.1,mT.2)
else
(if(acS (a0=16))then
((idx a1 0).bind λMp=>
(idx a1 0).bind λCZ=>
(if(acS (CZ.1=3))then
(idx a1 1).bind λJ7=>
some (acS (J7.1=3),Mp)
else
some (acR,Mp)):Option (Bool×aa.den)).bind λEY=>
some (EY.2,EY.1)
else
((if(acS (a0=17))then
some (acS (a0=17))
else
some (acS (a0=18))):Option Bool).bind λNr=>
(if Nr then
((idx a1 0).bind λMq=>
(idx a1 0).bind λXW=>
(idx a1 1).bind λXX=>
(if(lz aa XW XX)then
(idx a1 0).bind λTb=>
(M.dy N Tb.1).bind λTc=>
(if Tc then
some (acQ,Mq)
else
(idx a1 0).bind λXY=>
some (acS (XY.1=5),Mq))
else
some (acR,Mq)):Option (Bool×aa.den)).bind λTd=>
some (Td.2,Td.1)
else
((if(acS (a0=19))then
some (acS (a0=19))
else
some (acS (a0=20))):Option Bool).bind λTe=>
(if Te then
(idx a1 0).bind λTf=>
(idx a1 1).bind λXZ=>
some ((1,0),(lz aa Tf XZ))
else
((if(acS (a0=21))then
some (acS (a0=21))
else
some (acS (a0=22))):Option Bool).bind λNs=>
(if Ns then
((idx a1 0).bind λX0=>
(idx a1 1).bind λX1=>
(if(lz aa X0 X1)then
(idx a1 0).bind λX2=>
(M.dy N X2.1).bind λX3=>
(if X3 then
some (acQ,(1,0))
else
(idx a1 0).bind λX4=>
some (acS (X4.1=5),(1,0)))
else
some (acR,(1,0))):Option (Bool×aa.den)).bind λVG=>
some (VG.2,VG.1)
else
((if(acS (a0=23))then
some (acS (a0=23))
else
some (acS (a0=24))):Option Bool).bind λX5=>
(if X5 then
((idx a1 0).bind λX6=>
(if(acS (X6.1=1))then
(idx a1 1).bind λX7=>
some (acS (X7.1=1),(1,0))
else
some (acR,(1,0))):Option (Bool×aa.den)).bind λVH=>
some (VH.2,VH.1)
else
(if(acS (a0=26))then
((idx a1 1).bind λVI=>
(idx a1 0).bind λX8=>
(if(acS (X8.1=1))then
(idx a1 1).bind λX9=>
(idx a1 2).bind λYa=>
some ((lz aa X9 Ya),VI)
else
some (acR,VI)):Option (Bool×aa.den)).bind λVJ=>
some (VJ.2,VJ.1)
else
((if(acS (a0=27))then
some (acS (a0=27))
else
some (acS (a0=28))):Option Bool).bind λYb=>
(if Yb then
((idx a1 0).bind λVK=>
(idx a1 0).bind λYc=>
(if(acS (Yc.1=5))then
(idx a1 1).bind λYd=>
some (acS (Yd.1=2),VK)
else
some (acR,VK)):Option (Bool×aa.den)).bind λVL=>
some (VL.2,VL.1)
else
((if(acS (a0=29))then
some (acS (a0=29))
else
some (acS (a0=30))):Option Bool).bind λYe=>
(if Ye then
((idx a1 0).bind λYf=>
(if(acS (Yf.1=5))then
(idx a1 1).bind λYg=>
some (acS (Yg.1=5),(2,0))
else
some (acR,(2,0))):Option (Bool×aa.den)).bind λVM=>
some (VM.2,VM.1)
else
((if(acS (a0=31))then
some (acS (a0=31))
else
some (acS (a0=32))):Option Bool).bind λYh=>
(if Yh then
(idx a1 0).bind λYi=>
some ((2,0),acS (Yi.1=5))
else
some ((0,0),acR))))))))))))))
theorem Tg(N:Nat):Fo 205 (.i1 [.l ae, .l (.slice aa)]) (.i1 [.g aa, .l .bool]) (u2 (M.cQ N)):=fz N [ck (Pd N),ck (Ta N)] (.o (.o (.two (.o (.two (.o (.o (.o (.o (.meet ⟨[(27, .l .bool)],[],[],160⟩ .nil (.two (.meet ⟨[(5, .l .bool)],[(0, .box 66 (.leaf aa))],[],161⟩ .nil .nil) (.meet ⟨[(47, .l .bool)],[],[],160⟩ .nil (.o (.o (.two (.meet ⟨[(5, .l .bool)],[(0, .box 66 (.leaf aa))],[],193⟩ .nil .nil) (.meet ⟨[(80, .l .bool)],[],[],192⟩ .nil (.two (.meet ⟨[(5, .l .bool)],[(0, .box 66 (.leaf aa))],[],193⟩ .nil .nil) (.meet ⟨[(107, .l .bool)],[],[],192⟩ .nil (.o (.meet ⟨[(118, .l .bool)],[],[],192⟩ .nil (.two (.meet ⟨[(5, .l .bool)],[(0, .box 66 (.leaf aa))],[],193⟩ .nil .nil) (.meet ⟨[(143, .l .bool)],[],[],192⟩ .nil (.two (.meet ⟨[(5, .l .bool)],[(0, .box 66 (.leaf aa))],[],193⟩ .nil .nil) (.o (.two (.meet ⟨[(5, .l .bool)],[(0, .box 66 (.leaf aa))],[],225⟩ .nil .nil) (.meet ⟨[(178, .l .bool)],[],[],224⟩ .nil (.two (.meet ⟨[(5, .l .bool)],[(0, .box 66 (.leaf aa))],[],225⟩ .nil .nil) (.meet ⟨[(196, .l .bool)],[],[],224⟩ .nil (.two (.meet ⟨[(5, .l .bool)],[(0, .box 66 (.leaf aa))],[],225⟩ .nil .nil) (.mb 212 224))))))))))))))))))))))))) .nil)) .nil))) Tryz.func205
def M.aI(N:Nat)(a0:aa.den)(a1:List aa.den)(a2:aL.den):Option (aa.den×Int):=
br (J:=Unit) (R:=aa.den×Int) ((if(acS (a0.1=1))then
(M.cM N a0.2 1 a2).bind λy2=>
some (.inr (y2.1,y2.2))
else
(if(acS (a0.1=2))then
(M.cM N a0.2 2 a2).bind λy3=>
some (.inr (y3.1,y3.2))
else
(if(acS (a0.1=3))then
(M.cM N a0.2 3 a2).bind λy4=>
some (.inr (y4.1,y4.2))
else
(if(acS (a0.1=4))then
(M.cM N a0.2 4 a2).bind λy5=>
some (.inr (y5.1,y5.2))
else
(if(acS (a0.1=5))then
(M.cM N a0.2 5 a2).bind λy6=>
some (.inr (y6.1,y6.2))
else
(if(acS (a0.1=6))then
(M.bA N a0.2 a2).bind λy7=>
some (.inr (y7.1,y7.2))
else
(if(acS (a0.1=7))then
(M.dM N a0.2 a2.2.2.1 a2).bind λy8=>
some (.inr (y8.1,y8.2))
else
(if(acS (a0.1=8))then
(M.dM N a0.2 a2.2.2.2.1 a2).bind λy9=>
some (.inr (y9.1,y9.2))
else
(if(acS (a0.1=9))then
some (.inr ((5,0),0))
else
((if(acS (a0.1=33))then
some (acS (a0.1=33))
else
some (acS (a0.1=34))):Option Bool).bind λpq=>
(if pq then
(idx a1 0).bind λsu=>
(M.iF N a0 su a2).bind λJ8=>
some (.inr (J8.1,J8.2))
else
((if(acS (a0.1=35))then
some (acS (a0.1=35))
else
(if(acS (a0.1=36))then
some (acS (a0.1=36))
else
(if(acS (a0.1=37))then
some (acS (a0.1=37))
else
(if(acS (a0.1=38))then
some (acS (a0.1=38))
else
some (acS (a0.1=39)))))):Option Bool).bind λEZ=>
(if EZ then
(M.bi N a0 a2).bind λsv=>
some (.inr (sv.1,sv.2))
else
((if(acS (a0.1=14))then
some (acS (a0.1=14))
else
(if(acS (a0.1=15))then
some (acS (a0.1=15))
else
some (acS (a0.1=16)))):Option Bool).bind λHC=>
(if HC then
(M.fO N a0.2).bind λPe=>
(if(!Pe)then
some (.inr ((0,0),3))
else
some (.inl ()))
else
some (.inl ())))))))))))))) λj1=>
(M.cQ N a0.1 a1).bind λE0=>
(if(!E0.2)then
some ((0,0),8)
else
some (E0.1,0))
theorem Ti(N:Nat):Fo 183 (.i1 [.g aa, .l (.slice aa), .g aL]) (.i1 [.g aa, .l ae]) (u3 (M.aI N)):=fz N [ck (S6 N),ck (S7 N),ck (Pa N),ck (S8 N),ck (S9 N),ck (Pb N),ck (Tg N)] (.o (.two (.o (.join ⟨[],[],[],96⟩ (.o (.o (.o (.o (.o (.o (.o (.o (.o (.o (.o (.o (.o (.o (.o (.o (.o (.o (.meet ⟨[(83, .l .bool)],[],[],384⟩ .nil (.o (.meet ⟨[(94, .l .bool)],[],[],384⟩ .nil (.o (.mb 105 384))))))))))))))))))))))) .nil)) .nil)) Tryz.func183
def M.k9(N:Nat)(a0:List aa.den)(a1:aL.den):Option (aa.den×Int×Int):=
(M.iE N a0).bind λy1=>
(if(!acS (y1.2.1=0))then
some ((0,0),y1.1,y1.2.1)
else
br (J:=List aa.den) (R:=aa.den×Int×Int) (Loop (S:=Int×List aa.den) (X:=(List aa.den)⊕(aa.den×Int×Int)) (λs3=>
(if(acS (s3.1<(a0.length:Int)))then
(idx a0 s3.1).bind λx4=>
((if(!acS (x4.2=0))then
(M.mr N x4.1).bind λy6=>
some (!y6)
else
some acR):Option Bool).bind λj5=>
(if j5 then
some (.inr (.inr ((0,0),s3.1,2)))
else
(M.kM N x4.1).bind λy7=>
(dX s3.2 (aaV.wrap ((s3.2.length:Int)-y7)) (s3.2.length:Int)).bind λl8=>
(M.aI N x4 l8 a1).bind λy9=>
(if(!acS (y9.2=0))then
some (.inr (.inr ((0,0),s3.1,y9.2)))
else
(dX s3.2 0 (aaV.wrap ((s3.2.length:Int)-y7))).bind λBA=>
(bK BA ([y9.1]:List aa.den)).bind λJ9=>
some (.inl (aaV.wrap (s3.1+1),J9))))
else
some (.inr (.inl s3.2)))) N (0,([]:List aa.den))) λj2=>
(idx j2 0).bind λAl=>
some (Al,0,0))
theorem Tj(N:Nat):Fo 161 (.i1 [.l (.slice aa), .g aL]) (.i1 [.g aa, .l ae, .l ae]) (u2 (M.k9 N)):=fz N [ck (S4 N),ck (S5 N),ck (O8 N),ck (Ti N)] (.o (.o (.o (.o (.join ⟨[(10, .val acR (.own 256))],[(256, .own 66 aa)],[],257⟩ (.o (.two (.loop ⟨[(10, .val acR (.own 304)),(29, .l ae)],[(304, .own 66 aa)],[],305⟩ (.o (.o (.two (.two (.o (.two (.mb 42 417) .nil)) .nil) .nil)))) .nil)) .nil))))) Tryz.func161
def M.ec(N:Nat)(a0:List aa.den)(a1:aL.den)(a2:aa.den):Option Int:=
(M.k9 N a0 a1).bind λy1=>
(if(!acS (y1.2.2=0))then
some y1.2.2
else
(if(!(lz aa y1.1 a2))then
some 8
else
some 0))
theorem Tk(N:Nat):Fo 140 (.i1 [.l (.slice aa), .g aL, .g aa]) (.i1 [.l ae]) (u3 (M.ec N)):=fz N [ck (Tj N)] .nil Tryz.func140
def M.gD(N:Nat)(a0:cL.den)(a1:cL.den):Option (Bool×cL.den):=
some (acS (a0.1=a1.1),a1)
theorem Mr(N:Nat):Fo 138 (.j1 [.g cL, .ptr 0 [] 0] [.box 77 (.leaf cL)] 1) (.j1 [.l .bool] [.box 77 (.leaf cL)] 2) (u2 (M.gD N)):=fz N [] .nil Tryz.func138
def M.aY(N:Nat)(a0:List cL.den)(a1:cL.den):Option (Int×cL.den):=
Loop (S:=Int×cL.den) (X:=Int×cL.den) (λs1=>
(if(acS (s1.1<(a0.length:Int)))then
(idx a0 s1.1).bind λx2=>
(M.gD N x2 s1.2).bind λy3=>
(if y3.1 then
some (.inr (s1.1,y3.2))
else
some (.inl (aaV.wrap (s1.1+1),y3.2)))
else
some (.inr ((-1),s1.2)))) N (0,a1)
theorem Mt(N:Nat):Fo 159 (.j1 [.l (.slice cL), .fn 138 [(0,[],0)]] [.box 77 (.leaf cL)] 1) (.j1 [.l ae] [.box 77 (.leaf cL)] 2) (u2 (M.aY N)):=fz N [ck (Mr N)] (.o (.two (.o (.two (.loop ⟨[(8, .l ae)],[(0, .box 77 (.leaf cL))],[],66⟩ .nil) .nil)) .nil)) Tryz.func159
def M.aR(N:Nat)(a0:List cL.den)(a1:cL.den):Option (Bool×cL.den):=
(M.aY N a0 a1).bind λy1=>
some (acS (0<=y1.1),y1.2)
theorem Mu(N:Nat):Fo 137 (.j1 [.l (.slice cL), .fn 138 [(0,[],0)]] [.box 77 (.leaf cL)] 1) (.j1 [.l .bool] [.box 77 (.leaf cL)] 2) (u2 (M.aR N)):=fz N [ck (Mt N)] .nil Tryz.func137
def M.gJ(N:Nat)(a0:aV.den)(a1:Int)(a2:aL.den):Option Int:=
(idx a0.2.2.2.2 a1).bind λx1=>
((dX a0.2.2.2.2 0 a1).bind λl3=>
Loop (S:=Int×Int) (X:=Int) (λs4=>
(if(acS (s4.2<(l3.length:Int)))then
((idx l3 s4.2).bind λx6=>
(if(acS (x6.2.1=x1.2.1))then
some (aaV.wrap (s4.1+1))
else
some s4.1):Option Int).bind λj5=>
some (.inl (j5,aaV.wrap (s4.2+1)))
else
some (.inr s4.1))) N (0,0):Option Int).bind λj2=>
(M.bB N x1.1).bind λy7=>
(if(!y7)then
some 2
else
(dX a0.2.2.2.2 0 a1).bind λl8=>
(M.aR N l8 x1).bind λy9=>
(if y9.1 then
some 7
else
((if(acS (y9.2.2.1<0))then
some acQ
else
some (acS ((a0.2.2.2.1.length:Int)<=y9.2.2.1))):Option Bool).bind λpq=>
(if pq then
some 6
else
((if(!acS (y9.2.2.2.1=(-1)))then
(if(acS (y9.2.2.2.1<0))then
some acQ
else
(if(acS (a1<=y9.2.2.2.1))then
some acQ
else
(idx a0.2.2.2.2 y9.2.2.2.1).bind λAl=>
some (!acS (Al.2.1=y9.2.2.1))))
else
some acR):Option Bool).bind λvJ=>
(if vJ then
some 9
else
((if(acS (y9.2.2.2.2.1<0))then
some acQ
else
some (acS (9<y9.2.2.2.2.1))):Option Bool).bind λEZ=>
(if EZ then
some 3
else
((if(acS (y9.2.2.2.2.2.1.1<0))then
some acQ
else
(if(acS (y9.2.2.2.2.2.1.2<=y9.2.2.2.2.2.1.1))then
some acQ
else
some (acS (109573<y9.2.2.2.2.2.1.2)))):Option Bool).bind λJa=>
(if Ja then
some 3
else
(if(acS (8<=j2))then
some 4
else
(M.gR N y9.2.2.2.2.2.2.2.2).bind λmT=>
(if(!mT)then
some 2
else
br (J:=Unit) (R:=Int) ((if(acS (0<(y9.2.2.2.2.2.2.1.length:Int)))then
(M.ec N y9.2.2.2.2.2.2.1 a2 (1,0)).bind λE0=>
(if(!acS (E0=0))then
some (.inr E0)
else
some (.inl ()))
else
some (.inl ()))) λEY=>
(idx a0.2.2.2.1 y9.2.2.1).bind λCZ=>
(M.ec N y9.2.2.2.2.2.2.2.1 a2 CZ.2).bind λJb=>
some Jb))))))))
theorem Tl(N:Nat):Fo 100 (.i1 [.g aV, .l ae, .g aL]) (.i1 [.l ae]) (u3 (M.gJ N)):=fz N [ck (OZ N),ck (Mu N),ck (S3 N),ck (Tk N)] (.o (.o (.o (.meet ⟨[(8, .l ae)],[],[],176⟩ (.o (.two (.loop ⟨[(8, .l ae),(22, .l ae)],[],[],272⟩ (.o (.o (.two (.meet ⟨[(8, .l ae)],[],[],288⟩ .nil .nil) .nil)))) .nil)) (.two (.two (.o (.o (.o (.o (.meet ⟨[(46, .l .bool)],[],[],368⟩ .nil (.o (.meet ⟨[(58, .l .bool)],[],[],368⟩ .nil (.o (.meet ⟨[(85, .l .bool)],[],[],368⟩ .nil (.o (.mb 94 368))))))))))) .nil) (.join ⟨[],[],[],496⟩ .nil .nil)))))) Tryz.func100
def M.dQ(N:Nat)(a0:List Int)(a1:Int):Option Int:=
Loop (S:=Int) (X:=Int) (λs1=>
(if(acS (s1<(a0.length:Int)))then
(idx a0 s1).bind λx2=>
(if(acS (a1=x2))then
some (.inr s1)
else
some (.inl (aaV.wrap (s1+1))))
else
some (.inr (-1)))) N 0
theorem Tm(N:Nat):Fo 141 (.i1 [.l (.slice ae), .l ae]) (.i1 [.l ae]) (u2 (M.dQ N)):=fz N [] (.o (.two (.o (.two (.lp 8 64 .nil) .nil)) .nil)) Tryz.func141
def M.dg(N:Nat)(a0:List Int)(a1:Int):Option Bool:=
(M.dQ N a0 a1).bind λy1=>
some (acS (0<=y1))
theorem Tn(N:Nat):Fo 101 (.i1 [.l (.slice ae), .l ae]) (.i1 [.l .bool]) (u2 (M.dg N)):=fz N [ck (Tm N)] .nil Tryz.func101
def M.km(N:Nat)(a0:List (List Int))(a1:Int):Option (List Int):=
(uU (a0.length:Int) acR).bind λl1=>
(Loop (S:=(List Bool)×List Int) (X:=List Bool) (λs3=>
(if(acS (0<(s3.2.length:Int)))then
(idx s3.2 0).bind λx4=>
(dX s3.2 1 (s3.2.length:Int)).bind λl5=>
(idx a0 x4).bind λx6=>
Loop (S:=Int×(List Bool)×List Int) (X:=((List Bool)×List Int)⊕(List Bool)) (λs7=>
(if(acS (s7.1<(x6.length:Int)))then
((idx x6 s7.1).bind λx9=>
(idx s7.2.1 x9).bind λqe=>
(if(!qe)then
(idx s7.2.1 x9).bind λsu=>
(bK s7.2.2 ([x9]:List Int)).bind λC0=>
some (bF s7.2.1 x9 acQ,C0)
else
some (s7.2.1,s7.2.2)):Option ((List Bool)×List Int)).bind λj8=>
some (.inl (aaV.wrap (s7.1+1),j8.1,j8.2))
else
some (.inr (.inl (s7.2.1,s7.2.2))))) N (0,s3.1,l5)
else
some (.inr s3.1))) N (l1,([a1]:List Int)):Option (List Bool)).bind λj2=>
Loop (S:=Int×List Int) (X:=List Int) (λCX=>
(if(acS (CX.1<(j2.length:Int)))then
((idx j2 CX.1).bind λAm=>
(if Am then
(bK CX.2 ([CX.1]:List Int)).bind λMv=>
some Mv
else
some CX.2):Option (List Int)).bind λJa=>
some (.inl (aaV.wrap (CX.1+1),Ja))
else
some (.inr CX.2))) N (0,([]:List Int))
def To(N:Nat):ng:=⟨.i1 [.l (.slice (.slice ae)), .l ae], .w1 3 ae,u2 (M.km N)⟩
theorem Tp(N:Nat):fH Tryz.prog 142 (To N):=fw (en [] acR acQ) (N:=N) (.o (.o (.o (.meet ⟨[],[(48, .own 4 .bool)],[96],129⟩ (.two (.loop ⟨[(6, .val acR (.own 128))],[(48, .own 4 .bool),(128, .own 3 ae)],[96],130⟩ (.o (.two (.o (.o (.o (.two (.loop ⟨[(6, .val acR (.own 386)),(31, .l ae)],[(48, .own 4 .bool),(386, .own 3 ae)],[258],388⟩ (.o (.o (.two (.meet ⟨[(6, .val acR (.own 404))],[(48, .own 4 .bool),(404, .own 3 ae)],[386],406⟩ .nil .nil) .nil)))) .nil)))) .nil))) .nil) (.o (.two (.o (.two (.loop ⟨[(10, .val acR (.own 193)),(50, .l ae)],[(193, .own 3 ae)],[],194⟩ (.o (.o (.two (.meet ⟨[(10, .val acR (.own 210))],[(210, .own 3 ae)],[193],211⟩ .nil .nil) .nil)))) .nil)) .nil)))))) Tryz.func142 (by kernel_rfl) λx=>by kernel_rfl
def M.cP(N:Nat)(a0:List Int):Option (List Int):=zq a0
def Tq(N:Nat):ng:=⟨.w1 3 ae, .j1 [] [.own 3 ae] 2,M.cP N⟩
theorem Pf(N:Nat):fH Tryz.prog 185 (Tq N):=J5 ⟨_,Tryz.func185,by kernel_rfl,by kernel_rfl⟩ Tryz.slices_Sort_int Tryz.slices_Sort_int_none
def M.cm(N:Nat)(a0:List Int):Option (List Int):=nv a0
def Ts(N:Nat):ng:=⟨.w1 3 ae,⟨[(0, .val acR (.own 1))],[(1, .own 3 ae)],[],2⟩,M.cm N⟩
theorem Pg(N:Nat):fH Tryz.prog 186 (Ts N):=Bw ⟨_,Tryz.func186,by kernel_rfl,by kernel_rfl⟩ Tryz.slices_Compact_int Tryz.slices_Compact_int_empty
def M.eB(N:Nat)(a0:List Int):Option (List Int):=
(M.cP N a0).bind λy1=>
(M.cm N y1).bind λy2=>
some y2
theorem Mw(N:Nat):Fo 206 (.w1 3 ae) ⟨[(0, .val acR (.own 1))],[(1, .own 3 ae)],[],2⟩ (M.eB N):=fz N [ck (Pf N),ck (Pg N)] .nil Tryz.func206
def M.fb(N:Nat)(a0:List aa.den):Option ((List Int)×(List Int)×List Int):=
(Loop (S:=Int×(List Int)×(List Int)×List Int) (X:=(List Int)×(List Int)×List Int) (λs2=>
(if(acS (s2.1<(a0.length:Int)))then
(idx a0 s2.1).bind λx3=>
((if(acS (x3.1=7))then
(bK s2.2.1 ([x3.2]:List Int)).bind λl5=>
some (l5,s2.2.2.1,s2.2.2.2)
else
(if(acS (x3.1=8))then
(bK s2.2.2.1 ([x3.2]:List Int)).bind λl6=>
some (s2.2.1,l6,s2.2.2.2)
else
((if(acS (x3.1=36))then
some (acS (x3.1=36))
else
(if(acS (x3.1=37))then
some (acS (x3.1=37))
else
(if(acS (x3.1=38))then
some (acS (x3.1=38))
else
some (acS (x3.1=39))))):Option Bool).bind λj7=>
(if j7 then
(bK s2.2.2.2 ([x3.2]:List Int)).bind λl8=>
some (s2.2.1,s2.2.2.1,l8)
else
some (s2.2.1,s2.2.2.1,s2.2.2.2)))):Option ((List Int)×(List Int)×List Int)).bind λj4=>
some (.inl (aaV.wrap (s2.1+1),j4.1,j4.2.1,j4.2.2))
else
some (.inr (s2.2.1,s2.2.2.1,s2.2.2.2)))) N (0,([]:List Int),([]:List Int),([]:List Int)):Option ((List Int)×(List Int)×List Int)).bind λj1=>
(M.eB N j1.1).bind λy9=>
(M.eB N j1.2.1).bind λHE=>
(M.eB N j1.2.2).bind λBC=>
some (y9,HE,BC)
theorem Tt(N:Nat):Fo 184 (.i1 [.l (.slice aa)]) (.j1 [.val acR (.own 0), .val acR (.own 1), .val acR (.own 2)] [.own 3 ae, .own 3 ae, .own 3 ae] 3) (M.fb N):=fz N [ck (Mw N)] (.o (.o (.meet ⟨[(5, .val acR (.own 96)),(6, .val acR (.own 97)),(7, .val acR (.own 98))],[(96, .own 3 ae),(97, .own 3 ae),(98, .own 3 ae)],[],99⟩ (.o (.two (.loop ⟨[(5, .val acR (.own 144)),(6, .val acR (.own 145)),(7, .val acR (.own 146)),(12, .l ae)],[(144, .own 3 ae),(145, .own 3 ae),(146, .own 3 ae)],[],147⟩ (.o (.o (.two (.two (.o (.o (.meet ⟨[(5, .val acR (.own 259)),(6, .val acR (.own 260)),(7, .val acR (.own 261))],[(259, .own 3 ae),(260, .own 3 ae),(261, .own 3 ae)],[144,145,146],262⟩ (.o (.o (.o (.o (.mb 32 323))))) .nil))) .nil) .nil)))) .nil)) .nil))) Tryz.func184
def M.eU(N:Nat)(a0:cL.den)(a1:Int):Option (List Int):=
(M.fb N a0.2.2.2.2.2.1).bind λy1=>
(M.fb N a0.2.2.2.2.2.2.1).bind λy2=>
(Loop (S:=Int×List Int) (X:=List Int) (λs4=>
(if(acS (s4.1<(y1.2.1.length:Int)))then
((idx y1.2.1 s4.1).bind λx6=>
((if(acS (0<=x6))then
some (acS (x6<a1))
else
some acR):Option Bool).bind λj7=>
(if j7 then
(bK s4.2 ([x6]:List Int)).bind λl8=>
some l8
else
some s4.2):Option (List Int)).bind λj5=>
some (.inl (aaV.wrap (s4.1+1),j5))
else
some (.inr s4.2))) N (0,([]:List Int)):Option (List Int)).bind λj3=>
Loop (S:=Int×List Int) (X:=List Int) (λs9=>
(if(acS (s9.1<(y2.2.1.length:Int)))then
((idx y2.2.1 s9.1).bind λsu=>
((if(acS (0<=su))then
some (acS (su<a1))
else
some acR):Option Bool).bind λoG=>
(if oG then
(bK s9.2 ([su]:List Int)).bind λPh=>
some Ph
else
some s9.2):Option (List Int)).bind λpq=>
some (.inl (aaV.wrap (s9.1+1),pq))
else
some (.inr s9.2))) N (0,j3)
theorem Tu(N:Nat):Fo 162 (.i1 [.g cL, .l ae]) (.w1 3 ae) (u2 (M.eU N)):=fz N [ck (Tt N)] (.o (.o (.o (.o (.meet ⟨[(5, .val acR (.own 368))],[(368, .own 3 ae)],[],369⟩ (.o (.two (.loop ⟨[(5, .val acR (.own 416)),(32, .l ae)],[(416, .own 3 ae)],[],417⟩ (.o (.o (.two (.meet ⟨[(5, .val acR (.own 433))],[(433, .own 3 ae)],[416],434⟩ (.o (.mb 42 481)) .nil) .nil)))) .nil)) (.two (.o (.two (.loop ⟨[(5, .val acR (.own 417)),(50, .l ae)],[(417, .own 3 ae)],[368],418⟩ (.o (.o (.two (.meet ⟨[(5, .val acR (.own 434))],[(434, .own 3 ae)],[417],435⟩ (.o (.mb 60 482)) .nil) .nil)))) .nil)) .nil)))))) Tryz.func162
def M.iG(N:Nat)(a0:List Int):Option (List Int):=
(M.cP N a0).bind λy1=>
(M.cm N y1).bind λy2=>
some y2
theorem Mx(N:Nat):Fo 163 (.w1 3 ae) ⟨[(0, .val acR (.own 1))],[(1, .own 3 ae)],[],2⟩ (M.iG N):=fz N [ck (Pf N),ck (Pg N)] .nil Tryz.func163
def M.iH(N:Nat)(a0:aV.den):Option (List (List Int)):=
(uU (a0.2.2.2.1.length:Int) ([]:List Int)).bind λl1=>
(Loop (S:=Int×List (List Int)) (X:=List (List Int)) (λs3=>
(if(acS (s3.1<(a0.2.2.2.2.length:Int)))then
((idx a0.2.2.2.2 s3.1).bind λx5=>
((if(acS (0<=x5.2.1))then
some (acS (x5.2.1<(s3.2.length:Int)))
else
some acR):Option Bool).bind λj6=>
(if j6 then
(idx s3.2 x5.2.1).bind λx7=>
(idx s3.2 x5.2.1).bind λx8=>
(M.eU N x5 (s3.2.length:Int)).bind λy9=>
(bK x8 y9).bind λBA=>
(idx s3.2 x5.2.1).bind λsu=>
(if acS (x5.2.1=x5.2.1)then
(idx s3.2 x5.2.1).bind λAl=>
some (qE s3.2 x5.2.1 (λm13=>BA))
else acP)
else
some s3.2):Option (List (List Int))).bind λj4=>
some (.inl (aaV.wrap (s3.1+1),j4))
else
some (.inr s3.2))) N (0,l1):Option (List (List Int))).bind λj2=>
Loop (S:=Int×List (List Int)) (X:=List (List Int)) (λtJ=>
(if(acS (tJ.1<(j2.length:Int)))then
(idx tJ.2 tJ.1).bind λAm=>
(idx tJ.2 tJ.1).bind λMj=>
(M.iG N Mj).bind λE0=>
(idx tJ.2 tJ.1).bind λCZ=>
(if acS (tJ.1=tJ.1)then
(idx tJ.2 tJ.1).bind λJ7=>
some (.inl (aaV.wrap (tJ.1+1),qE tJ.2 tJ.1 (λm20=>E0)))
else acP)
else
some (.inr tJ.2))) N (0,j2)
def Tv(N:Nat):ng:=⟨.i1 [.g aV], .j1 [.val acR (.own 0)] [.deep 31 (.sl 3 (.leaf ae))] 1,M.iH N⟩
theorem Tw(N:Nat):fH Tryz.prog 143 (Tv N):=fw (en [ck (Tu N),ck (Mx N)] acQ acR) (N:=N) (.o (.o (.meet ⟨[],[(80, .deep 31 (.sl 3 (.leaf ae)))],[],113⟩ (.o (.two (.loop ⟨[(15, .l ae)],[(80, .deep 31 (.sl 3 (.leaf ae)))],[],177⟩ (.o (.o (.two (.meet ⟨[],[(80, .deep 31 (.sl 3 (.leaf ae)))],[],194⟩ (.o (.meet ⟨[(28, .l .bool)],[],[],257⟩ .nil .nil)) .nil) .nil)))) .nil)) (.two (.o (.two (.loop ⟨[(46, .l ae)],[(80, .deep 31 (.sl 3 (.leaf ae)))],[],162⟩ .nil) .nil)) .nil)))) Tryz.func143 (by kernel_rfl) λx=>by kernel_rfl
def M.fc(N:Nat)(a0:aV.den)(a1:Int):Option (List Int):=
((if(acS (a1<0))then
some acQ
else
some (acS ((a0.2.2.2.1.length:Int)<=a1))):Option Bool).bind λj1=>
(if j1 then
some ([]:List Int)
else
(M.iH N a0).bind λy2=>
(M.km N y2 a1).bind λy3=>
some y3)
theorem Tx(N:Nat):Fo 102 (.i1 [.g aV, .l ae]) (.w1 3 ae) (u2 (M.fc N)):=fz N [ck (Tp N),ck (Tw N)] (.o (.two (.mb 13 32) .nil)) Tryz.func102
def M.fP(N:Nat)(a0:aV.den)(a1:aV.den):Option (Bool×aV.den):=
some (acS (a0.1=a1.1),a1)
theorem Pj(N:Nat):Fo 97 (.j1 [.g aV, .ptr 0 [] 0] [.box 50 (.leaf aV)] 1) (.j1 [.l .bool] [.box 50 (.leaf aV)] 2) (u2 (M.fP N)):=fz N [] .nil Tryz.func97
def M.aU(N:Nat)(a0:List aV.den)(a1:aV.den):Option (Int×aV.den):=
Loop (S:=Int×aV.den) (X:=Int×aV.den) (λs1=>
(if(acS (s1.1<(a0.length:Int)))then
(idx a0 s1.1).bind λx2=>
(M.fP N x2 s1.2).bind λy3=>
(if y3.1 then
some (.inr (s1.1,y3.2))
else
some (.inl (aaV.wrap (s1.1+1),y3.2)))
else
some (.inr ((-1),s1.2)))) N (0,a1)
theorem My(N:Nat):Fo 133 (.j1 [.l (.slice aV), .fn 97 [(0,[],0)]] [.box 50 (.leaf aV)] 1) (.j1 [.l ae] [.box 50 (.leaf aV)] 2) (u2 (M.aU N)):=fz N [ck (Pj N)] (.o (.two (.o (.two (.loop ⟨[(8, .l ae)],[(0, .box 50 (.leaf aV))],[],66⟩ .nil) .nil)) .nil)) Tryz.func133
def M.aE(N:Nat)(a0:List aV.den)(a1:aV.den):Option (Bool×aV.den):=
(M.aU N a0 a1).bind λy1=>
some (acS (0<=y1.1),y1.2)
theorem Pk(N:Nat):Fo 96 (.j1 [.l (.slice aV), .fn 97 [(0,[],0)]] [.box 50 (.leaf aV)] 1) (.j1 [.l .bool] [.box 50 (.leaf aV)] 2) (u2 (M.aE N)):=fz N [ck (My N)] .nil Tryz.func96
def M.iI(N:Nat)(a0:cC.den)(a1:Int):Option (Int×Int):=
(idx a0.2.2 a1).bind λx1=>
(dX a0.2.2 0 a1).bind λl2=>
((M.fK N a0.1 x1.1).bind λy4=>
(if y4 then
some (acQ,x1)
else
(M.fZ N a0.2.1 x1.1).bind λy5=>
(if y5 then
some (acQ,x1)
else
(M.aE N l2 x1).bind λy6=>
some (y6.1,y6.2))):Option (Bool×aV.den)).bind λj3=>
(M.bB N j3.2.1).bind λy7=>
(if(!y7)then
some (2,0)
else
(if j3.1 then
some (7,0)
else
((if(!acS (j3.2.2.1=(-1)))then
(if(acS (j3.2.2.1<0))then
some acQ
else
(if(acS (a1<=j3.2.2.1))then
some acQ
else
(idx l2 j3.2.2.1).bind λx9=>
some (!acS (x9.2.1=(-1)))))
else
some acR):Option Bool).bind λj8=>
(if j8 then
some (6,0)
else
(if(acS (12<(j3.2.2.2.1.length:Int)))then
some (4,112)
else
(if(acS (12<(j3.2.2.2.2.1.length:Int)))then
some (4,212)
else
br (J:=Unit) (R:=Int×Int) (Loop (S:=Int) (X:=Unit⊕(Int×Int)) (λpt=>
(if(acS (pt<(j3.2.2.2.1.length:Int)))then
(idx j3.2.2.2.1 pt).bind λAl=>
(dX j3.2.2.2.1 0 pt).bind λPh=>
(M.fN N a0 Al Ph ([]:List be.den)).bind λsv=>
(if(!acS (sv=0))then
some (.inr (.inr (sv,aaV.wrap (100+pt))))
else
some (.inl (aaV.wrap (pt+1))))
else
some (.inr (.inl ())))) N 0) λpq=>
br (J:=Unit) (R:=Int×Int) (Loop (S:=Int) (X:=Unit⊕(Int×Int)) (λPm=>
(if(acS (Pm<(j3.2.2.2.2.1.length:Int)))then
(idx j3.2.2.2.2.1 Pm).bind λMp=>
(dX j3.2.2.2.2.1 0 Pm).bind λTz=>
(M.fN N a0 Mp j3.2.2.2.1 Tz).bind λJb=>
(if(!acS (Jb=0))then
some (.inr (.inr (Jb,aaV.wrap (200+Pm))))
else
some (.inl (aaV.wrap (Pm+1))))
else
some (.inr (.inl ())))) N 0) λHC=>
(M.gC N a0 a1).bind λFI=>
br (J:=Unit) (R:=Int×Int) (Loop (S:=Int) (X:=Unit⊕(Int×Int)) (λQy=>
(if(acS (Qy<(j3.2.2.2.2.2.length:Int)))then
(M.gJ N j3.2 Qy (FI.1,(FI.2.1,(FI.2.2.2.1,(FI.2.2.2.2.1,(FI.2.2.2.2.2,FI.2.2.1)))))).bind λVN=>
(if(!acS (VN=0))then
some (.inr (.inr (VN,aaV.wrap (300+Qy))))
else
some (.inl (aaV.wrap (Qy+1))))
else
some (.inr (.inl ())))) N 0) λTd=>
Loop (S:=Int) (X:=Int×Int) (λPn=>
(if(acS (Pn<(j3.2.2.2.2.1.length:Int)))then
(M.fc N j3.2 Pn).bind λYj=>
(M.dg N Yj Pn).bind λTc=>
(if Tc then
some (.inr (9,aaV.wrap (200+Pn)))
else
some (.inl (aaV.wrap (Pn+1))))
else
some (.inr (0,0)))) N 0)))))
theorem Yk(N:Nat):Fo 64 (.i1 [.g cC, .l ae]) (.i1 [.l ae, .l ae]) (u2 (M.iI N)):=fz N [ck (OZ N),ck (SQ N),ck (VF N),ck (Pk N),ck (XU N),ck (XV N),ck (Tl N),ck (Tn N),ck (Tx N)] (.o (.o (.o (.meet ⟨[(8, .l .bool)],[(128, .box 50 (.leaf aV))],[],241⟩ .nil (.two (.two (.o (.o (.o (.o (.mb 52 353))))) .nil) (.join ⟨[],[],[],513⟩ (.o (.two (.lp 89 577 .nil) .nil)) (.join ⟨[],[],[],513⟩ (.o (.two (.lp 110 577 .nil) .nil)) (.o (.join ⟨[],[],[],593⟩ (.o (.two (.lp 136 657 .nil) .nil)) (.two (.o (.two (.lp 152 657 .nil) .nil)) .nil)))))))))) Tryz.func64
def M.gS(N:Nat)(a0:cC.den):Option (al.den):=
(if(acS (4<(a0.2.2.length:Int)))then
some (4,(3,(4,0)))
else
br (J:=Unit) (R:=al.den) (Loop (S:=Int) (X:=Unit⊕(al.den)) (λs2=>
(if(acS (s2<(a0.2.2.length:Int)))then
(M.iI N a0 s2).bind λy3=>
(if(!acS (y3.1=0))then
some (.inr (.inr (y3.1,(3,(s2,y3.2)))))
else
some (.inl (aaV.wrap (s2+1))))
else
some (.inr (.inl ())))) N 0) λj1=>
some (0,(0,(0,0))))
theorem Yl(N:Nat):Fo 39 (.i1 [.g cC]) (.i1 [.g al]) (M.gS N):=fz N [ck (Yk N)] (.o (.o (.join ⟨[],[],[],96⟩ (.o (.two (.lp 14 160 .nil) .nil)) .nil))) Tryz.func39
def M.eV(N:Nat)(a0:cC.den):Option (al.den):=
(M.iA N a0).bind λy1=>
(if(!acS (y1.1=0))then
some y1
else
(M.gQ N a0).bind λy2=>
(if(!acS (y2.1=0))then
some y2
else
(M.gS N a0).bind λy3=>
some y3))
theorem Ym(N:Nat):Fo 16 (.i1 [.g cC]) (.i1 [.g al]) (M.eV N):=fz N [ck (XQ N),ck (XT N),ck (Yl N)] .nil Tryz.func16
def M.eW(N:Nat)(a0:aa.den)(a1:Int):Option Bool:=
((M.dL N a0).bind λy2=>
(if y2 then
(if(acS (a0.1<=a1))then
some (acS (a1<a0.2))
else
some acR)
else
some acR):Option Bool).bind λj1=>
some j1
theorem Yn(N:Nat):Fo 42 (.i1 [.g aa, .l ae]) (.i1 [.l .bool]) (u2 (M.eW N)):=fz N [ck (SU N)] (.o (.mb 4 32)) Tryz.func42
def M.du(N:Nat)(a0:cL.den)(a1:Int)(a2:Int):Option (Bool×Int×Int):=
((if(acS (a0.2.1=a1))then
(M.eW N a0.2.2.2.2.1 a2).bind λy2=>
some y2
else
some acR):Option Bool).bind λj1=>
some (j1,a1,a2)
theorem Po(N:Nat):Fo 41 (.j1 [.g cL, .ptr 0 [] 0, .ptr 1 [] 0] [.box 3 (.leaf ae), .box 3 (.leaf ae)] 2) (.j1 [.l .bool] [.box 3 (.leaf ae), .box 3 (.leaf ae)] 4) (u3 (M.du N)):=fz N [ck (Yn N)] (.o (.mb 4 34)) Tryz.func41
def M.dv(N:Nat)(a0:List cL.den)(a1:Int)(a2:Int):Option (Int×Int×(List Int)×List Int):=
(uU (a0.length:Int) 0).bind λl1=>
Loop (S:=Int×Int×Int×(List Int)×(List Int)×List Int) (X:=Int×Int×(List Int)×List Int) (λs2=>
(if(acS (s2.1<(a0.length:Int)))then
((idx a0 s2.1).bind λx4=>
(((if(acS (0<=x4.2.2.1))then
some (acS (x4.2.2.1<s2.1))
else
some acR):Option Bool).bind λj6=>
(if j6 then
(idx s2.2.2.2.1 x4.2.2.1).bind λx7=>
some x7
else
some (-1)):Option Int).bind λj5=>
(idx s2.2.2.2.1 s2.1).bind λx8=>
(M.du N x4 s2.2.1 s2.2.2.1).bind λy9=>
(if y9.1 then
(idx (bF s2.2.2.2.1 s2.1 j5) s2.1).bind λqe=>
(bK s2.2.2.2.2.1 ([s2.1]:List Int)).bind λJ9=>
(bK s2.2.2.2.2.2 ([j5]:List Int)).bind λC0=>
some (y9.2.1,y9.2.2,bF (bF s2.2.2.2.1 s2.1 j5) s2.1 (s2.2.2.2.2.1.length:Int),J9,C0)
else
some (y9.2.1,y9.2.2,bF s2.2.2.2.1 s2.1 j5,s2.2.2.2.2.1,s2.2.2.2.2.2)):Option (Int×Int×(List Int)×(List Int)×List Int)).bind λj3=>
some (.inl (aaV.wrap (s2.1+1),j3.1,j3.2.1,j3.2.2.1,j3.2.2.2.1,j3.2.2.2.2))
else
some (.inr (s2.2.1,s2.2.2.1,s2.2.2.2.2.1,s2.2.2.2.2.2)))) N (0,a1,a2,l1,([]:List Int),([]:List Int))
theorem Pp(N:Nat):Fo 40 (.j1 [.l (.slice cL), .fn 41 [(0,[],0),(1,[],0)]] [.box 3 (.leaf ae), .box 3 (.leaf ae)] 2) (.j1 [.val acR (.own 2), .val acR (.own 3)] [.box 3 (.leaf ae), .box 3 (.leaf ae), .own 3 ae, .own 3 ae] 6) (u3 (M.dv N)):=fz N [ck (Po N)] (.o (.o (.o (.two (.o (.two (.loop ⟨[(6, .val acR (.own 178)),(7, .val acR (.own 179)),(17, .l ae)],[(0, .box 3 (.leaf ae)),(1, .box 3 (.leaf ae)),(98, .own 3 ae),(178, .own 3 ae),(179, .own 3 ae)],[],183⟩ (.o (.o (.two (.meet ⟨[(6, .val acR (.own 199)),(7, .val acR (.own 200))],[(0, .box 3 (.leaf ae)),(1, .box 3 (.leaf ae)),(98, .own 3 ae),(199, .own 3 ae),(200, .own 3 ae)],[178,179],204⟩ (.o (.o (.meet ⟨[(11, .l ae)],[],[],311⟩ (.mb 30 311) .nil))) .nil) .nil)))) .nil)) .nil)))) Tryz.func40
def M.ga(N:Nat)(a0:aV.den)(a1:Int)(a2:Int):Option ((List Int)×(List Int)×List Int):=
(M.dv N a0.2.2.2.2 a1 a2).bind λy1=>
(Loop (S:=Int×List Int) (X:=List Int) (λs3=>
(if(acS (s3.1<(y1.2.2.1.length:Int)))then
(idx y1.2.2.1 s3.1).bind λx4=>
(idx a0.2.2.2.2 x4).bind λx5=>
(bK s3.2 ([x5.2.2.2.1]:List Int)).bind λl6=>
some (.inl (aaV.wrap (s3.1+1),l6))
else
some (.inr s3.2))) N (0,([]:List Int)):Option (List Int)).bind λj2=>
some (y1.2.2.1,y1.2.2.2,j2)
theorem Yo(N:Nat):Fo 17 (.i1 [.g aV, .l ae, .l ae]) (.j1 [.val acR (.own 0), .val acR (.own 1), .val acR (.own 2)] [.own 3 ae, .own 3 ae, .own 3 ae] 3) (u3 (M.ga N)):=fz N [ck (Pp N)] (.o (.o (.o (.meet ⟨[(11, .val acR (.own 256))],[(256, .own 3 ae)],[],257⟩ (.o (.two (.loop ⟨[(11, .val acR (.own 304)),(23, .l ae)],[(304, .own 3 ae)],[],305⟩ .nil) .nil)) .nil)))) Tryz.func17
def M.bj(N:Nat)(a0:List aa.den)(a1:List aa.den):Option Bool:=
(if(!acS ((a0.length:Int)=(a1.length:Int)))then
some acR
else
Loop (S:=Int) (X:=Bool) (λs1=>
(if(acS (s1<(a0.length:Int)))then
(idx a0 s1).bind λx2=>
(idx a1 s1).bind λx3=>
(if(!(lz aa x2 x3))then
some (.inr acR)
else
some (.inl (aaV.wrap (s1+1))))
else
some (.inr acQ))) N 0)
theorem Yp(N:Nat):Fo 47 (.i1 [.l (.slice aa), .l (.slice aa)]) (.i1 [.l .bool]) (u2 (M.bj N)):=fz N [] (.o (.o (.two (.o (.two (.lp 13 144 .nil) .nil)) .nil))) Tryz.func47
def M.dh(N:Nat)(a0:List (List aa.den))(a1:List aa.den):Option Int:=
Loop (S:=Int) (X:=Int) (λs1=>
(if(acS (s1<(a0.length:Int)))then
(idx a0 s1).bind λx2=>
(M.bj N x2 a1).bind λy3=>
(if y3 then
some (.inr s1)
else
some (.inl (aaV.wrap (s1+1))))
else
some (.inr (-1)))) N 0
theorem Yq(N:Nat):Fo 24 (.i1 [.l (.slice (.slice aa)), .l (.slice aa)]) (.i1 [.l ae]) (u2 (M.dh N)):=fz N [ck (Yp N)] (.o (.two (.o (.two (.lp 9 64 .nil) .nil)) .nil)) Tryz.func24
def M.bk(N:Nat)(a0:List aa.den):Option (List aa.den):=
(if aaY (a0).length 0 then
yS (some ([]:List aa.den))
((bK ([]:List aa.den) a0).bind λl1=>
some l1)
else
(bK ([]:List aa.den) a0).bind λl2=>
some l2)
theorem Yr(N:Nat):Fo 25 (.i1 [.l (.slice aa)]) (.w1 81 aa) (M.bk N):=fz N [] .nil Tryz.func25
def M.cy(N:Nat)(a0:List Int)(a1:List Int):Option Int:=
(if(!acS ((a0.length:Int)=(a1.length:Int)))then
some 2
else
(if(acS (8<(a0.length:Int)))then
some 4
else
Loop (S:=Int) (X:=Int) (λs1=>
(if(acS (s1<(a0.length:Int)))then
(idx a0 s1).bind λx2=>
((if(acS (x2<(-1)))then
some acQ
else
some (acS (s1<=x2))):Option Bool).bind λj3=>
(if j3 then
some (.inr 9)
else
((idx a1 s1).bind λx5=>
(if(acS (x5<0))then
some acQ
else
(idx a1 s1).bind λx6=>
some (acS (9<x6))):Option Bool).bind λj4=>
(if j4 then
some (.inr 3)
else
some (.inl (aaV.wrap (s1+1)))))
else
some (.inr 0))) N 0))
theorem Ys(N:Nat):Fo 43 (.i1 [.l (.slice ae), .l (.slice ae)]) (.i1 [.l ae]) (u2 (M.cy N)):=fz N [] (.o (.o (.o (.two (.o (.two (.lp 17 192 (.o (.o (.two (.two (.o (.two (.mb 28 288) (.mb 40 288))) .nil) .nil)))) .nil)) .nil)))) Tryz.func43
def M.cO(N:Nat)(a0:List Int)(a1:Int):Option (List Int):=
Loop (S:=Int×List Int) (X:=List Int) (λs1=>
(if(acS (s1.1<(a0.length:Int)))then
((idx a0 s1.1).bind λx3=>
(if(acS (x3=a1))then
(bK s1.2 ([s1.1]:List Int)).bind λl4=>
some l4
else
some s1.2):Option (List Int)).bind λj2=>
some (.inl (aaV.wrap (s1.1+1),j2))
else
some (.inr s1.2))) N (0,([]:List Int))
theorem TA(N:Nat):Fo 103 (.i1 [.l (.slice ae), .l ae]) (.w1 3 ae) (u2 (M.cO N)):=fz N [] (.o (.o (.two (.o (.two (.loop ⟨[(5, .val acR (.own 80)),(10, .l ae)],[(80, .own 3 ae)],[],81⟩ (.o (.o (.two (.meet ⟨[(5, .val acR (.own 97))],[(97, .own 3 ae)],[80],98⟩ .nil .nil) .nil)))) .nil)) .nil))) Tryz.func103
def M.cX(N:Nat)(a0:eA.den)(a1:Int):Option (List Int):=
(M.cO N a0.1 a1).bind λy1=>
Loop (S:=Int×List Int) (X:=List Int) (λs2=>
(if(acS (s2.1<(y1.length:Int)))then
((idx y1 s2.1).bind λx4=>
(idx a0.2.2 x4).bind λx5=>
(if(acS (x5=(-1)))then
some s2.2
else
(((if(acS (0<(s2.2.length:Int)))then
(idx a0.2.1 x4).bind λx8=>
(idx s2.2 0).bind λx9=>
(idx a0.2.1 x9).bind λqe=>
some (acS (qe<x8))
else
some acR):Option Bool).bind λj7=>
(if j7 then
(dX s2.2 0 0).bind λJ9=>
some J9
else
some s2.2):Option (List Int)).bind λj6=>
((if(acS ((j6.length:Int)=0))then
some acQ
else
(idx a0.2.1 x4).bind λrU=>
(idx j6 0).bind λCY=>
(idx a0.2.1 CY).bind λAm=>
some (acS (rU=Am))):Option Bool).bind λoG=>
(if oG then
(bK j6 ([x4]:List Int)).bind λMv=>
some Mv
else
some j6)):Option (List Int)).bind λj3=>
some (.inl (aaV.wrap (s2.1+1),j3))
else
some (.inr s2.2))) N (0,([]:List Int))
theorem Yt(N:Nat):Fo 66 (.i1 [.g eA, .l ae]) (.w1 3 ae) (u2 (M.cX N)):=fz N [ck (TA N)] (.o (.o (.two (.o (.two (.loop ⟨[(5, .val acR (.own 144)),(13, .l ae)],[(144, .own 3 ae)],[],145⟩ (.o (.o (.two (.meet ⟨[(5, .val acR (.own 161))],[(161, .own 3 ae)],[144],162⟩ (.o (.o (.meet ⟨[(5, .val acR (.own 305))],[(305, .own 3 ae)],[144],306⟩ (.mb 40 305) (.mb 60 306)))) .nil) .nil)))) .nil)) .nil))) Tryz.func66
def M.bC(N:Nat)(a0:eA.den)(a1:Int):Option Int:=
(M.cX N a0 a1).bind λy1=>
(if(acS ((y1.length:Int)=0))then
some (-1)
else
(if(acS ((y1.length:Int)=1))then
(idx y1 0).bind λx2=>
(idx a0.2.2 x2).bind λx3=>
some x3
else
some (-2)))
theorem VO(N:Nat):Fo 45 (.i1 [.g eA, .l ae]) (.i1 [.l ae]) (u2 (M.bC N)):=fz N [ck (Yt N)] .nil Tryz.func45
def M.di(N:Nat)(a0:List Int)(a1:List Int)(a2:List Bool):Option (List Int):=
(uU (a0.length:Int) 0).bind λl1=>
Loop (S:=Int×List Int) (X:=List Int) (λs2=>
(if(acS (0<=s2.1))then
((M.bC N (a0,(a1,s2.2)) s2.1).bind λy4=>
(idx s2.2 s2.1).bind λx5=>
((idx (bF s2.2 s2.1 y4) s2.1).bind λx7=>
(if(acS (x7=(-1)))then
(idx a2 s2.1).bind λx8=>
some x8
else
some acR):Option Bool).bind λj6=>
(if j6 then
(idx (bF s2.2 s2.1 y4) s2.1).bind λx9=>
some (bF (bF s2.2 s2.1 y4) s2.1 s2.1)
else
some (bF s2.2 s2.1 y4)):Option (List Int)).bind λj3=>
some (.inl (aaV.wrap (s2.1-1),j3))
else
some (.inr s2.2))) N (aaV.wrap ((a0.length:Int)-1),l1)
theorem Yu(N:Nat):Fo 44 (.i1 [.l (.slice ae), .l (.slice ae), .l (.slice .bool)]) (.w1 3 ae) (u3 (M.di N)):=fz N [ck (VO N)] (.o (.o (.two (.o (.two (.loop ⟨[(8, .l ae)],[(80, .own 3 ae)],[],209⟩ (.o (.two (.meet ⟨[],[(80, .own 3 ae)],[],242⟩ (.o (.mb 40 369)) .nil) .nil))) .nil)) .nil))) Tryz.func44
def M.b8(N:Nat)(a0:List Int)(a1:List Int)(a2:List Bool):Option Int:=
((M.cy N a0 a1).bind λy2=>
(if(!acS (y2=0))then
some acQ
else
some (!acS ((a2.length:Int)=(a0.length:Int)))):Option Bool).bind λj1=>
(if j1 then
some (-1)
else
(M.di N a0 a1 a2).bind λy3=>
(M.bC N (a0,(a1,y3)) (-1)).bind λy4=>
some y4)
theorem Yv(N:Nat):Fo 18 (.i1 [.l (.slice ae), .l (.slice ae), .l (.slice .bool)]) (.i1 [.l ae]) (u3 (M.b8 N)):=fz N [ck (Ys N),ck (Yu N),ck (VO N)] (.o (.two (.mb 17 16) .nil)) Tryz.func18
def M.bM(N:Nat)(a0:List Int)(a1:List Int)(a2:List Int)(a3:List Int)(a4:Int):Option (List Int):=
(rP .i64 1 a4).bind λx1=>
(uU x1 0).bind λl2=>
(uU (a0.length:Int) acR).bind λl3=>
Loop (S:=Int×(List Int)×List Bool) (X:=List Int) (λs4=>
(if(acS (s4.1<(l2.length:Int)))then
(((Loop (S:=Int×List Bool) (X:=List Bool) (λs8=>
(if(acS (s8.1<(a3.length:Int)))then
((idx a3 s8.1).bind λqe=>
(if(acS (qe<0))then
(idx s8.2 s8.1).bind λsu=>
some (bF s8.2 s8.1 acQ)
else
(DQ .i64 s4.1 qe).bind λAl=>
(idx s8.2 s8.1).bind λrU=>
some (bF s8.2 s8.1 (acS ((au .and .i64 Al 1)=1)))):Option (List Bool)).bind λj9=>
some (.inl (aaV.wrap (s8.1+1),j9))
else
some (.inr s8.2))) N (0,s4.2.2):Option (List Bool)).bind λj7=>
(M.b8 N a1 a2 j7).bind λsv=>
((if(acS (0<=sv))then
some (acS (sv<(a0.length:Int)))
else
some acR):Option Bool).bind λHC=>
(if HC then
(idx a0 sv).bind λMj=>
(idx s4.2.1 s4.1).bind λMp=>
some (bF s4.2.1 s4.1 Mj,j7)
else
(idx s4.2.1 s4.1).bind λCZ=>
some (bF s4.2.1 s4.1 sv,j7)):Option ((List Int)×List Bool)).bind λj6=>
some (j6.1,j6.2):Option ((List Int)×List Bool)).bind λj5=>
some (.inl (aaV.wrap (s4.1+1),j5.1,j5.2))
else
some (.inr s4.2.1))) N (0,l2,l3)
theorem Yw(N:Nat):Fo 26 (.i1 [.l (.slice ae), .l (.slice ae), .l (.slice ae), .l (.slice ae), .l ae]) (.w1 3 ae) (u5 (M.bM N)):=fz N [ck (Yv N)] (.o (.o (.o (.two (.o (.two (.loop ⟨[(25, .l ae)],[(48, .own 3 ae),(112, .own 4 .bool)],[],194⟩ (.o (.o (.meet ⟨[],[(48, .own 3 ae),(112, .own 4 .bool)],[],212⟩ (.meet ⟨[],[(48, .own 3 ae),(112, .own 4 .bool)],[],212⟩ (.o (.meet ⟨[],[(112, .own 4 .bool)],[],243⟩ (.o (.two (.loop ⟨[(30, .l ae)],[(112, .own 4 .bool)],[],291⟩ (.o (.o (.two (.meet ⟨[],[(112, .own 4 .bool)],[],308⟩ .nil .nil) .nil)))) .nil)) (.o (.mb 59 323)))) .nil) .nil)))) .nil)) .nil)))) Tryz.func26
def M.dN(N:Nat)(a0:aa.den)(a1:Int):Option Bool:=
some (acS ((au .and .i64 a1 a0.1)=a0.2))
theorem TB(N:Nat):Fo 20 (.i1 [.g aa, .l ae]) (.i1 [.l .bool]) (u2 (M.dN N)):=fz N [] .nil Tryz.func20
def M.dR(N:Nat)(a0:Int):Option Int:=
some (if 8<(if a0<0 then 0 else a0)then 8 else(if a0<0 then 0 else a0))
theorem VP(N:Nat):Fo 56 (.i1 [.l ae]) (.i1 [.l ae]) (M.dR N):=fz N [] .nil Tryz.func56
def M.fo(N:Nat)(a0:Int):Option Int:=
some (au .and .i64 (aaV.wrap (aa0.wrap ((aa0.wrap ((aa0.wrap ((au .and .u64 (aa0.wrap ((cd .u64 (aa0.wrap ((au .and .u64 (cd .u64 (aa0.wrap ((au .and .u64 (cd .u64 a0 1) 6148914691236517205)+(au .and .u64 a0 6148914691236517205))) 2) 3689348814741910323)+(au .and .u64 (aa0.wrap ((au .and .u64 (cd .u64 a0 1) 6148914691236517205)+(au .and .u64 a0 6148914691236517205))) 3689348814741910323))) 4)+(aa0.wrap ((au .and .u64 (cd .u64 (aa0.wrap ((au .and .u64 (cd .u64 a0 1) 6148914691236517205)+(au .and .u64 a0 6148914691236517205))) 2) 3689348814741910323)+(au .and .u64 (aa0.wrap ((au .and .u64 (cd .u64 a0 1) 6148914691236517205)+(au .and .u64 a0 6148914691236517205))) 3689348814741910323))))) 1085102592571150095)+(cd .u64 (au .and .u64 (aa0.wrap ((cd .u64 (aa0.wrap ((au .and .u64 (cd .u64 (aa0.wrap ((au .and .u64 (cd .u64 a0 1) 6148914691236517205)+(au .and .u64 a0 6148914691236517205))) 2) 3689348814741910323)+(au .and .u64 (aa0.wrap ((au .and .u64 (cd .u64 a0 1) 6148914691236517205)+(au .and .u64 a0 6148914691236517205))) 3689348814741910323))) 4)+(aa0.wrap ((au .and .u64 (cd .u64 (aa0.wrap ((au .and .u64 (cd .u64 a0 1) 6148914691236517205)+(au .and .u64 a0 6148914691236517205))) 2) 3689348814741910323)+(au .and .u64 (aa0.wrap ((au .and .u64 (cd .u64 a0 1) 6148914691236517205)+(au .and .u64 a0 6148914691236517205))) 3689348814741910323))))) 1085102592571150095) 8)))+(cd .u64 (aa0.wrap ((au .and .u64 (aa0.wrap ((cd .u64 (aa0.wrap ((au .and .u64 (cd .u64 (aa0.wrap ((au .and .u64 (cd .u64 a0 1) 6148914691236517205)+(au .and .u64 a0 6148914691236517205))) 2) 3689348814741910323)+(au .and .u64 (aa0.wrap ((au .and .u64 (cd .u64 a0 1) 6148914691236517205)+(au .and .u64 a0 6148914691236517205))) 3689348814741910323))) 4)+(aa0.wrap ((au .and .u64 (cd .u64 (aa0.wrap ((au .and .u64 (cd .u64 a0 1) 6148914691236517205)+(au .and .u64 a0 6148914691236517205))) 2) 3689348814741910323)+(au .and .u64 (aa0.wrap ((au .and .u64 (cd .u64 a0 1) 6148914691236517205)+(au .and .u64 a0 6148914691236517205))) 3689348814741910323))))) 1085102592571150095)+(cd .u64 (au .and .u64 (aa0.wrap ((cd .u64 (aa0.wrap ((au .and .u64 (cd .u64 (aa0.wrap ((au .and .u64 (cd .u64 a0 1) 6148914691236517205)+(au .and .u64 a0 6148914691236517205))) 2) 3689348814741910323)+(au .and .u64 (aa0.wrap ((au .and .u64 (cd .u64 a0 1) 6148914691236517205)+(au .and .u64 a0 6148914691236517205))) 3689348814741910323))) 4)+(aa0.wrap ((au .and .u64 (cd .u64 (aa0.wrap ((au .and .u64 (cd .u64 a0 1) 6148914691236517205)+(au .and .u64 a0 6148914691236517205))) 2) 3689348814741910323)+(au .and .u64 (aa0.wrap ((au .and .u64 (cd .u64 a0 1) 6148914691236517205)+(au .and .u64 a0 6148914691236517205))) 3689348814741910323))))) 1085102592571150095) 8))) 16)))+(cd .u64 (aa0.wrap ((aa0.wrap ((au .and .u64 (aa0.wrap ((cd .u64 (aa0.wrap ((au .and .u64 (cd .u64 (aa0.wrap ((au .and .u64 (cd .u64 a0 1) 6148914691236517205)+(au .and .u64 a0 6148914691236517205))) 2) 3689348814741910323)+(au .and .u64 (aa0.wrap ((au .and .u64 (cd .u64 a0 1) 6148914691236517205)+(au .and .u64 a0 6148914691236517205))) 3689348814741910323))) 4)+(aa0.wrap ((au .and .u64 (cd .u64 (aa0.wrap ((au .and .u64 (cd .u64 a0 1) 6148914691236517205)+(au .and .u64 a0 6148914691236517205))) 2) 3689348814741910323)+(au .and .u64 (aa0.wrap ((au .and .u64 (cd .u64 a0 1) 6148914691236517205)+(au .and .u64 a0 6148914691236517205))) 3689348814741910323))))) 1085102592571150095)+(cd .u64 (au .and .u64 (aa0.wrap ((cd .u64 (aa0.wrap ((au .and .u64 (cd .u64 (aa0.wrap ((au .and .u64 (cd .u64 a0 1) 6148914691236517205)+(au .and .u64 a0 6148914691236517205))) 2) 3689348814741910323)+(au .and .u64 (aa0.wrap ((au .and .u64 (cd .u64 a0 1) 6148914691236517205)+(au .and .u64 a0 6148914691236517205))) 3689348814741910323))) 4)+(aa0.wrap ((au .and .u64 (cd .u64 (aa0.wrap ((au .and .u64 (cd .u64 a0 1) 6148914691236517205)+(au .and .u64 a0 6148914691236517205))) 2) 3689348814741910323)+(au .and .u64 (aa0.wrap ((au .and .u64 (cd .u64 a0 1) 6148914691236517205)+(au .and .u64 a0 6148914691236517205))) 3689348814741910323))))) 1085102592571150095) 8)))+(cd .u64 (aa0.wrap ((au .and .u64 (aa0.wrap ((cd .u64 (aa0.wrap ((au .and .u64 (cd .u64 (aa0.wrap ((au .and .u64 (cd .u64 a0 1) 6148914691236517205)+(au .and .u64 a0 6148914691236517205))) 2) 3689348814741910323)+(au .and .u64 (aa0.wrap ((au .and .u64 (cd .u64 a0 1) 6148914691236517205)+(au .and .u64 a0 6148914691236517205))) 3689348814741910323))) 4)+(aa0.wrap ((au .and .u64 (cd .u64 (aa0.wrap ((au .and .u64 (cd .u64 a0 1) 6148914691236517205)+(au .and .u64 a0 6148914691236517205))) 2) 3689348814741910323)+(au .and .u64 (aa0.wrap ((au .and .u64 (cd .u64 a0 1) 6148914691236517205)+(au .and .u64 a0 6148914691236517205))) 3689348814741910323))))) 1085102592571150095)+(cd .u64 (au .and .u64 (aa0.wrap ((cd .u64 (aa0.wrap ((au .and .u64 (cd .u64 (aa0.wrap ((au .and .u64 (cd .u64 a0 1) 6148914691236517205)+(au .and .u64 a0 6148914691236517205))) 2) 3689348814741910323)+(au .and .u64 (aa0.wrap ((au .and .u64 (cd .u64 a0 1) 6148914691236517205)+(au .and .u64 a0 6148914691236517205))) 3689348814741910323))) 4)+(aa0.wrap ((au .and .u64 (cd .u64 (aa0.wrap ((au .and .u64 (cd .u64 a0 1) 6148914691236517205)+(au .and .u64 a0 6148914691236517205))) 2) 3689348814741910323)+(au .and .u64 (aa0.wrap ((au .and .u64 (cd .u64 a0 1) 6148914691236517205)+(au .and .u64 a0 6148914691236517205))) 3689348814741910323))))) 1085102592571150095) 8))) 16))) 32)))) 127)
theorem TC(N:Nat):Fo 148 (.i1 [.l (.int .u64)]) (.i1 [.l ae]) (M.fo N):=fz N [] .nil Tryz.func148
def M.cr(N:Nat)(a0:Int):Option Int:=
(M.fo N a0).bind λy1=>
some y1
theorem Pq(N:Nat):Fo 109 (.i1 [.l (.int .u64)]) (.i1 [.l ae]) (M.cr N):=fz N [ck (TC N)] .nil Tryz.func109
def M.jx(N:Nat)(a0:aa.den)(a1:aa.den):Option (aa.den×Bool):=
((if(!acS (a0.1=a1.1))then
some acQ
else
(M.cr N (aa0.wrap (au .xor .i64 a0.2 a1.2))).bind λy2=>
(if(!acS (y2=1))then
some acQ
else
some (acS ((au .and .i64 (au .xor .i64 a0.2 a1.2) a0.1)=0)))):Option Bool).bind λj1=>
(if j1 then
some ((0,0),acR)
else
some ((au .andNot .i64 a0.1 (au .xor .i64 a0.2 a1.2),au .andNot .i64 a0.2 (au .xor .i64 a0.2 a1.2)),acQ))
theorem TD(N:Nat):Fo 104 (.i1 [.g aa, .g aa]) (.i1 [.g aa, .l .bool]) (u2 (M.jx N)):=fz N [ck (Pq N)] (.o (.o (.two (.mb 29 160) .nil))) Tryz.func104
def M.mu(N:Nat)(a0:List Int):Option Int:=
Loop (S:=Int) (X:=Int) (λs1=>
(if(acS (s1<(a0.length:Int)))then
(idx a0 s1).bind λx2=>
(if(!acS (x2=0))then
some (.inr x2)
else
some (.inl (aaV.wrap (s1+1))))
else
some (.inr 0))) N 0
theorem TE(N:Nat):Fo 107 (.i1 [.l (.slice ae)]) (.i1 [.l ae]) (M.mu N):=fz N [] (.o (.o (.two (.o (.two (.lp 8 80 .nil) .nil)) .nil))) Tryz.func107
def M.cmp_isNaN_int(N:Nat)(a0:Int):Option Bool:=
some (!acS (a0=a0))
theorem TF(N:Nat):Fo 146 (.i1 [.l ae]) (.i1 [.l .bool]) (M.cmp_isNaN_int N):=fz N [] .nil Tryz.func146
def M.cmp_Compare_int(N:Nat)(a0:Int)(a1:Int):Option Int:=
(M.cmp_isNaN_int N a0).bind λy1=>
(M.cmp_isNaN_int N a1).bind λy2=>
(if y1 then
(if y2 then
some 0
else
some (-1))
else
(if y2 then
some 1
else
(if(acS (a0<a1))then
some (-1)
else
(if(acS (a1<a0))then
some 1
else
some 0))))
theorem TG(N:Nat):Fo 108 (.i1 [.l ae, .l ae]) (.i1 [.l ae]) (u2 (M.cmp_Compare_int N)):=fz N [ck (TF N)] .nil Tryz.func108
def M.bV(N:Nat)(a0:aa.den)(a1:aa.den):Option Int:=
(M.cr N (aa0.wrap a0.1)).bind λy1=>
(M.cr N (aa0.wrap a1.1)).bind λy2=>
(M.cmp_Compare_int N y1 y2).bind λy3=>
(M.cmp_Compare_int N a0.1 a1.1).bind λy4=>
(M.cmp_Compare_int N a0.2 a1.2).bind λy5=>
(M.mu N ([y3,y4,y5]:List Int)).bind λy6=>
some y6
theorem TH(N:Nat):Fo 106 (.i1 [.g aa, .g aa]) (.i1 [.l ae]) (u2 (M.bV N)):=fz N [ck (TE N),ck (TG N),ck (Pq N)] .nil Tryz.func106
def M.dS(N:Nat)(a0:Int)(a1:List (aa.den×Bool)):Option (List (aa.den×Bool)):=
nq (S:=(List (aa.den×Bool))×(List (aa.den×Bool))×List aa.den) (R:=List (aa.den×Bool)) (λs1 k2=>
(if(s1.2.1).isEmpty then
Loop (S:=(List (aa.den×Bool))×List aa.den) (X:=List (aa.den×Bool)) (λs4=>
(if(acS (0<(s4.2.length:Int)))then
(Loop (S:=Int×(List (aa.den×Bool))×List aa.den) (X:=(List (aa.den×Bool))×List aa.den) (λs6=>
(if(acS (s6.1<(s4.2.length:Int)))then
((idx s4.2 s6.1).bind λx8=>
Loop (S:=Int×(List (aa.den×Bool))×List aa.den) (X:=(List (aa.den×Bool))×List aa.den) (λs9=>
(if(acS (s9.1<a0))then
((rP .i64 1 s9.1).bind λsu=>
(if(!((bn aa s9.2.1 (x8.1,au .xor .i64 x8.2 su)).getD acR))then
some (s9.2.1,s9.2.2)
else
(M.jx N x8 (x8.1,au .xor .i64 x8.2 su)).bind λJ8=>
((if J8.2 then
some (!((bn aa s9.2.1 J8.1).getD acR))
else
some acR):Option Bool).bind λEZ=>
(if EZ then
(bK s9.2.2 ([J8.1]:List aa.den)).bind λPs=>
some (ow aa s9.2.1 J8.1 acQ,Ps)
else
some (s9.2.1,s9.2.2))):Option ((List (aa.den×Bool))×List aa.den)).bind λpq=>
some (.inl (aaV.wrap (s9.1+1),pq.1,pq.2))
else
some (.inr (s9.2.1,s9.2.2)))) N (0,s6.2.1,s6.2.2):Option ((List (aa.den×Bool))×List aa.den)).bind λj7=>
some (.inl (aaV.wrap (s6.1+1),j7.1,j7.2))
else
some (.inr (s6.2.1,s6.2.2)))) N (0,s4.1,([]:List aa.den)):Option ((List (aa.den×Bool))×List aa.den)).bind λj5=>
some (.inl (j5.1,j5.2))
else
some (.inr s4.1))) N (s1.1,s1.2.2)
else
JB (λp=>p∈s1.2.1) λx3=>
(bK s1.2.2 ([x3.1]:List aa.den)).bind λYx=>
k2 (s1.1,kI aa s1.2.1 x3.1,Yx))) N (a1,a1,([]:List aa.den))
theorem Pu(N:Nat):Fo 67 (.j1 [.val acR (.own 0), .l ae] [.smap 115 aa acR .bool acP] 1) (.j1 [] [.smap 115 aa acR .bool acP] 2) (u2 (M.dS N)):=fz N [ck (TD N)] (.o (.two (.o (.two (.loopK ⟨[(4, .val acR (.own 49))],[(0, .smap 115 aa acR .bool (some 34)),(49, .own 58 aa)],[],51⟩ .nil) .nil)) (.two (.loop ⟨[(4, .val acR (.own 83))],[(0, .smap 115 aa acR .bool acP),(83, .own 58 aa)],[49],85⟩ (.o (.two (.o (.meet ⟨[(6, .val acR (.own 149))],[(0, .smap 115 aa acR .bool acP),(149, .own 58 aa)],[],151⟩ (.o (.two (.loop ⟨[(6, .val acR (.own 197)),(28, .l ae)],[(0, .smap 115 aa acR .bool acP),(197, .own 58 aa)],[],199⟩ (.o (.o (.meet ⟨[(6, .val acR (.own 215))],[(0, .smap 115 aa acR .bool acP),(215, .own 58 aa)],[197],217⟩ (.two (.o (.o (.two (.loop ⟨[(6, .val acR (.own 311)),(33, .l ae)],[(0, .smap 115 aa acR .bool acP),(311, .own 58 aa)],[197],313⟩ (.o (.o (.two (.meet ⟨[(6, .val acR (.own 329))],[(0, .smap 115 aa acR .bool acP),(329, .own 58 aa)],[311],331⟩ (.o (.o (.o (.o (.mb 60 729))))) .nil) .nil)))) .nil))) .nil) .nil)))) .nil)) .nil)) .nil))) .nil))) Tryz.func67
def M.aN(N:Nat)(a0:List aa.den):Option (List aa.den):=vI (λa b c d=>M.bV N (a,b) (c,d)) a0
def Mz(N:Nat):ng:=⟨.j1 [.val acR (.own 0), .fn 106 []] [.own 58 aa] 1, .j1 [] [.own 58 aa] 2,M.aN N⟩
theorem MA(N:Nat):fH Tryz.prog 105 (Mz N):=Bz (TH N)
def M.fx(N:Nat)(a0:Int)(a1:List (aa.den×Bool)):Option ((List (aa.den×Bool))×List aa.den):=
nq (S:=(List (aa.den×Bool))×(List (aa.den×Bool))×List aa.den) (R:=(List (aa.den×Bool))×List aa.den) (λs1 k2=>
(if(s1.2.1).isEmpty then
(M.aN N s1.2.2).bind λy4=>
some (s1.1,y4)
else
JB (λp=>p∈s1.2.1) λx3=>
((Loop (S:=Bool×Int) (X:=Bool) (λs7=>
(if(acS (s7.2<a0))then
((rP .i64 1 s7.2).bind λx9=>
(rP .i64 1 s7.2).bind λqe=>
((if(!(lz aa (au .andNot .i64 x3.1.1 x9,au .andNot .i64 x3.1.2 qe) x3.1))then
some ((bn aa s1.1 (au .andNot .i64 x3.1.1 x9,au .andNot .i64 x3.1.2 qe)).getD acR)
else
some acR):Option Bool).bind λvJ=>
(if vJ then
some acR
else
some s7.1):Option Bool).bind λj8=>
some (.inl (j8,aaV.wrap (s7.2+1)))
else
some (.inr s7.1))) N (acQ,0):Option Bool).bind λj6=>
(if j6 then
(bK s1.2.2 ([x3.1]:List aa.den)).bind λC0=>
some C0
else
some s1.2.2):Option (List aa.den)).bind λj5=>
k2 (s1.1,kI aa s1.2.1 x3.1,j5))) N (a1,a1,([]:List aa.den))
theorem Pv(N:Nat):Fo 68 (.j1 [.val acR (.own 0), .l ae] [.smap 115 aa acR .bool acP] 1) (.j1 [.val acR (.own 1)] [.smap 115 aa acR .bool acP, .own 58 aa] 3) (u2 (M.fx N)):=fz N [ck (MA N)] (.o (.o (.two (.o (.two (.loopK ⟨[(5, .val acR (.own 65))],[(0, .smap 115 aa acR .bool (some 50)),(65, .own 58 aa)],[],67⟩ (.o (.o (.meet ⟨[(5, .val acR (.own 99))],[(99, .own 58 aa)],[65],100⟩ (.o (.o (.meet ⟨[(7, .l .bool)],[],[],179⟩ (.o (.two (.loop ⟨[(7, .l .bool),(17, .l ae)],[],[],211⟩ (.o (.o (.two (.meet ⟨[(7, .l .bool)],[],[],227⟩ (.o (.o (.mb 38 467))) .nil) .nil)))) .nil)) .nil))) .nil)))) .nil)) .nil))) Tryz.func68
def M.gf(N:Nat)(a0:List Int)(a1:Int):Option (List aa.den):=
(M.dR N a1).bind λy1=>
(rP .i64 1 y1).bind λx2=>
(Loop (S:=Int×(List (Int×Bool))×List (aa.den×Bool)) (X:=(List (Int×Bool))×List (aa.den×Bool)) (λs4=>
(if(acS (s4.1<(a0.length:Int)))then
((idx a0 s4.1).bind λx6=>
((if(acS (0<=x6))then
some (acS (x6<x2))
else
some acR):Option Bool).bind λj7=>
(if j7 then
some (lH ae s4.2.1 x6 acQ,ow aa s4.2.2 (aaV.wrap (x2-1),x6) acQ)
else
some (s4.2.1,s4.2.2)):Option ((List (Int×Bool))×List (aa.den×Bool))).bind λj5=>
some (.inl (aaV.wrap (s4.1+1),j5.1,j5.2))
else
some (.inr (s4.2.1,s4.2.2)))) N (0,([]:List (Int×Bool)),([]:List (aa.den×Bool))):Option ((List (Int×Bool))×List (aa.den×Bool))).bind λj3=>
(M.dS N y1 j3.2).bind λy8=>
(M.fx N y1 y8).bind λy9=>
Loop (S:=Int×(List (Int×Bool))×List aa.den) (X:=List aa.den) (λtK=>
(if(acS (tK.1<(y9.2.length:Int)))then
(((idx y9.2 tK.1).bind λrU=>
(Loop (S:=Bool×Int×List (Int×Bool)) (X:=Bool×List (Int×Bool)) (λzy=>
(if(acS (zy.2.1<x2))then
(((if((bn ae zy.2.2 zy.2.1).getD acR)then
(M.dN N rU zy.2.1).bind λTJ=>
some TJ
else
some acR):Option Bool).bind λNt=>
(if Nt then
some (acQ,mN ae zy.2.2 zy.2.1)
else
some (zy.1,zy.2.2)):Option (Bool×List (Int×Bool))).bind λEY=>
some (.inl (EY.1,aaV.wrap (zy.2.1+1),EY.2))
else
some (.inr (zy.1,zy.2.2)))) N (acR,0,tK.2.1):Option (Bool×List (Int×Bool))).bind λJa=>
(if Ja.1 then
(bK tK.2.2 ([rU]:List aa.den)).bind λYy=>
some (Ja.2,Yy)
else
some (Ja.2,tK.2.2)):Option ((List (Int×Bool))×List aa.den)).bind λoG=>
some (oG.1,oG.2):Option ((List (Int×Bool))×List aa.den)).bind λvJ=>
some (.inl (aaV.wrap (tK.1+1),vJ.1,vJ.2))
else
some (.inr tK.2.2))) N (0,j3.1,([]:List aa.den))
theorem Yz(N:Nat):Fo 48 (.i1 [.l (.slice ae), .l ae]) (.w1 58 aa) (u2 (M.gf N)):=fz N [ck (TB N),ck (VP N),ck (Pu N),ck (Pv N)] (.o (.o (.o (.o (.o (.meet ⟨[],[(112, .map 114 ae acR .bool),(144, .smap 115 aa acR .bool acP)],[],178⟩ (.o (.two (.loop ⟨[(23, .l ae)],[(112, .map 114 ae acR .bool),(144, .smap 115 aa acR .bool acP)],[],226⟩ (.o (.o (.two (.meet ⟨[],[(112, .map 114 ae acR .bool),(144, .smap 115 aa acR .bool acP)],[],244⟩ (.o (.mb 33 290)) .nil) .nil)))) .nil)) (.o (.o (.two (.o (.two (.loop ⟨[(10, .val acR (.own 322)),(49, .l ae)],[(112, .map 114 ae acR .bool),(322, .own 58 aa)],[],324⟩ (.o (.o (.meet ⟨[(10, .val acR (.own 340))],[(112, .map 114 ae acR .bool),(340, .own 58 aa)],[322],342⟩ (.meet ⟨[(10, .val acR (.own 340))],[(112, .map 114 ae acR .bool),(340, .own 58 aa)],[322],342⟩ (.o (.o (.meet ⟨[(13, .l .bool)],[(112, .map 114 ae acR .bool)],[],421⟩ (.o (.two (.loop ⟨[(13, .l .bool),(54, .l ae)],[(112, .map 114 ae acR .bool)],[],453⟩ (.o (.o (.two (.meet ⟨[(13, .l .bool)],[(112, .map 114 ae acR .bool)],[],470⟩ (.o (.mb 64 501)) .nil) .nil)))) .nil)) .nil))) .nil) .nil)))) .nil)) .nil))))))))) Tryz.func48
def M.eC(N:Nat)(a0:List Int)(a1:List Int)(a2:Int):Option (List af.den):=
(bK ([(-2),(-1)]:List Int) a1).bind λl1=>
Loop (S:=Int×List af.den) (X:=List af.den) (λs2=>
(if(acS (s2.1<(l1.length:Int)))then
(((idx l1 s2.1).bind λx5=>
(Loop (S:=Int×List Int) (X:=List Int) (λs7=>
(if(acS (s7.1<(a0.length:Int)))then
((idx a0 s7.1).bind λx9=>
(if(acS (x9=x5))then
(bK s7.2 ([s7.1]:List Int)).bind λBA=>
some BA
else
some s7.2):Option (List Int)).bind λj8=>
some (.inl (aaV.wrap (s7.1+1),j8))
else
some (.inr s7.2))) N (0,([]:List Int)):Option (List Int)).bind λj6=>
(if(acS ((j6.length:Int)=0))then
some s2.2
else
(M.gf N j6 a2).bind λBC=>
Loop (S:=Int×List af.den) (X:=List af.den) (λtL=>
(if(acS (tL.1<(BC.length:Int)))then
(idx BC tL.1).bind λrU=>
(bK tL.2 ([(rU,x5)]:List af.den)).bind λPs=>
some (.inl (aaV.wrap (tL.1+1),Ps))
else
some (.inr tL.2))) N (0,s2.2)):Option (List af.den)).bind λj4=>
some j4:Option (List af.den)).bind λj3=>
some (.inl (aaV.wrap (s2.1+1),j3))
else
some (.inr s2.2))) N (0,([]:List af.den))
theorem YA(N:Nat):Fo 27 (.i1 [.l (.slice ae), .l (.slice ae), .l ae]) (.w1 60 af) (u3 (M.eC N)):=fz N [ck (Yz N)] (.o (.o (.o (.two (.o (.two (.loop ⟨[(8, .val acR (.own 144)),(21, .l ae)],[(144, .own 60 af)],[],145⟩ (.o (.o (.meet ⟨[(8, .val acR (.own 161))],[(161, .own 60 af)],[144],162⟩ (.meet ⟨[(8, .val acR (.own 161))],[(161, .own 60 af)],[144],162⟩ (.o (.o (.meet ⟨[(11, .val acR (.own 225))],[(225, .own 3 ae)],[],226⟩ (.o (.two (.loop ⟨[(11, .val acR (.own 273)),(27, .l ae)],[(273, .own 3 ae)],[],274⟩ (.o (.o (.two (.meet ⟨[(11, .val acR (.own 290))],[(290, .own 3 ae)],[273],291⟩ .nil .nil) .nil)))) .nil)) (.o (.o (.two (.loop ⟨[(8, .val acR (.own 354)),(47, .l ae)],[(354, .own 60 af)],[144],355⟩ .nil) .nil)))))) .nil) .nil)))) .nil)) .nil)))) Tryz.func27
def M.bY(N:Nat)(a0:cC.den)(a1:Int)(a2:Int)(a3:Int):Option (Int×Int×(List (List aa.den))×(List Int)×List af.den):=
(M.eV N a0).bind λy1=>
(if(!(lz al y1 (0,(0,(0,0)))))then
some (0,1,([]:List (List aa.den)),([]:List Int),([]:List af.den))
else
((if(acS (a1<0))then
some acQ
else
some (acS ((a0.2.2.length:Int)<=a1))):Option Bool).bind λj2=>
(if j2 then
some (0,6,([]:List (List aa.den)),([]:List Int),([]:List af.den))
else
(idx a0.2.2 a1).bind λx3=>
((if(acS (a2<0))then
some acQ
else
some (acS ((x3.2.2.2.1.length:Int)<=a2))):Option Bool).bind λj4=>
(if j4 then
some (0,6,([]:List (List aa.den)),([]:List Int),([]:List af.den))
else
((if(acS (a3<0))then
some acQ
else
some (acS (109572<a3))):Option Bool).bind λj5=>
(if j5 then
some (0,3,([]:List (List aa.den)),([]:List Int),([]:List af.den))
else
(M.ga N x3 a2 a3).bind λy6=>
(uU (y6.1.length:Int) 0).bind λl7=>
(Loop (S:=Int×Int×(List Int)×(List (List aa.den))×List Int) (X:=Int×(List Int)×(List (List aa.den))×List Int) (λs9=>
(if(acS (s9.1<(y6.1.length:Int)))then
((idx y6.1 s9.1).bind λsu=>
(idx s9.2.2.1 s9.1).bind λAl=>
(idx x3.2.2.2.2 su).bind λrU=>
(if(acS ((rU.2.2.2.2.2.1.length:Int)=0))then
some (s9.2.1,bF s9.2.2.1 s9.1 (-1),s9.2.2.2.1,s9.2.2.2.2)
else
(M.dh N s9.2.2.2.1 rU.2.2.2.2.2.1).bind λsv=>
((if(acS (sv<0))then
(M.bk N rU.2.2.2.2.2.1).bind λPe=>
(bK s9.2.2.2.1 ([Pe]:List (List aa.den))).bind λYB=>
(bK s9.2.2.2.2 ([su]:List Int)).bind λTz=>
some ((s9.2.2.2.1.length:Int),s9.2.1,YB,Tz)
else
some (sv,s9.2.1,s9.2.2.2.1,s9.2.2.2.2)):Option (Int×Int×(List (List aa.den))×List Int)).bind λHC=>
(idx (bF s9.2.2.1 s9.1 (-1)) s9.1).bind λJ7=>
some (HC.2.1,bF (bF s9.2.2.1 s9.1 (-1)) s9.1 HC.1,HC.2.2.1,HC.2.2.2)):Option (Int×(List Int)×(List (List aa.den))×List Int)).bind λpq=>
some (.inl (aaV.wrap (s9.1+1),pq.1,pq.2.1,pq.2.2.1,pq.2.2.2))
else
some (.inr (s9.2.1,s9.2.2.1,s9.2.2.2.1,s9.2.2.2.2)))) N (0,a2,l7,([]:List (List aa.den)),([]:List Int)):Option (Int×(List Int)×(List (List aa.den))×List Int)).bind λj8=>
(M.bM N y6.1 y6.2.1 y6.2.2 j8.2.1 (j8.2.2.1.length:Int)).bind λFI=>
(M.eC N FI y6.1 (j8.2.2.1.length:Int)).bind λLj=>
some (j8.1,0,j8.2.2.1,j8.2.2.2,Lj)))))
theorem W9(N:Nat):Fo 9 (.i1 [.g cC, .l ae, .l ae, .l ae]) (.j1 [.val acQ (.pair (.leaf ae) (.pair (.own 0) (.pair (.own 1) (.own 2)))), .l ae] [.own 75 (.slice aa), .own 3 ae, .own 60 af] 3) (u4 (M.bY N)):=fz N [ck (Ym N),ck (Yo N),ck (Yq N),ck (Yr N),ck (Yw N),ck (YA N)] (.o (.o (.two (.mb 34 112) (.o (.two (.mb 49 224) (.two (.mb 56 224) (.o (.o (.o (.meet ⟨[],[(256, .box 34 (.pair (.leaf ae) (.pair (.own 528) (.pair (.own 529) .nil)))),(496, .own 3 ae),(528, .own 75 (.slice aa)),(529, .own 3 ae)],[],532⟩ (.o (.two (.loop ⟨[(73, .l ae)],[(256, .box 34 (.pair (.leaf ae) (.pair (.own 576) (.pair (.own 577) .nil)))),(496, .own 3 ae),(576, .own 75 (.slice aa)),(577, .own 3 ae)],[],580⟩ (.o (.o (.two (.meet ⟨[],[(256, .box 34 (.pair (.leaf ae) (.pair (.own 596) (.pair (.own 597) .nil)))),(496, .own 3 ae),(596, .own 75 (.slice aa)),(597, .own 3 ae)],[576,577],600⟩ (.o (.o (.o (.o (.o (.meet ⟨[(19, .l ae)],[(256, .box 34 (.pair (.leaf ae) (.pair (.own 980) (.pair (.own 981) .nil)))),(980, .own 75 (.slice aa)),(981, .own 3 ae)],[576,577],983⟩ .nil .nil)))))) .nil) .nil)))) .nil)) .nil)))))))))) Tryz.func9
def M.jk(N:Nat)(a0:cF.den)(a1:Int):Option (Int×Bool):=
Loop (S:=Int) (X:=Int×Bool) (λs1=>
(if(acS (s1<(a0.2.2.2.length:Int)))then
(idx a0.2.2.2 s1).bind λx2=>
(M.dN N x2.1 a1).bind λy3=>
(if y3 then
some (.inr (x2.2,acQ))
else
some (.inl (aaV.wrap (s1+1))))
else
some (.inr (0,acR)))) N 0
theorem YC(N:Nat):Fo 12 (.i1 [.g cF, .l ae]) (.i1 [.l ae, .l .bool]) (u2 (M.jk N)):=fz N [ck (TB N)] (.o (.two (.o (.two (.lp 11 112 .nil) .nil)) .nil)) Tryz.func12
def M.oH(N:Nat)(a0:aa.den)(a1:Int):Option Bool:=
((if(acS (0<=a0.1))then
(M.dR N a1).bind λy2=>
(rP .i64 1 y2).bind λx3=>
(if(acS (a0.1<x3))then
(if(acS (0<=a0.2))then
some (acS ((au .and .i64 a0.2 a0.1)=a0.2))
else
some acR)
else
some acR)
else
some acR):Option Bool).bind λj1=>
some j1
theorem YD(N:Nat):Fo 33 (.i1 [.g aa, .l ae]) (.i1 [.l .bool]) (u2 (M.oH N)):=fz N [ck (VP N)] (.o (.mb 4 32)) Tryz.func33
def M.gx(N:Nat)(a0:List af.den)(a1:Int):Option Int:=
br (J:=Bool) (R:=Int) (Loop (S:=Bool×Int×Int) (X:=Bool⊕Int) (λs2=>
(if(acS (s2.2.2<(a0.length:Int)))then
br (J:=Bool×Int) (R:=(Bool×Int×Int)⊕(Bool⊕Int)) ((idx a0 s2.2.2).bind λx4=>
(M.dN N x4.1 a1).bind λy5=>
(if(!y5)then
some (.inl (s2.1,s2.2.1))
else
((if s2.1 then
some (!acS (x4.2=s2.2.1))
else
some acR):Option Bool).bind λj6=>
(if j6 then
some (.inr (.inr (.inr 11)))
else
some (.inl (acQ,x4.2))))) λj3=>
some (.inl (j3.1,j3.2,aaV.wrap (s2.2.2+1)))
else
some (.inr (.inl s2.1)))) N (acR,0,0)) λj1=>
(if(!j1)then
some 10
else
some 0)
theorem YE(N:Nat):Fo 34 (.i1 [.l (.slice af), .l ae]) (.i1 [.l ae]) (u2 (M.gx N)):=fz N [ck (TB N)] (.o (.o (.o (.join ⟨[(5, .l .bool)],[],[],48⟩ (.o (.two (.loop ⟨[(5, .l .bool),(6, .l ae),(11, .l ae)],[],[],96⟩ (.o (.o (.two (.join ⟨[(5, .l .bool),(6, .l ae)],[],[],112⟩ (.o (.o (.two (.mb 26 256) .nil))) .nil) .nil)))) .nil)) .nil)))) Tryz.func34
def M.iJ(N:Nat)(a0:cF.den):Option Int:=
(if(acS (8<(a0.2.1.length:Int)))then
some 4
else
br (J:=Unit) (R:=Int) (Loop (S:=Int) (X:=Unit⊕Int) (λs2=>
(if(acS (s2<(a0.2.2.2.length:Int)))then
(idx a0.2.2.2 s2).bind λx3=>
(M.oH N x3.1 (a0.2.1.length:Int)).bind λy4=>
(if(!y4)then
some (.inr (.inr 3))
else
some (.inl (aaV.wrap (s2+1))))
else
some (.inr (.inl ())))) N 0) λj1=>
(rP .i64 1 (a0.2.1.length:Int)).bind λx5=>
Loop (S:=Int) (X:=Int) (λs6=>
(if(acS (s6<x5))then
(M.gx N a0.2.2.2 s6).bind λy7=>
(if(!acS (y7=0))then
some (.inr y7)
else
some (.inl (aaV.wrap (s6+1))))
else
some (.inr 0))) N 0)
theorem YF(N:Nat):Fo 14 (.i1 [.g cF]) (.i1 [.l ae]) (M.iJ N):=fz N [ck (YD N),ck (YE N)] (.o (.o (.o (.join ⟨[],[],[],128⟩ (.o (.two (.lp 16 192 .nil) .nil)) (.two (.o (.two (.lp 28 176 .nil) .nil)) .nil))))) Tryz.func14
def M.qZ(N:Nat):Option (List aV.den):=
some ([((⟨#[115]⟩:ByteArray),((-1),(([((⟨#[120]⟩:ByteArray),(1,0))]:List be.den),(([((⟨#[100]⟩:ByteArray),(2,0))]:List be.den),([((⟨#[97]⟩:ByteArray),(0,((-1),(0,((0,109573),(([]:List aa.den),(([(2,1)]:List aa.den),acF))))))),((⟨#[98]⟩:ByteArray),(0,(0,(0,((0,109573),(([(7,0)]:List aa.den),(([(2,2)]:List aa.den),acF)))))))]:List cL.den)))))]:List aV.den)
theorem YG(N:Nat):Fo 22 (.i1 []) (.j1 [.val acQ (.pair .nil (.pair .nil (.own 0)))] [.own 50 aV] 1) (λ(x:Unit)=>M.qZ N):=fz N [] .nil Tryz.func22
def M.lU(N:Nat)(a0:List Int)(a1:List Int):Option Bool:=
(if(!acS ((a0.length:Int)=(a1.length:Int)))then
some acR
else
Loop (S:=Int) (X:=Bool) (λs1=>
((if(acS (s1<(a0.length:Int)))then
some (acS (s1<(a1.length:Int)))
else
some acR):Option Bool).bind λj2=>
(if j2 then
(idx a0 s1).bind λx3=>
(idx a1 s1).bind λx4=>
(if(!acS (x3=x4))then
some (.inr acR)
else
some (.inl (aaV.wrap (s1+1))))
else
some (.inr acQ))) N 0)
theorem VQ(N:Nat):Fo 23 (.i1 [.l (.slice ae), .l (.slice ae)]) (.i1 [.l .bool]) (u2 (M.lU N)):=fz N [] (.o (.o (.two (.o (.two (.lp 5 112 (.two (.mb 20 112) .nil)) .nil)) .nil))) Tryz.func23
def M.jL(N:Nat):Option Bool:=
(M.qZ N).bind λy1=>
(M.bY N (([]:List bR.den),(([]:List bL.den),y1)) 0 0 100).bind λy2=>
(M.jk N (y2.1,(y2.2.2.1,(y2.2.2.2.1,y2.2.2.2.2))) 0).bind λy3=>
(M.jk N (y2.1,(y2.2.2.1,(y2.2.2.2.1,y2.2.2.2.2))) 1).bind λy4=>
((if(acS (y2.2.1=0))then
(if(acS ((y2.2.2.2.2.length:Int)=2))then
(if(acS ((y2.2.2.1.length:Int)=1))then
(M.lU N y2.2.2.2.1 ([1]:List Int)).bind λy6=>
(if y6 then
(if(acS (y3.1=0))then
(if y3.2 then
(if(acS (y4.1=1))then
(if y4.2 then
(M.iJ N (y2.1,(y2.2.2.1,(y2.2.2.2.1,y2.2.2.2.2)))).bind λy7=>
(if(acS (y7=0))then
(M.iJ N (0,(([]:List (List aa.den)),(([]:List Int),([]:List af.den))))).bind λy8=>
some (acS (y8=10))
else
some acR)
else
some acR)
else
some acR)
else
some acR)
else
some acR)
else
some acR)
else
some acR)
else
some acR)
else
some acR):Option Bool).bind λj5=>
some j5
theorem W8(N:Nat):Fo 8 (.i1 []) (.i1 [.l .bool]) (λ(x:Unit)=>M.jL N):=fz N [ck (W9 N),ck (YC N),ck (YF N),ck (YG N),ck (VQ N)] (.o (.o (.o (.o (.mb 0 368))))) Tryz.func8
def M.jM(N:Nat)(a0:Int):Option Bool:=
((if(acS (97<=a0))then
some (acS (a0<=122))
else
some acR):Option Bool).bind λj1=>
some j1
theorem Pw(N:Nat):Fo 110 (.i1 [.l (.int .u8)]) (.i1 [.l .bool]) (M.jM N):=fz N [] (.o (.mb 2 16)) Tryz.func110
def M.la(N:Nat)(a0:Int):Option Bool:=
((if(acS (48<=a0))then
some (acS (a0<=57))
else
some acR):Option Bool).bind λj1=>
some j1
theorem TK(N:Nat):Fo 149 (.i1 [.l (.int .u8)]) (.i1 [.l .bool]) (M.la N):=fz N [] (.o (.mb 2 16)) Tryz.func149
def M.mv(N:Nat)(a0:Int):Option Bool:=
((M.jM N a0).bind λy2=>
(if y2 then
some acQ
else
(M.la N a0).bind λy3=>
(if y3 then
some acQ
else
some (acS (a0=95)))):Option Bool).bind λj1=>
some j1
theorem TL(N:Nat):Fo 111 (.i1 [.l (.int .u8)]) (.i1 [.l .bool]) (M.mv N):=fz N [ck (Pw N),ck (TK N)] (.o (.mb 2 16)) Tryz.func111
def M.eD(N:Nat):Option (List ByteArray):=
some ([(⟨#[105,102]⟩:ByteArray),(⟨#[116,104,101,110]⟩:ByteArray),(⟨#[101,108,115,101]⟩:ByteArray),(⟨#[111,114]⟩:ByteArray),(⟨#[97,110,100]⟩:ByteArray),(⟨#[110,111,116]⟩:ByteArray),(⟨#[116,114,117,101]⟩:ByteArray),(⟨#[102,97,108,115,101]⟩:ByteArray),(⟨#[116,111,100,97,121]⟩:ByteArray),(⟨#[115,104,97,114,101]⟩:ByteArray),(⟨#[100,105,118]⟩:ByteArray),(⟨#[114,111,117,110,100]⟩:ByteArray),(⟨#[109,105,110]⟩:ByteArray),(⟨#[109,97,120]⟩:ByteArray),(⟨#[112,108,117,115]⟩:ByteArray),(⟨#[109,111,110,116,104,115]⟩:ByteArray),(⟨#[100,97,121,115]⟩:ByteArray),(⟨#[121,101,97,114,115]⟩:ByteArray),(⟨#[121,101,97,114]⟩:ByteArray),(⟨#[109,111,110,116,104]⟩:ByteArray),(⟨#[116,97,98]⟩:ByteArray),(⟨#[98,97,110,100]⟩:ByteArray),(⟨#[99,111,117,110,116]⟩:ByteArray),(⟨#[115,117,109]⟩:ByteArray),(⟨#[97,108,108]⟩:ByteArray),(⟨#[97,110,121]⟩:ByteArray),(⟨#[109,111,115,116]⟩:ByteArray),(⟨#[101,110,117,109]⟩:ByteArray),(⟨#[116,97,98,108,101]⟩:ByteArray),(⟨#[114,111,119]⟩:ByteArray),(⟨#[115,99,111,112,101]⟩:ByteArray),(⟨#[109,101,109,98,101,114,115]⟩:ByteArray),(⟨#[105,110,112,117,116]⟩:ByteArray),(⟨#[100,101,102]⟩:ByteArray),(⟨#[114,117,108,101]⟩:ByteArray),(⟨#[111,102]⟩:ByteArray),(⟨#[111,118,101,114]⟩:ByteArray),(⟨#[112,114,105,111]⟩:ByteArray),(⟨#[102,114,111,109]⟩:ByteArray),(⟨#[116,111]⟩:ByteArray),(⟨#[101,110,100]⟩:ByteArray),(⟨#[119,104,101,110]⟩:ByteArray),(⟨#[105,115]⟩:ByteArray),(⟨#[115,114,99]⟩:ByteArray),(⟨#[98,111,111,108]⟩:ByteArray),(⟨#[105,110,116]⟩:ByteArray),(⟨#[109,111,110,101,121]⟩:ByteArray),(⟨#[114,97,116,101]⟩:ByteArray),(⟨#[100,97,116,101]⟩:ByteArray),(⟨#[100,111,119,110]⟩:ByteArray),(⟨#[117,112]⟩:ByteArray),(⟨#[122,101,114,111]⟩:ByteArray),(⟨#[97,119,97,121]⟩:ByteArray),(⟨#[104,97,108,102]⟩:ByteArray),(⟨#[101,118,101,110]⟩:ByteArray)]:List ByteArray)
theorem TM(N:Nat):Fo 112 (.i1 []) (.w1 9 .str) (λ(x:Unit)=>M.eD N):=fz N [] .nil Tryz.func112
def M.bg(N:Nat)(a0:ByteArray):Option Bool:=
((if(acS ((a0.size:Int)=0))then
some acQ
else
(if(acS (16<(a0.size:Int)))then
some acQ
else
(iZ a0 0).bind λx2=>
(M.jM N x2).bind λy3=>
some (!y3))):Option Bool).bind λj1=>
(if j1 then
some acR
else
br (J:=Unit) (R:=Bool) (Loop (S:=Int) (X:=Unit⊕Bool) (λs5=>
(if(acS (s5<(a0.size:Int)))then
(iZ a0 s5).bind λx6=>
(M.mv N x6).bind λy7=>
(if(!y7)then
some (.inr (.inr acR))
else
some (.inl (aaV.wrap (s5+1))))
else
some (.inr (.inl ())))) N 0) λj4=>
(M.eD N).bind λy8=>
Loop (S:=Int) (X:=Bool) (λs9=>
(if(acS (s9<(y8.length:Int)))then
(idx y8 s9).bind λqe=>
(if(acS (qe=a0))then
some (.inr acR)
else
some (.inl (aaV.wrap (s9+1))))
else
some (.inr acQ))) N 0)
theorem Px(N:Nat):Fo 69 (.i1 [.l .str]) (.i1 [.l .bool]) (M.bg N):=fz N [ck (Pw N),ck (TL N),ck (TM N)] (.o (.two (.mb 19 16) (.join ⟨[],[],[],16⟩ (.o (.two (.lp 3 32 .nil) .nil)) (.o (.two (.o (.two (.lp 5 64 .nil) .nil)) .nil))))) Tryz.func69
def M.cH(N:Nat)(a0:cC.den)(a1:Int)(a2:Int)(a3:ByteArray):Option Bool:=
br (J:=Unit) (R:=Bool) (Loop (S:=Int) (X:=Unit⊕Bool) (λs2=>
(if(acS (s2<(a0.1.length:Int)))then
((if(acS (1<a1))then
(idx a0.1 s2).bind λx4=>
some (acS (x4.1=a3))
else
(if(acS (s2<a2))then
(idx a0.1 s2).bind λx5=>
some (acS (x5.1=a3))
else
some acR)):Option Bool).bind λj3=>
(if j3 then
some (.inr (.inr acQ))
else
some (.inl (aaV.wrap (s2+1))))
else
some (.inr (.inl ())))) N 0) λj1=>
br (J:=Unit) (R:=Bool) (Loop (S:=Int) (X:=Unit⊕Bool) (λs7=>
(if(acS (s7<(a0.2.1.length:Int)))then
((if(acS (2<a1))then
(idx a0.2.1 s7).bind λx9=>
some (acS (x9.1=a3))
else
(if(acS (a1=2))then
(if(acS (s7<a2))then
(idx a0.2.1 s7).bind λqe=>
some (acS (qe.1=a3))
else
some acR)
else
some acR)):Option Bool).bind λj8=>
(if j8 then
some (.inr (.inr acQ))
else
some (.inl (aaV.wrap (s7+1))))
else
some (.inr (.inl ())))) N 0) λj6=>
Loop (S:=Int) (X:=Bool) (λpt=>
(if(acS (pt<(a0.2.2.length:Int)))then
((if(acS (a1=3))then
(if(acS (pt<a2))then
(idx a0.2.2 pt).bind λrU=>
some (acS (rU.1=a3))
else
some acR)
else
some acR):Option Bool).bind λoG=>
(if oG then
some (.inr acQ)
else
some (.inl (aaV.wrap (pt+1))))
else
some (.inr acR))) N 0
theorem TO(N:Nat):Fo 70 (.i1 [.g cC, .l ae, .l ae, .l .str]) (.i1 [.l .bool]) (u4 (M.cH N)):=fz N [] (.o (.join ⟨[],[],[],32⟩ (.o (.two (.lp 9 48 (.o (.two (.two (.mb 35 128) .nil) .nil))) .nil)) (.join ⟨[],[],[],32⟩ (.o (.two (.lp 10 48 (.o (.two (.two (.mb 63 128) .nil) .nil))) .nil)) (.two (.o (.two (.lp 11 48 (.o (.two (.two (.mb 87 128) .nil) .nil))) .nil)) .nil)))) Tryz.func70
def M.gT(N:Nat)(a0:cC.den)(a1:Int):Option (al.den):=
(idx a0.1 a1).bind λx1=>
(M.bg N x1.1).bind λy2=>
(if(!y2)then
some (2,(1,(a1,0)))
else
(M.cH N a0 1 a1 x1.1).bind λy3=>
(if y3 then
some (7,(1,(a1,0)))
else
(if(acS ((x1.2.length:Int)=0))then
some (5,(1,(a1,0)))
else
(if(acS (16<(x1.2.length:Int)))then
some (4,(1,(a1,116)))
else
br (J:=al.den) (R:=al.den) (Loop (S:=Int×al.den) (X:=(al.den)⊕(al.den)) (λs5=>
(if(acS (s5.1<(x1.2.length:Int)))then
br (J:=al.den) (R:=(Int×al.den)⊕((al.den)⊕(al.den))) ((idx x1.2 s5.1).bind λx7=>
(M.bg N x7).bind λy8=>
(if(!y8)then
some (.inr (.inr (.inr (2,(s5.2.2.1,(s5.2.2.2.1,aaV.wrap (100+s5.1)))))))
else
Loop (S:=Int) (X:=(al.den)⊕((Int×al.den)⊕((al.den)⊕(al.den)))) (λs9=>
(if(acS (s9<s5.1))then
(idx x1.2 s9).bind λqe=>
(idx x1.2 s5.1).bind λsu=>
(if(acS (qe=su))then
some (.inr (.inr (.inr (.inr (7,(s5.2.2.1,(s5.2.2.2.1,aaV.wrap (100+s5.1))))))))
else
some (.inl (aaV.wrap (s9+1))))
else
some (.inr (.inl (s5.2.1,(s5.2.2.1,(s5.2.2.2.1,aaV.wrap (100+s5.1)))))))) N 0)) λj6=>
some (.inl (aaV.wrap (s5.1+1),j6))
else
some (.inr (.inl s5.2)))) N (0,(0,(1,(a1,0))))) λj4=>
some (0,(0,(0,0)))))))
theorem YH(N:Nat):Fo 49 (.i1 [.g cC, .l ae]) (.i1 [.g al]) (u2 (M.gT N)):=fz N [ck (Px N),ck (TO N)] (.o (.o (.o (.o (.o (.o (.o (.join ⟨[],[(176, .box 45 (.leaf al))],[],481⟩ (.o (.two (.loop ⟨[(7, .l ae)],[(176, .box 45 (.leaf al))],[],497⟩ (.o (.join ⟨[],[(176, .box 45 (.leaf al))],[],578⟩ (.two (.o (.o (.o (.two (.lp 8 769 .nil) .nil)))) .nil) .nil))) .nil)) .nil)))))))) Tryz.func49
def M.bN(N:Nat)(a0:aa.den)(a1:List bR.den):Option Bool:=
(if(acS (a0.1=6))then
((if(acS (0<=a0.2))then
some (acS (a0.2<(a1.length:Int)))
else
some acR):Option Bool).bind λj1=>
some j1
else
((if(acS (1<=a0.1))then
(if(acS (a0.1<=5))then
some (acS (a0.2=0))
else
some acR)
else
some acR):Option Bool).bind λj2=>
some j2)
theorem HF(N:Nat):Fo 113 (.i1 [.g aa, .l (.slice bR)]) (.i1 [.l .bool]) (u2 (M.bN N)):=fz N [] (.o (.two (.o (.two (.mb 4 80) .nil)) (.mb 4 80))) Tryz.func113
def M.eP(N:Nat)(a0:aa.den):Option Bool:=
((if(acS (0<=a0.1))then
(if(acS (a0.1<=a0.2))then
some (acS (a0.2<=109573))
else
some acR)
else
some acR):Option Bool).bind λj1=>
some j1
theorem Ka(N:Nat):Fo 117 (.i1 [.g aa]) (.i1 [.l .bool]) (M.eP N):=fz N [] (.o (.mb 2 32)) Tryz.func117
def M.iK(N:Nat)(a0:aa.den)(a1:List bR.den):Option (Int×Int):=
(M.bN N a0 a1).bind λy1=>
(if(!y1)then
some (0,(-1))
else
(if(acS (a0.1=1))then
some (0,1)
else
(if(acS (a0.1=2))then
some ((-1000000000000),1000000000000)
else
(if(acS (a0.1=3))then
some ((-1000000000000000),1000000000000000)
else
(if(acS (a0.1=4))then
some ((-1000000000),1000000000)
else
(if(acS (a0.1=5))then
some (0,109572)
else
(idx a1 a0.2).bind λx2=>
some (0,aaV.wrap ((x2.2.length:Int)-1))))))))
theorem Py(N:Nat):Fo 174 (.i1 [.g aa, .l (.slice bR)]) (.i1 [.l ae, .l ae]) (u2 (M.iK N)):=fz N [ck (HF N)] .nil Tryz.func174
def M.lV(N:Nat)(a0:Int)(a1:aa.den)(a2:List bR.den):Option Bool:=
(M.iK N a1 a2).bind λy1=>
((if(acS (y1.1<=a0))then
some (acS (a0<=y1.2))
else
some acR):Option Bool).bind λj2=>
some j2
theorem TP(N:Nat):Fo 150 (.i1 [.l ae, .g aa, .l (.slice bR)]) (.i1 [.l .bool]) (u3 (M.lV N)):=fz N [ck (Py N)] (.o (.o (.mb 6 160))) Tryz.func150
def M.lb(N:Nat)(a0:fJ.den)(a1:bL.den)(a2:List bR.den):Option Bool:=
((M.eP N a0.1).bind λy2=>
(if(!y2)then
some acQ
else
(if(acS (a0.1.1=a0.1.2))then
some acQ
else
some (acS (a0.2.2.1<=a0.2.1)))):Option Bool).bind λj1=>
(if j1 then
some acQ
else
((M.lV N a0.2.1 a1.2.1 a2).bind λy4=>
(if(!y4)then
some acQ
else
(M.lV N (aaV.wrap (a0.2.2.1-1)) a1.2.1 a2).bind λy5=>
(if(!y5)then
some acQ
else
(M.lV N a0.2.2.2 a1.2.2.1 a2).bind λy6=>
some (!y6))):Option Bool).bind λj3=>
some j3)
theorem TQ(N:Nat):Fo 114 (.i1 [.g fJ, .g bL, .l (.slice bR)]) (.i1 [.l .bool]) (u3 (M.lb N)):=fz N [ck (Ka N),ck (TP N)] (.o (.two (.mb 26 48) (.mb 6 48))) Tryz.func114
def M.jX(N:Nat)(a0:aa.den)(a1:aa.den):Option (aa.den×Bool):=
((M.eP N a0).bind λy2=>
(if(!y2)then
some acQ
else
(M.eP N a1).bind λy3=>
some (!y3)):Option Bool).bind λj1=>
(if j1 then
some ((0,0),acR)
else
(if(acS ((if a1.2<a0.2 then a1.2 else a0.2)<=(if a0.1<a1.1 then a1.1 else a0.1)))then
some ((0,0),acR)
else
some ((if a0.1<a1.1 then a1.1 else a0.1,if a1.2<a0.2 then a1.2 else a0.2),acQ)))
theorem TR(N:Nat):Fo 151 (.i1 [.g aa, .g aa]) (.i1 [.g aa, .l .bool]) (u2 (M.jX N)):=fz N [ck (Ka N)] (.o (.two (.mb 14 64) .nil)) Tryz.func151
def M.iL(N:Nat)(a0:fJ.den)(a1:fJ.den):Option Bool:=
(M.jX N a0.1 a1.1).bind λy1=>
((if y1.2 then
some (acS ((if a0.2.1<a1.2.1 then a1.2.1 else a0.2.1)<(if a1.2.2.1<a0.2.2.1 then a1.2.2.1 else a0.2.2.1)))
else
some acR):Option Bool).bind λj2=>
some j2
theorem TS(N:Nat):Fo 115 (.i1 [.g fJ, .g fJ]) (.i1 [.l .bool]) (u2 (M.iL N)):=fz N [ck (TR N)] (.o (.o (.mb 4 224))) Tryz.func115
def M.iM(N:Nat)(a0:bL.den)(a1:List bR.den):Option (Int×Int):=
(if(acS (64<(a0.2.2.2.length:Int)))then
some (64,4)
else
((M.bN N a0.2.1 a1).bind λy2=>
(if(!y2)then
some acQ
else
(M.bN N a0.2.2.1 a1).bind λy3=>
some (!y3)):Option Bool).bind λj1=>
(if j1 then
some ((-1),8)
else
Loop (S:=Int) (X:=Int×Int) (λs4=>
(if(acS (s4<(a0.2.2.2.length:Int)))then
br (J:=Unit) (R:=Int⊕(Int×Int)) ((idx a0.2.2.2 s4).bind λx6=>
(M.lb N x6 a0 a1).bind λy7=>
(if y7 then
some (.inr (.inr (s4,3)))
else
Loop (S:=Int) (X:=Unit⊕(Int⊕(Int×Int))) (λs8=>
(if(acS (s8<s4))then
(idx a0.2.2.2 s8).bind λx9=>
(idx a0.2.2.2 s4).bind λqe=>
(M.iL N x9 qe).bind λBC=>
(if BC then
some (.inr (.inr (.inr (s4,11))))
else
some (.inl (aaV.wrap (s8+1))))
else
some (.inr (.inl ())))) N 0)) λj5=>
some (.inl (aaV.wrap (s4+1)))
else
some (.inr (0,0)))) N 0))
theorem YI(N:Nat):Fo 71 (.i1 [.g bL, .l (.slice bR)]) (.i1 [.l ae, .l ae]) (u2 (M.iM N)):=fz N [ck (HF N),ck (TQ N),ck (TS N)] (.o (.o (.two (.mb 23 112) (.two (.o (.two (.lp 6 128 (.o (.join ⟨[],[],[],208⟩ (.two (.o (.o (.two (.lp 7 352 .nil) .nil))) .nil) .nil))) .nil)) .nil)))) Tryz.func71
def M.gh(N:Nat)(a0:cC.den)(a1:Int):Option (al.den):=
(idx a0.2.1 a1).bind λx1=>
(M.bg N x1.1).bind λy2=>
(if(!y2)then
some (2,(2,(a1,0)))
else
(M.cH N a0 2 a1 x1.1).bind λy3=>
(if y3 then
some (7,(2,(a1,0)))
else
(M.iM N x1 a0.1).bind λy4=>
(if(acS (y4.2=0))then
some (0,(0,(0,0)))
else
((if(acS (0<=y4.1))then
some (y4.2,(2,(a1,aaV.wrap (100+y4.1))))
else
some (y4.2,(2,(a1,0)))):Option (al.den)).bind λj5=>
some j5)))
theorem YJ(N:Nat):Fo 50 (.i1 [.g cC, .l ae]) (.i1 [.g al]) (u2 (M.gh N)):=fz N [ck (Px N),ck (TO N),ck (YI N)] (.o (.o (.o (.o (.o (.o (.o (.o (.meet ⟨[],[(176, .box 45 (.leaf al))],[],577⟩ .nil .nil))))))))) Tryz.func50
def M.eE(N:Nat)(a0:List be.den)(a1:Int)(a2:ByteArray):Option Bool:=
Loop (S:=Int) (X:=Bool) (λs1=>
((if(acS (s1<a1))then
some (acS (s1<(a0.length:Int)))
else
some acR):Option Bool).bind λj2=>
(if j2 then
(idx a0 s1).bind λx3=>
(if(acS (x3.1=a2))then
some (.inr acQ)
else
some (.inl (aaV.wrap (s1+1))))
else
some (.inr acR))) N 0
theorem TT(N:Nat):Fo 116 (.i1 [.l (.slice be), .l ae, .l .str]) (.i1 [.l .bool]) (u3 (M.eE N)):=fz N [] (.o (.two (.o (.two (.lp 7 32 (.two (.mb 16 32) .nil)) .nil)) .nil)) Tryz.func116
def M.eF(N:Nat)(a0:cC.den)(a1:Int):Option (al.den):=
(idx a0.2.2 a1).bind λx1=>
br (J:=Unit) (R:=al.den) (Loop (S:=Int) (X:=Unit⊕(al.den)) (λs3=>
(if(acS (s3<(x1.2.2.1.length:Int)))then
((idx x1.2.2.1 s3).bind λx5=>
(M.bg N x5.1).bind λy6=>
(if(!y6)then
some (2,(3,(a1,aaV.wrap (100+s3))))
else
(idx x1.2.2.1 s3).bind λx7=>
(M.eE N x1.2.2.1 s3 x7.1).bind λy8=>
(if y8 then
some (7,(3,(a1,aaV.wrap (100+s3))))
else
(idx x1.2.2.1 s3).bind λx9=>
(M.bN N x9.2 a0.1).bind λHE=>
(if(!HE)then
some (8,(3,(a1,aaV.wrap (100+s3))))
else
some (0,(3,(a1,aaV.wrap (100+s3))))))):Option (al.den)).bind λj4=>
(if(!acS (j4.1=0))then
some (.inr (.inr j4))
else
some (.inl (aaV.wrap (s3+1))))
else
some (.inr (.inl ())))) N 0) λj2=>
br (J:=Unit) (R:=al.den) (Loop (S:=Int) (X:=Unit⊕(al.den)) (λtL=>
(if(acS (tL<(x1.2.2.2.1.length:Int)))then
((idx x1.2.2.2.1 tL).bind λCY=>
(M.bg N CY.1).bind λmT=>
(if(!mT)then
some (2,(3,(a1,aaV.wrap (200+tL))))
else
((idx x1.2.2.2.1 tL).bind λMp=>
(M.eE N x1.2.2.1 (x1.2.2.1.length:Int) Mp.1).bind λTJ=>
(if TJ then
some acQ
else
(idx x1.2.2.2.1 tL).bind λJ7=>
(M.eE N x1.2.2.2.1 tL J7.1).bind λFI=>
some FI):Option Bool).bind λEY=>
(if EY then
some (7,(3,(a1,aaV.wrap (200+tL))))
else
(idx x1.2.2.2.1 tL).bind λPz=>
(M.bN N Pz.2 a0.1).bind λTU=>
(if(!TU)then
some (8,(3,(a1,aaV.wrap (200+tL))))
else
some (0,(3,(a1,aaV.wrap (200+tL))))))):Option (al.den)).bind λEZ=>
(if(!acS (EZ.1=0))then
some (.inr (.inr EZ))
else
some (.inl (aaV.wrap (tL+1))))
else
some (.inr (.inl ())))) N 0) λvJ=>
some (0,(0,(0,0)))
theorem YK(N:Nat):Fo 72 (.i1 [.g cC, .l ae]) (.i1 [.g al]) (u2 (M.eF N)):=fz N [ck (Px N),ck (HF N),ck (TT N)] (.o (.o (.join ⟨[],[],[],144⟩ (.o (.two (.lp 6 160 (.o (.two (.two (.o (.meet ⟨[],[(304, .box 45 (.leaf al))],[],337⟩ .nil .nil)) .nil) .nil))) .nil)) (.join ⟨[],[],[],144⟩ (.o (.two (.lp 8 160 (.o (.two (.two (.o (.meet ⟨[],[(304, .box 45 (.leaf al))],[],337⟩ (.o (.o (.mb 104 464))) .nil)) .nil) .nil))) .nil)) .nil)))) Tryz.func72
def M.fe(N:Nat)(a0:ByteArray):Option Bool:=
Loop (S:=Int) (X:=Bool) (λs1=>
(if(acS (s1<(a0.size:Int)))then
((iZ a0 s1).bind λx3=>
(if(acS (x3<32))then
some acQ
else
(iZ a0 s1).bind λx4=>
(if(acS (126<x4))then
some acQ
else
(iZ a0 s1).bind λx5=>
some (acS (x5=34)))):Option Bool).bind λj2=>
(if j2 then
some (.inr acR)
else
some (.inl (aaV.wrap (s1+1))))
else
some (.inr (acS ((a0.size:Int)<=64))))) N 0
theorem TV(N:Nat):Fo 118 (.i1 [.l .str]) (.i1 [.l .bool]) (M.fe N):=fz N [] (.o (.two (.o (.two (.lp 3 32 (.o (.two (.two (.mb 25 96) .nil) .nil))) .nil)) .nil)) Tryz.func118
def M.dz(N:Nat)(a0:List be.den):Option (List aa.den):=
Loop (S:=Int×List aa.den) (X:=List aa.den) (λs1=>
(if(acS (s1.1<(a0.length:Int)))then
(idx a0 s1.1).bind λx2=>
(bK s1.2 ([x2.2]:List aa.den)).bind λl3=>
some (.inl (aaV.wrap (s1.1+1),l3))
else
some (.inr s1.2))) N (0,([]:List aa.den))
theorem TW(N:Nat):Fo 152 (.i1 [.l (.slice be)]) (.w1 66 aa) (M.dz N):=fz N [] (.o (.o (.two (.o (.two (.loop ⟨[(3, .val acR (.own 48)),(4, .l ae)],[(48, .own 66 aa)],[],49⟩ .nil) .nil)) .nil))) Tryz.func152
def M.dO(N:Nat)(a0:cC.den)(a1:Int):Option ((List bR.den)×(List bL.den)×Bool×(List aa.den)×(List aa.den)×List aa.den):=
((if(acS (a1<0))then
some acQ
else
some (acS ((a0.2.2.length:Int)<=a1))):Option Bool).bind λj1=>
(if j1 then
some (([]:List bR.den),([]:List bL.den),acR,([]:List aa.den),([]:List aa.den),([]:List aa.den))
else
(idx a0.2.2 a1).bind λx2=>
(M.dz N x2.2.2.1).bind λy3=>
(M.dz N x2.2.2.2.1).bind λy4=>
(((if(acS (0<=x2.2.1))then
some (acS (x2.2.1<(a0.2.2.length:Int)))
else
some acR):Option Bool).bind λj6=>
(if j6 then
(idx a0.2.2 x2.2.1).bind λx7=>
(M.dz N x7.2.2.2.1).bind λy8=>
some (y3,y4,a0.1,a0.2.1,acQ,y8)
else
some (y3,y4,a0.1,a0.2.1,acR,([]:List aa.den))):Option ((List aa.den)×(List aa.den)×(List bR.den)×(List bL.den)×Bool×List aa.den)).bind λj5=>
some (j5.2.2.1,j5.2.2.2.1,j5.2.2.2.2.1,j5.1,j5.2.1,j5.2.2.2.2.2))
theorem TX(N:Nat):Fo 119 (.i1 [.g cC, .l ae]) (.j1 [.val acQ (.pair (.leaf (.slice bR)) (.pair (.leaf (.slice bL)) (.pair (.own 0) (.pair (.own 1) (.pair (.own 2) (.leaf .bool))))))] [.own 66 aa, .own 66 aa, .own 66 aa] 3) (u2 (M.dO N)):=fz N [ck (TW N)] (.o (.two (.mb 15 32) (.o (.o (.meet ⟨[],[(240, .own 66 aa),(288, .own 66 aa),(320, .box 146 (.pair (.leaf (.slice bR)) (.pair (.leaf (.slice bL)) (.pair (.own 240) (.pair (.own 288) (.pair (.own 352) (.leaf .bool))))))),(352, .own 66 aa)],[],356⟩ (.mb 43 352) .nil))))) Tryz.func119
def M.jN(N:Nat)(a0:Int):Option Int:=
((if(acS (1<=a0))then
(if(acS (a0<=9))then
some acQ
else
(if(acS (35<=a0))then
some (acS (a0<=39))
else
some acR))
else
(if(acS (35<=a0))then
some (acS (a0<=39))
else
some acR)):Option Bool).bind λj1=>
(if j1 then
some 0
else
((if(acS (a0=10))then
some (acS (a0=10))
else
(if(acS (a0=25))then
some (acS (a0=25))
else
(if(acS (a0=31))then
some (acS (a0=31))
else
(if(acS (a0=32))then
some (acS (a0=32))
else
(if(acS (a0=33))then
some (acS (a0=33))
else
some (acS (a0=34))))))):Option Bool).bind λj2=>
(if j2 then
some 1
else
(if(acS (a0=26))then
some 3
else
((if(acS (11<=a0))then
some (acS (a0<=30))
else
some acR):Option Bool).bind λj3=>
(if j3 then
some 2
else
some (-1)))))
theorem PA(N:Nat):Fo 176 (.i1 [.l ae]) (.i1 [.l ae]) (M.jN N):=fz N [] (.o (.two (.mb 16 16) (.two (.o (.two (.mb 18 32) .nil)) (.two (.mb 32 64) .nil)))) Tryz.func176
def M.gU(N:Nat)(a0:List aa.den):Option (Int×Int×List Int):=
(if(acS (48<(a0.length:Int)))then
some (0,4,([]:List Int))
else
(if(acS ((a0.length:Int)=0))then
some (0,5,([]:List Int))
else
br (J:=(List Int)×List Int) (R:=Int×Int×List Int) (Loop (S:=Int×(List Int)×List Int) (X:=((List Int)×List Int)⊕(Int×Int×List Int)) (λs2=>
(if(acS (s2.1<(a0.length:Int)))then
(idx a0 s2.1).bind λx3=>
(M.jN N x3.1).bind λy4=>
(if(acS (y4<0))then
some (.inr (.inr (s2.1,2,([]:List Int))))
else
(if(acS ((s2.2.2.length:Int)<y4))then
some (.inr (.inr (s2.1,5,([]:List Int))))
else
((if(acS (0<y4))then
(idx s2.2.2 (aaV.wrap ((s2.2.2.length:Int)-y4))).bind λx6=>
(dX s2.2.2 0 (aaV.wrap ((s2.2.2.length:Int)-y4))).bind λl7=>
some (x6,l7)
else
some (s2.1,s2.2.2)):Option (Int×List Int)).bind λj5=>
(bK j5.2 ([j5.1]:List Int)).bind λl8=>
(bK s2.2.1 ([j5.1]:List Int)).bind λl9=>
(if(acS (12<(l8.length:Int)))then
some (.inr (.inr (s2.1,16,([]:List Int))))
else
some (.inl (aaV.wrap (s2.1+1),l9,l8)))))
else
some (.inr (.inl (s2.2.1,s2.2.2))))) N (0,([]:List Int),([]:List Int))) λj1=>
(if(acS (1<(j1.2.length:Int)))then
some ((a0.length:Int),4,([]:List Int))
else
some (0,0,j1.1))))
theorem TY(N:Nat):Fo 175 (.i1 [.l (.slice aa)]) (.j1 [.val acR (.own 0), .l ae, .l ae] [.own 3 ae] 1) (M.gU N):=fz N [ck (PA N)] (.o (.o (.o (.o (.join ⟨[(5, .val acR (.own 176)),(6, .val acR (.own 177))],[(176, .own 3 ae),(177, .own 3 ae)],[],178⟩ (.o (.two (.loop ⟨[(5, .val acR (.own 192)),(6, .val acR (.own 193)),(7, .l ae)],[(192, .own 3 ae),(193, .own 3 ae)],[],194⟩ (.o (.two (.two (.o (.o (.o (.o (.meet ⟨[(6, .val acR (.own 498)),(9, .l ae)],[(498, .own 3 ae)],[193],499⟩ .nil .nil))))) .nil) .nil))) .nil)) .nil))))) Tryz.func175
def M.jy(N:Nat)(a0:Int):Option Bool:=
((if(acS (1<=a0))then
(if(acS (a0<=8))then
some acQ
else
(if(acS (36<=a0))then
some (acS (a0<=39))
else
some acR))
else
(if(acS (36<=a0))then
some (acS (a0<=39))
else
some acR)):Option Bool).bind λj1=>
(if j1 then
some acQ
else
((if(acS (a0=14))then
some acQ
else
(if(acS (a0=15))then
some acQ
else
(if(acS (a0=16))then
some acQ
else
(if(acS (a0=33))then
some acQ
else
some (acS (a0=34)))))):Option Bool).bind λj2=>
some j2)
theorem TZ(N:Nat):Fo 192 (.i1 [.l ae]) (.i1 [.l .bool]) (M.jy N):=fz N [] (.o (.two (.mb 16 16) (.mb 2 16))) Tryz.func192
def M.ct(N:Nat)(a0:Int):Option (aa.den):=
some (a0,0)
theorem HG(N:Nat):Fo 209 (.i1 [.l ae]) (.i1 [.g aa]) (M.ct N):=fz N [] .nil Tryz.func209
def M.iN(N:Nat)(a0:aa.den)(a1:aL.den):Option Bool:=
((if(acS (a0.1=1))then
some (acS (a0.1=1))
else
(if(acS (a0.1=2))then
some (acS (a0.1=2))
else
(if(acS (a0.1=3))then
some (acS (a0.1=3))
else
(if(acS (a0.1=4))then
some (acS (a0.1=4))
else
some (acS (a0.1=5)))))):Option Bool).bind λj1=>
(if j1 then
(M.ct N a0.1).bind λy2=>
(M.iK N y2 a1.1).bind λy3=>
((if(acS (y3.1<=a0.2))then
some (acS (a0.2<=y3.2))
else
some acR):Option Bool).bind λj4=>
some j4
else
((if(acS (a0.1=14))then
some (acS (a0.1=14))
else
(if(acS (a0.1=15))then
some (acS (a0.1=15))
else
some (acS (a0.1=16)))):Option Bool).bind λj5=>
(if j5 then
((if(acS (0<=a0.2))then
some (acS (a0.2<=5))
else
some acR):Option Bool).bind λj6=>
some j6
else
(if(acS (a0.1=34))then
((if(acS (0<=a0.2))then
some (acS ((acu a0.2 8)<=5))
else
some acR):Option Bool).bind λj7=>
some j7
else
(if(acS (a0.1=6))then
some (acS (0<=a0.2))
else
some acQ))))
theorem T4(N:Nat):Fo 193 (.i1 [.g aa, .g aL]) (.i1 [.l .bool]) (u2 (M.iN N)):=fz N [ck (Py N),ck (HG N)] (.o (.two (.o (.two (.meet ⟨[(9, .l .bool)],[],[],80⟩ .nil (.two (.o (.mb 4 256)) (.meet ⟨[(34, .l .bool)],[],[],80⟩ .nil (.two (.mb 4 80) (.o (.two (.mb 4 112) .nil)))))) .nil)) .nil)) Tryz.func193
def M.aZ(N:Nat)(a0:aa.den)(a1:aL.den):Option Bool:=
(if(acS (a0.1=6))then
((if(acS ((aaV.wrap (ab7 a0.2 16))<(a1.1.length:Int)))then
(idx a1.1 (aaV.wrap (ab7 a0.2 16))).bind λx2=>
some (acS ((acu a0.2 16)<(x2.2.length:Int)))
else
some acR):Option Bool).bind λj1=>
some j1
else
(if(acS (a0.1=7))then
((if(acS (0<=a0.2))then
some (acS (a0.2<(a1.2.2.1.length:Int)))
else
some acR):Option Bool).bind λj3=>
some j3
else
(if(acS (a0.1=8))then
((if(acS (0<=a0.2))then
some (acS (a0.2<(a1.2.2.2.1.length:Int)))
else
some acR):Option Bool).bind λj4=>
some j4
else
(if(acS (a0.1=33))then
((if(acS (0<=a0.2))then
some (acS (a0.2<(a1.2.1.length:Int)))
else
some acR):Option Bool).bind λj5=>
some j5
else
(if(acS (a0.1=34))then
some (acS ((aaV.wrap (ab7 a0.2 8))<(a1.2.1.length:Int)))
else
(if(acS (a0.1=35))then
some a1.2.2.2.2.2
else
((if(acS (a0.1=36))then
some (acS (a0.1=36))
else
(if(acS (a0.1=37))then
some (acS (a0.1=37))
else
(if(acS (a0.1=38))then
some (acS (a0.1=38))
else
some (acS (a0.1=39))))):Option Bool).bind λj6=>
(if j6 then
((if a1.2.2.2.2.2 then
(if(acS (0<=a0.2))then
some (acS (a0.2<(a1.2.2.2.2.1.length:Int)))
else
some acR)
else
some acR):Option Bool).bind λj7=>
some j7
else
some acQ)))))))
theorem T5(N:Nat):Fo 194 (.i1 [.g aa, .g aL]) (.i1 [.l .bool]) (u2 (M.aZ N)):=fz N [] (.o (.two (.o (.two (.o (.two (.mb 4 112) (.o (.two (.mb 4 144) (.o (.two (.mb 4 176) (.o (.two (.mb 4 208) (.o (.o (.o (.o (.meet ⟨[(83, .l .bool)],[],[],272⟩ .nil (.two (.mb 4 272) .nil)))))))))))))) .nil)) .nil)) Tryz.func194
def M.gj(N:Nat)(a0:Int):Option Bool:=
((if(acS (a0=2))then
some acQ
else
(if(acS (a0=3))then
some acQ
else
some (acS (a0=4)))):Option Bool).bind λj1=>
some j1
theorem MB(N:Nat):Fo 211 (.i1 [.l ae]) (.i1 [.l .bool]) (M.gj N):=fz N [] (.o (.mb 2 16)) Tryz.func211
def M.ed(N:Nat)(a0:Int):Option Bool:=
((M.gj N a0).bind λy2=>
(if y2 then
some acQ
else
some (acS (a0=5))):Option Bool).bind λj1=>
some j1
theorem PB(N:Nat):Fo 210 (.i1 [.l ae]) (.i1 [.l .bool]) (M.ed N):=fz N [ck (MB N)] (.o (.mb 2 16)) Tryz.func210
def M.bD(N:Nat)(a0:aa.den)(a1:aL.den):Option (aa.den×Bool):=
((if(acS (a0.1=6))then
some (6,aaV.wrap (ab7 a0.2 16))
else
(if(acS (a0.1=7))then
(idx a1.2.2.1 a0.2).bind λx2=>
some x2
else
(if(acS (a0.1=8))then
(idx a1.2.2.2.1 a0.2).bind λx3=>
some x3
else
(if(acS (a0.1=9))then
(M.ct N 5).bind λy4=>
some y4
else
(if(acS (a0.1=35))then
(M.ct N 2).bind λy5=>
some y5
else
((if(acS (a0.1=36))then
some (acS (a0.1=36))
else
(if(acS (a0.1=37))then
some (acS (a0.1=37))
else
(if(acS (a0.1=38))then
some (acS (a0.1=38))
else
some (acS (a0.1=39))))):Option Bool).bind λj6=>
(if j6 then
(idx a1.2.2.2.2.1 a0.2).bind λx7=>
some x7
else
(M.ct N a0.1).bind λy8=>
some y8)))))):Option (aa.den)).bind λj1=>
(M.bN N j1 a1.1).bind λy9=>
((if(acS (a0.1=36))then
(if y9 then
(if(acS (j1.1=2))then
some acQ
else
some (acS (j1.1=3)))
else
some acR)
else
((if(acS (a0.1=37))then
some (acS (a0.1=37))
else
some (acS (a0.1=38))):Option Bool).bind λvJ=>
(if vJ then
(if y9 then
some (acS (j1.1=1))
else
some acR)
else
(if(acS (a0.1=39))then
(if y9 then
(M.ed N j1.1).bind λJ8=>
some J8
else
some acR)
else
some y9))):Option Bool).bind λpq=>
some (j1,pq)
theorem T6(N:Nat):Fo 195 (.i1 [.g aa, .g aL]) (.i1 [.g aa, .l .bool]) (u2 (M.bD N)):=fz N [ck (HF N),ck (HG N),ck (PB N)] (.o (.o (.two (.o (.meet ⟨[],[(80, .box 66 (.leaf aa))],[],145⟩ (.o (.o (.o (.o (.o (.o (.o (.o (.o (.o (.mb 42 304))))))))))) .nil)) (.o (.two (.o (.meet ⟨[(7, .l .bool)],[],[],257⟩ (.o (.o (.mb 72 289))) .nil)) .nil))))) Tryz.func195
def M.cn(N:Nat)(a0:aa.den)(a1:aa.den)(a2:aL.den):Option (aa.den×Bool):=
(if(acS (a0.1=10))then
(M.gj N a1.1).bind λy1=>
some (a1,y1)
else
(if(acS (a0.1=25))then
some (a1,acS (a1.1=1))
else
((if(acS (a0.1=31))then
some (acS (a0.1=31))
else
some (acS (a0.1=32))):Option Bool).bind λj2=>
(if j2 then
(M.ct N 2).bind λy3=>
some (y3,acS (a1.1=5))
else
(if(acS (a0.1=33))then
(idx a2.2.1 a0.2).bind λx4=>
((M.bN N x4.2.1 a2.1).bind λy6=>
(if y6 then
(M.bN N x4.2.2.1 a2.1).bind λy7=>
(if y7 then
some ((lz aa a1 x4.2.1),x4.2.2.1)
else
some (acR,x4.2.2.1))
else
some (acR,x4.2.2.1)):Option (Bool×aa.den)).bind λj5=>
some (j5.2,j5.1)
else
(idx a2.2.1 (aaV.wrap (ab7 a0.2 8))).bind λx8=>
((if(acS (a1.1=3))then
(M.ct N 3).bind λHE=>
(if(lz aa x8.2.1 HE)then
(M.ct N 4).bind λBC=>
some ((lz aa x8.2.2.1 BC),a1)
else
some (acR,a1))
else
some (acR,a1)):Option (Bool×aa.den)).bind λj9=>
some (j9.2,j9.1)))))
theorem T7(N:Nat):Fo 196 (.i1 [.g aa, .g aa, .g aL]) (.i1 [.g aa, .l .bool]) (u3 (M.cn N)):=fz N [ck (HF N),ck (HG N),ck (MB N)] (.o (.two (.o (.two (.o (.o (.o (.o (.meet ⟨[(24, .l .bool)],[],[],176⟩ .nil (.o (.o (.two (.o (.meet ⟨[(7, .l .bool)],[(48, .box 66 (.leaf aa))],[],337⟩ .nil .nil)) .nil)))))))) .nil)) (.o (.meet ⟨[(7, .l .bool)],[(48, .box 66 (.leaf aa))],[],353⟩ .nil .nil)))) Tryz.func196
def M.gk(N:Nat)(a0:Int)(a1:Int)(a2:Int):Option (aa.den×Bool):=
(if(acS (a0=13))then
((M.ct N a1).bind λy2=>
(if(acS (a2=2))then
(if(acS (a1=2))then
some (acQ,y2)
else
some (acS (a1=3),y2))
else
some (acR,y2)):Option (Bool×aa.den)).bind λj1=>
some (j1.2,j1.1)
else
(if(acS (a0=14))then
((M.ct N a1).bind λy4=>
(if(acS (a2=4))then
(if(acS (a1=3))then
some (acQ,y4)
else
some (acS (a1=4),y4))
else
some (acR,y4)):Option (Bool×aa.den)).bind λj3=>
some (j3.2,j3.1)
else
((if(acS (a1=3))then
some (acS (a2=3))
else
some acR):Option Bool).bind λj5=>
(if j5 then
(M.ct N 4).bind λy6=>
some (y6,acQ)
else
((M.ct N a1).bind λy8=>
(if(acS (a2=2))then
(if(acS (a1=2))then
some (acQ,y8)
else
some (acS (a1=3),y8))
else
some (acR,y8)):Option (Bool×aa.den)).bind λj7=>
some (j7.2,j7.1))))
theorem T8(N:Nat):Fo 212 (.i1 [.l ae, .l ae, .l ae]) (.i1 [.g aa, .l .bool]) (u3 (M.gk N)):=fz N [ck (HG N)] (.o (.two (.o (.two (.o (.two (.meet ⟨[(7, .l .bool)],[(0, .box 66 (.leaf aa))],[],81⟩ .nil .nil) (.o (.two (.meet ⟨[(7, .l .bool)],[(0, .box 66 (.leaf aa))],[],113⟩ .nil .nil) .nil)))) .nil)) (.two (.mb 42 112) (.meet ⟨[(7, .l .bool)],[(0, .box 66 (.leaf aa))],[],113⟩ .nil .nil)))) Tryz.func212
def M.dT(N:Nat)(a0:Int)(a1:aa.den)(a2:aa.den):Option (aa.den×Bool):=
((if(acS (a0=11))then
some (acS (a0=11))
else
some (acS (a0=12))):Option Bool).bind λj1=>
(if j1 then
((if(lz aa a1 a2)then
(M.gj N a1.1).bind λy3=>
some (y3,a1)
else
some (acR,a1)):Option (Bool×aa.den)).bind λj2=>
some (j2.2,j2.1)
else
((if(acS (a0=13))then
some (acS (a0=13))
else
(if(acS (a0=14))then
some (acS (a0=14))
else
some (acS (a0=15)))):Option Bool).bind λj4=>
(if j4 then
(M.gk N a0 a1.1 a2.1).bind λy5=>
some (y5.1,y5.2)
else
(if(acS (a0=16))then
((if(acS (a1.1=3))then
some (acS (a2.1=3),a1)
else
some (acR,a1)):Option (Bool×aa.den)).bind λj6=>
some (j6.2,j6.1)
else
((if(acS (a0=17))then
some (acS (a0=17))
else
some (acS (a0=18))):Option Bool).bind λj7=>
(if j7 then
((if(lz aa a1 a2)then
(M.ed N a1.1).bind λy9=>
some (y9,a1)
else
some (acR,a1)):Option (Bool×aa.den)).bind λj8=>
some (j8.2,j8.1)
else
((if(acS (a0=19))then
some (acS (a0=19))
else
some (acS (a0=20))):Option Bool).bind λpq=>
(if pq then
(M.ct N 1).bind λBC=>
some (BC,(lz aa a1 a2))
else
((if(acS (a0=21))then
some (acS (a0=21))
else
some (acS (a0=22))):Option Bool).bind λoG=>
(if oG then
((M.ct N 1).bind λsv=>
(if(lz aa a1 a2)then
(M.ed N a1.1).bind λmT=>
some (mT,sv)
else
some (acR,sv)):Option (Bool×aa.den)).bind λEZ=>
some (EZ.2,EZ.1)
else
((if(acS (a0=23))then
some (acS (a0=23))
else
some (acS (a0=24))):Option Bool).bind λEY=>
(if EY then
((if(acS (a1.1=1))then
some (acS (a2.1=1),a1)
else
some (acR,a1)):Option (Bool×aa.den)).bind λNt=>
some (Nt.2,Nt.1)
else
((if(acS (a0=27))then
some (acS (a0=27))
else
some (acS (a0=28))):Option Bool).bind λMC=>
(if MC then
((if(acS (a1.1=5))then
some (acS (a2.1=2),a1)
else
some (acR,a1)):Option (Bool×aa.den)).bind λQx=>
some (Qx.2,Qx.1)
else
((M.ct N 2).bind λLj=>
(if(acS (a1.1=5))then
some (acS (a2.1=5),Lj)
else
some (acR,Lj)):Option (Bool×aa.den)).bind λNr=>
some (Nr.2,Nr.1)))))))))
theorem T9(N:Nat):Fo 197 (.i1 [.l ae, .g aa, .g aa]) (.i1 [.g aa, .l .bool]) (u3 (M.dT N)):=fz N [ck (HG N),ck (PB N),ck (MB N),ck (T8 N)] (.o (.two (.o (.two (.meet ⟨[(9, .l .bool)],[],[],80⟩ .nil (.two (.meet ⟨[(7, .l .bool)],[(32, .box 66 (.leaf aa))],[],81⟩ .nil .nil) (.meet ⟨[(21, .l .bool)],[],[],80⟩ .nil (.o (.o (.two (.meet ⟨[(7, .l .bool)],[(32, .box 66 (.leaf aa))],[],113⟩ .nil .nil) (.meet ⟨[(44, .l .bool)],[],[],112⟩ .nil (.two (.meet ⟨[(7, .l .bool)],[(32, .box 66 (.leaf aa))],[],113⟩ .nil .nil) (.meet ⟨[(56, .l .bool)],[],[],112⟩ .nil (.o (.meet ⟨[(63, .l .bool)],[],[],112⟩ .nil (.two (.meet ⟨[(7, .l .bool)],[(32, .box 66 (.leaf aa))],[],113⟩ .nil .nil) (.meet ⟨[(75, .l .bool)],[],[],112⟩ .nil (.two (.meet ⟨[(7, .l .bool)],[(32, .box 66 (.leaf aa))],[],113⟩ .nil .nil) (.meet ⟨[(87, .l .bool)],[],[],112⟩ .nil (.two (.meet ⟨[(7, .l .bool)],[(32, .box 66 (.leaf aa))],[],113⟩ .nil .nil) .nil)))))))))))))))) .nil)) (.meet ⟨[(7, .l .bool)],[(32, .box 66 (.leaf aa))],[],113⟩ .nil .nil))) Tryz.func197
def M.aC(N:Nat)(a0:aa.den)(a1:List aa.den)(a2:aL.den):Option (aa.den×Int):=
((if(!acS (a0.2=0))then
(M.jy N a0.1).bind λy2=>
some (!y2)
else
some acR):Option Bool).bind λj1=>
(if j1 then
some ((0,0),2)
else
(M.iN N a0 a2).bind λy3=>
(if(!y3)then
some ((0,0),3)
else
(M.aZ N a0 a2).bind λy4=>
(if(!y4)then
some ((0,0),6)
else
((if(acS ((a1.length:Int)=0))then
(M.bD N a0 a2).bind λy6=>
some (y6.2,y6.1)
else
(if(acS ((a1.length:Int)=1))then
(idx a1 0).bind λx7=>
(M.cn N a0 x7 a2).bind λy8=>
some (y8.2,y8.1)
else
(if(acS ((a1.length:Int)=2))then
(idx a1 0).bind λx9=>
(idx a1 1).bind λqe=>
(M.dT N a0.1 x9 qe).bind λBC=>
some (BC.2,BC.1)
else
(idx a1 1).bind λAl=>
(idx a1 0).bind λrU=>
(if(acS (rU.1=1))then
(idx a1 1).bind λCY=>
(idx a1 2).bind λAm=>
some ((lz aa CY Am),Al)
else
some (acR,Al))))):Option (Bool×aa.den)).bind λj5=>
(if(!j5.1)then
some ((0,0),8)
else
some (j5.2,0)))))
theorem Ua(N:Nat):Fo 177 (.i1 [.g aa, .l (.slice aa), .g aL]) (.i1 [.g aa, .l ae]) (u3 (M.aC N)):=fz N [ck (TZ N),ck (T4 N),ck (T5 N),ck (T6 N),ck (T7 N),ck (T9 N)] (.o (.two (.mb 18 64) (.o (.o (.o (.o (.two (.o (.meet ⟨[(9, .l .bool)],[(208, .box 66 (.leaf aa))],[],289⟩ .nil .nil)) .nil))))))) Tryz.func177
def M.ko(N:Nat)(a0:List aa.den)(a1:aL.den):Option (aa.den×Int×Int):=
(M.gU N a0).bind λy1=>
(if(!acS (y1.2.1=0))then
some ((0,0),y1.1,y1.2.1)
else
br (J:=List aa.den) (R:=aa.den×Int×Int) (Loop (S:=Int×List aa.den) (X:=(List aa.den)⊕(aa.den×Int×Int)) (λs3=>
(if(acS (s3.1<(a0.length:Int)))then
(idx a0 s3.1).bind λx4=>
(M.jN N x4.1).bind λy5=>
(idx a0 s3.1).bind λx6=>
(dX s3.2 (aaV.wrap ((s3.2.length:Int)-y5)) (s3.2.length:Int)).bind λl7=>
(M.aC N x6 l7 a1).bind λy8=>
(if(!acS (y8.2=0))then
some (.inr (.inr ((0,0),s3.1,y8.2)))
else
(dX s3.2 0 (aaV.wrap ((s3.2.length:Int)-y5))).bind λl9=>
(bK l9 ([y8.1]:List aa.den)).bind λBA=>
some (.inl (aaV.wrap (s3.1+1),BA)))
else
some (.inr (.inl s3.2)))) N (0,([]:List aa.den))) λj2=>
(idx j2 0).bind λsu=>
some (su,0,0))
theorem Ub(N:Nat):Fo 153 (.i1 [.l (.slice aa), .g aL]) (.i1 [.g aa, .l ae, .l ae]) (u2 (M.ko N)):=fz N [ck (TY N),ck (PA N),ck (Ua N)] (.o (.o (.o (.o (.join ⟨[(10, .val acR (.own 256))],[(256, .own 66 aa)],[],257⟩ (.o (.two (.loop ⟨[(10, .val acR (.own 272)),(11, .l ae)],[(272, .own 66 aa)],[],273⟩ .nil) .nil)) .nil))))) Tryz.func153
def M.cR(N:Nat)(a0:List aa.den)(a1:aL.den)(a2:aa.den):Option Int:=
(M.ko N a0 a1).bind λy1=>
(if(!acS (y1.2.2=0))then
some y1.2.2
else
(if(!(lz aa y1.1 a2))then
some 8
else
some 0))
theorem Uc(N:Nat):Fo 120 (.i1 [.l (.slice aa), .g aL, .g aa]) (.i1 [.l ae]) (u3 (M.cR N)):=fz N [ck (Ub N)] .nil Tryz.func120
def M.ff(N:Nat)(a0:cC.den)(a1:Int)(a2:Int):Option Int:=
(idx a0.2.2 a1).bind λx1=>
(idx x1.2.2.2.2 a2).bind λx2=>
(M.bg N x2.1).bind λy3=>
(if(!y3)then
some 2
else
br (J:=Int) (R:=Int) (Loop (S:=Int×Int) (X:=Int⊕Int) (λs5=>
(if(acS (s5.2<a2))then
br (J:=Int) (R:=(Int×Int)⊕(Int⊕Int)) ((idx x1.2.2.2.2 s5.2).bind λx7=>
(if(acS (x7.1=x2.1))then
some (.inr (.inr (.inr 7)))
else
(idx x1.2.2.2.2 s5.2).bind λx8=>
(if(acS (x8.2.1=x2.2.1))then
some (.inl (aaV.wrap (s5.1+1)))
else
some (.inl s5.1)))) λj6=>
some (.inl (j6,aaV.wrap (s5.2+1)))
else
some (.inr (.inl s5.1)))) N (0,0)) λj4=>
((if(acS (x2.2.1<0))then
some acQ
else
some (acS ((x1.2.2.2.1.length:Int)<=x2.2.1))):Option Bool).bind λj9=>
(if j9 then
some 6
else
((if(!acS (x2.2.2.1=(-1)))then
(if(acS (x2.2.2.1<0))then
some acQ
else
(if(acS (a2<=x2.2.2.1))then
some acQ
else
(idx x1.2.2.2.2 x2.2.2.1).bind λsu=>
some (!acS (su.2.1=x2.2.1))))
else
some acR):Option Bool).bind λpq=>
(if pq then
some 9
else
((if(acS (x2.2.2.2.1<0))then
some acQ
else
(if(acS (9<x2.2.2.2.1))then
some acQ
else
(M.eP N x2.2.2.2.2.1).bind λHD=>
(if(!HD)then
some acQ
else
some (acS (x2.2.2.2.2.1.1=x2.2.2.2.2.1.2))))):Option Bool).bind λoG=>
(if oG then
some 3
else
(if(acS (8<=j4))then
some 4
else
(M.fe N x2.2.2.2.2.2.2.2).bind λsv=>
(if(!sv)then
some 2
else
(M.dO N a0 a1).bind λmT=>
br (J:=Unit) (R:=Int) ((if(acS (0<(x2.2.2.2.2.2.1.length:Int)))then
(M.cR N x2.2.2.2.2.2.1 (mT.1,(mT.2.1,(mT.2.2.2.1,(mT.2.2.2.2.1,(mT.2.2.2.2.2,mT.2.2.1))))) (1,0)).bind λE0=>
(if(!acS (E0=0))then
some (.inr E0)
else
some (.inl ()))
else
some (.inl ()))) λEY=>
(idx x1.2.2.2.1 x2.2.1).bind λCZ=>
(M.cR N x2.2.2.2.2.2.2.1 (mT.1,(mT.2.1,(mT.2.2.2.1,(mT.2.2.2.2.1,(mT.2.2.2.2.2,mT.2.2.1))))) CZ.2).bind λJb=>
some Jb))))))
theorem YL(N:Nat):Fo 73 (.i1 [.g cC, .l ae, .l ae]) (.i1 [.l ae]) (u3 (M.ff N)):=fz N [ck (Px N),ck (Ka N),ck (TV N),ck (TX N),ck (Uc N)] (.o (.o (.o (.o (.o (.join ⟨[(9, .l ae)],[],[],336⟩ (.o (.two (.loop ⟨[(9, .l ae),(10, .l ae)],[],[],352⟩ (.o (.two (.join ⟨[(9, .l ae)],[],[],400⟩ .nil .nil) .nil))) .nil)) (.two (.mb 62 336) (.two (.mb 88 336) (.two (.mb 111 336) (.o (.o (.o (.join ⟨[],[],[],512⟩ .nil .nil))))))))))))) Tryz.func73
def M.iO(N:Nat)(a0:List Int)(a1:Int):Option (List Int):=
(Loop (S:=Bool×Int×List Int) (X:=Bool×List Int) (λs2=>
(if(acS (s2.2.1<(a0.length:Int)))then
(((if(!s2.1)then
(idx a0 s2.2.1).bind λx5=>
some (acS (a1<=x5))
else
some acR):Option Bool).bind λj4=>
(if j4 then
((idx a0 s2.2.1).bind λx7=>
(if(acS (a1<x7))then
(bK s2.2.2 ([a1]:List Int)).bind λl8=>
some l8
else
some s2.2.2):Option (List Int)).bind λj6=>
some (acQ,j6)
else
some (s2.1,s2.2.2)):Option (Bool×List Int)).bind λj3=>
(idx a0 s2.2.1).bind λx9=>
(bK j3.2 ([x9]:List Int)).bind λBA=>
some (.inl (j3.1,aaV.wrap (s2.2.1+1),BA))
else
some (.inr (s2.1,s2.2.2)))) N (acR,0,([]:List Int)):Option (Bool×List Int)).bind λj1=>
((if(!j1.1)then
(bK j1.2 ([a1]:List Int)).bind λC0=>
some C0
else
some j1.2):Option (List Int)).bind λvJ=>
some vJ
theorem PC(N:Nat):Fo 122 (.i1 [.l (.slice ae), .l ae]) (.w1 3 ae) (u2 (M.iO N)):=fz N [] (.o (.o (.o (.meet ⟨[(5, .val acR (.own 48)),(6, .l .bool)],[(48, .own 3 ae)],[],49⟩ (.o (.two (.loop ⟨[(5, .val acR (.own 64)),(6, .l .bool),(7, .l ae)],[(64, .own 3 ae)],[],65⟩ (.o (.two (.two (.meet ⟨[(5, .val acR (.own 129)),(6, .l .bool)],[(129, .own 3 ae)],[64],130⟩ (.meet ⟨[(23, .l .bool)],[],[],129⟩ .nil (.two (.meet ⟨[(5, .val acR (.own 129))],[(129, .own 3 ae)],[64],130⟩ .nil .nil) .nil)) .nil) .nil) .nil))) .nil)) (.meet ⟨[(5, .val acR (.own 49))],[(49, .own 3 ae)],[48],50⟩ .nil .nil))))) Tryz.func122
def M.lW(N:Nat)(a0:aV.den)(a1:Int):Option Bool:=
((if(acS (0<=a1))then
some (acS (a1<(a0.2.2.2.1.length:Int)))
else
some acR):Option Bool).bind λj1=>
some j1
theorem Ud(N:Nat):Fo 154 (.i1 [.g aV, .l ae]) (.i1 [.l .bool]) (u2 (M.lW N)):=fz N [] (.o (.mb 4 32)) Tryz.func154
end
end
end Go.Proofs.YtbladfbbhijpmaaGreat
