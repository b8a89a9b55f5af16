/- Joined texts: Model. -/
import Derived.Test.YtfjgcenlllgonaaGreatDoorU4
import Derived.Test.YtfjgcenlllgonaaGreatDoorProg
import Derived.Test.YtfjgcenlllgonaaGreatDoorU5
open _root_.Decidable renaming decide->ah
open _root_.Bool renaming false->ag,true->af
open _root_.Option renaming none->ae,some->aa
open _root_.Int renaming tdiv->aoM,tmod->aoP
open _root_.Go.IntKind renaming i64->aoz,u64->aoD
open _root_.List renaming forall_mem_cons->aqr
open _root_.Nat renaming beq->aoL
namespace Go.Proofs.YtfjgcenlllgonaaGreatDoor
open Go Go.RowKit
set_option maxRecDepth 100000
set_option linter.unusedSimpArgs false
set_option linter.unusedVariables false
set_option linter.defProp false
section
noncomputable section
set_option maxRecDepth 100000
set_option linter.unusedVariables false
@[reducible] def aA:Row:= .pair aB aB
@[reducible] def bi:Row:= .pair .str aA
@[reducible] def bn:Row:= .pair .str (.pair aB (.pair aB (.pair aB (.pair aA (.pair (.slice aA) (.pair (.slice aA) .str))))))
@[reducible] def aU:Row:= .pair .str (.pair aB (.pair (.slice bi) (.pair (.slice bi) (.slice bn))))
@[reducible] def bA:Row:= .pair .str (.slice .str)
@[reducible] def dM:Row:= .pair aA (.pair aB aA)
@[reducible] def aP:Row:= .pair .str (.pair aA (.pair aA (.slice dM)))
@[reducible] def cQ:Row:= .pair (.slice bA) (.pair (.slice aP) (.slice aU))
@[reducible] def aC:Row:= .pair aB aA
@[reducible] def Ca:Row:= .pair aB (.pair (.slice aC) (.slice (.slice aC)))
@[reducible] def aF:Row:= .pair aB aC
@[reducible] def bB:Row:= .pair (.slice bA) (.pair (.slice aP) (.pair (.slice aA) (.pair (.slice aA) (.pair (.slice aA) .bool))))
@[reducible] def cz:Row:= .pair aB (.pair (.slice aC) (.pair (.slice aC) (.pair (.slice (.slice aC)) (.pair (.slice aA) (.slice aP)))))
@[reducible] def pI:Row:= .pair (.slice aB) (.pair (.slice bn) (.pair (.slice (.slice aA)) (.slice (.slice aA))))
@[reducible] def cn:Row:= .pair aU (.pair pI (.slice aB))
@[reducible] def iR:Row:= .pair (.slice aB) (.pair (.slice aB) (.slice aB))
@[reducible] def bS:Row:= .pair (.slice aC) (.slice aB)
@[reducible] def Ka:Row:= .pair (.slice aC) (.pair (.slice aB) (.slice bS))
theorem MC:TI Tryz.prog 3 aB:=TI.mk (k:=1) (by kernel_rfl) rfl
theorem Ti4:TI Tryz.prog 4 .bool:=TI.mk (k:=1) (by kernel_rfl) rfl
theorem Ti9:TI Tryz.prog 9 .str:=TI.mk (k:=1) (by kernel_rfl) rfl
theorem acQ:TI Tryz.prog 22 (.slice bA):=TI.mk (k:=1) (by kernel_rfl) rfl
theorem acR:TI Tryz.prog 23 (.slice aP):=TI.mk (k:=1) (by kernel_rfl) rfl
theorem acS:TI Tryz.prog 24 (.slice aU):=TI.mk (k:=1) (by kernel_rfl) rfl
theorem acT:TI Tryz.prog 26 cQ:=TI.mk (k:=3) (by kernel_rfl) rfl
theorem acU:TI Tryz.prog 27 (.slice aC):=TI.mk (k:=1) (by kernel_rfl) rfl
theorem acV:TI Tryz.prog 28 (.slice (.slice aC)):=TI.mk (k:=1) (by kernel_rfl) rfl
theorem acW:TI Tryz.prog 30 Ca:=TI.mk (k:=3) (by kernel_rfl) rfl
theorem acX:TI Tryz.prog 34 (.slice aB):=TI.mk (k:=1) (by kernel_rfl) rfl
theorem acY:TI Tryz.prog 35 (.slice bS):=TI.mk (k:=1) (by kernel_rfl) rfl
theorem acZ:TI Tryz.prog 37 Ka:=TI.mk (k:=3) (by kernel_rfl) rfl
theorem YX:TI Tryz.prog 38 aB:=TI.mk (k:=1) (by kernel_rfl) rfl
theorem ac0:TI Tryz.prog 40 aF:=TI.mk (k:=4) (by kernel_rfl) rfl
theorem ac1:TI Tryz.prog 45 (.slice bn):=TI.mk (k:=1) (by kernel_rfl) rfl
theorem ac2:TI Tryz.prog 46 (.slice (.slice aA)):=TI.mk (k:=1) (by kernel_rfl) rfl
theorem ac3:TI Tryz.prog 48 pI:=TI.mk (k:=4) (by kernel_rfl) rfl
theorem ac4:TI Tryz.prog 53 (.slice .str):=TI.mk (k:=1) (by kernel_rfl) rfl
theorem ac5:TI Tryz.prog 55 bA:=TI.mk (k:=2) (by kernel_rfl) rfl
theorem ac6:TI Tryz.prog 57 aA:=TI.mk (k:=2) (by kernel_rfl) rfl
theorem ac7:TI Tryz.prog 58 (.slice dM):=TI.mk (k:=1) (by kernel_rfl) rfl
theorem ac8:TI Tryz.prog 60 aP:=TI.mk (k:=6) (by kernel_rfl) rfl
theorem ac9:TI Tryz.prog 61 (.slice bi):=TI.mk (k:=1) (by kernel_rfl) rfl
theorem ada:TI Tryz.prog 63 aU:=TI.mk (k:=5) (by kernel_rfl) rfl
theorem adb:TI Tryz.prog 67 aA:=TI.mk (k:=2) (by kernel_rfl) rfl
theorem ade:TI Tryz.prog 68 (.slice aA):=TI.mk (k:=1) (by kernel_rfl) rfl
theorem adf:TI Tryz.prog 71 aC:=TI.mk (k:=3) (by kernel_rfl) rfl
theorem adg:TI Tryz.prog 73 aF:=TI.mk (k:=4) (by kernel_rfl) rfl
theorem adh:TI Tryz.prog 77 (.slice aA):=TI.mk (k:=1) (by kernel_rfl) rfl
theorem adi:TI Tryz.prog 79 cz:=TI.mk (k:=6) (by kernel_rfl) rfl
theorem adk:TI Tryz.prog 83 cn:=TI.mk (k:=10) (by kernel_rfl) rfl
theorem adl:TI Tryz.prog 85 bi:=TI.mk (k:=3) (by kernel_rfl) rfl
theorem adm:TI Tryz.prog 90 bS:=TI.mk (k:=2) (by kernel_rfl) rfl
theorem YY:TI Tryz.prog 100 aA:=TI.mk (k:=2) (by kernel_rfl) rfl
theorem YZ:TI Tryz.prog 102 bn:=TI.mk (k:=9) (by kernel_rfl) rfl
theorem Y0:TI Tryz.prog 162 (.slice aB):=TI.mk (k:=1) (by kernel_rfl) rfl
theorem Y1:TI Tryz.prog 171 dM:=TI.mk (k:=5) (by kernel_rfl) rfl
theorem Y2:TI Tryz.prog 191 bB:=TI.mk (k:=6) (by kernel_rfl) rfl
theorem Y3:TI Tryz.prog 210 iR:=TI.mk (k:=3) (by kernel_rfl) rfl
theorem Y4:TI Tryz.prog 213 (.slice aB):=TI.mk (k:=1) (by kernel_rfl) rfl
theorem Y5:TI Tryz.prog 258 (.int .u64):=TI.mk (k:=1) (by kernel_rfl) rfl
theorem NB:uV Tryz.prog 3 aB 1:=Jt Tryz.underlying3
theorem adn:uV Tryz.prog 57 aA 2:=pD Tryz.underlying57 (by kernel_rfl) (oB rfl rfl Tryz.underlying3 (by simp[lH]) MC NB (sM rfl rfl Tryz.underlying3 (by simp[lH]) MC NB))
theorem ado:uV Tryz.prog 67 aA 2:=pD Tryz.underlying67 (by kernel_rfl) (oB rfl rfl Tryz.underlying3 (by simp[lH]) MC NB (sM rfl rfl Tryz.underlying3 (by simp[lH]) MC NB))
theorem adp:uV Tryz.prog 38 aB 1:=Jt Tryz.underlying38
theorem adq:uV Tryz.prog 40 aF 2:=pD Tryz.underlying40 (by kernel_rfl) (oB rfl rfl Tryz.underlying38 (by simp[lH]) YX adp (oB rfl rfl Tryz.underlying3 (by simp[lH]) MC NB (oB rfl rfl Tryz.underlying3 (by simp[lH]) MC NB (sM rfl rfl Tryz.underlying3 (by simp[lH]) MC NB))))
theorem adr:uV Tryz.prog 71 aC 2:=pD Tryz.underlying71 (by kernel_rfl) (oB rfl rfl Tryz.underlying3 (by simp[lH]) MC NB (oB rfl rfl Tryz.underlying3 (by simp[lH]) MC NB (sM rfl rfl Tryz.underlying3 (by simp[lH]) MC NB)))
theorem Y6:uV Tryz.prog 100 aA 2:=pD Tryz.underlying100 (by kernel_rfl) (oB rfl rfl Tryz.underlying3 (by simp[lH]) MC NB (sM rfl rfl Tryz.underlying3 (by simp[lH]) MC NB))
theorem tu:∀p∈([(3, .int .i64),(4, .bool),(5, .int .u8),(9, .str),(20, .other),(22, .slice 55),(23, .slice 60),(24, .slice 63),(26, .struct [(22,0),(23,1),(24,2)]),(27, .slice 71),(28, .slice 27),(30, .struct [(3,0),(27,1),(28,2)]),(34, .slice 3),(35, .slice 90),(37, .struct [(27,0),(34,1),(35,2)]),(38, .int .i64),(40, .struct [(38,0),(3,1),(3,2),(3,3)]),(45, .slice 102),(46, .slice 68),(48, .struct [(34,0),(45,1),(46,2),(46,3)]),(53, .slice 9),(55, .struct [(9,0),(53,1)]),(57, .struct [(3,0),(3,1)]),(58, .slice 171),(60, .struct [(9,0),(57,1),(57,3),(58,5)]),(61, .slice 85),(63, .struct [(9,0),(3,1),(61,2),(61,3),(45,4)]),(64, .other),(67, .struct [(3,0),(3,1)]),(68, .slice 67),(71, .struct [(3,0),(3,1),(3,2)]),(73, .struct [(38,0),(3,1),(3,2),(3,3)]),(77, .slice 57),(79, .struct [(3,0),(27,1),(27,2),(28,3),(77,4),(23,5)]),(80, .ptr 83),(83, .struct [(63,0),(48,5),(34,9)]),(85, .struct [(9,0),(57,1)]),(88, .ptr 79),(90, .struct [(27,0),(34,1)]),(100, .struct [(3,0),(3,1)]),(102, .struct [(9,0),(3,1),(3,2),(3,3),(100,4),(68,6),(68,7),(9,8)]),(116, .slice 34),(119, .slice 4),(145, .other),(148, .int .u64),(161, .ptr 162),(162, .slice 3),(171, .struct [(100,0),(3,2),(3,3),(3,4)]),(181, .other),(185, .other),(187, .other),(191, .struct [(22,0),(23,1),(77,2),(77,3),(77,4),(4,5)]),(203, .int .u32),(205, .int .u64),(210, .struct [(34,0),(34,1),(34,2)]),(211, .ptr 213),(213, .struct [(34,0)]),(227, .other),(252, .other),(258, .int .u64),(262, .ptr 3),(292, .ptr 258),(330, .array 12 3)]:List (Nat×Nx)),BB Tryz.prog p.1 p.2:=by
 simp only[aqr];exact⟨Tryz.underlying3,Tryz.underlying4,Tryz.underlying5,Tryz.underlying9,⟨_,Tryz.underlying20,rfl⟩,Tryz.underlying22,Tryz.underlying23,Tryz.underlying24,⟨_,Tryz.underlying26,rfl⟩,Tryz.underlying27,Tryz.underlying28,⟨_,Tryz.underlying30,rfl⟩,Tryz.underlying34,Tryz.underlying35,⟨_,Tryz.underlying37,rfl⟩,Tryz.underlying38,⟨_,Tryz.underlying40,rfl⟩,Tryz.underlying45,Tryz.underlying46,⟨_,Tryz.underlying48,rfl⟩,Tryz.underlying53,⟨_,Tryz.underlying55,rfl⟩,⟨_,Tryz.underlying57,rfl⟩,Tryz.underlying58,⟨_,Tryz.underlying60,rfl⟩,Tryz.underlying61,⟨_,Tryz.underlying63,rfl⟩,⟨_,Tryz.underlying64,rfl⟩,⟨_,Tryz.underlying67,rfl⟩,Tryz.underlying68,⟨_,Tryz.underlying71,rfl⟩,⟨_,Tryz.underlying73,rfl⟩,Tryz.underlying77,⟨_,Tryz.underlying79,rfl⟩,Tryz.underlying80,⟨_,Tryz.underlying83,rfl⟩,⟨_,Tryz.underlying85,rfl⟩,Tryz.underlying88,⟨_,Tryz.underlying90,rfl⟩,⟨_,Tryz.underlying100,rfl⟩,⟨_,Tryz.underlying102,rfl⟩,Tryz.underlying116,Tryz.underlying119,⟨_,Tryz.underlying145,rfl⟩,Tryz.underlying148,Tryz.underlying161,Tryz.underlying162,⟨_,Tryz.underlying171,rfl⟩,⟨_,Tryz.underlying181,rfl⟩,⟨_,Tryz.underlying185,rfl⟩,⟨_,Tryz.underlying187,rfl⟩,⟨_,Tryz.underlying191,rfl⟩,Tryz.underlying203,Tryz.underlying205,⟨_,Tryz.underlying210,rfl⟩,Tryz.underlying211,⟨_,Tryz.underlying213,rfl⟩,⟨_,Tryz.underlying227,rfl⟩,⟨_,Tryz.underlying252,rfl⟩,Tryz.underlying258,Tryz.underlying262,Tryz.underlying292,Tryz.underlying330,λ_ h=>absurd h (by simp)⟩
theorem tr:∀p∈([(3,aB),(4, .bool),(9, .str),(22,(.slice bA)),(23,(.slice aP)),(24,(.slice aU)),(26,cQ),(27,(.slice aC)),(28,(.slice (.slice aC))),(30,Ca),(34,(.slice aB)),(35,(.slice bS)),(37,Ka),(38,aB),(40,aF),(45,(.slice bn)),(46,(.slice (.slice aA))),(48,pI),(53,(.slice .str)),(55,bA),(57,aA),(58,(.slice dM)),(60,aP),(61,(.slice bi)),(63,aU),(67,aA),(68,(.slice aA)),(71,aC),(73,aF),(77,(.slice aA)),(79,cz),(83,cn),(85,bi),(90,bS),(100,aA),(102,bn),(162,(.slice aB)),(171,dM),(191,bB),(210,iR),(213,(.slice aB)),(258,(.int .u64))]:List (Nat×Row)),TI Tryz.prog p.1 p.2:=by
 simp only[aqr];exact⟨MC,Ti4,Ti9,acQ,acR,acS,acT,acU,acV,acW,acX,acY,acZ,YX,ac0,ac1,ac2,ac3,ac4,ac5,ac6,ac7,ac8,ac9,ada,adb,ade,adf,adg,adh,adi,adk,adl,adm,YY,YZ,Y0,Y1,Y2,Y3,Y4,Y5,λ_ h=>absurd h (by simp)⟩
theorem te:∀p∈([(40,aF),(57,aA),(67,aA),(71,aC),(100,aA)]:List (Nat×Row)),∃K d,uV Tryz.prog p.1 p.2 K/\d+K=10000/\Tryz.prog.eqGuardType Tryz.prog.depth p.1=ag/\(Tryz.prog.underlying p.1).any lH=af:=by
 simp only[aqr];exact⟨⟨2,9998,adq,rfl,by kernel_rfl,by kernel_rfl⟩,⟨2,9998,adn,rfl,by kernel_rfl,by kernel_rfl⟩,⟨2,9998,ado,rfl,by kernel_rfl,by kernel_rfl⟩,⟨2,9998,adr,rfl,by kernel_rfl,by kernel_rfl⟩,⟨2,9998,Y6,rfl,by kernel_rfl,by kernel_rfl⟩,λ_ h=>absurd h (by simp)⟩
theorem tm:∀p∈([(161,("Len",(83,ag))),(161,("Less",(401,ag))),(161,("Pop",(402,af))),(161,("Push",(403,af))),(161,("Swap",(404,ag)))]:List (TypeId×(String×(FuncId×Bool)))),uI Tryz.prog p.1 p.2.1 p.2.2.1 p.2.2.2:=by
 simp only[aqr];exact⟨(by unfold uI;kernel_rfl),(by unfold uI;kernel_rfl),(by unfold uI;kernel_rfl),(by unfold uI;kernel_rfl),(by unfold uI;kernel_rfl),λ_ h=>absurd h (by simp)⟩
def ads:bU Tryz.prog:=⟨_,_,_,[],sP tu,sP tr,sP te,λ_ _ _ h=>(by cases h),_,tm⟩
theorem mixed:Tryz.prog.follows .mixedOrders=af:=by kernel_rfl
def en(l:List (CT Tryz.prog))(d p:Bool):Env Tryz.prog:=⟨ads,CT.tab l,CT.Dr,mixed,d,p⟩
abbrev Fo(f:Nat)(a b:JS)(g:cY a.rows->Option (cY b.rows)):Prop:=kO Tryz.prog f ⟨a,b,g⟩
theorem fz{f:FuncId}{fn:Func}{sg:rH}(N:Nat)(l:List (CT Tryz.prog))(a:uL)(hf:Tryz.prog.funcs[f]? =aa fn)(hc:fwB fn sg=af:=by kernel_rfl)(BZ:∀x,sg.fn x=VF (en l ag ag) fn.ntmps N (fn.body.getD .skip) fn.results.toList a sg.inn sg.out x:=by intro x;kernel_rfl):kO Tryz.prog f sg:=fw (en l ag ag) (N:=N) a hf hc BZ
def M.lW(N:Nat)(a0:aU.den):Option Bool:=
((if(ah (80<(a0.1.size:Int)))then
aa af
else
(if(ah (14<(a0.2.2.1.length:Int)))then
aa af
else
(if(ah (14<(a0.2.2.2.1.length:Int)))then
aa af
else
aa (ah (60<(a0.2.2.2.2.length:Int)))))):Option Bool).bind λj1=>
(if j1 then
aa ag
else
bx (J:=Unit) (R:=Bool) (Loop (S:=Int) (X:=Unit⊕Bool) (λs3=>
(if(ah (s3<(a0.2.2.1.length:Int)))then
(idx a0.2.2.1 s3).bind λx4=>
(if(ah (80<(x4.1.size:Int)))then
aa (.inr (.inr ag))
else
aa (.inl (aoz.wrap (s3+1))))
else
aa (.inr (.inl ())))) N 0) λj2=>
bx (J:=Unit) (R:=Bool) (Loop (S:=Int) (X:=Unit⊕Bool) (λs6=>
(if(ah (s6<(a0.2.2.2.1.length:Int)))then
(idx a0.2.2.2.1 s6).bind λx7=>
(if(ah (80<(x7.1.size:Int)))then
aa (.inr (.inr ag))
else
aa (.inl (aoz.wrap (s6+1))))
else
aa (.inr (.inl ())))) N 0) λj5=>
Loop (S:=Int) (X:=Bool) (λs8=>
(if(ah (s8<(a0.2.2.2.2.length:Int)))then
(idx a0.2.2.2.2 s8).bind λx9=>
((if(ah (80<(x9.1.size:Int)))then
aa af
else
(if(ah (80<(x9.2.2.2.2.2.2.2.size:Int)))then
aa af
else
(if(ah (50<(x9.2.2.2.2.2.1.length:Int)))then
aa af
else
aa (ah (50<(x9.2.2.2.2.2.2.1.length:Int)))))):Option Bool).bind λsx=>
(if sx then
aa (.inr ag)
else
aa (.inl (aoz.wrap (s8+1))))
else
aa (.inr af))) N 0)
theorem W14(N:Nat):Fo 14 (.i1 [.g aU]) (.i1 [.l .bool]) (M.lW N):=fz N [] (.o (.two (.mb 28 32) (.join ⟨[],[],[],32⟩ (.o (.two (.lp 3 48 .nil) .nil)) (.join ⟨[],[],[],32⟩ (.o (.two (.lp 4 48 .nil) .nil)) (.two (.o (.two (.lp 5 48 (.o (.two (.two (.o (.mb 92 240)) .nil) .nil))) .nil)) .nil))))) Tryz.func14
def M.oh(N:Nat)(a0:cQ.den):Option Bool:=
((if(ah (9<(a0.1.length:Int)))then
aa af
else
(if(ah (9<(a0.2.1.length:Int)))then
aa af
else
aa (ah (5<(a0.2.2.length:Int))))):Option Bool).bind λj1=>
(if j1 then
aa ag
else
bx (J:=Unit) (R:=Bool) (Loop (S:=Int) (X:=Unit⊕Bool) (λs3=>
(if(ah (s3<(a0.1.length:Int)))then
bx (J:=Unit) (R:=Int⊕(Unit⊕Bool)) (((idx a0.1 s3).bind λx6=>
(if(ah (80<(x6.1.size:Int)))then
aa af
else
(idx a0.1 s3).bind λx7=>
aa (ah (20<(x7.2.length:Int)))):Option Bool).bind λj5=>
(if j5 then
aa (.inr (.inr (.inr ag)))
else
Loop (S:=Int) (X:=Unit⊕(Int⊕(Unit⊕Bool))) (λs8=>
(idx a0.1 s3).bind λx9=>
(if(ah (s8<(x9.2.length:Int)))then
(idx a0.1 s3).bind λmj=>
(idx mj.2 s8).bind λnT=>
(if(ah (80<(nT.size:Int)))then
aa (.inr (.inr (.inr (.inr ag))))
else
aa (.inl (aoz.wrap (s8+1))))
else
aa (.inr (.inl ())))) N 0)) λj4=>
aa (.inl (aoz.wrap (s3+1)))
else
aa (.inr (.inl ())))) N 0) λj2=>
bx (J:=Unit) (R:=Bool) (Loop (S:=Int×Int) (X:=Unit⊕Bool) (λpA=>
(if(ah (pA.2<(a0.2.1.length:Int)))then
(idx a0.2.1 pA.2).bind λqE=>
((idx a0.2.1 pA.2).bind λzM=>
(if(ah (80<(zM.1.size:Int)))then
aa af
else
aa (ah (150<(aoz.wrap (pA.1+(qE.2.2.2.length:Int)))))):Option Bool).bind λRk=>
(if Rk then
aa (.inr (.inr ag))
else
aa (.inl (aoz.wrap (pA.1+(qE.2.2.2.length:Int)),aoz.wrap (pA.2+1))))
else
aa (.inr (.inl ())))) N (0,0)) λsD=>
Loop (S:=Int×Int) (X:=Bool) (λKb=>
(if(ah (Kb.2<(a0.2.2.length:Int)))then
(idx a0.2.2 Kb.2).bind λuN=>
((if(ah (60<(aoz.wrap (Kb.1+(uN.2.2.2.2.length:Int)))))then
aa af
else
(idx a0.2.2 Kb.2).bind λY7=>
(M.lW N Y7).bind λXP=>
aa (!XP)):Option Bool).bind λXQ=>
(if XQ then
aa (.inr ag)
else
aa (.inl (aoz.wrap (Kb.1+(uN.2.2.2.2.length:Int)),aoz.wrap (Kb.2+1))))
else
aa (.inr af))) N (0,0))
theorem W5(N:Nat):Fo 5 (.i1 [.g cQ]) (.i1 [.l .bool]) (M.oh N):=fz N [ck (W14 N)] (.o (.two (.mb 24 32) (.o (.o (.join ⟨[],[],[],64⟩ (.o (.two (.lp 5 80 (.o (.join ⟨[],[],[],160⟩ (.two (.two (.mb 49 160) (.o (.two (.lp 6 176 .nil) .nil))) .nil) .nil))) .nil)) (.join ⟨[],[],[],64⟩ (.o (.two (.loop ⟨[(3, .l aB),(7, .l aB)],[],[],80⟩ (.o (.two (.two (.o (.mb 99 320)) .nil) .nil))) .nil)) (.two (.o (.two (.loop ⟨[(4, .l aB),(8, .l aB)],[],[],80⟩ (.o (.two (.two (.o (.mb 126 320)) .nil) .nil))) .nil)) .nil))))))) Tryz.func5
def M.lL(N:Nat)(a0:Int):Option Bool:=
((if(ah (97<=a0))then
aa (ah (a0<=122))
else
aa ag):Option Bool).bind λj1=>
aa j1
theorem Y8(N:Nat):Fo 108 (.i1 [.l (.int .u8)]) (.i1 [.l .bool]) (M.lL N):=fz N [] (.o (.mb 2 16)) Tryz.func108
def M.oi(N:Nat)(a0:Int):Option Bool:=
((if(ah (48<=a0))then
aa (ah (a0<=57))
else
aa ag):Option Bool).bind λj1=>
aa j1
theorem adt(N:Nat):Fo 181 (.i1 [.l (.int .u8)]) (.i1 [.l .bool]) (M.oi N):=fz N [] (.o (.mb 2 16)) Tryz.func181
def M.kP(N:Nat)(a0:ByteArray):Option Int:=
Loop (S:=Int) (X:=Int) (λs1=>
((if(ah (s1<(a0.size:Int)))then
(lj a0 s1).bind λx3=>
(M.lL N x3).bind λy4=>
(if y4 then
aa af
else
(lj a0 s1).bind λx5=>
(M.oi N x5).bind λy6=>
(if y6 then
aa af
else
(lj a0 s1).bind λx7=>
aa (ah (x7=95))))
else
aa ag):Option Bool).bind λj2=>
(if j2 then
aa (.inl (aoz.wrap (s1+1)))
else
aa (.inr s1))) N 0
theorem adu(N:Nat):Fo 109 (.i1 [.l .str]) (.i1 [.l aB]) (M.kP N):=fz N [ck (Y8 N),ck (adt N)] (.o (.o (.two (.two (.lp 3 32 (.two (.mb 25 32) .nil)) .nil) .nil))) Tryz.func109
def M.mO(N:Nat)(a0:ByteArray):Option Bool:=
((if(ah (a0=(⟨#[105,102]⟩:ByteArray)))then
aa (ah (a0=(⟨#[105,102]⟩:ByteArray)))
else
(if(ah (a0=(⟨#[116,104,101,110]⟩:ByteArray)))then
aa (ah (a0=(⟨#[116,104,101,110]⟩:ByteArray)))
else
(if(ah (a0=(⟨#[101,108,115,101]⟩:ByteArray)))then
aa (ah (a0=(⟨#[101,108,115,101]⟩:ByteArray)))
else
(if(ah (a0=(⟨#[111,114]⟩:ByteArray)))then
aa (ah (a0=(⟨#[111,114]⟩:ByteArray)))
else
(if(ah (a0=(⟨#[97,110,100]⟩:ByteArray)))then
aa (ah (a0=(⟨#[97,110,100]⟩:ByteArray)))
else
(if(ah (a0=(⟨#[110,111,116]⟩:ByteArray)))then
aa (ah (a0=(⟨#[110,111,116]⟩:ByteArray)))
else
(if(ah (a0=(⟨#[116,114,117,101]⟩:ByteArray)))then
aa (ah (a0=(⟨#[116,114,117,101]⟩:ByteArray)))
else
(if(ah (a0=(⟨#[102,97,108,115,101]⟩:ByteArray)))then
aa (ah (a0=(⟨#[102,97,108,115,101]⟩:ByteArray)))
else
(if(ah (a0=(⟨#[116,111,100,97,121]⟩:ByteArray)))then
aa (ah (a0=(⟨#[116,111,100,97,121]⟩:ByteArray)))
else
(if(ah (a0=(⟨#[115,104,97,114,101]⟩:ByteArray)))then
aa (ah (a0=(⟨#[115,104,97,114,101]⟩:ByteArray)))
else
(if(ah (a0=(⟨#[100,105,118]⟩:ByteArray)))then
aa (ah (a0=(⟨#[100,105,118]⟩:ByteArray)))
else
(if(ah (a0=(⟨#[114,111,117,110,100]⟩:ByteArray)))then
aa (ah (a0=(⟨#[114,111,117,110,100]⟩:ByteArray)))
else
(if(ah (a0=(⟨#[109,105,110]⟩:ByteArray)))then
aa (ah (a0=(⟨#[109,105,110]⟩:ByteArray)))
else
(if(ah (a0=(⟨#[109,97,120]⟩:ByteArray)))then
aa (ah (a0=(⟨#[109,97,120]⟩:ByteArray)))
else
(if(ah (a0=(⟨#[112,108,117,115]⟩:ByteArray)))then
aa (ah (a0=(⟨#[112,108,117,115]⟩:ByteArray)))
else
(if(ah (a0=(⟨#[109,111,110,116,104,115]⟩:ByteArray)))then
aa (ah (a0=(⟨#[109,111,110,116,104,115]⟩:ByteArray)))
else
(if(ah (a0=(⟨#[100,97,121,115]⟩:ByteArray)))then
aa (ah (a0=(⟨#[100,97,121,115]⟩:ByteArray)))
else
(if(ah (a0=(⟨#[121,101,97,114,115]⟩:ByteArray)))then
aa (ah (a0=(⟨#[121,101,97,114,115]⟩:ByteArray)))
else
(if(ah (a0=(⟨#[121,101,97,114]⟩:ByteArray)))then
aa (ah (a0=(⟨#[121,101,97,114]⟩:ByteArray)))
else
(if(ah (a0=(⟨#[109,111,110,116,104]⟩:ByteArray)))then
aa (ah (a0=(⟨#[109,111,110,116,104]⟩:ByteArray)))
else
(if(ah (a0=(⟨#[116,97,98]⟩:ByteArray)))then
aa (ah (a0=(⟨#[116,97,98]⟩:ByteArray)))
else
(if(ah (a0=(⟨#[98,97,110,100]⟩:ByteArray)))then
aa (ah (a0=(⟨#[98,97,110,100]⟩:ByteArray)))
else
(if(ah (a0=(⟨#[99,111,117,110,116]⟩:ByteArray)))then
aa (ah (a0=(⟨#[99,111,117,110,116]⟩:ByteArray)))
else
(if(ah (a0=(⟨#[115,117,109]⟩:ByteArray)))then
aa (ah (a0=(⟨#[115,117,109]⟩:ByteArray)))
else
(if(ah (a0=(⟨#[97,108,108]⟩:ByteArray)))then
aa (ah (a0=(⟨#[97,108,108]⟩:ByteArray)))
else
(if(ah (a0=(⟨#[97,110,121]⟩:ByteArray)))then
aa (ah (a0=(⟨#[97,110,121]⟩:ByteArray)))
else
(if(ah (a0=(⟨#[109,111,115,116]⟩:ByteArray)))then
aa (ah (a0=(⟨#[109,111,115,116]⟩:ByteArray)))
else
(if(ah (a0=(⟨#[101,110,117,109]⟩:ByteArray)))then
aa (ah (a0=(⟨#[101,110,117,109]⟩:ByteArray)))
else
(if(ah (a0=(⟨#[116,97,98,108,101]⟩:ByteArray)))then
aa (ah (a0=(⟨#[116,97,98,108,101]⟩:ByteArray)))
else
(if(ah (a0=(⟨#[114,111,119]⟩:ByteArray)))then
aa (ah (a0=(⟨#[114,111,119]⟩:ByteArray)))
else
(if(ah (a0=(⟨#[115,99,111,112,101]⟩:ByteArray)))then
aa (ah (a0=(⟨#[115,99,111,112,101]⟩:ByteArray)))
else
(if(ah (a0=(⟨#[109,101,109,98,101,114,115]⟩:ByteArray)))then
aa (ah (a0=(⟨#[109,101,109,98,101,114,115]⟩:ByteArray)))
else
(if(ah (a0=(⟨#[105,110,112,117,116]⟩:ByteArray)))then
aa (ah (a0=(⟨#[105,110,112,117,116]⟩:ByteArray)))
else
(if(ah (a0=(⟨#[100,101,102]⟩:ByteArray)))then
aa (ah (a0=(⟨#[100,101,102]⟩:ByteArray)))
else
(if(ah (a0=(⟨#[114,117,108,101]⟩:ByteArray)))then
aa (ah (a0=(⟨#[114,117,108,101]⟩:ByteArray)))
else
(if(ah (a0=(⟨#[111,102]⟩:ByteArray)))then
aa (ah (a0=(⟨#[111,102]⟩:ByteArray)))
else
(if(ah (a0=(⟨#[111,118,101,114]⟩:ByteArray)))then
aa (ah (a0=(⟨#[111,118,101,114]⟩:ByteArray)))
else
(if(ah (a0=(⟨#[112,114,105,111]⟩:ByteArray)))then
aa (ah (a0=(⟨#[112,114,105,111]⟩:ByteArray)))
else
(if(ah (a0=(⟨#[102,114,111,109]⟩:ByteArray)))then
aa (ah (a0=(⟨#[102,114,111,109]⟩:ByteArray)))
else
(if(ah (a0=(⟨#[116,111]⟩:ByteArray)))then
aa (ah (a0=(⟨#[116,111]⟩:ByteArray)))
else
(if(ah (a0=(⟨#[101,110,100]⟩:ByteArray)))then
aa (ah (a0=(⟨#[101,110,100]⟩:ByteArray)))
else
(if(ah (a0=(⟨#[119,104,101,110]⟩:ByteArray)))then
aa (ah (a0=(⟨#[119,104,101,110]⟩:ByteArray)))
else
(if(ah (a0=(⟨#[105,115]⟩:ByteArray)))then
aa (ah (a0=(⟨#[105,115]⟩:ByteArray)))
else
(if(ah (a0=(⟨#[115,114,99]⟩:ByteArray)))then
aa (ah (a0=(⟨#[115,114,99]⟩:ByteArray)))
else
(if(ah (a0=(⟨#[98,111,111,108]⟩:ByteArray)))then
aa (ah (a0=(⟨#[98,111,111,108]⟩:ByteArray)))
else
(if(ah (a0=(⟨#[105,110,116]⟩:ByteArray)))then
aa (ah (a0=(⟨#[105,110,116]⟩:ByteArray)))
else
(if(ah (a0=(⟨#[109,111,110,101,121]⟩:ByteArray)))then
aa (ah (a0=(⟨#[109,111,110,101,121]⟩:ByteArray)))
else
(if(ah (a0=(⟨#[114,97,116,101]⟩:ByteArray)))then
aa (ah (a0=(⟨#[114,97,116,101]⟩:ByteArray)))
else
(if(ah (a0=(⟨#[100,97,116,101]⟩:ByteArray)))then
aa (ah (a0=(⟨#[100,97,116,101]⟩:ByteArray)))
else
(if(ah (a0=(⟨#[100,111,119,110]⟩:ByteArray)))then
aa (ah (a0=(⟨#[100,111,119,110]⟩:ByteArray)))
else
(if(ah (a0=(⟨#[117,112]⟩:ByteArray)))then
aa (ah (a0=(⟨#[117,112]⟩:ByteArray)))
else
(if(ah (a0=(⟨#[122,101,114,111]⟩:ByteArray)))then
aa (ah (a0=(⟨#[122,101,114,111]⟩:ByteArray)))
else
(if(ah (a0=(⟨#[97,119,97,121]⟩:ByteArray)))then
aa (ah (a0=(⟨#[97,119,97,121]⟩:ByteArray)))
else
(if(ah (a0=(⟨#[104,97,108,102]⟩:ByteArray)))then
aa (ah (a0=(⟨#[104,97,108,102]⟩:ByteArray)))
else
aa (ah (a0=(⟨#[101,118,101,110]⟩:ByteArray))))))))))))))))))))))))))))))))))))))))))))))))))))))))):Option Bool).bind λj1=>
(if j1 then
aa af
else
aa ag)
theorem adv(N:Nat):Fo 110 (.i1 [.l .str]) (.i1 [.l .bool]) (M.mO N):=fz N [] (.o (.two (.o (.two (.mb 4 32) .nil)) .nil)) Tryz.func110
def M.cI(N:Nat)(a0:ByteArray):Option Bool:=
((if(!ah (a0=(⟨#[]⟩:ByteArray)))then
(lj a0 0).bind λx2=>
(M.lL N x2).bind λy3=>
(if y3 then
(M.kP N a0).bind λy4=>
(if(ah (y4=(a0.size:Int)))then
(if(ah ((a0.size:Int)<=16))then
(M.mO N a0).bind λy5=>
aa (!y5)
else
aa ag)
else
aa ag)
else
aa ag)
else
aa ag):Option Bool).bind λj1=>
aa j1
theorem Y9(N:Nat):Fo 61 (.i1 [.l .str]) (.i1 [.l .bool]) (M.cI N):=fz N [ck (Y8 N),ck (adu N),ck (adv N)] (.o (.mb 2 16)) Tryz.func61
def M.mP(N:Nat)(a0:bA.den)(a1:ByteArray):Option (Bool×ByteArray):=
aa (ah (a0.1=a1),a1)
theorem VM(N:Nat):Fo 112 (.j1 [.g bA, .ptr 0 [] 0] [.box 9 (.leaf .str)] 1) (.j1 [.l .bool] [.box 9 (.leaf .str)] 2) (u2 (M.mP N)):=fz N [] .nil Tryz.func112
def M.bP(N:Nat)(a0:List bA.den)(a1:ByteArray):Option (Int×ByteArray):=
Loop (S:=Int×ByteArray) (X:=Int×ByteArray) (λs1=>
(if(ah (s1.1<(a0.length:Int)))then
(idx a0 s1.1).bind λx2=>
(M.mP N x2 s1.2).bind λy3=>
(if y3.1 then
aa (.inr (s1.1,y3.2))
else
aa (.inl (aoz.wrap (s1.1+1),y3.2)))
else
aa (.inr ((-1),s1.2)))) N (0,a1)
theorem VN(N:Nat):Fo 182 (.j1 [.l (.slice bA), .fn 112 [(0,[],0)]] [.box 9 (.leaf .str)] 1) (.j1 [.l aB] [.box 9 (.leaf .str)] 2) (u2 (M.bP N)):=fz N [ck (VM N)] (.o (.two (.o (.two (.loop ⟨[(8, .l aB)],[(0, .box 9 (.leaf .str))],[],66⟩ .nil) .nil)) .nil)) Tryz.func182
def M.cf(N:Nat)(a0:List bA.den)(a1:ByteArray):Option (Bool×ByteArray):=
(M.bP N a0 a1).bind λy1=>
aa (ah (0<=y1.1),y1.2)
theorem VO(N:Nat):Fo 111 (.j1 [.l (.slice bA), .fn 112 [(0,[],0)]] [.box 9 (.leaf .str)] 1) (.j1 [.l .bool] [.box 9 (.leaf .str)] 2) (u2 (M.cf N)):=fz N [ck (VN N)] .nil Tryz.func111
def M.kl(N:Nat)(a0:List bA.den)(a1:ByteArray):Option Bool:=
(M.cf N a0 a1).bind λy1=>
aa y1.1
theorem W62(N:Nat):Fo 62 (.i1 [.l (.slice bA), .l .str]) (.i1 [.l .bool]) (u2 (M.kl N)):=fz N [ck (VO N)] .nil Tryz.func62
def M.eM(N:Nat)(a0:List ByteArray)(a1:ByteArray):Option Int:=
Loop (S:=Int) (X:=Int) (λs1=>
(if(ah (s1<(a0.length:Int)))then
(idx a0 s1).bind λx2=>
(if(ah (a1=x2))then
aa (.inr s1)
else
aa (.inl (aoz.wrap (s1+1))))
else
aa (.inr (-1)))) N 0
theorem adx(N:Nat):Fo 179 (.i1 [.l (.slice .str), .l .str]) (.i1 [.l aB]) (u2 (M.eM N)):=fz N [] (.o (.two (.o (.two (.lp 8 64 .nil) .nil)) .nil)) Tryz.func179
def M.dU(N:Nat)(a0:List ByteArray)(a1:ByteArray):Option Bool:=
(M.eM N a0 a1).bind λy1=>
aa (ah (0<=y1))
theorem ady(N:Nat):Fo 102 (.i1 [.l (.slice .str), .l .str]) (.i1 [.l .bool]) (u2 (M.dU N)):=fz N [ck (adx N)] .nil Tryz.func102
def M.oj(N:Nat)(a0:cQ.den)(a1:Int)(a2:bA.den):Option (Int×Int):=
(M.cI N a2.1).bind λy1=>
(if(!y1)then
aa (2,0)
else
(fo a0.1 0 a1).bind λl2=>
(M.kl N l2 a2.1).bind λy3=>
(if y3 then
aa (7,0)
else
(if(ah ((a2.2.length:Int)=0))then
aa (5,0)
else
(if(ah (16<(a2.2.length:Int)))then
aa (4,116)
else
Loop (S:=Int) (X:=Int×Int) (λs4=>
(if(ah (s4<(a2.2.length:Int)))then
(idx a2.2 s4).bind λx5=>
(M.cI N x5).bind λy6=>
(if(!y6)then
aa (.inr (2,aoz.wrap (100+s4)))
else
(fo a2.2 0 s4).bind λl7=>
(M.dU N l7 x5).bind λy8=>
(if y8 then
aa (.inr (7,aoz.wrap (100+s4)))
else
aa (.inl (aoz.wrap (s4+1)))))
else
aa (.inr (0,0)))) N 0))))
theorem W59(N:Nat):Fo 59 (.i1 [.g cQ, .l aB, .g bA]) (.i1 [.l aB, .l aB]) (u3 (M.oj N)):=fz N [ck (Y9 N),ck (W62 N),ck (ady N)] (.o (.o (.two (.o (.two (.lp 36 496 .nil) .nil)) .nil))) Tryz.func59
def M.mQ(N:Nat)(a0:cQ.den):Option (aF.den):=
(if(ah (8<(a0.1.length:Int)))then
aa (4,(1,(8,0)))
else
bx (J:=Unit) (R:=aF.den) (Loop (S:=Int) (X:=Unit⊕(aF.den)) (λs2=>
(if(ah (s2<(a0.1.length:Int)))then
(idx a0.1 s2).bind λx3=>
(M.oj N a0 s2 x3).bind λy4=>
(if(!ah (y4.1=0))then
aa (.inr (.inr (y4.1,(1,(s2,y4.2)))))
else
aa (.inl (aoz.wrap (s2+1))))
else
aa (.inr (.inl ())))) N 0) λj1=>
aa (0,(0,(0,0))))
theorem W32(N:Nat):Fo 32 (.i1 [.g cQ]) (.i1 [.g aF]) (M.mQ N):=fz N [ck (W59 N)] (.o (.o (.join ⟨[],[],[],96⟩ (.o (.two (.lp 15 160 .nil) .nil)) .nil))) Tryz.func32
def M.dC(N:Nat)(a0:aA.den)(a1:List bA.den):Option Bool:=
((if(ah (a0.1=1))then
aa (ah (a0.1=1))
else
(if(ah (a0.1=2))then
aa (ah (a0.1=2))
else
(if(ah (a0.1=3))then
aa (ah (a0.1=3))
else
(if(ah (a0.1=4))then
aa (ah (a0.1=4))
else
aa (ah (a0.1=5)))))):Option Bool).bind λj1=>
(if j1 then
aa (ah (a0.2=0))
else
(if(ah (a0.1=6))then
((if(ah (0<=a0.2))then
aa (ah (a0.2<(a1.length:Int)))
else
aa ag):Option Bool).bind λj2=>
aa j2
else
aa ag))
theorem Py(N:Nat):Fo 103 (.i1 [.g aA, .l (.slice bA)]) (.i1 [.l .bool]) (u2 (M.dC N)):=fz N [] (.o (.two (.o (.two (.meet ⟨[(7, .l .bool)],[],[],64⟩ .nil (.o (.o (.two (.mb 4 96) .nil)))) .nil)) .nil)) Tryz.func103
def M.jo(N:Nat)(a0:aA.den)(a1:List bA.den):Option (Int×Int):=
(M.dC N a0 a1).bind λy1=>
(if(!y1)then
aa (0,(-1))
else
(if(ah (a0.1=1))then
aa (0,1)
else
(if(ah (a0.1=2))then
aa ((-1000000000000),1000000000000)
else
(if(ah (a0.1=3))then
aa ((-1000000000000000),1000000000000000)
else
(if(ah (a0.1=4))then
aa ((-1000000000),1000000000)
else
(if(ah (a0.1=5))then
aa (0,109572)
else
(idx a1 a0.2).bind λx2=>
aa (0,aoz.wrap ((x2.2.length:Int)-1))))))))
theorem W65(N:Nat):Fo 65 (.i1 [.g aA, .l (.slice bA)]) (.i1 [.l aB, .l aB]) (u2 (M.jo N)):=fz N [ck (Py N)] .nil Tryz.func65
def M.ff(N:Nat)(a0:aA.den):Option Bool:=
((if(ah (0<=a0.1))then
(if(ah (a0.1<=a0.2))then
aa (ah (a0.2<=109573))
else
aa ag)
else
aa ag):Option Bool).bind λj1=>
aa j1
theorem VP(N:Nat):Fo 104 (.i1 [.g aA]) (.i1 [.l .bool]) (M.ff N):=fz N [] (.o (.mb 2 32)) Tryz.func104
def M.jO(N:Nat)(a0:aA.den):Option Bool:=
((M.ff N a0).bind λy2=>
(if y2 then
aa (ah (a0.1<a0.2))
else
aa ag):Option Bool).bind λj1=>
aa j1
theorem adA(N:Nat):Fo 247 (.i1 [.g aA]) (.i1 [.l .bool]) (M.jO N):=fz N [ck (VP N)] (.o (.mb 2 32)) Tryz.func247
def M.lr(N:Nat)(a0:aA.den)(a1:aA.den):Option (aA.den×Bool):=
((M.jO N a0).bind λy2=>
(if(!y2)then
aa af
else
(M.jO N a1).bind λy3=>
aa (!y3)):Option Bool).bind λj1=>
(if j1 then
aa ((0,0),ag)
else
(if(ah ((if a1.2<a0.2 then a1.2 else a0.2)<=(if a0.1<a1.1 then a1.1 else a0.1)))then
aa ((0,0),ag)
else
aa ((if a0.1<a1.1 then a1.1 else a0.1,if a1.2<a0.2 then a1.2 else a0.2),af)))
theorem adB(N:Nat):Fo 180 (.i1 [.g aA, .g aA]) (.i1 [.g aA, .l .bool]) (u2 (M.lr N)):=fz N [ck (adA N)] (.o (.two (.mb 14 64) .nil)) Tryz.func180
def M.mR(N:Nat)(a0:dM.den)(a1:dM.den):Option Bool:=
(M.lr N a0.1 a1.1).bind λy1=>
((if y1.2 then
aa (ah ((if a0.2.1<a1.2.1 then a1.2.1 else a0.2.1)<(if a1.2.2.1<a0.2.2.1 then a1.2.2.1 else a0.2.2.1)))
else
aa ag):Option Bool).bind λj2=>
aa j2
theorem adC(N:Nat):Fo 107 (.i1 [.g dM, .g dM]) (.i1 [.l .bool]) (u2 (M.mR N)):=fz N [ck (adB N)] (.o (.o (.mb 4 224))) Tryz.func107
def M.km(N:Nat)(a0:dM.den)(a1:dM.den):Option (Bool×dM.den):=
(M.mR N a0 a1).bind λy1=>
aa (y1,a1)
theorem VQ(N:Nat):Fo 106 (.j1 [.g dM, .ptr 0 [] 0] [.box 171 (.leaf dM)] 1) (.j1 [.l .bool] [.box 171 (.leaf dM)] 2) (u2 (M.km N)):=fz N [ck (adC N)] .nil Tryz.func106
def M.cR(N:Nat)(a0:List dM.den)(a1:dM.den):Option (Int×Bool×dM.den):=
Loop (S:=Int×dM.den) (X:=Int×Bool×dM.den) (λs1=>
(if(ah (s1.1<(a0.length:Int)))then
(idx a0 s1.1).bind λx2=>
(M.km N x2 s1.2).bind λy3=>
(if y3.1 then
aa (.inr (s1.1,af,y3.2))
else
aa (.inl (aoz.wrap (s1.1+1),y3.2)))
else
aa (.inr (0,ag,s1.2)))) N (0,a1)
theorem VS(N:Nat):Fo 105 (.j1 [.l (.slice dM), .fn 106 [(0,[],0)]] [.box 171 (.leaf dM)] 1) (.j1 [.l aB, .l .bool] [.box 171 (.leaf dM)] 2) (u2 (M.cR N)):=fz N [ck (VQ N)] (.o (.two (.o (.two (.loop ⟨[(10, .l aB)],[(0, .box 171 (.leaf dM))],[],82⟩ .nil) .nil)) .nil)) Tryz.func105
def M.mS(N:Nat)(a0:aP.den)(a1:List bA.den):Option (Int×Int):=
(if(ah (64<(a0.2.2.2.length:Int)))then
aa (64,4)
else
((M.dC N a0.2.1 a1).bind λy2=>
(if(!y2)then
aa af
else
(M.dC N a0.2.2.1 a1).bind λy3=>
aa (!y3)):Option Bool).bind λj1=>
(if j1 then
aa ((-1),8)
else
(M.jo N a0.2.1 a1).bind λy4=>
(M.jo N a0.2.2.1 a1).bind λy5=>
Loop (S:=Int) (X:=Int×Int) (λs6=>
(if(ah (s6<(a0.2.2.2.length:Int)))then
(idx a0.2.2.2 s6).bind λx7=>
((M.ff N x7.1).bind λy9=>
(if(!y9)then
aa af
else
(if(ah (x7.1.1=x7.1.2))then
aa af
else
aa (ah (x7.2.2.1<=x7.2.1)))):Option Bool).bind λj8=>
(if j8 then
aa (.inr (s6,3))
else
((if(ah (x7.2.1<y4.1))then
aa af
else
(if(ah (y4.2<x7.2.1))then
aa af
else
(if(ah ((aoz.wrap (x7.2.2.1-1))<y4.1))then
aa af
else
aa (ah (y4.2<(aoz.wrap (x7.2.2.1-1))))))):Option Bool).bind λsx=>
(if sx then
aa (.inr (s6,3))
else
((if(ah (x7.2.2.2<y5.1))then
aa af
else
aa (ah (y5.2<x7.2.2.2))):Option Bool).bind λsK=>
(if sK then
aa (.inr (s6,3))
else
(fo a0.2.2.2 0 s6).bind λxO=>
(M.cR N xO x7).bind λpT=>
(if pT.2.1 then
aa (.inr (s6,11))
else
aa (.inl (aoz.wrap (s6+1)))))))
else
aa (.inr (0,0)))) N 0))
theorem W60(N:Nat):Fo 60 (.i1 [.g aP, .l (.slice bA)]) (.i1 [.l aB, .l aB]) (u2 (M.mS N)):=fz N [ck (W65 N),ck (Py N),ck (VP N),ck (VS N)] (.o (.o (.two (.mb 29 112) (.o (.o (.two (.o (.two (.lp 47 464 (.o (.o (.two (.two (.o (.two (.mb 71 576) (.two (.mb 96 576) (.two (.mb 107 576) .nil)))) .nil) .nil)))) .nil)) .nil)))))) Tryz.func60
def M.mm(N:Nat)(a0:aP.den)(a1:ByteArray):Option (Bool×ByteArray):=
aa (ah (a0.1=a1),a1)
theorem VT(N:Nat):Fo 114 (.j1 [.g aP, .ptr 0 [] 0] [.box 9 (.leaf .str)] 1) (.j1 [.l .bool] [.box 9 (.leaf .str)] 2) (u2 (M.mm N)):=fz N [] .nil Tryz.func114
def M.bL(N:Nat)(a0:List aP.den)(a1:ByteArray):Option (Int×ByteArray):=
Loop (S:=Int×ByteArray) (X:=Int×ByteArray) (λs1=>
(if(ah (s1.1<(a0.length:Int)))then
(idx a0 s1.1).bind λx2=>
(M.mm N x2 s1.2).bind λy3=>
(if y3.1 then
aa (.inr (s1.1,y3.2))
else
aa (.inl (aoz.wrap (s1.1+1),y3.2)))
else
aa (.inr ((-1),s1.2)))) N (0,a1)
theorem VU(N:Nat):Fo 183 (.j1 [.l (.slice aP), .fn 114 [(0,[],0)]] [.box 9 (.leaf .str)] 1) (.j1 [.l aB] [.box 9 (.leaf .str)] 2) (u2 (M.bL N)):=fz N [ck (VT N)] (.o (.two (.o (.two (.loop ⟨[(8, .l aB)],[(0, .box 9 (.leaf .str))],[],66⟩ .nil) .nil)) .nil)) Tryz.func183
def M.bZ(N:Nat)(a0:List aP.den)(a1:ByteArray):Option (Bool×ByteArray):=
(M.bL N a0 a1).bind λy1=>
aa (ah (0<=y1.1),y1.2)
theorem VV(N:Nat):Fo 113 (.j1 [.l (.slice aP), .fn 114 [(0,[],0)]] [.box 9 (.leaf .str)] 1) (.j1 [.l .bool] [.box 9 (.leaf .str)] 2) (u2 (M.bZ N)):=fz N [ck (VU N)] .nil Tryz.func113
def M.kQ(N:Nat)(a0:List aP.den)(a1:ByteArray):Option Bool:=
(M.bZ N a0 a1).bind λy1=>
aa y1.1
theorem W63(N:Nat):Fo 63 (.i1 [.l (.slice aP), .l .str]) (.i1 [.l .bool]) (u2 (M.kQ N)):=fz N [ck (VV N)] .nil Tryz.func63
def M.lX(N:Nat)(a0:cQ.den):Option (aF.den):=
(if(ah (8<(a0.2.1.length:Int)))then
aa (4,(2,(8,0)))
else
bx (J:=Unit) (R:=aF.den) (Loop (S:=Int) (X:=Unit⊕(aF.den)) (λs2=>
(if(ah (s2<(a0.2.1.length:Int)))then
(idx a0.2.1 s2).bind λx3=>
(M.mS N x3 a0.1).bind λy4=>
((M.cI N x3.1).bind λy6=>
(if(!y6)then
aa (2,(2,(s2,0)))
else
((M.kl N a0.1 x3.1).bind λy8=>
(if y8 then
aa af
else
(fo a0.2.1 0 s2).bind λl9=>
(M.kQ N l9 x3.1).bind λnI=>
aa nI):Option Bool).bind λj7=>
(if j7 then
aa (7,(2,(s2,0)))
else
(if(!ah (y4.2=0))then
(if(!ah (y4.1=(-1)))then
aa (y4.2,(2,(s2,aoz.wrap (100+y4.1))))
else
aa (y4.2,(2,(s2,0))))
else
aa (0,(2,(s2,0)))))):Option (aF.den)).bind λj5=>
(if(!ah (j5.1=0))then
aa (.inr (.inr j5))
else
aa (.inl (aoz.wrap (s2+1))))
else
aa (.inr (.inl ())))) N 0) λj1=>
aa (0,(0,(0,0))))
theorem W33(N:Nat):Fo 33 (.i1 [.g cQ]) (.i1 [.g aF]) (M.lX N):=fz N [ck (W60 N),ck (Y9 N),ck (W62 N),ck (W63 N)] (.o (.o (.join ⟨[],[],[],96⟩ (.o (.two (.lp 16 160 (.o (.o (.two (.two (.o (.o (.o (.two (.meet ⟨[],[(304, .box 73 (.leaf aF))],[],481⟩ (.o (.o (.mb 36 560))) .nil) .nil)))) .nil) .nil)))) .nil)) .nil))) Tryz.func33
def M.ko(N:Nat)(a0:bi.den)(a1:bi.den):Option (Bool×bi.den):=
aa (ah (a0.1=a1.1),a1)
theorem VW(N:Nat):Fo 185 (.j1 [.g bi, .ptr 0 [] 0] [.box 85 (.leaf bi)] 1) (.j1 [.l .bool] [.box 85 (.leaf bi)] 2) (u2 (M.ko N)):=fz N [] .nil Tryz.func185
def M.bM(N:Nat)(a0:List bi.den)(a1:bi.den):Option (Int×bi.den):=
Loop (S:=Int×bi.den) (X:=Int×bi.den) (λs1=>
(if(ah (s1.1<(a0.length:Int)))then
(idx a0 s1.1).bind λx2=>
(M.ko N x2 s1.2).bind λy3=>
(if y3.1 then
aa (.inr (s1.1,y3.2))
else
aa (.inl (aoz.wrap (s1.1+1),y3.2)))
else
aa (.inr ((-1),s1.2)))) N (0,a1)
theorem VX(N:Nat):Fo 248 (.j1 [.l (.slice bi), .fn 185 [(0,[],0)]] [.box 85 (.leaf bi)] 1) (.j1 [.l aB] [.box 85 (.leaf bi)] 2) (u2 (M.bM N)):=fz N [ck (VW N)] (.o (.two (.o (.two (.loop ⟨[(8, .l aB)],[(0, .box 85 (.leaf bi))],[],66⟩ .nil) .nil)) .nil)) Tryz.func248
def M.bj(N:Nat)(a0:List bi.den)(a1:bi.den):Option (Bool×bi.den):=
(M.bM N a0 a1).bind λy1=>
aa (ah (0<=y1.1),y1.2)
theorem VY(N:Nat):Fo 186 (.j1 [.l (.slice bi), .fn 185 [(0,[],0)]] [.box 85 (.leaf bi)] 1) (.j1 [.l .bool] [.box 85 (.leaf bi)] 2) (u2 (M.bj N)):=fz N [ck (VX N)] .nil Tryz.func186
def M.kq(N:Nat)(a0:cQ.den)(a1:bi.den)(a2:List bi.den)(a3:List bi.den):Option Int:=
(M.cI N a1.1).bind λy1=>
(if(!y1)then
aa 2
else
((M.bj N a2 a1).bind λy3=>
(if y3.1 then
aa (af,y3.2)
else
(M.bj N a3 y3.2).bind λy4=>
aa (y4.1,y4.2)):Option (Bool×bi.den)).bind λj2=>
(if j2.1 then
aa 7
else
(M.dC N j2.2.2 a0.1).bind λy5=>
(if(!y5)then
aa 8
else
aa 0)))
theorem adD(N:Nat):Fo 117 (.i1 [.g cQ, .g bi, .l (.slice bi), .l (.slice bi)]) (.i1 [.l aB]) (u4 (M.kq N)):=fz N [ck (Y9 N),ck (Py N),ck (VY N)] (.o (.o (.two (.two (.o (.o (.meet ⟨[(16, .l .bool)],[(16, .box 85 (.leaf bi))],[],161⟩ .nil .nil))) .nil) .nil))) Tryz.func117
def M.mT(N:Nat)(a0:List bi.den):Option (List aA.den):=
Loop (S:=Int×List aA.den) (X:=List aA.den) (λs1=>
(if(ah (s1.1<(a0.length:Int)))then
(idx a0 s1.1).bind λx2=>
(bR s1.2 ([x2.2]:List aA.den)).bind λl3=>
aa (.inl (aoz.wrap (s1.1+1),l3))
else
aa (.inr s1.2))) N (0,([]:List aA.den))
theorem adE(N:Nat):Fo 187 (.i1 [.l (.slice bi)]) (.w1 57 aA) (M.mT N):=fz N [] (.o (.o (.two (.o (.two (.loop ⟨[(3, .val ag (.own 80)),(8, .l aB)],[(80, .own 57 aA)],[],81⟩ .nil) .nil)) .nil))) Tryz.func187
def M.lu(N:Nat)(a0:cQ.den)(a1:Int):Option ((List bA.den)×(List aP.den)×Bool×(List aA.den)×(List aA.den)×List aA.den):=
(idx a0.2.2 a1).bind λx1=>
(M.mT N x1.2.2.1).bind λy2=>
(M.mT N x1.2.2.2.1).bind λy3=>
(((if(ah (0<=x1.2.1))then
aa (ah (x1.2.1<(a0.2.2.length:Int)))
else
aa ag):Option Bool).bind λj5=>
(if j5 then
(idx a0.2.2 x1.2.1).bind λx6=>
(M.mT N x6.2.2.2.1).bind λy7=>
aa (y2,y3,a0.1,a0.2.1,af,y7)
else
aa (y2,y3,a0.1,a0.2.1,ag,([]:List aA.den))):Option ((List aA.den)×(List aA.den)×(List bA.den)×(List aP.den)×Bool×List aA.den)).bind λj4=>
aa (j4.2.2.1,j4.2.2.2.1,j4.2.2.2.2.1,j4.1,j4.2.1,j4.2.2.2.2.2)
theorem adF(N:Nat):Fo 118 (.i1 [.g cQ, .l aB]) (.j1 [.val af (.pair (.leaf (.slice bA)) (.pair (.leaf (.slice aP)) (.pair (.own 0) (.pair (.own 1) (.pair (.own 2) (.leaf .bool))))))] [.own 57 aA, .own 57 aA, .own 57 aA] 3) (u2 (M.lu N)):=fz N [ck (adE N)] (.o (.o (.o (.meet ⟨[],[(240, .own 57 aA),(288, .own 57 aA),(320, .box 191 (.pair (.leaf (.slice bA)) (.pair (.leaf (.slice aP)) (.pair (.own 240) (.pair (.own 288) (.pair (.own 352) (.leaf .bool))))))),(352, .own 57 aA)],[],356⟩ (.mb 33 352) .nil)))) Tryz.func118
def M.strings_Contains(N:Nat)(a0:ByteArray)(a1:ByteArray):Option Bool:=ua (a0,a1)
def adG(N:Nat):rH:=⟨.i1 [.l .str, .l .str], .i1 [.l .bool],u2 (M.strings_Contains N)⟩
theorem adH(N:Nat):kO Tryz.prog 250 (adG N):=FG ⟨_,Tryz.func250,by kernel_rfl,by kernel_rfl⟩ Tryz.strings_Contains_one
def M.lY(N:Nat)(a0:ByteArray):Option Bool:=
((if(ah (64<(a0.size:Int)))then
aa af
else
(M.strings_Contains N a0 (⟨#[34]⟩:ByteArray)).bind λy2=>
aa y2):Option Bool).bind λj1=>
(if j1 then
aa ag
else
Loop (S:=Int) (X:=Bool) (λs3=>
(if(ah (s3<(a0.size:Int)))then
((lj a0 s3).bind λx5=>
(if(ah (x5<32))then
aa af
else
(lj a0 s3).bind λx6=>
aa (ah (126<x6))):Option Bool).bind λj4=>
(if j4 then
aa (.inr ag)
else
aa (.inl (aoz.wrap (s3+1))))
else
aa (.inr af))) N 0)
theorem adI(N:Nat):Fo 190 (.i1 [.l .str]) (.i1 [.l .bool]) (M.lY N):=fz N [ck (adH N)] (.o (.two (.mb 10 16) (.two (.o (.two (.lp 13 64 (.o (.o (.two (.two (.o (.mb 25 112)) .nil) .nil)))) .nil)) .nil))) Tryz.func190
def M.dN(N:Nat)(a0:Int):Option Int:=
((if(ah (a0=1))then
aa (ah (a0=1))
else
(if(ah (a0=2))then
aa (ah (a0=2))
else
(if(ah (a0=3))then
aa (ah (a0=3))
else
(if(ah (a0=4))then
aa (ah (a0=4))
else
(if(ah (a0=5))then
aa (ah (a0=5))
else
(if(ah (a0=6))then
aa (ah (a0=6))
else
(if(ah (a0=7))then
aa (ah (a0=7))
else
(if(ah (a0=8))then
aa (ah (a0=8))
else
(if(ah (a0=9))then
aa (ah (a0=9))
else
(if(ah (a0=35))then
aa (ah (a0=35))
else
(if(ah (a0=36))then
aa (ah (a0=36))
else
(if(ah (a0=37))then
aa (ah (a0=37))
else
(if(ah (a0=38))then
aa (ah (a0=38))
else
aa (ah (a0=39))))))))))))))):Option Bool).bind λj1=>
(if j1 then
aa 0
else
((if(ah (a0=10))then
aa (ah (a0=10))
else
(if(ah (a0=25))then
aa (ah (a0=25))
else
(if(ah (a0=31))then
aa (ah (a0=31))
else
(if(ah (a0=32))then
aa (ah (a0=32))
else
(if(ah (a0=33))then
aa (ah (a0=33))
else
aa (ah (a0=34))))))):Option Bool).bind λj2=>
(if j2 then
aa 1
else
((if(ah (a0=11))then
aa (ah (a0=11))
else
(if(ah (a0=12))then
aa (ah (a0=12))
else
(if(ah (a0=13))then
aa (ah (a0=13))
else
(if(ah (a0=14))then
aa (ah (a0=14))
else
(if(ah (a0=15))then
aa (ah (a0=15))
else
(if(ah (a0=16))then
aa (ah (a0=16))
else
(if(ah (a0=17))then
aa (ah (a0=17))
else
(if(ah (a0=18))then
aa (ah (a0=18))
else
(if(ah (a0=19))then
aa (ah (a0=19))
else
(if(ah (a0=20))then
aa (ah (a0=20))
else
(if(ah (a0=21))then
aa (ah (a0=21))
else
(if(ah (a0=22))then
aa (ah (a0=22))
else
(if(ah (a0=23))then
aa (ah (a0=23))
else
(if(ah (a0=24))then
aa (ah (a0=24))
else
(if(ah (a0=27))then
aa (ah (a0=27))
else
(if(ah (a0=28))then
aa (ah (a0=28))
else
(if(ah (a0=29))then
aa (ah (a0=29))
else
aa (ah (a0=30))))))))))))))))))):Option Bool).bind λj3=>
(if j3 then
aa 2
else
(if(ah (a0=26))then
aa 3
else
aa (-1)))))
theorem SF(N:Nat):Fo 76 (.i1 [.l aB]) (.i1 [.l aB]) (M.dN N):=fz N [] (.o (.two (.o (.two (.meet ⟨[(4, .l .bool)],[],[],32⟩ .nil (.o (.meet ⟨[(19, .l .bool)],[],[],32⟩ .nil (.o (.mb 26 32))))) .nil)) .nil)) Tryz.func76
def M.gB(N:Nat)(a0:Int):Option Bool:=
((if(ah (a0=1))then
aa (ah (a0=1))
else
(if(ah (a0=2))then
aa (ah (a0=2))
else
(if(ah (a0=3))then
aa (ah (a0=3))
else
(if(ah (a0=4))then
aa (ah (a0=4))
else
(if(ah (a0=5))then
aa (ah (a0=5))
else
(if(ah (a0=6))then
aa (ah (a0=6))
else
(if(ah (a0=7))then
aa (ah (a0=7))
else
(if(ah (a0=8))then
aa (ah (a0=8))
else
(if(ah (a0=14))then
aa (ah (a0=14))
else
(if(ah (a0=15))then
aa (ah (a0=15))
else
(if(ah (a0=16))then
aa (ah (a0=16))
else
(if(ah (a0=33))then
aa (ah (a0=33))
else
(if(ah (a0=34))then
aa (ah (a0=34))
else
(if(ah (a0=36))then
aa (ah (a0=36))
else
(if(ah (a0=37))then
aa (ah (a0=37))
else
(if(ah (a0=38))then
aa (ah (a0=38))
else
aa (ah (a0=39)))))))))))))))))):Option Bool).bind λj1=>
(if j1 then
aa af
else
aa ag)
theorem Za(N:Nat):Fo 205 (.i1 [.l aB]) (.i1 [.l .bool]) (M.gB N):=fz N [] (.o (.two (.o (.two (.mb 4 32) .nil)) .nil)) Tryz.func205
def M.gC(N:Nat)(a0:List aA.den):Option (Int×Int×List Int):=
(if(ah (48<(a0.length:Int)))then
aa (0,4,([]:List Int))
else
(if(ah ((a0.length:Int)=0))then
aa (0,5,([]:List Int))
else
(pw (a0.length:Int) 0).bind λl1=>
bx (J:=(List Int)×List Int) (R:=Int×Int×List Int) (Loop (S:=Int×(List Int)×List Int) (X:=((List Int)×List Int)⊕(Int×Int×List Int)) (λs3=>
(if(ah (s3.1<(a0.length:Int)))then
(idx a0 s3.1).bind λx4=>
(M.dN N x4.1).bind λy5=>
(if(ah (y5<0))then
aa (.inr (.inr (s3.1,2,([]:List Int))))
else
(if(ah ((s3.2.2.length:Int)<y5))then
aa (.inr (.inr (s3.1,5,([]:List Int))))
else
(idx s3.2.1 s3.1).bind λx6=>
((if(ah (0<y5))then
(idx s3.2.2 (aoz.wrap ((s3.2.2.length:Int)-y5))).bind λx8=>
(idx (be s3.2.1 s3.1 s3.1) s3.1).bind λx9=>
aa (be (be s3.2.1 s3.1 s3.1) s3.1 x8)
else
aa (be s3.2.1 s3.1 s3.1)):Option (List Int)).bind λj7=>
(fo s3.2.2 0 (aoz.wrap ((s3.2.2.length:Int)-y5))).bind λsE=>
(idx j7 s3.1).bind λnT=>
(bR sE ([nT]:List Int)).bind λxO=>
(if(ah (12<(xO.length:Int)))then
aa (.inr (.inr (s3.1,16,([]:List Int))))
else
aa (.inl (aoz.wrap (s3.1+1),j7,xO)))))
else
aa (.inr (.inl (s3.2.1,s3.2.2))))) N (0,l1,([]:List Int))) λj2=>
(if(ah (1<(j2.2.length:Int)))then
aa ((a0.length:Int),4,([]:List Int))
else
aa (0,0,j2.1))))
theorem Zb(N:Nat):Fo 223 (.i1 [.l (.slice aA)]) (.j1 [.val ag (.own 0), .l aB, .l aB] [.own 3 aB] 1) (M.gC N):=fz N [ck (SF N)] (.o (.o (.o (.o (.o (.join ⟨[(6, .val ag (.own 224))],[(176, .own 3 aB),(224, .own 3 aB)],[],226⟩ (.o (.two (.loop ⟨[(6, .val ag (.own 272)),(21, .l aB)],[(176, .own 3 aB),(272, .own 3 aB)],[],274⟩ (.o (.o (.two (.two (.o (.o (.o (.o (.o (.meet ⟨[],[(176, .own 3 aB)],[],627⟩ .nil .nil)))))) .nil) .nil)))) .nil)) .nil)))))) Tryz.func223
def M.eH(N:Nat)(a0:Int)(a1:Int)(a2:bB.den):Option (aA.den×Int):=
(M.jo N (a1,0) a2.1).bind λy1=>
((if(ah (a0<y1.1))then
aa af
else
aa (ah (y1.2<a0))):Option Bool).bind λj2=>
(if j2 then
aa ((0,0),3)
else
aa ((a1,0),0))
theorem adJ(N:Nat):Fo 307 (.i1 [.l aB, .l aB, .g bB]) (.i1 [.g aA, .l aB]) (u3 (M.eH N)):=fz N [ck (W65 N)] (.o (.o (.two (.o (.mb 27 256)) .nil))) Tryz.func307
def M.cC(N:Nat)(a0:Int)(a1:bB.den):Option (aA.den×Int):=
(if(ah (a0<0))then
aa ((0,0),3)
else
((if(ah ((a1.1.length:Int)<=(aoz.wrap (aoM a0 16))))then
aa af
else
(idx a1.1 (aoz.wrap (aoM a0 16))).bind λx2=>
aa (ah ((x2.2.length:Int)<=(aoP a0 16)))):Option Bool).bind λj1=>
(if j1 then
aa ((0,0),6)
else
aa ((6,aoz.wrap (aoM a0 16)),0)))
theorem adK(N:Nat):Fo 308 (.i1 [.l aB, .g bB]) (.i1 [.g aA, .l aB]) (u2 (M.cC N)):=fz N [] (.o (.o (.o (.two (.mb 30 176) .nil)))) Tryz.func308
def M.gX(N:Nat)(a0:Int)(a1:List aA.den)(a2:bB.den):Option (aA.den×Int):=
((if(ah (a0<0))then
aa af
else
aa (ah ((a1.length:Int)<=a0))):Option Bool).bind λj1=>
(if j1 then
aa ((0,0),6)
else
(idx a1 a0).bind λx2=>
(M.dC N x2 a2.1).bind λy3=>
(if(!y3)then
aa ((0,0),8)
else
(idx a1 a0).bind λx4=>
aa (x4,0)))
theorem Zc(N:Nat):Fo 309 (.i1 [.l aB, .l (.slice aA), .g bB]) (.i1 [.g aA, .l aB]) (u3 (M.gX N)):=fz N [ck (Py N)] (.o (.two (.mb 15 48) .nil)) Tryz.func309
def M.kt(N:Nat)(a0:Int):Option Bool:=
((if(ah (0<=a0))then
aa (ah (a0<=5))
else
aa ag):Option Bool).bind λj1=>
aa j1
theorem Zd(N:Nat):Fo 312 (.i1 [.l aB]) (.i1 [.l .bool]) (M.kt N):=fz N [] (.o (.mb 2 16)) Tryz.func312
def M.mU(N:Nat)(a0:aA.den)(a1:aA.den)(a2:bB.den):Option (aA.den×Int):=
bx (J:=Int) (R:=aA.den×Int) ((if(ah (a0.1=34))then
((if(ah (a0.2<0))then
aa af
else
(M.kt N (aoP a0.2 8)).bind λy3=>
aa (!y3)):Option Bool).bind λj2=>
(if j2 then
aa (.inr ((0,0),3))
else
aa (.inl (aoz.wrap (aoM a0.2 8))))
else
aa (.inl a0.2))) λj1=>
((if(ah (j1<0))then
aa af
else
aa (ah ((a2.2.1.length:Int)<=j1))):Option Bool).bind λj4=>
(if j4 then
aa ((0,0),6)
else
(idx a2.2.1 j1).bind λx5=>
(idx a2.2.1 j1).bind λx6=>
((M.dC N x5.2.1 a2.1).bind λy8=>
(if(!y8)then
aa af
else
(M.dC N x6.2.2.1 a2.1).bind λy9=>
(if(!y9)then
aa af
else
aa (!(px aA a1 x5.2.1)))):Option Bool).bind λj7=>
(if j7 then
aa ((0,0),8)
else
(if(ah (a0.1=34))then
((if(!ah (x5.2.1.1=3))then
aa af
else
aa (!ah (x6.2.2.1.1=4))):Option Bool).bind λsx=>
(if sx then
aa ((0,0),8)
else
aa (x5.2.1,0))
else
aa (x6.2.2.1,0))))
theorem adL(N:Nat):Fo 310 (.i1 [.g aA, .g aA, .g bB]) (.i1 [.g aA, .l aB]) (u3 (M.mU N)):=fz N [ck (Py N),ck (Zd N)] (.o (.o (.join ⟨[(8, .l aB)],[],[],128⟩ (.o (.two (.two (.mb 25 176) .nil) .nil)) (.two (.mb 38 128) (.o (.two (.mb 68 384) (.two (.o (.two (.two (.mb 80 432) .nil) .nil)) .nil))))))) Tryz.func310
def M.gj(N:Nat)(a0:Int):Option Bool:=
((if(ah (a0=2))then
aa af
else
(if(ah (a0=3))then
aa af
else
aa (ah (a0=4)))):Option Bool).bind λj1=>
aa j1
theorem Ze(N:Nat):Fo 352 (.i1 [.l aB]) (.i1 [.l .bool]) (M.gj N):=fz N [] (.o (.mb 2 16)) Tryz.func352
def M.b8(N:Nat)(a0:aA.den)(a1:bB.den):Option (aA.den×Int):=
(if(!a1.2.2.2.2.2)then
aa ((0,0),6)
else
(if(ah (a0.1=35))then
aa ((2,0),0)
else
(M.gX N a0.2 a1.2.2.2.2.1 a1).bind λy1=>
(if(!ah (y1.2=0))then
aa ((0,0),y1.2)
else
((if(ah (a0.1=36))then
(if(ah (y1.1.1=2))then
aa af
else
aa (ah (y1.1.1=3)))
else
((if(ah (a0.1=37))then
aa (ah (a0.1=37))
else
aa (ah (a0.1=38))):Option Bool).bind λj3=>
(if j3 then
aa (ah (y1.1.1=1))
else
(if(ah (a0.1=39))then
(M.gj N y1.1.1).bind λy4=>
(if y4 then
aa af
else
aa (ah (y1.1.1=5)))
else
aa ag))):Option Bool).bind λj2=>
(if(!j2)then
aa ((0,0),8)
else
aa (y1.1,0)))))
theorem adM(N:Nat):Fo 311 (.i1 [.g aA, .g bB]) (.i1 [.g aA, .l aB]) (u2 (M.b8 N)):=fz N [ck (Zc N),ck (Ze N)] (.o (.o (.o (.o (.o (.o (.two (.o (.meet ⟨[(8, .l .bool)],[],[],432⟩ (.o (.o (.mb 42 464))) .nil)) .nil))))))) Tryz.func311
def M.nU(N:Nat)(a0:Int)(a1:Int)(a2:Int):Option (aA.den×Bool):=
(if(ah (a0=14))then
((if(ah (a2=4))then
(if(ah (a1=3))then
aa (af,(a1,0))
else
aa (ah (a1=4),(a1,0)))
else
aa (ag,(a1,0))):Option (Bool×aA.den)).bind λj1=>
aa (j1.2,j1.1)
else
(if(ah (a2=2))then
((if(ah (a1=2))then
aa (af,(a1,0))
else
aa (ah (a1=3),(a1,0))):Option (Bool×aA.den)).bind λj2=>
aa (j2.2,j2.1)
else
((if(ah (a0=15))then
(if(ah (a1=3))then
aa (ah (a2=3))
else
aa ag)
else
aa ag):Option Bool).bind λj3=>
(if j3 then
aa ((4,0),af)
else
aa ((0,0),ag))))
theorem adN(N:Nat):Fo 353 (.i1 [.l aB, .l aB, .l aB]) (.i1 [.g aA, .l .bool]) (u3 (M.nU N)):=fz N [] (.o (.two (.two (.o (.two (.meet ⟨[(7, .l .bool)],[(0, .box 57 (.leaf aA))],[],81⟩ .nil .nil) (.o (.two (.meet ⟨[(7, .l .bool)],[(0, .box 57 (.leaf aA))],[],129⟩ .nil .nil) (.mb 34 128))))) .nil) .nil)) Tryz.func353
def M.fg(N:Nat)(a0:Int)(a1:List aA.den):Option (aA.den×Bool):=
(if(ah (a0=10))then
(idx a1 0).bind λx1=>
(idx a1 0).bind λx2=>
(M.gj N x2.1).bind λy3=>
aa (x1,y3)
else
(if(ah (a0=25))then
(idx a1 0).bind λx4=>
aa ((1,0),ah (x4.1=1))
else
((if(ah (a0=11))then
aa (ah (a0=11))
else
aa (ah (a0=12))):Option Bool).bind λj5=>
(if j5 then
((idx a1 0).bind λx7=>
(idx a1 0).bind λx8=>
(idx a1 1).bind λx9=>
(if(px aA x8 x9)then
(idx a1 0).bind λmj=>
(M.gj N mj.1).bind λqY=>
aa (qY,x7)
else
aa (ag,x7)):Option (Bool×aA.den)).bind λj6=>
aa (j6.2,j6.1)
else
((if(ah (a0=13))then
aa (ah (a0=13))
else
(if(ah (a0=14))then
aa (ah (a0=14))
else
aa (ah (a0=15)))):Option Bool).bind λsD=>
(if sD then
(idx a1 0).bind λnK=>
(idx a1 1).bind λqE=>
(M.nU N a0 nK.1 qE.1).bind λlv=>
aa (lv.1,lv.2)
else
(if(ah (a0=16))then
((idx a1 0).bind λyJ=>
(idx a1 0).bind λuN=>
(if(ah (uN.1=3))then
(idx a1 1).bind λDt=>
aa (ah (Dt.1=3),yJ)
else
aa (ag,yJ)):Option (Bool×aA.den)).bind λAO=>
aa (AO.2,AO.1)
else
((if(ah (a0=17))then
aa (ah (a0=17))
else
aa (ah (a0=18))):Option Bool).bind λUH=>
(if UH then
((idx a1 0).bind λSG=>
(idx a1 0).bind λVZ=>
(idx a1 1).bind λx24=>
(if(px aA VZ x24)then
(idx a1 0).bind λx25=>
(M.gj N x25.1).bind λy26=>
(if y26 then
aa (af,SG)
else
(idx a1 0).bind λMD=>
aa (ah (MD.1=5),SG))
else
aa (ag,SG)):Option (Bool×aA.den)).bind λV0=>
aa (V0.2,V0.1)
else
((if(ah (a0=19))then
aa (ah (a0=19))
else
aa (ah (a0=20))):Option Bool).bind λj28=>
(if j28 then
(idx a1 0).bind λx29=>
(idx a1 1).bind λFJ=>
aa ((1,0),(px aA x29 FJ))
else
((if(ah (a0=21))then
aa (ah (a0=21))
else
aa (ah (a0=22))):Option Bool).bind λj31=>
(if j31 then
((idx a1 0).bind λRl=>
(idx a1 1).bind λZf=>
(if(px aA Rl Zf)then
(idx a1 0).bind λx35=>
(M.gj N x35.1).bind λy36=>
(if y36 then
aa (af,(1,0))
else
(idx a1 0).bind λx37=>
aa (ah (x37.1=5),(1,0)))
else
aa (ag,(1,0))):Option (Bool×aA.den)).bind λj32=>
aa (j32.2,j32.1)
else
((if(ah (a0=23))then
aa (ah (a0=23))
else
aa (ah (a0=24))):Option Bool).bind λj38=>
(if j38 then
((idx a1 0).bind λx40=>
(if(ah (x40.1=1))then
(idx a1 1).bind λx41=>
aa (ah (x41.1=1),(1,0))
else
aa (ag,(1,0))):Option (Bool×aA.den)).bind λj39=>
aa (j39.2,j39.1)
else
(if(ah (a0=26))then
((idx a1 1).bind λx43=>
(idx a1 0).bind λx44=>
(if(ah (x44.1=1))then
(idx a1 1).bind λx45=>
(idx a1 2).bind λx46=>
aa ((px aA x45 x46),x43)
else
aa (ag,x43)):Option (Bool×aA.den)).bind λj42=>
aa (j42.2,j42.1)
else
((if(ah (a0=27))then
aa (ah (a0=27))
else
aa (ah (a0=28))):Option Bool).bind λj47=>
(if j47 then
((idx a1 0).bind λx49=>
(idx a1 0).bind λx50=>
(if(ah (x50.1=5))then
(idx a1 1).bind λx51=>
aa (ah (x51.1=2),x49)
else
aa (ag,x49)):Option (Bool×aA.den)).bind λj48=>
aa (j48.2,j48.1)
else
((if(ah (a0=29))then
aa (ah (a0=29))
else
aa (ah (a0=30))):Option Bool).bind λj52=>
(if j52 then
((idx a1 0).bind λx54=>
(if(ah (x54.1=5))then
(idx a1 1).bind λx55=>
aa (ah (x55.1=5),(2,0))
else
aa (ag,(2,0))):Option (Bool×aA.den)).bind λj53=>
aa (j53.2,j53.1)
else
((if(ah (a0=31))then
aa (ah (a0=31))
else
aa (ah (a0=32))):Option Bool).bind λj56=>
(if j56 then
(idx a1 0).bind λx57=>
aa ((2,0),ah (x57.1=5))
else
aa ((0,0),ag))))))))))))))
theorem adR(N:Nat):Fo 313 (.i1 [.l aB, .l (.slice aA)]) (.i1 [.g aA, .l .bool]) (u2 (M.fg N)):=fz N [ck (Ze N),ck (adN N)] (.o (.o (.two (.o (.two (.o (.o (.o (.o (.meet ⟨[(27, .l .bool)],[],[],160⟩ .nil (.two (.meet ⟨[(5, .l .bool)],[(0, .box 57 (.leaf aA))],[],161⟩ .nil .nil) (.meet ⟨[(47, .l .bool)],[],[],160⟩ .nil (.o (.o (.two (.meet ⟨[(5, .l .bool)],[(0, .box 57 (.leaf aA))],[],193⟩ .nil .nil) (.meet ⟨[(80, .l .bool)],[],[],192⟩ .nil (.two (.meet ⟨[(5, .l .bool)],[(0, .box 57 (.leaf aA))],[],193⟩ .nil .nil) (.meet ⟨[(107, .l .bool)],[],[],192⟩ .nil (.o (.meet ⟨[(118, .l .bool)],[],[],192⟩ .nil (.two (.meet ⟨[(5, .l .bool)],[(0, .box 57 (.leaf aA))],[],193⟩ .nil .nil) (.meet ⟨[(143, .l .bool)],[],[],192⟩ .nil (.two (.meet ⟨[(5, .l .bool)],[(0, .box 57 (.leaf aA))],[],193⟩ .nil .nil) (.o (.two (.meet ⟨[(5, .l .bool)],[(0, .box 57 (.leaf aA))],[],225⟩ .nil .nil) (.meet ⟨[(178, .l .bool)],[],[],224⟩ .nil (.two (.meet ⟨[(5, .l .bool)],[(0, .box 57 (.leaf aA))],[],225⟩ .nil .nil) (.meet ⟨[(196, .l .bool)],[],[],224⟩ .nil (.two (.meet ⟨[(5, .l .bool)],[(0, .box 57 (.leaf aA))],[],225⟩ .nil .nil) (.mb 212 224))))))))))))))))))))))))) .nil)) .nil))) Tryz.func313
def M.bu(N:Nat)(a0:aA.den)(a1:List aA.den)(a2:bB.den):Option (aA.den×Int):=
bx (J:=Unit) (R:=aA.den×Int) ((if(ah (a0.1=1))then
(M.eH N a0.2 1 a2).bind λy2=>
aa (.inr (y2.1,y2.2))
else
(if(ah (a0.1=2))then
(M.eH N a0.2 2 a2).bind λy3=>
aa (.inr (y3.1,y3.2))
else
(if(ah (a0.1=3))then
(M.eH N a0.2 3 a2).bind λy4=>
aa (.inr (y4.1,y4.2))
else
(if(ah (a0.1=4))then
(M.eH N a0.2 4 a2).bind λy5=>
aa (.inr (y5.1,y5.2))
else
(if(ah (a0.1=5))then
(M.eH N a0.2 5 a2).bind λy6=>
aa (.inr (y6.1,y6.2))
else
(if(ah (a0.1=6))then
(M.cC N a0.2 a2).bind λy7=>
aa (.inr (y7.1,y7.2))
else
(if(ah (a0.1=7))then
(M.gX N a0.2 a2.2.2.1 a2).bind λy8=>
aa (.inr (y8.1,y8.2))
else
(if(ah (a0.1=8))then
(M.gX N a0.2 a2.2.2.2.1 a2).bind λy9=>
aa (.inr (y9.1,y9.2))
else
(if(ah (a0.1=9))then
aa (.inr ((5,0),0))
else
((if(ah (a0.1=33))then
aa (ah (a0.1=33))
else
aa (ah (a0.1=34))):Option Bool).bind λsx=>
(if sx then
(idx a1 0).bind λnT=>
(M.mU N a0 nT a2).bind λpJ=>
aa (.inr (pJ.1,pJ.2))
else
((if(ah (a0.1=35))then
aa (ah (a0.1=35))
else
(if(ah (a0.1=36))then
aa (ah (a0.1=36))
else
(if(ah (a0.1=37))then
aa (ah (a0.1=37))
else
(if(ah (a0.1=38))then
aa (ah (a0.1=38))
else
aa (ah (a0.1=39)))))):Option Bool).bind λFK=>
(if FK then
(M.b8 N a0 a2).bind λlz=>
aa (.inr (lz.1,lz.2))
else
((if(ah (a0.1=14))then
aa (ah (a0.1=14))
else
(if(ah (a0.1=15))then
aa (ah (a0.1=15))
else
aa (ah (a0.1=16)))):Option Bool).bind λRk=>
(if Rk then
(M.kt N a0.2).bind λzN=>
(if(!zN)then
aa (.inr ((0,0),3))
else
aa (.inl ()))
else
aa (.inl ())))))))))))))) λj1=>
(M.fg N a0.1 a1).bind λvy=>
(if(!vy.2)then
aa ((0,0),8)
else
aa (vy.1,0))
theorem adS(N:Nat):Fo 283 (.i1 [.g aA, .l (.slice aA), .g bB]) (.i1 [.g aA, .l aB]) (u3 (M.bu N)):=fz N [ck (adJ N),ck (adK N),ck (Zc N),ck (adL N),ck (adM N),ck (Zd N),ck (adR N)] (.o (.two (.o (.join ⟨[],[],[],96⟩ (.o (.o (.o (.o (.o (.o (.o (.o (.o (.o (.o (.o (.o (.o (.o (.o (.o (.o (.meet ⟨[(83, .l .bool)],[],[],384⟩ .nil (.o (.meet ⟨[(94, .l .bool)],[],[],384⟩ .nil (.o (.mb 105 384))))))))))))))))))))))) .nil)) .nil)) Tryz.func283
def M.p9(N:Nat)(a0:List aA.den)(a1:bB.den):Option (aA.den×Int×Int):=
(M.gC N a0).bind λy1=>
(if(!ah (y1.2.1=0))then
aa ((0,0),y1.1,y1.2.1)
else
bx (J:=List aA.den) (R:=aA.den×Int×Int) (Loop (S:=Int×List aA.den) (X:=(List aA.den)⊕(aA.den×Int×Int)) (λs3=>
(if(ah (s3.1<(a0.length:Int)))then
(idx a0 s3.1).bind λx4=>
((if(!ah (x4.2=0))then
(M.gB N x4.1).bind λy6=>
aa (!y6)
else
aa ag):Option Bool).bind λj5=>
(if j5 then
aa (.inr (.inr ((0,0),s3.1,2)))
else
(M.dN N x4.1).bind λy7=>
(fo s3.2 (aoz.wrap ((s3.2.length:Int)-y7)) (s3.2.length:Int)).bind λl8=>
(M.bu N x4 l8 a1).bind λy9=>
(if(!ah (y9.2=0))then
aa (.inr (.inr ((0,0),s3.1,y9.2)))
else
(fo s3.2 0 (aoz.wrap ((s3.2.length:Int)-y7))).bind λsE=>
(bR sE ([y9.1]:List aA.den)).bind λIv=>
aa (.inl (aoz.wrap (s3.1+1),Iv))))
else
aa (.inr (.inl s3.2)))) N (0,([]:List aA.den))) λj2=>
(idx j2 0).bind λqZ=>
aa (qZ,0,0))
theorem adT(N:Nat):Fo 251 (.i1 [.l (.slice aA), .g bB]) (.i1 [.g aA, .l aB, .l aB]) (u2 (M.p9 N)):=fz N [ck (SF N),ck (Za N),ck (Zb N),ck (adS N)] (.o (.o (.o (.o (.join ⟨[(10, .val ag (.own 256))],[(256, .own 57 aA)],[],257⟩ (.o (.two (.loop ⟨[(10, .val ag (.own 304)),(29, .l aB)],[(304, .own 57 aA)],[],305⟩ (.o (.o (.two (.two (.o (.two (.mb 42 417) .nil)) .nil) .nil)))) .nil)) .nil))))) Tryz.func251
def M.iC(N:Nat)(a0:List aA.den)(a1:bB.den)(a2:aA.den):Option Int:=
(M.p9 N a0 a1).bind λy1=>
(if(!ah (y1.2.2=0))then
aa y1.2.2
else
(if(!(px aA y1.1 a2))then
aa 8
else
aa 0))
theorem adU(N:Nat):Fo 191 (.i1 [.l (.slice aA), .g bB, .g aA]) (.i1 [.l aB]) (u3 (M.iC N)):=fz N [ck (adT N)] .nil Tryz.func191
def M.lA(N:Nat)(a0:bn.den)(a1:bn.den):Option (Bool×bn.den):=
aa (ah (a0.1=a1.1),a1)
theorem V1(N:Nat):Fo 189 (.j1 [.g bn, .ptr 0 [] 0] [.box 102 (.leaf bn)] 1) (.j1 [.l .bool] [.box 102 (.leaf bn)] 2) (u2 (M.lA N)):=fz N [] .nil Tryz.func189
def M.bQ(N:Nat)(a0:List bn.den)(a1:bn.den):Option (Int×bn.den):=
Loop (S:=Int×bn.den) (X:=Int×bn.den) (λs1=>
(if(ah (s1.1<(a0.length:Int)))then
(idx a0 s1.1).bind λx2=>
(M.lA N x2 s1.2).bind λy3=>
(if y3.1 then
aa (.inr (s1.1,y3.2))
else
aa (.inl (aoz.wrap (s1.1+1),y3.2)))
else
aa (.inr ((-1),s1.2)))) N (0,a1)
theorem V2(N:Nat):Fo 249 (.j1 [.l (.slice bn), .fn 189 [(0,[],0)]] [.box 102 (.leaf bn)] 1) (.j1 [.l aB] [.box 102 (.leaf bn)] 2) (u2 (M.bQ N)):=fz N [ck (V1 N)] (.o (.two (.o (.two (.loop ⟨[(8, .l aB)],[(0, .box 102 (.leaf bn))],[],66⟩ .nil) .nil)) .nil)) Tryz.func249
def M.bJ(N:Nat)(a0:List bn.den)(a1:bn.den):Option (Bool×bn.den):=
(M.bQ N a0 a1).bind λy1=>
aa (ah (0<=y1.1),y1.2)
theorem V3(N:Nat):Fo 188 (.j1 [.l (.slice bn), .fn 189 [(0,[],0)]] [.box 102 (.leaf bn)] 1) (.j1 [.l .bool] [.box 102 (.leaf bn)] 2) (u2 (M.bJ N)):=fz N [ck (V2 N)] .nil Tryz.func188
def M.lM(N:Nat)(a0:aU.den)(a1:Int)(a2:bB.den):Option Int:=
(idx a0.2.2.2.2 a1).bind λx1=>
((fo a0.2.2.2.2 0 a1).bind λl3=>
Loop (S:=Int×Int) (X:=Int) (λs4=>
(if(ah (s4.2<(l3.length:Int)))then
((idx l3 s4.2).bind λx6=>
(if(ah (x6.2.1=x1.2.1))then
aa (aoz.wrap (s4.1+1))
else
aa s4.1):Option Int).bind λj5=>
aa (.inl (j5,aoz.wrap (s4.2+1)))
else
aa (.inr s4.1))) N (0,0):Option Int).bind λj2=>
(M.cI N x1.1).bind λy7=>
(if(!y7)then
aa 2
else
(fo a0.2.2.2.2 0 a1).bind λl8=>
(M.bJ N l8 x1).bind λy9=>
(if y9.1 then
aa 7
else
((if(ah (y9.2.2.1<0))then
aa af
else
aa (ah ((a0.2.2.2.1.length:Int)<=y9.2.2.1))):Option Bool).bind λsx=>
(if sx then
aa 6
else
((if(!ah (y9.2.2.2.1=(-1)))then
(if(ah (y9.2.2.2.1<0))then
aa af
else
(if(ah (a1<=y9.2.2.2.1))then
aa af
else
(idx a0.2.2.2.2 y9.2.2.2.1).bind λqZ=>
aa (!ah (qZ.2.1=y9.2.2.1))))
else
aa ag):Option Bool).bind λsK=>
(if sK then
aa 9
else
((if(ah (y9.2.2.2.2.1<0))then
aa af
else
aa (ah (9<y9.2.2.2.2.1))):Option Bool).bind λFK=>
(if FK then
aa 3
else
((if(ah (y9.2.2.2.2.2.1.1<0))then
aa af
else
(if(ah (y9.2.2.2.2.2.1.2<=y9.2.2.2.2.2.1.1))then
aa af
else
aa (ah (109573<y9.2.2.2.2.2.1.2)))):Option Bool).bind λAQ=>
(if AQ then
aa 3
else
(if(ah (8<=j2))then
aa 4
else
(M.lY N y9.2.2.2.2.2.2.2.2).bind λlv=>
(if(!lv)then
aa 2
else
bx (J:=Unit) (R:=Int) ((if(ah (0<(y9.2.2.2.2.2.2.1.length:Int)))then
(M.iC N y9.2.2.2.2.2.2.1 a2 (1,0)).bind λvy=>
(if(!ah (vy=0))then
aa (.inr vy)
else
aa (.inl ()))
else
aa (.inl ()))) λAO=>
(idx a0.2.2.2.1 y9.2.2.1).bind λuN=>
(M.iC N y9.2.2.2.2.2.2.2.1 a2 uN.2).bind λIw=>
aa Iw))))))))
theorem adV(N:Nat):Fo 119 (.i1 [.g aU, .l aB, .g bB]) (.i1 [.l aB]) (u3 (M.lM N)):=fz N [ck (Y9 N),ck (V3 N),ck (adI N),ck (adU N)] (.o (.o (.o (.meet ⟨[(8, .l aB)],[],[],176⟩ (.o (.two (.loop ⟨[(8, .l aB),(22, .l aB)],[],[],272⟩ (.o (.o (.two (.meet ⟨[(8, .l aB)],[],[],288⟩ .nil .nil) .nil)))) .nil)) (.two (.two (.o (.o (.o (.o (.meet ⟨[(46, .l .bool)],[],[],368⟩ .nil (.o (.meet ⟨[(58, .l .bool)],[],[],368⟩ .nil (.o (.meet ⟨[(85, .l .bool)],[],[],368⟩ .nil (.o (.mb 94 368))))))))))) .nil) (.join ⟨[],[],[],496⟩ .nil .nil)))))) Tryz.func119
def M.ig(N:Nat)(a0:List Int)(a1:Int):Option Int:=
Loop (S:=Int) (X:=Int) (λs1=>
(if(ah (s1<(a0.length:Int)))then
(idx a0 s1).bind λx2=>
(if(ah (a1=x2))then
aa (.inr s1)
else
aa (.inl (aoz.wrap (s1+1))))
else
aa (.inr (-1)))) N 0
theorem adW(N:Nat):Fo 192 (.i1 [.l (.slice aB), .l aB]) (.i1 [.l aB]) (u2 (M.ig N)):=fz N [] (.o (.two (.o (.two (.lp 8 64 .nil) .nil)) .nil)) Tryz.func192
def M.fP(N:Nat)(a0:List Int)(a1:Int):Option Bool:=
(M.ig N a0 a1).bind λy1=>
aa (ah (0<=y1))
theorem adX(N:Nat):Fo 120 (.i1 [.l (.slice aB), .l aB]) (.i1 [.l .bool]) (u2 (M.fP N)):=fz N [ck (adW N)] .nil Tryz.func120
def M.dO(N:Nat)(a0:List Int):Option (List Int):=FF a0
def S38(N:Nat):rH:=⟨.w1 3 aB, .j1 [] [.own 3 aB] 2,M.dO N⟩
theorem W38(N:Nat):kO Tryz.prog 38 (S38 N):=SD ⟨_,Tryz.func38,by kernel_rfl,by kernel_rfl⟩ Tryz.slices_Sort_int Tryz.slices_Sort_int_none
def M.dG(N:Nat)(a0:List Int):Option (List Int):=tf a0
def adZ(N:Nat):rH:=⟨.w1 3 aB,⟨[(0, .val ag (.own 1))],[(1, .own 3 aB)],[],2⟩,M.dG N⟩
theorem Zg(N:Nat):kO Tryz.prog 222 (adZ N):=Iu ⟨_,Tryz.func222,by kernel_rfl,by kernel_rfl⟩ Tryz.slices_Compact_int Tryz.slices_Compact_int_empty
def M.iS(N:Nat)(a0:List Int):Option (List Int):=
(M.dO N a0).bind λy1=>
(M.dG N y1).bind λy2=>
aa y2
theorem V4(N:Nat):Fo 269 (.w1 3 aB) ⟨[(0, .val ag (.own 1))],[(1, .own 3 aB)],[],2⟩ (M.iS N):=fz N [ck (W38 N),ck (Zg N)] .nil Tryz.func269
def M.jx(N:Nat)(a0:List aA.den):Option ((List Int)×(List Int)×List Int):=
(Loop (S:=Int×(List Int)×(List Int)×List Int) (X:=(List Int)×(List Int)×List Int) (λs2=>
(if(ah (s2.1<(a0.length:Int)))then
(idx a0 s2.1).bind λx3=>
((if(ah (x3.1=7))then
(bR s2.2.1 ([x3.2]:List Int)).bind λl5=>
aa (l5,s2.2.2.1,s2.2.2.2)
else
(if(ah (x3.1=8))then
(bR s2.2.2.1 ([x3.2]:List Int)).bind λl6=>
aa (s2.2.1,l6,s2.2.2.2)
else
((if(ah (x3.1=36))then
aa (ah (x3.1=36))
else
(if(ah (x3.1=37))then
aa (ah (x3.1=37))
else
(if(ah (x3.1=38))then
aa (ah (x3.1=38))
else
aa (ah (x3.1=39))))):Option Bool).bind λj7=>
(if j7 then
(bR s2.2.2.2 ([x3.2]:List Int)).bind λl8=>
aa (s2.2.1,s2.2.2.1,l8)
else
aa (s2.2.1,s2.2.2.1,s2.2.2.2)))):Option ((List Int)×(List Int)×List Int)).bind λj4=>
aa (.inl (aoz.wrap (s2.1+1),j4.1,j4.2.1,j4.2.2))
else
aa (.inr (s2.2.1,s2.2.2.1,s2.2.2.2)))) N (0,([]:List Int),([]:List Int),([]:List Int)):Option ((List Int)×(List Int)×List Int)).bind λj1=>
(M.iS N j1.1).bind λy9=>
(M.iS N j1.2.1).bind λnI=>
(M.iS N j1.2.2).bind λqY=>
aa (y9,nI,qY)
theorem ad0(N:Nat):Fo 221 (.i1 [.l (.slice aA)]) (.j1 [.val ag (.own 0), .val ag (.own 1), .val ag (.own 2)] [.own 3 aB, .own 3 aB, .own 3 aB] 3) (M.jx N):=fz N [ck (V4 N)] (.o (.o (.meet ⟨[(5, .val ag (.own 96)),(6, .val ag (.own 97)),(7, .val ag (.own 98))],[(96, .own 3 aB),(97, .own 3 aB),(98, .own 3 aB)],[],99⟩ (.o (.two (.loop ⟨[(5, .val ag (.own 144)),(6, .val ag (.own 145)),(7, .val ag (.own 146)),(12, .l aB)],[(144, .own 3 aB),(145, .own 3 aB),(146, .own 3 aB)],[],147⟩ (.o (.o (.two (.two (.o (.o (.meet ⟨[(5, .val ag (.own 259)),(6, .val ag (.own 260)),(7, .val ag (.own 261))],[(259, .own 3 aB),(260, .own 3 aB),(261, .own 3 aB)],[144,145,146],262⟩ (.o (.o (.o (.o (.mb 32 323))))) .nil))) .nil) .nil)))) .nil)) .nil))) Tryz.func221
def M.gD(N:Nat)(a0:bn.den)(a1:Int):Option (List Int):=
(M.jx N a0.2.2.2.2.2.1).bind λy1=>
(M.jx N a0.2.2.2.2.2.2.1).bind λy2=>
(Loop (S:=Int×List Int) (X:=List Int) (λs4=>
(if(ah (s4.1<(y1.2.1.length:Int)))then
((idx y1.2.1 s4.1).bind λx6=>
((if(ah (0<=x6))then
aa (ah (x6<a1))
else
aa ag):Option Bool).bind λj7=>
(if j7 then
(bR s4.2 ([x6]:List Int)).bind λl8=>
aa l8
else
aa s4.2):Option (List Int)).bind λj5=>
aa (.inl (aoz.wrap (s4.1+1),j5))
else
aa (.inr s4.2))) N (0,([]:List Int)):Option (List Int)).bind λj3=>
Loop (S:=Int×List Int) (X:=List Int) (λs9=>
(if(ah (s9.1<(y2.2.1.length:Int)))then
((idx y2.2.1 s9.1).bind λnT=>
((if(ah (0<=nT))then
aa (ah (nT<a1))
else
aa ag):Option Bool).bind λsD=>
(if sD then
(bR s9.2 ([nT]:List Int)).bind λl13=>
aa l13
else
aa s9.2):Option (List Int)).bind λsx=>
aa (.inl (aoz.wrap (s9.1+1),sx))
else
aa (.inr s9.2))) N (0,j3)
theorem Zh(N:Nat):Fo 149 (.i1 [.g bn, .l aB]) (.w1 3 aB) (u2 (M.gD N)):=fz N [ck (ad0 N)] (.o (.o (.o (.o (.meet ⟨[(5, .val ag (.own 368))],[(368, .own 3 aB)],[],369⟩ (.o (.two (.loop ⟨[(5, .val ag (.own 416)),(32, .l aB)],[(416, .own 3 aB)],[],417⟩ (.o (.o (.two (.meet ⟨[(5, .val ag (.own 433))],[(433, .own 3 aB)],[416],434⟩ (.o (.mb 42 481)) .nil) .nil)))) .nil)) (.two (.o (.two (.loop ⟨[(5, .val ag (.own 417)),(50, .l aB)],[(417, .own 3 aB)],[368],418⟩ (.o (.o (.two (.meet ⟨[(5, .val ag (.own 434))],[(434, .own 3 aB)],[417],435⟩ (.o (.mb 60 482)) .nil) .nil)))) .nil)) .nil)))))) Tryz.func149
def M.jP(N:Nat)(a0:List Int):Option (List Int):=
(M.dO N a0).bind λy1=>
(M.dG N y1).bind λy2=>
aa y2
theorem Pz(N:Nat):Fo 150 (.w1 3 aB) ⟨[(0, .val ag (.own 1))],[(1, .own 3 aB)],[],2⟩ (M.jP N):=fz N [ck (W38 N),ck (Zg N)] .nil Tryz.func150
def M.ku(N:Nat)(a0:aU.den):Option (List (List Int)):=
(pw (a0.2.2.2.1.length:Int) ([]:List Int)).bind λl1=>
(Loop (S:=Int×List (List Int)) (X:=List (List Int)) (λs3=>
(if(ah (s3.1<(a0.2.2.2.2.length:Int)))then
((idx a0.2.2.2.2 s3.1).bind λx5=>
((if(ah (0<=x5.2.1))then
aa (ah (x5.2.1<(s3.2.length:Int)))
else
aa ag):Option Bool).bind λj6=>
(if j6 then
(idx s3.2 x5.2.1).bind λx7=>
(idx s3.2 x5.2.1).bind λx8=>
(M.gD N x5 (s3.2.length:Int)).bind λy9=>
(bR x8 y9).bind λsE=>
(idx s3.2 x5.2.1).bind λnT=>
(if ah (x5.2.1=x5.2.1)then
(idx s3.2 x5.2.1).bind λqZ=>
aa (vK s3.2 x5.2.1 (λm13=>sE))
else ae)
else
aa s3.2):Option (List (List Int))).bind λj4=>
aa (.inl (aoz.wrap (s3.1+1),j4))
else
aa (.inr s3.2))) N (0,l1):Option (List (List Int))).bind λj2=>
Loop (S:=Int×List (List Int)) (X:=List (List Int)) (λrL=>
(if(ah (rL.1<(j2.length:Int)))then
(idx rL.2 rL.1).bind λub=>
(idx rL.2 rL.1).bind λzM=>
(M.jP N zM).bind λvy=>
(idx rL.2 rL.1).bind λuN=>
(if ah (rL.1=rL.1)then
(idx rL.2 rL.1).bind λDt=>
aa (.inl (aoz.wrap (rL.1+1),vK rL.2 rL.1 (λm20=>vy)))
else ae)
else
aa (.inr rL.2))) N (0,j2)
def S81(N:Nat):rH:=⟨.i1 [.g aU], .j1 [.val ag (.own 0)] [.deep 34 (.sl 3 (.leaf aB))] 1,M.ku N⟩
theorem W81(N:Nat):kO Tryz.prog 81 (S81 N):=fw (en [ck (Zh N),ck (Pz N)] af ag) (N:=N) (.o (.o (.meet ⟨[],[(80, .deep 34 (.sl 3 (.leaf aB)))],[],113⟩ (.o (.two (.loop ⟨[(15, .l aB)],[(80, .deep 34 (.sl 3 (.leaf aB)))],[],177⟩ (.o (.o (.two (.meet ⟨[],[(80, .deep 34 (.sl 3 (.leaf aB)))],[],194⟩ (.o (.meet ⟨[(28, .l .bool)],[],[],257⟩ .nil .nil)) .nil) .nil)))) .nil)) (.two (.o (.two (.loop ⟨[(46, .l aB)],[(80, .deep 34 (.sl 3 (.leaf aB)))],[],162⟩ .nil) .nil)) .nil)))) Tryz.func81 (by kernel_rfl) λx=>by kernel_rfl
def M.ph(N:Nat)(a0:List (List Int))(a1:Int):Option (List Int):=
(pw (a0.length:Int) ag).bind λl1=>
(Loop (S:=(List Bool)×List Int) (X:=List Bool) (λs3=>
(if(ah (0<(s3.2.length:Int)))then
(idx s3.2 0).bind λx4=>
(fo s3.2 1 (s3.2.length:Int)).bind λl5=>
(idx a0 x4).bind λx6=>
Loop (S:=Int×(List Bool)×List Int) (X:=((List Bool)×List Int)⊕(List Bool)) (λs7=>
(if(ah (s7.1<(x6.length:Int)))then
((idx x6 s7.1).bind λx9=>
(idx s7.2.1 x9).bind λmj=>
(if(!mj)then
(idx s7.2.1 x9).bind λnT=>
(bR s7.2.2 ([x9]:List Int)).bind λxO=>
aa (be s7.2.1 x9 af,xO)
else
aa (s7.2.1,s7.2.2)):Option ((List Bool)×List Int)).bind λj8=>
aa (.inl (aoz.wrap (s7.1+1),j8.1,j8.2))
else
aa (.inr (.inl (s7.2.1,s7.2.2))))) N (0,s3.1,l5)
else
aa (.inr s3.1))) N (l1,([a1]:List Int)):Option (List Bool)).bind λj2=>
Loop (S:=Int×List Int) (X:=List Int) (λpA=>
(if(ah (pA.1<(j2.length:Int)))then
((idx j2 pA.1).bind λub=>
(if ub then
(bR pA.2 ([pA.1]:List Int)).bind λZi=>
aa Zi
else
aa pA.2):Option (List Int)).bind λAQ=>
aa (.inl (aoz.wrap (pA.1+1),AQ))
else
aa (.inr pA.2))) N (0,([]:List Int))
def ad3(N:Nat):rH:=⟨.i1 [.l (.slice (.slice aB)), .l aB], .w1 3 aB,u2 (M.ph N)⟩
theorem ad4(N:Nat):kO Tryz.prog 193 (ad3 N):=fw (en [] ag af) (N:=N) (.o (.o (.o (.meet ⟨[],[(48, .own 4 .bool)],[96],129⟩ (.two (.loop ⟨[(6, .val ag (.own 128))],[(48, .own 4 .bool),(128, .own 3 aB)],[96],130⟩ (.o (.two (.o (.o (.o (.two (.loop ⟨[(6, .val ag (.own 386)),(31, .l aB)],[(48, .own 4 .bool),(386, .own 3 aB)],[258],388⟩ (.o (.o (.two (.meet ⟨[(6, .val ag (.own 404))],[(48, .own 4 .bool),(404, .own 3 aB)],[386],406⟩ .nil .nil) .nil)))) .nil)))) .nil))) .nil) (.o (.two (.o (.two (.loop ⟨[(10, .val ag (.own 193)),(50, .l aB)],[(193, .own 3 aB)],[],194⟩ (.o (.o (.two (.meet ⟨[(10, .val ag (.own 210))],[(210, .own 3 aB)],[193],211⟩ .nil .nil) .nil)))) .nil)) .nil)))))) Tryz.func193 (by kernel_rfl) λx=>by kernel_rfl
def M.jy(N:Nat)(a0:aU.den)(a1:Int):Option (List Int):=
((if(ah (a1<0))then
aa af
else
aa (ah ((a0.2.2.2.1.length:Int)<=a1))):Option Bool).bind λj1=>
(if j1 then
aa ([]:List Int)
else
(M.ku N a0).bind λy2=>
(M.ph N y2 a1).bind λy3=>
aa y3)
theorem ad5(N:Nat):Fo 121 (.i1 [.g aU, .l aB]) (.w1 3 aB) (u2 (M.jy N)):=fz N [ck (W81 N),ck (ad4 N)] (.o (.two (.mb 13 32) .nil)) Tryz.func121
def M.kv(N:Nat)(a0:aU.den)(a1:aU.den):Option (Bool×aU.den):=
aa (ah (a0.1=a1.1),a1)
theorem V5(N:Nat):Fo 116 (.j1 [.g aU, .ptr 0 [] 0] [.box 63 (.leaf aU)] 1) (.j1 [.l .bool] [.box 63 (.leaf aU)] 2) (u2 (M.kv N)):=fz N [] .nil Tryz.func116
def M.bN(N:Nat)(a0:List aU.den)(a1:aU.den):Option (Int×aU.den):=
Loop (S:=Int×aU.den) (X:=Int×aU.den) (λs1=>
(if(ah (s1.1<(a0.length:Int)))then
(idx a0 s1.1).bind λx2=>
(M.kv N x2 s1.2).bind λy3=>
(if y3.1 then
aa (.inr (s1.1,y3.2))
else
aa (.inl (aoz.wrap (s1.1+1),y3.2)))
else
aa (.inr ((-1),s1.2)))) N (0,a1)
theorem V6(N:Nat):Fo 184 (.j1 [.l (.slice aU), .fn 116 [(0,[],0)]] [.box 63 (.leaf aU)] 1) (.j1 [.l aB] [.box 63 (.leaf aU)] 2) (u2 (M.bN N)):=fz N [ck (V5 N)] (.o (.two (.o (.two (.loop ⟨[(8, .l aB)],[(0, .box 63 (.leaf aU))],[],66⟩ .nil) .nil)) .nil)) Tryz.func184
def M.bk(N:Nat)(a0:List aU.den)(a1:aU.den):Option (Bool×aU.den):=
(M.bN N a0 a1).bind λy1=>
aa (ah (0<=y1.1),y1.2)
theorem V7(N:Nat):Fo 115 (.j1 [.l (.slice aU), .fn 116 [(0,[],0)]] [.box 63 (.leaf aU)] 1) (.j1 [.l .bool] [.box 63 (.leaf aU)] 2) (u2 (M.bk N)):=fz N [ck (V6 N)] .nil Tryz.func115
def M.mV(N:Nat)(a0:cQ.den)(a1:Int):Option (Int×Int):=
(idx a0.2.2 a1).bind λx1=>
(fo a0.2.2 0 a1).bind λl2=>
((M.kl N a0.1 x1.1).bind λy4=>
(if y4 then
aa (af,x1)
else
(M.kQ N a0.2.1 x1.1).bind λy5=>
(if y5 then
aa (af,x1)
else
(M.bk N l2 x1).bind λy6=>
aa (y6.1,y6.2))):Option (Bool×aU.den)).bind λj3=>
(M.cI N j3.2.1).bind λy7=>
(if(!y7)then
aa (2,0)
else
(if j3.1 then
aa (7,0)
else
((if(!ah (j3.2.2.1=(-1)))then
(if(ah (j3.2.2.1<0))then
aa af
else
(if(ah (a1<=j3.2.2.1))then
aa af
else
(idx l2 j3.2.2.1).bind λx9=>
aa (!ah (x9.2.1=(-1)))))
else
aa ag):Option Bool).bind λj8=>
(if j8 then
aa (6,0)
else
(if(ah (12<(j3.2.2.2.1.length:Int)))then
aa (4,112)
else
(if(ah (12<(j3.2.2.2.2.1.length:Int)))then
aa (4,212)
else
bx (J:=Unit) (R:=Int×Int) (Loop (S:=Int) (X:=Unit⊕(Int×Int)) (λnL=>
(if(ah (nL<(j3.2.2.2.1.length:Int)))then
(idx j3.2.2.2.1 nL).bind λqZ=>
(fo j3.2.2.2.1 0 nL).bind λl13=>
(M.kq N a0 qZ l13 ([]:List bi.den)).bind λlz=>
(if(!ah (lz=0))then
aa (.inr (.inr (lz,aoz.wrap (100+nL))))
else
aa (.inl (aoz.wrap (nL+1))))
else
aa (.inr (.inl ())))) N 0) λsx=>
bx (J:=Unit) (R:=Int×Int) (Loop (S:=Int) (X:=Unit⊕(Int×Int)) (λKc=>
(if(ah (Kc<(j3.2.2.2.2.1.length:Int)))then
(idx j3.2.2.2.2.1 Kc).bind λyJ=>
(fo j3.2.2.2.2.1 0 Kc).bind λl18=>
(M.kq N a0 yJ j3.2.2.2.1 l18).bind λIw=>
(if(!ah (Iw=0))then
aa (.inr (.inr (Iw,aoz.wrap (200+Kc))))
else
aa (.inl (aoz.wrap (Kc+1))))
else
aa (.inr (.inl ())))) N 0) λRk=>
(M.lu N a0 a1).bind λNC=>
bx (J:=Unit) (R:=Int×Int) (Loop (S:=Int) (X:=Unit⊕(Int×Int)) (λs22=>
(if(ah (s22<(j3.2.2.2.2.2.length:Int)))then
(M.lM N j3.2 s22 (NC.1,(NC.2.1,(NC.2.2.2.1,(NC.2.2.2.2.1,(NC.2.2.2.2.2,NC.2.2.1)))))).bind λy23=>
(if(!ah (y23=0))then
aa (.inr (.inr (y23,aoz.wrap (300+s22))))
else
aa (.inl (aoz.wrap (s22+1))))
else
aa (.inr (.inl ())))) N 0) λV0=>
Loop (S:=Int) (X:=Int×Int) (λZj=>
(if(ah (Zj<(j3.2.2.2.2.1.length:Int)))then
(M.jy N j3.2 Zj).bind λZk=>
(M.fP N Zk Zj).bind λy26=>
(if y26 then
aa (.inr (9,aoz.wrap (200+Zj)))
else
aa (.inl (aoz.wrap (Zj+1))))
else
aa (.inr (0,0)))) N 0)))))
theorem W64(N:Nat):Fo 64 (.i1 [.g cQ, .l aB]) (.i1 [.l aB, .l aB]) (u2 (M.mV N)):=fz N [ck (Y9 N),ck (W62 N),ck (W63 N),ck (V7 N),ck (adD N),ck (adF N),ck (adV N),ck (adX N),ck (ad5 N)] (.o (.o (.o (.meet ⟨[(8, .l .bool)],[(128, .box 63 (.leaf aU))],[],241⟩ .nil (.two (.two (.o (.o (.o (.o (.mb 52 353))))) .nil) (.join ⟨[],[],[],513⟩ (.o (.two (.lp 89 577 .nil) .nil)) (.join ⟨[],[],[],513⟩ (.o (.two (.lp 110 577 .nil) .nil)) (.o (.join ⟨[],[],[],593⟩ (.o (.two (.lp 136 657 .nil) .nil)) (.two (.o (.two (.lp 152 657 .nil) .nil)) .nil)))))))))) Tryz.func64
def M.lZ(N:Nat)(a0:cQ.den):Option (aF.den):=
(if(ah (4<(a0.2.2.length:Int)))then
aa (4,(3,(4,0)))
else
bx (J:=Unit) (R:=aF.den) (Loop (S:=Int) (X:=Unit⊕(aF.den)) (λs2=>
(if(ah (s2<(a0.2.2.length:Int)))then
(M.mV N a0 s2).bind λy3=>
(if(!ah (y3.1=0))then
aa (.inr (.inr (y3.1,(3,(s2,y3.2)))))
else
aa (.inl (aoz.wrap (s2+1))))
else
aa (.inr (.inl ())))) N 0) λj1=>
aa (0,(0,(0,0))))
theorem W34(N:Nat):Fo 34 (.i1 [.g cQ]) (.i1 [.g aF]) (M.lZ N):=fz N [ck (W64 N)] (.o (.o (.join ⟨[],[],[],96⟩ (.o (.two (.lp 14 160 .nil) .nil)) .nil))) Tryz.func34
def M.kR(N:Nat)(a0:cQ.den):Option (aF.den):=
(M.mQ N a0).bind λy1=>
(if(!ah (y1.1=0))then
aa y1
else
(M.lX N a0).bind λy2=>
(if(!ah (y2.1=0))then
aa y2
else
(M.lZ N a0).bind λy3=>
aa y3))
theorem W17(N:Nat):Fo 17 (.i1 [.g cQ]) (.i1 [.g aF]) (M.kR N):=fz N [ck (W32 N),ck (W33 N),ck (W34 N)] .nil Tryz.func17
def M.kw(N:Nat)(a0:cQ.den)(a1:List aC.den)(a2:List bi.den):Option (Int×Int):=
(if(ah ((a1.length:Int)<(a2.length:Int)))then
aa ((a1.length:Int),5)
else
(if(ah ((a2.length:Int)<(a1.length:Int)))then
aa ((a2.length:Int),4)
else
Loop (S:=Int) (X:=Int×Int) (λs1=>
(if(ah (s1<(a1.length:Int)))then
(idx a1 s1).bind λx2=>
(idx a2 s1).bind λx3=>
((if(!ah (x2.1=x3.2.1))then
aa af
else
aa (!ah (x2.2.1=x3.2.2))):Option Bool).bind λj4=>
(if j4 then
aa (.inr (s1,8))
else
(M.jo N x3.2 a0.1).bind λy5=>
((if(ah (x2.2.2<y5.1))then
aa af
else
aa (ah (y5.2<x2.2.2))):Option Bool).bind λj6=>
(if j6 then
aa (.inr (s1,3))
else
aa (.inl (aoz.wrap (s1+1)))))
else
aa (.inr (0,0)))) N 0))
theorem W35(N:Nat):Fo 35 (.i1 [.g cQ, .l (.slice aC), .l (.slice bi)]) (.i1 [.l aB, .l aB]) (u3 (M.kw N)):=fz N [ck (W65 N)] (.o (.o (.o (.two (.o (.two (.lp 29 256 (.o (.o (.two (.two (.o (.o (.two (.mb 50 480) (.o (.mb 68 624))))) .nil) .nil)))) .nil)) .nil)))) Tryz.func35
def M.nM(N:Nat)(a0:cQ.den)(a1:Int):Option ((List bi.den)×Int):=
(idx a0.2.2 a1).bind λx1=>
((if(ah (x1.2.1<0))then
aa af
else
aa (ah ((a0.2.2.length:Int)<=x1.2.1))):Option Bool).bind λj2=>
(if j2 then
aa (([]:List bi.den),0)
else
(idx a0.2.2 x1.2.1).bind λx3=>
aa (x3.2.2.1,8))
theorem W36(N:Nat):Fo 36 (.i1 [.g cQ, .l aB]) (.i1 [.l (.slice bi), .l aB]) (u2 (M.nM N)):=fz N [] (.o (.o (.two (.mb 21 160) .nil))) Tryz.func36
def M.qa(N:Nat)(a0:cQ.den)(a1:Int)(a2:Ca.den):Option (Int×Int×Int):=
((if(ah (a1<0))then
aa af
else
aa (ah ((a0.2.2.length:Int)<=a1))):Option Bool).bind λj1=>
(if j1 then
aa ((-1),(-1),6)
else
((if(ah (a2.1<0))then
aa af
else
aa (ah (109572<a2.1))):Option Bool).bind λj2=>
(if j2 then
aa ((-1),(-1),3)
else
(idx a0.2.2 a1).bind λx3=>
(M.kw N a0 a2.2.1 x3.2.2.1).bind λy4=>
(if(!ah (y4.2=0))then
aa ((-1),y4.1,y4.2)
else
(M.nM N a0 a1).bind λy5=>
(if(ah (y5.2<(a2.2.2.length:Int)))then
aa (y5.2,(-1),4)
else
Loop (S:=Int) (X:=Int×Int×Int) (λs6=>
(if(ah (s6<(a2.2.2.length:Int)))then
(idx a2.2.2 s6).bind λx7=>
(M.kw N a0 x7 y5.1).bind λy8=>
(if(!ah (y8.2=0))then
aa (.inr (s6,y8.1,y8.2))
else
aa (.inl (aoz.wrap (s6+1))))
else
aa (.inr (0,0,0)))) N 0))))
theorem W18(N:Nat):Fo 18 (.i1 [.g cQ, .l aB, .g Ca]) (.i1 [.l aB, .l aB, .l aB]) (u3 (M.qa N)):=fz N [ck (W35 N),ck (W36 N)] (.o (.two (.mb 25 80) (.two (.mb 33 80) (.o (.o (.o (.two (.o (.two (.lp 66 624 .nil) .nil)) .nil))))))) Tryz.func18
def M.fq(N:Nat)(a0:List Int):Option Int:=
aa (a0.length:Int)
theorem W83(N:Nat):Fo 83 (.i1 [.l (.slice aB)]) (.i1 [.l aB]) (M.fq N):=fz N [] .nil Tryz.func83
def M.eN(N:Nat)(a0:List Int)(a1:Int)(a2:Int):Option Bool:=
(idx a0 a1).bind λx1=>
(idx a0 a2).bind λx2=>
aa (ah (x1<x2))
theorem Zl(N:Nat):Fo 401 (.i1 [.l (.slice aB), .l aB, .l aB]) (.i1 [.l .bool]) (u3 (M.eN N)):=fz N [] .nil Tryz.func401
def M.nV(N:Nat)(a0:List Int):Option (Int×List Int):=
(idx a0 (aoz.wrap ((a0.length:Int)-1))).bind λx1=>
(fo a0 0 (aoz.wrap ((a0.length:Int)-1))).bind λl2=>
aa (x1,l2)
theorem ad7(N:Nat):Fo 402 (.j1 [.ptr 0 [] 0] [.box 162 (.own 1), .own 3 aB] 2) ⟨[(0, .ifc 3 (.l aB))],[(0, .box 162 (.own 2)),(2, .own 3 aB)],[],4⟩ (M.nV N):=fz N [] .nil Tryz.func402
def M.mW(N:Nat)(a0:aU.den):Option (List (List Int)):=
(pw (a0.2.2.2.1.length:Int) ([]:List Int)).bind λl1=>
(Loop (S:=Int×List (List Int)) (X:=List (List Int)) (λs3=>
(if(ah (s3.1<(a0.2.2.2.2.length:Int)))then
((idx a0.2.2.2.2 s3.1).bind λx5=>
((if(ah (0<=x5.2.1))then
aa (ah (x5.2.1<(s3.2.length:Int)))
else
aa ag):Option Bool).bind λj6=>
(if j6 then
(idx s3.2 x5.2.1).bind λx7=>
(idx s3.2 x5.2.1).bind λx8=>
(M.gD N x5 (s3.2.length:Int)).bind λy9=>
(bR x8 y9).bind λsE=>
(idx s3.2 x5.2.1).bind λnT=>
(if ah (x5.2.1=x5.2.1)then
(idx s3.2 x5.2.1).bind λqZ=>
aa (vK s3.2 x5.2.1 (λm13=>sE))
else ae)
else
aa s3.2):Option (List (List Int))).bind λj4=>
aa (.inl (aoz.wrap (s3.1+1),j4))
else
aa (.inr s3.2))) N (0,l1):Option (List (List Int))).bind λj2=>
Loop (S:=Int×List (List Int)) (X:=List (List Int)) (λrL=>
(if(ah (rL.1<(j2.length:Int)))then
(idx rL.2 rL.1).bind λub=>
(idx rL.2 rL.1).bind λzM=>
(M.jP N zM).bind λvy=>
(idx rL.2 rL.1).bind λuN=>
(if ah (rL.1=rL.1)then
(idx rL.2 rL.1).bind λDt=>
aa (.inl (aoz.wrap (rL.1+1),vK rL.2 rL.1 (λm20=>vy)))
else ae)
else
aa (.inr rL.2))) N (0,j2)
def Zm(N:Nat):rH:=⟨.i1 [.g aU], .j1 [.val ag (.own 0)] [.deep 34 (.sl 3 (.leaf aB))] 1,M.mW N⟩
theorem Zn(N:Nat):kO Tryz.prog 81 (Zm N):=fw (en [ck (Zh N),ck (Pz N)] af ag) (N:=N) (.o (.o (.meet ⟨[],[(80, .deep 34 (.sl 3 (.leaf aB)))],[],113⟩ (.o (.two (.loop ⟨[(15, .l aB)],[(80, .deep 34 (.sl 3 (.leaf aB)))],[],177⟩ (.o (.o (.two (.meet ⟨[],[(80, .deep 34 (.sl 3 (.leaf aB)))],[],194⟩ (.o (.meet ⟨[(28, .l .bool)],[],[],257⟩ .nil .nil)) .nil) .nil)))) .nil)) (.two (.o (.two (.loop ⟨[(46, .l aB)],[(80, .deep 34 (.sl 3 (.leaf aB)))],[],162⟩ .nil) .nil)) .nil)))) Tryz.func81 (by kernel_rfl) λx=>by kernel_rfl
def M.kz(N:Nat)(a0:Int)(a1:List Int):Option (List Int):=
(bR a1 ([a0]:List Int)).bind λl1=>
aa l1
theorem V8(N:Nat):Fo 403 (.j1 [.ptr 0 [] 0, .ifc 3 (.l aB)] [.box 162 (.own 1), .own 3 aB] 2) ⟨[],[(0, .box 162 (.own 2)),(2, .own 3 aB)],[],4⟩ (u2 (M.kz N)):=fz N [] .nil Tryz.func403
def M.dx(N:Nat)(a0:Int)(a1:Int)(a2:List Int):Option (List Int):=
(idx a2 a1).bind λx1=>
(idx a2 a0).bind λx2=>
(idx a2 a0).bind λx3=>
(idx (be a2 a0 x1) a1).bind λx4=>
aa (be (be a2 a0 x1) a1 x2)
theorem Ix(N:Nat):Fo 404 (.j1 [.val ag (.own 0), .l aB, .l aB] [.own 3 aB] 1) (.j1 [] [.own 3 aB] 2) (u3 (M.dx N)):=fz N [] .nil Tryz.func404
def M.ij(N:Nat)(a0:Int)(a1:List Int):Option (List Int):=
Loop (S:=Int×List Int) (X:=List Int) (λs1=>
((if(ah ((aoz.wrap (aoM (aoz.wrap (s1.1-1)) 2))=s1.1))then
aa af
else
(M.eN N s1.2 s1.1 (aoz.wrap (aoM (aoz.wrap (s1.1-1)) 2))).bind λy3=>
aa (!y3)):Option Bool).bind λj2=>
(if j2 then
aa (.inr s1.2)
else
(M.dx N (aoz.wrap (aoM (aoz.wrap (s1.1-1)) 2)) s1.1 s1.2).bind λy4=>
aa (.inl (aoz.wrap (aoM (aoz.wrap (s1.1-1)) 2),y4)))) N (a0,a1)
theorem V9(N:Nat):Fo 151 (.j1 [.ifc 161 (.ptr 0 [] 0), .l aB] [.box 162 (.own 1), .own 3 aB] 2) (.j1 [] [.box 162 (.own 1), .own 3 aB] 4) (u2 (M.ij N)):=fz N [ck (Zl N),ck (Ix N)] (.two (.loop ⟨[(1, .l aB)],[(1, .own 3 aB)],[],3⟩ (.two (.o (.two (.mb 17 67) .nil)) .nil)) .nil) Tryz.func151
def M.dH(N:Nat)(a0:Int)(a1:List Int):Option (List Int):=
(M.kz N a0 a1).bind λy1=>
(M.fq N y1).bind λy2=>
(M.ij N (aoz.wrap (y2-1)) y1).bind λy3=>
aa y3
theorem Zo(N:Nat):Fo 82 (.j1 [.ifc 161 (.ptr 0 [] 0), .ifc 3 (.l aB)] [.box 162 (.own 1), .own 3 aB] 2) ⟨[],[(0, .box 162 (.own 2)),(2, .own 3 aB)],[],4⟩ (u2 (M.dH N)):=fz N [ck (W83 N),ck (V9 N),ck (V8 N)] .nil Tryz.func82
def M.fX(N:Nat)(a0:Int)(a1:Int)(a2:List Int):Option (Bool×List Int):=
(Loop (S:=Int×List Int) (X:=Int×List Int) (λs2=>
((if(ah (a1<=(aoz.wrap ((aoz.wrap (2*s2.1))+1))))then
aa af
else
aa (ah ((aoz.wrap ((aoz.wrap (2*s2.1))+1))<0))):Option Bool).bind λj3=>
(if j3 then
aa (.inr (s2.1,s2.2))
else
(((if(ah ((aoz.wrap ((aoz.wrap ((aoz.wrap (2*s2.1))+1))+1))<a1))then
(M.eN N s2.2 (aoz.wrap ((aoz.wrap ((aoz.wrap (2*s2.1))+1))+1)) (aoz.wrap ((aoz.wrap (2*s2.1))+1))).bind λy6=>
aa y6
else
aa ag):Option Bool).bind λj5=>
(if j5 then
aa (aoz.wrap ((aoz.wrap ((aoz.wrap (2*s2.1))+1))+1))
else
aa (aoz.wrap ((aoz.wrap (2*s2.1))+1))):Option Int).bind λj4=>
(M.eN N s2.2 j4 s2.1).bind λy7=>
(if(!y7)then
aa (.inr (s2.1,s2.2))
else
(M.dx N s2.1 j4 s2.2).bind λy8=>
aa (.inl (j4,y8))))) N (a0,a2):Option (Int×List Int)).bind λj1=>
aa (ah (a0<j1.1),j1.2)
theorem Wa(N:Nat):Fo 152 (.j1 [.ifc 161 (.ptr 0 [] 0), .l aB, .l aB] [.box 162 (.own 1), .own 3 aB] 2) (.j1 [.l .bool] [.box 162 (.own 1), .own 3 aB] 4) (u3 (M.fX N)):=fz N [ck (Zl N),ck (Ix N)] (.o (.o (.two (.meet ⟨[(7, .l aB)],[(1, .own 3 aB)],[],51⟩ (.loop ⟨[(7, .l aB)],[(1, .own 3 aB)],[],51⟩ (.two (.o (.two (.mb 21 115) (.o (.meet ⟨[(9, .l aB)],[],[],147⟩ (.o (.mb 33 195)) .nil)))) .nil)) .nil) .nil))) Tryz.func152
def M.gO(N:Nat)(a0:List Int):Option (Int×List Int):=
(M.fq N a0).bind λy1=>
(M.dx N 0 (aoz.wrap (y1-1)) a0).bind λy2=>
(M.fX N 0 (aoz.wrap (y1-1)) y2).bind λy3=>
(M.nV N y3.2).bind λy4=>
aa (y4.1,y4.2)
theorem Zp(N:Nat):Fo 84 (.j1 [.ifc 161 (.ptr 0 [] 0)] [.box 162 (.own 1), .own 3 aB] 2) ⟨[(0, .ifc 3 (.l aB))],[(0, .box 162 (.own 2)),(2, .own 3 aB)],[],4⟩ (M.gO N):=fz N [ck (W83 N),ck (Wa N),ck (ad7 N),ck (Ix N)] .nil Tryz.func84
def M.fL(N:Nat)(a0:aU.den):Option (Int×List Int):=
((M.mW N a0).bind λy2=>
aa y2:Option (List (List Int))).bind λj1=>
(pw (j1.length:Int) ([]:List Int)).bind λl3=>
(pw (j1.length:Int) 0).bind λl4=>
((Loop (S:=Int×(List (List Int))×(List Int)×List Int) (X:=(List (List Int))×(List Int)×List Int) (λs7=>
(if(ah (s7.1<(j1.length:Int)))then
(((idx j1 s7.1).bind λmj=>
(idx s7.2.2.1 s7.1).bind λnT=>
(Loop (S:=Int×List (List Int)) (X:=List (List Int)) (λpA=>
(if(ah (pA.1<(mj.length:Int)))then
(idx mj pA.1).bind λqE=>
(idx pA.2 qE).bind λub=>
(idx pA.2 qE).bind λzM=>
(bR zM ([s7.1]:List Int)).bind λl17=>
(idx pA.2 qE).bind λuN=>
(if ah (qE=qE)then
(idx pA.2 qE).bind λDt=>
aa (.inl (aoz.wrap (pA.1+1),vK pA.2 qE (λm20=>l17)))
else ae)
else
aa (.inr pA.2))) N (0,s7.2.1):Option (List (List Int))).bind λsD=>
(if(ah ((mj.length:Int)=0))then
(M.dH N s7.1 s7.2.2.2).bind λXP=>
aa (sD,be s7.2.2.1 s7.1 (mj.length:Int),XP)
else
aa (sD,be s7.2.2.1 s7.1 (mj.length:Int),s7.2.2.2)):Option ((List (List Int))×(List Int)×List Int)).bind λj9=>
aa (j9.1,j9.2.1,j9.2.2):Option ((List (List Int))×(List Int)×List Int)).bind λj8=>
aa (.inl (aoz.wrap (s7.1+1),j8.1,j8.2.1,j8.2.2))
else
aa (.inr (s7.2.1,s7.2.2.1,s7.2.2.2)))) N (0,l3,l4,([]:List Int)):Option ((List (List Int))×(List Int)×List Int)).bind λj6=>
aa (j6.1,j6.2.1,j6.2.2):Option ((List (List Int))×(List Int)×List Int)).bind λj5=>
(Loop (S:=(List Int)×(List Int)×List Int) (X:=(List Int)×List Int) (λXR=>
(M.fq N XR.2.2).bind λy24=>
(if(ah (0<y24))then
(M.gO N XR.2.2).bind λZk=>
(bR XR.2.1 ([Zk.1]:List Int)).bind λl26=>
(idx j5.1 Zk.1).bind λMD=>
Loop (S:=Int×(List Int)×List Int) (X:=((List Int)×(List Int)×List Int)⊕((List Int)×List Int)) (λyo=>
(if(ah (yo.1<(MD.length:Int)))then
((idx MD yo.1).bind λFJ=>
(idx yo.2.1 FJ).bind λWb=>
(idx yo.2.1 FJ).bind λx32=>
(idx (be yo.2.1 FJ (aoz.wrap (Wb-1))) FJ).bind λRl=>
(if(ah (Rl=0))then
(M.dH N FJ yo.2.2).bind λy34=>
aa (be yo.2.1 FJ (aoz.wrap (Wb-1)),y34)
else
aa (be yo.2.1 FJ (aoz.wrap (Wb-1)),yo.2.2)):Option ((List Int)×List Int)).bind λZq=>
aa (.inl (aoz.wrap (yo.1+1),Zq.1,Zq.2))
else
aa (.inr (.inl (yo.2.1,l26,yo.2.2))))) N (0,XR.1,Zk.2)
else
aa (.inr (XR.2.1,XR.2.2)))) N (j5.2.1,([]:List Int),j5.2.2):Option ((List Int)×List Int)).bind λj22=>
(if(ah ((j22.1.length:Int)<(j1.length:Int)))then
aa (9,([]:List Int))
else
aa (0,j22.1))
def S48(N:Nat):rH:=⟨.i1 [.g aU], .j1 [.val ag (.own 0), .l aB] [.own 3 aB] 1,M.fL N⟩
theorem W48(N:Nat):kO Tryz.prog 48 (S48 N):=fw (en [ck (Zn N),ck (Zo N),ck (W83 N),ck (Zp N)] af ag) (N:=N) (.o (.meet ⟨[(4, .l (.slice (.slice aB)))],[],[],48⟩ .nil (.o (.o (.o (.meet ⟨[(5, .l (.slice (.slice aB)))],[(144, .own 3 aB),(192, .box 162 (.own 224)),(224, .own 3 aB)],[80,176],227⟩ (.o (.meet ⟨[(5, .l (.slice (.slice aB)))],[(144, .own 3 aB),(192, .box 162 (.own 272)),(272, .own 3 aB)],[80,176],275⟩ (.loop ⟨[(29, .l aB)],[(80, .deep 34 (.sl 3 (.leaf aB))),(144, .own 3 aB),(192, .box 162 (.own 272)),(272, .own 3 aB)],[176],276⟩ (.o (.o (.meet ⟨[],[(80, .deep 34 (.sl 3 (.leaf aB))),(144, .own 3 aB),(192, .box 162 (.own 292)),(292, .own 3 aB)],[272],296⟩ (.meet ⟨[],[(80, .deep 34 (.sl 3 (.leaf aB))),(144, .own 3 aB),(192, .box 162 (.own 292)),(292, .own 3 aB)],[272],296⟩ (.o (.o (.meet ⟨[],[(80, .deep 34 (.sl 3 (.leaf aB)))],[],469⟩ (.o (.two (.loop ⟨[(41, .l aB)],[(80, .deep 34 (.sl 3 (.leaf aB)))],[],517⟩ .nil) .nil)) .nil))) .nil) .nil)))) .nil)) (.o (.meet ⟨[(12, .val ag (.own 243))],[(192, .box 162 (.own 244)),(243, .own 3 aB),(244, .own 3 aB)],[144,224],246⟩ (.two (.loop ⟨[(12, .val ag (.own 243))],[(144, .own 3 aB),(192, .box 162 (.own 244)),(243, .own 3 aB),(244, .own 3 aB)],[224],247⟩ (.o (.two (.o (.o (.o (.two (.loop ⟨[(86, .l aB)],[(144, .own 3 aB),(192, .box 162 (.own 647)),(647, .own 3 aB)],[361],650⟩ (.o (.o (.two (.meet ⟨[],[(144, .own 3 aB),(192, .box 162 (.own 666)),(666, .own 3 aB)],[647],669⟩ .nil .nil) .nil)))) .nil)))) .nil))) .nil) .nil)))))))) Tryz.func48 (by kernel_rfl) λx=>by kernel_rfl
def M.cS(N:Nat)(a0:List ByteArray):Option (List ByteArray):=
(if aoL (a0).length 0 then
zC (aa ([]:List ByteArray))
((bR ([]:List ByteArray) a0).bind λl1=>
aa l1)
else
(bR ([]:List ByteArray) a0).bind λl2=>
aa l2)
theorem W85(N:Nat):Fo 85 (.i1 [.l (.slice .str)]) (.w1 9 .str) (M.cS N):=fz N [] .nil Tryz.func85
def M.bV(N:Nat)(a0:aA.den)(a1:Int):Option Bool:=
((M.ff N a0).bind λy2=>
(if y2 then
(if(ah (a0.1<=a1))then
aa (ah (a1<a0.2))
else
aa ag)
else
aa ag):Option Bool).bind λj1=>
aa j1
theorem XS(N:Nat):Fo 68 (.i1 [.g aA, .l aB]) (.i1 [.l .bool]) (u2 (M.bV N)):=fz N [ck (VP N)] (.o (.mb 4 32)) Tryz.func68
def M.eE(N:Nat):Option (aA.den):=
aa (0,109573)
theorem Zr(N:Nat):Fo 153 (.i1 []) (.i1 [.g aA]) (λ(x:Unit)=>M.eE N):=fz N [] .nil Tryz.func153
def M.ik(N:Nat)(a0:aP.den)(a1:Int):Option (ByteArray×aA.den×aA.den×List dM.den):=
(Loop (S:=Int×List dM.den) (X:=List dM.den) (λs2=>
(if(ah (s2.1<(a0.2.2.2.length:Int)))then
((idx a0.2.2.2 s2.1).bind λx4=>
(M.bV N x4.1 a1).bind λy5=>
(if y5 then
(M.eE N).bind λy6=>
(bR s2.2 ([(y6,x4.2)]:List dM.den)).bind λl7=>
aa l7
else
aa s2.2):Option (List dM.den)).bind λj3=>
aa (.inl (aoz.wrap (s2.1+1),j3))
else
aa (.inr s2.2))) N (0,([]:List dM.den)):Option (List dM.den)).bind λj1=>
aa (a0.1,a0.2.1,a0.2.2.1,j1)
theorem W86(N:Nat):Fo 86 (.i1 [.g aP, .l aB]) (.j1 [.val af (.pair (.leaf .str) (.pair (.leaf aA) (.pair (.leaf aA) (.own 0))))] [.own 171 dM] 1) (u2 (M.ik N)):=fz N [ck (XS N),ck (Zr N)] (.o (.o (.meet ⟨[(5, .val ag (.own 48))],[(48, .own 171 dM)],[],49⟩ (.o (.two (.loop ⟨[(5, .val ag (.own 112)),(11, .l aB)],[(112, .own 171 dM)],[],113⟩ (.o (.o (.two (.meet ⟨[(5, .val ag (.own 129))],[(129, .own 171 dM)],[112],130⟩ .nil .nil) .nil)))) .nil)) .nil))) Tryz.func86
def M.aI(N:Nat)(a0:List aA.den):Option (List aA.den):=
(if aoL (a0).length 0 then
zC (aa ([]:List aA.den))
((bR ([]:List aA.den) a0).bind λl1=>
aa l1)
else
(bR ([]:List aA.den) a0).bind λl2=>
aa l2)
theorem SH(N:Nat):Fo 155 (.i1 [.l (.slice aA)]) (.w1 67 aA) (M.aI N):=fz N [] .nil Tryz.func155
def M.bI(N:Nat)(a0:List bi.den):Option (List bi.den):=
(if aoL (a0).length 0 then
zC (aa ([]:List bi.den))
((bR ([]:List bi.den) a0).bind λl1=>
aa l1)
else
(bR ([]:List bi.den) a0).bind λl2=>
aa l2)
theorem aeb(N:Nat):Fo 156 (.i1 [.l (.slice bi)]) (.w1 85 bi) (M.bI N):=fz N [] .nil Tryz.func156
def M.eI(N:Nat)(a0:bn.den)(a1:Int):Option (Bool×Int):=
(M.bV N a0.2.2.2.2.1 a1).bind λy1=>
aa (y1,a1)
theorem Wc(N:Nat):Fo 154 (.j1 [.g bn, .ptr 0 [] 0] [.box 3 (.leaf aB)] 1) (.j1 [.l .bool] [.box 3 (.leaf aB)] 2) (u2 (M.eI N)):=fz N [ck (XS N)] .nil Tryz.func154
def M.fY(N:Nat)(a0:List bn.den)(a1:Int):Option (Int×(List Int)×List Int):=
(pw (a0.length:Int) 0).bind λl1=>
Loop (S:=Int×Int×(List Int)×(List Int)×List Int) (X:=Int×(List Int)×List Int) (λs2=>
(if(ah (s2.1<(a0.length:Int)))then
((idx a0 s2.1).bind λx4=>
(((if(ah (0<=x4.2.2.1))then
aa (ah (x4.2.2.1<s2.1))
else
aa ag):Option Bool).bind λj6=>
(if j6 then
(idx s2.2.2.1 x4.2.2.1).bind λx7=>
aa x7
else
aa (-1)):Option Int).bind λj5=>
(idx s2.2.2.1 s2.1).bind λx8=>
(M.eI N x4 s2.2.1).bind λy9=>
(if y9.1 then
(idx (be s2.2.2.1 s2.1 j5) s2.1).bind λmj=>
(bR s2.2.2.2.1 ([s2.1]:List Int)).bind λIv=>
(bR s2.2.2.2.2 ([j5]:List Int)).bind λxO=>
aa (y9.2,be (be s2.2.2.1 s2.1 j5) s2.1 (s2.2.2.2.1.length:Int),Iv,xO)
else
aa (y9.2,be s2.2.2.1 s2.1 j5,s2.2.2.2.1,s2.2.2.2.2)):Option (Int×(List Int)×(List Int)×List Int)).bind λj3=>
aa (.inl (aoz.wrap (s2.1+1),j3.1,j3.2.1,j3.2.2.1,j3.2.2.2))
else
aa (.inr (s2.2.1,s2.2.2.2.1,s2.2.2.2.2)))) N (0,a1,l1,([]:List Int),([]:List Int))
theorem Zs(N:Nat):Fo 66 (.j1 [.l (.slice bn), .fn 154 [(0,[],0)]] [.box 3 (.leaf aB)] 1) (.j1 [.val ag (.own 1), .val ag (.own 2)] [.box 3 (.leaf aB), .own 3 aB, .own 3 aB] 4) (u2 (M.fY N)):=fz N [ck (Wc N)] (.o (.o (.o (.two (.o (.two (.loop ⟨[(6, .val ag (.own 177)),(7, .val ag (.own 178)),(17, .l aB)],[(0, .box 3 (.leaf aB)),(97, .own 3 aB),(177, .own 3 aB),(178, .own 3 aB)],[],181⟩ (.o (.o (.two (.meet ⟨[(6, .val ag (.own 197)),(7, .val ag (.own 198))],[(0, .box 3 (.leaf aB)),(97, .own 3 aB),(197, .own 3 aB),(198, .own 3 aB)],[177,178],201⟩ (.o (.o (.meet ⟨[(11, .l aB)],[],[],309⟩ (.mb 30 309) .nil))) .nil) .nil)))) .nil)) .nil)))) Tryz.func66
def M.il(N:Nat)(a0:aU.den)(a1:Int):Option (ByteArray×Int×(List bi.den)×(List bi.den)×List bn.den):=
(M.fY N a0.2.2.2.2 a1).bind λy1=>
(Loop (S:=Int×List bn.den) (X:=List bn.den) (λs3=>
(if(ah (s3.1<(y1.2.1.length:Int)))then
(idx y1.2.1 s3.1).bind λx4=>
(idx a0.2.2.2.2 x4).bind λx5=>
(idx y1.2.2 s3.1).bind λx6=>
(M.eE N).bind λy7=>
(M.aI N x5.2.2.2.2.2.1).bind λy8=>
(M.aI N x5.2.2.2.2.2.2.1).bind λy9=>
(bR s3.2 ([(x5.1,(x5.2.1,(x6,(x5.2.2.2.1,(y7,(y8,(y9,x5.2.2.2.2.2.2.2)))))))]:List bn.den)).bind λsE=>
aa (.inl (aoz.wrap (s3.1+1),sE))
else
aa (.inr s3.2))) N (0,([]:List bn.den)):Option (List bn.den)).bind λj2=>
(M.bI N a0.2.2.1).bind λqY=>
(M.bI N a0.2.2.2.1).bind λpJ=>
aa (a0.1,a0.2.1,qY,pJ,j2)
theorem W87(N:Nat):Fo 87 (.i1 [.g aU, .l aB]) (.j1 [.val af (.pair (.leaf .str) (.pair (.leaf aB) (.pair (.own 0) (.pair (.own 1) (.own 2)))))] [.own 85 bi, .own 85 bi, .own 102 bn] 3) (u2 (M.il N)):=fz N [ck (Zs N),ck (Zr N),ck (SH N),ck (aeb N)] (.o (.o (.o (.meet ⟨[(7, .val ag (.own 208))],[(208, .own 102 bn)],[],209⟩ (.o (.two (.loop ⟨[(7, .val ag (.own 256)),(20, .l aB)],[(256, .own 102 bn)],[],257⟩ .nil) .nil)) .nil)))) Tryz.func87
def M.jz(N:Nat)(a0:cQ.den)(a1:Int):Option ((List bA.den)×(List aP.den)×List aU.den):=
(Loop (S:=Int×List bA.den) (X:=List bA.den) (λs2=>
(if(ah (s2.1<(a0.1.length:Int)))then
(idx a0.1 s2.1).bind λx3=>
(M.cS N x3.2).bind λy4=>
(bR s2.2 ([(x3.1,y4)]:List bA.den)).bind λl5=>
aa (.inl (aoz.wrap (s2.1+1),l5))
else
aa (.inr s2.2))) N (0,([]:List bA.den)):Option (List bA.den)).bind λj1=>
(Loop (S:=Int×(List bA.den)×List aP.den) (X:=(List bA.den)×List aP.den) (λs7=>
(if(ah (s7.1<(a0.2.1.length:Int)))then
(idx a0.2.1 s7.1).bind λx8=>
(M.ik N x8 a1).bind λy9=>
(bR s7.2.2 ([(y9.1,(y9.2.1,(y9.2.2.1,y9.2.2.2)))]:List aP.den)).bind λsE=>
aa (.inl (aoz.wrap (s7.1+1),s7.2.1,sE))
else
aa (.inr (s7.2.1,s7.2.2)))) N (0,j1,([]:List aP.den)):Option ((List bA.den)×List aP.den)).bind λj6=>
(Loop (S:=Int×(List bA.den)×(List aP.den)×List aU.den) (X:=(List bA.den)×(List aP.den)×List aU.den) (λnW=>
(if(ah (nW.1<(a0.2.2.length:Int)))then
(idx a0.2.2 nW.1).bind λnK=>
(M.il N nK a1).bind λlz=>
(bR nW.2.2.2 ([(lz.1,(lz.2.1,(lz.2.2.1,(lz.2.2.2.1,lz.2.2.2.2))))]:List aU.den)).bind λWe=>
aa (.inl (aoz.wrap (nW.1+1),nW.2.1,nW.2.2.1,We))
else
aa (.inr (nW.2.1,nW.2.2.1,nW.2.2.2)))) N (0,j6.1,j6.2,([]:List aU.den)):Option ((List bA.den)×(List aP.den)×List aU.den)).bind λsK=>
aa (sK.1,sK.2.1,sK.2.2)
theorem W49(N:Nat):Fo 49 (.i1 [.g cQ, .l aB]) (.j1 [.val af (.pair (.own 0) (.pair (.own 1) (.own 2)))] [.own 55 bA, .own 60 aP, .own 63 aU] 3) (u2 (M.jz N)):=fz N [ck (W85 N),ck (W86 N),ck (W87 N)] (.o (.o (.meet ⟨[],[(32, .box 26 (.pair (.own 48) (.pair .nil .nil))),(48, .own 55 bA)],[],50⟩ (.o (.two (.loop ⟨[(15, .l aB)],[(32, .box 26 (.pair (.own 112) (.pair .nil .nil))),(112, .own 55 bA)],[],114⟩ .nil) .nil)) (.meet ⟨[],[(32, .box 26 (.pair (.own 48) (.pair (.own 50) .nil))),(48, .own 55 bA),(50, .own 60 aP)],[],53⟩ (.o (.two (.loop ⟨[(33, .l aB)],[(32, .box 26 (.pair (.own 48) (.pair (.own 114) .nil))),(48, .own 55 bA),(114, .own 60 aP)],[],117⟩ .nil) .nil)) (.meet ⟨[],[(32, .box 26 (.pair (.own 48) (.pair (.own 50) (.own 53)))),(48, .own 55 bA),(50, .own 60 aP),(53, .own 63 aU)],[],57⟩ (.o (.two (.loop ⟨[(49, .l aB)],[(32, .box 26 (.pair (.own 48) (.pair (.own 50) (.own 117)))),(48, .own 55 bA),(50, .own 60 aP),(117, .own 63 aU)],[],121⟩ .nil) .nil)) .nil))))) Tryz.func49
def M.je(N:Nat)(a0:List aA.den):Option (Int×List Int):=
(M.gC N a0).bind λy1=>
aa (y1.2.1,y1.2.2)
theorem Zt(N:Nat):Fo 157 (.i1 [.l (.slice aA)]) (.j1 [.val ag (.own 0), .l aB] [.own 3 aB] 1) (M.je N):=fz N [ck (Zb N)] .nil Tryz.func157
def M.jG(N:Nat)(a0:List aA.den)(a1:Int):Option (List Int):=
(M.je N a0).bind λy1=>
((if(!ah (y1.1=0))then
aa af
else
(if(ah (a1<0))then
aa af
else
aa (ah ((a0.length:Int)<=a1)))):Option Bool).bind λj2=>
(if j2 then
aa ([]:List Int)
else
(idx a0 a1).bind λx3=>
(M.dN N x3.1).bind λy4=>
(pw y4 0).bind λl5=>
Loop (S:=Int×Int×List Int) (X:=List Int) (λs6=>
(if(ah (0<=s6.2.1))then
(idx s6.2.2 s6.2.1).bind λx7=>
(idx y1.2 s6.1).bind λx8=>
aa (.inl (aoz.wrap (x8-1),aoz.wrap (s6.2.1-1),be s6.2.2 s6.2.1 s6.1))
else
aa (.inr s6.2.2))) N (aoz.wrap (a1-1),aoz.wrap ((l5.length:Int)-1),l5))
theorem aec(N:Nat):Fo 224 (.i1 [.l (.slice aA), .l aB]) (.w1 3 aB) (u2 (M.jG N)):=fz N [ck (SF N),ck (Zt N)] (.o (.o (.two (.mb 26 128) (.o (.o (.two (.o (.two (.loop ⟨[(8, .l aB),(9, .l aB)],[(224, .own 3 aB)],[],369⟩ .nil) .nil)) .nil)))))) Tryz.func224
def M.bE(B:Nat):Nat->(List aA.den)->Int->(List aA.den)->Option (List aA.den)
 |0,_,_,_=>ae
 |N+1,a0,a1,a2=>
  (M.jG B a0 a1).bind λy2=>
  (idx a0 a1).bind λSI=>
  ((if(ah (SI.1=23))then
  aa (ah (SI.1=23))
  else
  aa (ah (SI.1=24))):Option Bool).bind λj62=>
  (if j62 then
  ((idx a0 a1).bind λx64=>
  (if(ah (x64.1=24))then
  aa 53
  else
  aa 52):Option Int).bind λj63=>
  (idx y2 0).bind λx65=>
  (M.bE B N a0 x65 a2).bind λy66=>
  (bR y66 ([(j63,0)]:List aA.den)).bind λl67=>
  (idx y2 1).bind λx68=>
  (M.bE B N a0 x68 l67).bind λWf=>
  (idx Wf (y66.length:Int)).bind λx70=>
  aa (be Wf (y66.length:Int) (x70.1,(Wf.length:Int)))
  else
  (if(ah (SI.1=26))then
  (idx y2 0).bind λx71=>
  (M.bE B N a0 x71 a2).bind λWg=>
  (bR Wg ([(50,0)]:List aA.den)).bind λl73=>
  (idx y2 1).bind λx74=>
  (M.bE B N a0 x74 l73).bind λWh=>
  (bR Wh ([(51,0)]:List aA.den)).bind λWi=>
  (idx Wi (Wg.length:Int)).bind λx77=>
  (idx y2 2).bind λx78=>
  (M.bE B N a0 x78 (be Wi (Wg.length:Int) (x77.1,(Wi.length:Int)))).bind λWj=>
  (idx Wj (Wh.length:Int)).bind λx80=>
  aa (be Wj (Wh.length:Int) (x80.1,(Wj.length:Int)))
  else
  (Loop (S:=Int×List aA.den) (X:=List aA.den) (λzO=>
  (if(ah (zO.1<(y2.length:Int)))then
  (idx y2 zO.1).bind λWk=>
  (M.bE B N a0 Wk zO.2).bind λWl=>
  aa (.inl (aoz.wrap (zO.1+1),Wl))
  else
  aa (.inr zO.2))) B (0,a2):Option (List aA.den)).bind λaeo=>
  (idx a0 a1).bind λaep=>
  (bR aeo ([aep]:List aA.den)).bind λaeq=>
  aa aeq))
def M.im(N:Nat)(a0:List aA.den)(a1:Int)(a2:List aA.den):Option (List aA.den):=M.bE N N a0 a1 a2
def aer(N:Nat):rH:=⟨.j1 [.val ag (.own 0), .l (.slice aA), .l aB] [.own 67 aA] 1,⟨[(0, .val ag (.own 1))],[(1, .own 67 aA)],[],2⟩,u3 (M.im N)⟩
def aes(B N:Nat):rH:={inn:=⟨[(0, .val ag (.own 0)),(1, .l (.slice aA)),(2, .l aB)],[(0, .own 67 aA)],[],1⟩,out:=⟨[(0, .val ag (.own 1))],[(1, .own 67 aA)],[],2⟩,fn:=λ(x:(List aA.den)×Int×List aA.den)=>M.bE B N x.1 x.2.1 x.2.2}
theorem UI(B:Nat):∀N,kO Tryz.prog 158 (aes B N)
 |0=>J5 Tryz.func158 (by kernel_rfl) (by kernel_rfl) λ_=>rfl
 |N+1=>fw (en [ck (UI B N),ck (aec B)] ag ag) (N:=B) (.o (.o (.two (.o (.two (.meet ⟨[(22, .l .bool)],[],[],161⟩ .nil (.two (.o (.meet ⟨[(8, .l aB)],[],[],177⟩ .nil .nil)) .nil)) .nil)) (.meet ⟨[(0, .val ag (.own 193))],[(193, .own 67 aA)],[0],194⟩ (.o (.two (.loop ⟨[(0, .val ag (.own 241)),(104, .l aB)],[(241, .own 67 aA)],[0],242⟩ .nil) .nil)) .nil)))) Tryz.func158 (by kernel_rfl) λx=>by kernel_rfl
theorem aet(N:Nat):kO Tryz.prog 158 (aer N):=UI N N
def M.gp(N:Nat)(a0:List aA.den):Option (Int×List aA.den):=
(M.je N a0).bind λy1=>
(if(!ah (y1.1=0))then
aa (y1.1,([]:List aA.den))
else
(M.im N a0 (aoz.wrap ((a0.length:Int)-1)) ([]:List aA.den)).bind λy2=>
aa (0,y2))
theorem W88(N:Nat):Fo 88 (.i1 [.l (.slice aA)]) (.j1 [.val ag (.own 0), .l aB] [.own 67 aA] 1) (M.gp N):=fz N [ck (Zt N),ck (aet N)] .nil Tryz.func88
def M.fS(N:Nat)(a0:Int):Option Bool:=
((if(ah (50<=a0))then
aa (ah (a0<=53))
else
aa ag):Option Bool).bind λj1=>
aa j1
theorem Zu(N:Nat):Fo 203 (.i1 [.l aB]) (.i1 [.l .bool]) (M.fS N):=fz N [] (.o (.mb 2 16)) Tryz.func203
def M.dI(N:Nat)(a0:Int):Option Bool:=
((if(ah (a0=23))then
aa (ah (a0=23))
else
(if(ah (a0=24))then
aa (ah (a0=24))
else
aa (ah (a0=26)))):Option Bool).bind λj1=>
(if j1 then
aa ag
else
((M.fS N a0).bind λy3=>
(if y3 then
aa af
else
(M.dN N a0).bind λy4=>
aa (ah (0<=y4))):Option Bool).bind λj2=>
aa j2)
theorem aeu(N:Nat):Fo 202 (.i1 [.l aB]) (.i1 [.l .bool]) (M.dI N):=fz N [ck (SF N),ck (Zu N)] (.o (.two (.o (.two (.mb 4 32) .nil)) (.mb 2 32))) Tryz.func202
def M.bl(N:Nat)(a0:Int)(a1:Int)(a2:List Int):Option (Int×List Int):=
((idx a2 a0).bind λx2=>
(if(ah (0<=x2))then
(idx a2 a0).bind λx3=>
aa (!ah (x3=a1))
else
aa ag):Option Bool).bind λj1=>
(if j1 then
aa (9,a2)
else
(idx a2 a0).bind λx4=>
aa (0,be a2 a0 a1))
theorem aev(N:Nat):Fo 204 (.j1 [.ptr 0 [] 0, .l aB, .l aB] [.box 213 (.own 1), .own 3 aB] 2) (.j1 [.l aB] [.box 213 (.own 1), .own 3 aB] 4) (u3 (M.bl N)):=fz N [] (.o (.two (.mb 25 18) .nil)) Tryz.func204
def M.bO(N:Nat)(a0:List aA.den)(a1:Int)(a2:aA.den)(a3:List Int):Option (Int×List Int):=
((M.dI N a2.1).bind λy2=>
(if(!y2)then
aa af
else
(M.fS N a2.1).bind λy3=>
(if y3 then
(if(ah (a2.2<=a1))then
aa af
else
aa (ah ((a0.length:Int)<a2.2)))
else
aa ag)):Option Bool).bind λj1=>
(if j1 then
aa (2,a3)
else
(idx a3 a1).bind λx4=>
(if(ah (a2.1=51))then
(M.bl N a2.2 x4 a3).bind λy5=>
aa (y5.1,y5.2)
else
((if(ah (a2.1=50))then
aa (ah (a2.1=50))
else
(if(ah (a2.1=52))then
aa (ah (a2.1=52))
else
aa (ah (a2.1=53)))):Option Bool).bind λj6=>
(if j6 then
(if(ah (x4<1))then
aa (5,a3)
else
(M.bl N (aoz.wrap (a1+1)) (aoz.wrap (x4-1)) a3).bind λy7=>
(if(!ah (y7.1=0))then
aa (y7.1,y7.2)
else
((if(ah (a2.1=50))then
aa (aoz.wrap (x4-1))
else
aa x4):Option Int).bind λj8=>
(M.bl N a2.2 j8 y7.2).bind λy9=>
aa (y9.1,y9.2)))
else
(M.dN N a2.1).bind λnI=>
(if(ah (x4<nI))then
aa (5,a3)
else
(if(ah (12<(aoz.wrap ((aoz.wrap (x4-nI))+1))))then
aa (16,a3)
else
(M.bl N (aoz.wrap (a1+1)) (aoz.wrap ((aoz.wrap (x4-nI))+1)) a3).bind λqY=>
aa (qY.1,qY.2))))))
theorem aew(N:Nat):Fo 138 (.j1 [.ptr 0 [] 0, .l (.slice aA), .l aB, .g aA] [.box 213 (.own 1), .own 3 aB] 2) (.j1 [.l aB] [.box 213 (.own 1), .own 3 aB] 4) (u4 (M.bO N)):=fz N [ck (SF N),ck (aeu N),ck (Zu N),ck (aev N)] (.o (.two (.mb 33 34) (.o (.two (.o (.two (.o (.o (.meet ⟨[(50, .l .bool)],[],[],226⟩ .nil (.two (.o (.o (.meet ⟨[(9, .l aB)],[],[],402⟩ .nil .nil))) .nil)))) .nil)) .nil)))) Tryz.func138
def M.fh(N:Nat)(a0:List aA.den):Option (Int×Int):=
(if(ah (128<(a0.length:Int)))then
aa (0,4)
else
(if(ah ((a0.length:Int)=0))then
aa (0,5)
else
(pw (aoz.wrap ((a0.length:Int)+1)) 0).bind λl1=>
(Loop (S:=Int×List Int) (X:=List Int) (λs3=>
(if(ah (s3.1<(l1.length:Int)))then
(idx s3.2 s3.1).bind λx4=>
aa (.inl (aoz.wrap (s3.1+1),be s3.2 s3.1 (-1)))
else
aa (.inr s3.2))) N (0,l1):Option (List Int)).bind λj2=>
(idx j2 0).bind λx5=>
bx (J:=Int×List Int) (R:=Int×Int) (Loop (S:=Int×Int×List Int) (X:=(Int×List Int)⊕(Int×Int)) (λs7=>
(if(ah (s7.2.1<(a0.length:Int)))then
bx (J:=Int×List Int) (R:=(Int×Int×List Int)⊕((Int×List Int)⊕(Int×Int))) ((idx a0 s7.2.1).bind λx9=>
(idx s7.2.2 s7.2.1).bind λmj=>
(if(ah (mj<0))then
aa (.inl (s7.1,s7.2.2))
else
(idx s7.2.2 s7.2.1).bind λnT=>
(M.bO N a0 s7.2.1 x9 s7.2.2).bind λpJ=>
(if(!ah (pJ.1=0))then
aa (.inr (.inr (.inr (0,pJ.1))))
else
aa (.inl (if s7.1<nT then nT else s7.1,pJ.2))))) λj8=>
aa (.inl (j8.1,aoz.wrap (s7.2.1+1),j8.2))
else
aa (.inr (.inl (s7.1,s7.2.2))))) N (0,0,be j2 0 0)) λj6=>
(idx j6.2 (a0.length:Int)).bind λnK=>
(if(ah (nK<=0))then
aa (0,5)
else
(if(ah (1<nK))then
aa (0,4)
else
aa (if j6.1<nK then nK else j6.1,0)))))
theorem W74(N:Nat):Fo 74 (.i1 [.l (.slice aA)]) (.i1 [.l aB, .l aB]) (M.fh N):=fz N [ck (aew N)] (.o (.o (.o (.o (.meet ⟨[],[(176, .own 3 aB)],[],241⟩ (.o (.two (.loop ⟨[(28, .l aB)],[(176, .own 3 aB)],[],337⟩ .nil) .nil)) (.o (.o (.join ⟨[(6, .l aB)],[(176, .own 3 aB),(208, .box 213 (.own 176))],[],355⟩ (.o (.two (.loop ⟨[(6, .l aB),(45, .l aB)],[(176, .own 3 aB),(208, .box 213 (.own 176))],[],403⟩ (.o (.o (.two (.join ⟨[(6, .l aB)],[(176, .own 3 aB),(208, .box 213 (.own 176))],[],421⟩ .nil .nil) .nil)))) .nil)) .nil)))))))) Tryz.func74
def M.dm(N:Nat)(a0:List aA.den):Option Bool:=
(M.fh N a0).bind λy1=>
aa (ah (y1.2=0))
theorem Wm(N:Nat):Fo 225 (.i1 [.l (.slice aA)]) (.i1 [.l .bool]) (M.dm N):=fz N [ck (W74 N)] .nil Tryz.func225
def M.eh(N:Nat)(a0:Int):Option Bool:=
((if(ah (50<=a0))then
aa (ah (a0<=53))
else
aa ag):Option Bool).bind λj1=>
aa j1
theorem PA(N:Nat):Fo 229 (.i1 [.l aB]) (.i1 [.l .bool]) (M.eh N):=fz N [] (.o (.mb 2 16)) Tryz.func229
def M.eF(N:Nat)(a0:List aA.den):Option (List Bool):=
(pw (aoz.wrap ((a0.length:Int)+1)) ag).bind λl1=>
(idx l1 0).bind λx2=>
(Loop (S:=Int×List Bool) (X:=List Bool) (λs4=>
(if(ah (s4.1<(a0.length:Int)))then
((idx a0 s4.1).bind λx6=>
(idx s4.2 s4.1).bind λx7=>
(if(!x7)then
aa s4.2
else
((if(!ah (x6.1=51))then
(idx s4.2 (aoz.wrap (s4.1+1))).bind λx9=>
aa (be s4.2 (aoz.wrap (s4.1+1)) af)
else
aa s4.2):Option (List Bool)).bind λj8=>
(M.eh N x6.1).bind λnI=>
(if nI then
(idx j8 x6.2).bind λnT=>
aa (be j8 x6.2 af)
else
aa j8)):Option (List Bool)).bind λj5=>
aa (.inl (aoz.wrap (s4.1+1),j5))
else
aa (.inr s4.2))) N (0,be l1 0 af):Option (List Bool)).bind λj3=>
(fo j3 0 (a0.length:Int)).bind λxO=>
aa xO
theorem aex(N:Nat):Fo 226 (.i1 [.l (.slice aA)]) (.w1 4 .bool) (M.eF N):=fz N [ck (PA N)] (.o (.o (.o (.meet ⟨[],[(64, .own 4 .bool)],[],145⟩ (.o (.two (.loop ⟨[(14, .l aB)],[(64, .own 4 .bool)],[],193⟩ (.o (.o (.two (.meet ⟨[],[(64, .own 4 .bool)],[],210⟩ (.o (.o (.meet ⟨[],[(64, .own 4 .bool)],[],386⟩ .nil .nil))) .nil) .nil)))) .nil)) .nil)))) Tryz.func226
def M.fZ(N:Nat)(a0:List Bool)(a1:Bool):Option Int:=
Loop (S:=Int) (X:=Int) (λs1=>
(if(ah (s1<(a0.length:Int)))then
(idx a0 s1).bind λx2=>
(if(ah (a1=x2))then
aa (.inr s1)
else
aa (.inl (aoz.wrap (s1+1))))
else
aa (.inr (-1)))) N 0
theorem aey(N:Nat):Fo 270 (.i1 [.l (.slice .bool), .l .bool]) (.i1 [.l aB]) (u2 (M.fZ N)):=fz N [] (.o (.two (.o (.two (.lp 8 64 .nil) .nil)) .nil)) Tryz.func270
def M.cE(N:Nat)(a0:List Bool)(a1:Bool):Option Bool:=
(M.fZ N a0 a1).bind λy1=>
aa (ah (0<=y1))
theorem aez(N:Nat):Fo 227 (.i1 [.l (.slice .bool), .l .bool]) (.i1 [.l .bool]) (u2 (M.cE N)):=fz N [ck (aey N)] .nil Tryz.func227
def M.fm(N:Nat)(a0:List aA.den)(a1:List Bool):Option (List aA.den):=
(pw (aoz.wrap ((a0.length:Int)+1)) 0).bind λl1=>
(Loop (S:=Int×(List Int)×List aA.den) (X:=(List Int)×List aA.den) (λs3=>
(if(ah (s3.1<(a0.length:Int)))then
((idx a0 s3.1).bind λx5=>
(idx s3.2.1 s3.1).bind λx6=>
(idx a1 s3.1).bind λx7=>
(if x7 then
(bR s3.2.2 ([x5]:List aA.den)).bind λl8=>
aa (be s3.2.1 s3.1 (s3.2.2.length:Int),l8)
else
aa (be s3.2.1 s3.1 (s3.2.2.length:Int),s3.2.2)):Option ((List Int)×List aA.den)).bind λj4=>
aa (.inl (aoz.wrap (s3.1+1),j4.1,j4.2))
else
aa (.inr (s3.2.1,s3.2.2)))) N (0,l1,([]:List aA.den)):Option ((List Int)×List aA.den)).bind λj2=>
(idx j2.1 (a0.length:Int)).bind λx9=>
Loop (S:=Int×List aA.den) (X:=List aA.den) (λpb=>
(if(ah (pb.1<(j2.2.length:Int)))then
((idx pb.2 pb.1).bind λqZ=>
(M.eh N qZ.1).bind λpT=>
(if pT then
(idx (be j2.1 (a0.length:Int) (j2.2.length:Int)) qZ.2).bind λqE=>
(idx pb.2 pb.1).bind λub=>
aa (be pb.2 pb.1 (ub.1,qE))
else
aa pb.2):Option (List aA.den)).bind λsK=>
aa (.inl (aoz.wrap (pb.1+1),sK))
else
aa (.inr pb.2))) N (0,j2.2)
theorem aeA(N:Nat):Fo 228 (.i1 [.l (.slice aA), .l (.slice .bool)]) (.w1 67 aA) (u2 (M.fm N)):=fz N [ck (PA N)] (.o (.o (.o (.meet ⟨[(6, .val ag (.own 112))],[(64, .own 3 aB),(112, .own 67 aA)],[],114⟩ (.o (.two (.loop ⟨[(6, .val ag (.own 160)),(17, .l aB)],[(64, .own 3 aB),(160, .own 67 aA)],[],162⟩ (.o (.o (.two (.meet ⟨[(6, .val ag (.own 178))],[(64, .own 3 aB),(178, .own 67 aA)],[160],180⟩ .nil .nil) .nil)))) .nil)) (.o (.two (.o (.two (.loop ⟨[(44, .l aB)],[(112, .own 67 aA)],[],275⟩ (.o (.o (.two (.meet ⟨[],[(112, .own 67 aA)],[],292⟩ .nil .nil) .nil)))) .nil)) .nil)))))) Tryz.func228
def M.cv(N:Nat)(a0:List aA.den):Option (List aA.den):=
bx (J:=List aA.den) (R:=List aA.den) ((M.aI N a0).bind λy1=>
(M.dm N a0).bind λy2=>
(if(!y2)then
aa (.inr y1)
else
aa (.inl y1)):Option ((List aA.den)⊕(List aA.den))) λs3=>
Loop (S:=List aA.den) (X:=List aA.den) (λs4=>
(M.eF N s4).bind λy5=>
(Loop (S:=Int×List Bool) (X:=List Bool) (λs7=>
(if(ah (s7.1<(s4.length:Int)))then
((idx s4 s7.1).bind λx9=>
((if(ah (x9.1=51))then
aa (ah (x9.2=(aoz.wrap (s7.1+1))))
else
aa ag):Option Bool).bind λsx=>
(if sx then
(idx s7.2 s7.1).bind λnT=>
aa (be s7.2 s7.1 ag)
else
aa s7.2):Option (List Bool)).bind λj8=>
aa (.inl (aoz.wrap (s7.1+1),j8))
else
aa (.inr s7.2))) N (0,y5):Option (List Bool)).bind λj6=>
(M.cE N j6 ag).bind λpJ=>
(if pJ then
(M.fm N s4 j6).bind λpT=>
aa (.inl pT)
else
aa (.inr s4))) N s3
def Zv(N:Nat):rH:=⟨.i1 [.l (.slice aA)], .w1 67 aA,M.cv N⟩
theorem aeB(N:Nat):kO Tryz.prog 159 (Zv N):=Pv (E:=(en [ck (SH N),ck (Wm N),ck (aex N),ck (aez N),ck (aeA N)] ag ag)) (N:=N) (l:=0) (L:=⟨[(3, .val ag (.own 16))],[(16, .own 67 aA)],[],17⟩) (a0:= .nil) (a1:=(.o (.o (.two .nil .nil)))) (a2:=(.o (.meet ⟨[],[(33, .own 4 .bool)],[],66⟩ (.o (.two (.loop ⟨[(17, .l aB)],[(33, .own 4 .bool)],[],114⟩ (.o (.o (.two (.meet ⟨[],[(33, .own 4 .bool)],[],131⟩ (.o (.meet ⟨[(31, .l .bool)],[],[],226⟩ .nil .nil)) .nil) .nil)))) .nil)) .nil))) (sg:=Zv N) (c:=Tryz.f159.body.getD .skip) (rs:=Tryz.f159.results.toList) Tryz.func159 (by kernel_rfl) (by kernel_rfl) rfl rfl rfl rfl (λx=>by kernel_rfl)
def M.dy(N:Nat)(a0:List aA.den):Option (List aA.den):=
(M.aI N a0).bind λy1=>
(M.dm N a0).bind λy2=>
(if(!y2)then
aa y1
else
Loop (S:=Int×List aA.den) (X:=List aA.den) (λs3=>
(if(ah (s3.1<(a0.length:Int)))then
(((idx a0 s3.1).bind λx6=>
(M.eh N x6.1).bind λy7=>
(if(!y7)then
aa s3.2
else
(Loop (S:=Int) (X:=Int) (λs9=>
((if(ah (0<=s9))then
(if(ah (s9<(a0.length:Int)))then
(idx a0 s9).bind λnT=>
(if(ah (nT.1=51))then
(idx a0 s9).bind λqZ=>
aa (ah (s9<qZ.2))
else
aa ag)
else
aa ag)
else
aa ag):Option Bool).bind λsx=>
(if sx then
(idx a0 s9).bind λnK=>
aa (.inl nK.2)
else
aa (.inr s9))) N x6.2:Option Int).bind λj8=>
(idx s3.2 s3.1).bind λqE=>
aa (be s3.2 s3.1 (qE.1,j8))):Option (List aA.den)).bind λj5=>
aa j5:Option (List aA.den)).bind λj4=>
aa (.inl (aoz.wrap (s3.1+1),j4))
else
aa (.inr s3.2))) N (0,y1))
theorem aeC(N:Nat):Fo 160 (.i1 [.l (.slice aA)]) (.w1 67 aA) (M.dy N):=fz N [ck (SH N),ck (Wm N),ck (PA N)] (.o (.o (.o (.two (.o (.two (.loop ⟨[(15, .l aB)],[(32, .own 67 aA)],[],161⟩ (.o (.o (.meet ⟨[],[(32, .own 67 aA)],[],178⟩ (.meet ⟨[],[(32, .own 67 aA)],[],178⟩ (.o (.o (.o (.meet ⟨[(6, .l aB)],[],[],385⟩ (.two (.lp 6 385 (.two (.mb 50 385) .nil)) .nil) .nil)))) .nil) .nil)))) .nil)) .nil)))) Tryz.func160
def M.dD(N:Nat)(a0:aA.den):Option Bool:=
((M.dN N a0.1).bind λy2=>
(if(ah (y2<0))then
aa af
else
(if(!ah (a0.2=0))then
(M.gB N a0.1).bind λy3=>
aa (!y3)
else
aa ag)):Option Bool).bind λj1=>
(if j1 then
aa ag
else
((if(ah (a0.1=14))then
aa (ah (a0.1=14))
else
(if(ah (a0.1=15))then
aa (ah (a0.1=15))
else
aa (ah (a0.1=16)))):Option Bool).bind λj4=>
(if j4 then
((if(ah (0<=a0.2))then
aa (ah (a0.2<=5))
else
aa ag):Option Bool).bind λj5=>
aa j5
else
(if(ah (a0.1=34))then
((if(ah (0<=a0.2))then
aa (ah ((aoP a0.2 8)<=5))
else
aa ag):Option Bool).bind λj6=>
aa j6
else
(if(ah (a0.1=6))then
aa (ah (0<=a0.2))
else
aa af))))
theorem aeD(N:Nat):Fo 139 (.i1 [.g aA]) (.i1 [.l .bool]) (M.dD N):=fz N [ck (SF N),ck (Za N)] (.o (.two (.mb 17 32) (.two (.o (.two (.meet ⟨[(20, .l .bool)],[],[],64⟩ .nil (.two (.mb 2 64) (.o (.two (.mb 2 96) .nil)))) .nil)) .nil))) Tryz.func139
def M.fi(N:Nat)(a0:aA.den)(a1:cz.den):Option Bool:=
(if(ah (a0.1=7))then
((if(ah (0<=a0.2))then
aa (ah (a0.2<(a1.2.1.length:Int)))
else
aa ag):Option Bool).bind λj1=>
aa j1
else
(if(ah (a0.1=8))then
((if(ah (0<=a0.2))then
(if(ah (a0.2<(a1.2.2.1.length:Int)))then
(idx a1.2.2.1 a0.2).bind λx3=>
aa (!ah (x3.1=0))
else
aa ag)
else
aa ag):Option Bool).bind λj2=>
aa j2
else
(if(ah (a0.1=33))then
((if(ah (0<=a0.2))then
aa (ah (a0.2<(a1.2.2.2.2.2.length:Int)))
else
aa ag):Option Bool).bind λj4=>
aa j4
else
(if(ah (a0.1=34))then
aa (ah ((aoz.wrap (aoM a0.2 8))<(a1.2.2.2.2.2.length:Int)))
else
((if(ah (a0.1=36))then
aa (ah (a0.1=36))
else
(if(ah (a0.1=37))then
aa (ah (a0.1=37))
else
(if(ah (a0.1=38))then
aa (ah (a0.1=38))
else
aa (ah (a0.1=39))))):Option Bool).bind λj5=>
(if j5 then
((if(ah (0<=a0.2))then
aa (ah (a0.2<(a1.2.2.2.2.1.length:Int)))
else
aa ag):Option Bool).bind λj6=>
aa j6
else
aa af)))))
theorem aeE(N:Nat):Fo 140 (.i1 [.g aA, .g cz]) (.i1 [.l .bool]) (u2 (M.fi N)):=fz N [] (.o (.two (.o (.two (.o (.two (.mb 4 112) (.o (.two (.mb 4 144) (.o (.two (.mb 4 176) (.o (.o (.meet ⟨[(65, .l .bool)],[],[],208⟩ .nil (.two (.mb 4 208) .nil)))))))))) .nil)) .nil)) Tryz.func140
def M.ed(N:Nat)(a0:aC.den):Option Bool:=
((if(!ah (a0.1=6))then
aa (!ah (a0.2.1=0))
else
aa ag):Option Bool).bind λj1=>
(if j1 then
aa ag
else
(if(ah (a0.1=1))then
((if(ah (a0.2.2=0))then
aa af
else
aa (ah (a0.2.2=1))):Option Bool).bind λj2=>
aa j2
else
(if(ah (a0.1=2))then
((if(ah ((-1000000000000)<=a0.2.2))then
aa (ah (a0.2.2<=1000000000000))
else
aa ag):Option Bool).bind λj3=>
aa j3
else
(if(ah (a0.1=3))then
((if(ah ((-1000000000000000)<=a0.2.2))then
aa (ah (a0.2.2<=1000000000000000))
else
aa ag):Option Bool).bind λj4=>
aa j4
else
(if(ah (a0.1=4))then
((if(ah ((-1000000000)<=a0.2.2))then
aa (ah (a0.2.2<=1000000000))
else
aa ag):Option Bool).bind λj5=>
aa j5
else
(if(ah (a0.1=5))then
((if(ah (0<=a0.2.2))then
aa (ah (a0.2.2<=109572))
else
aa ag):Option Bool).bind λj6=>
aa j6
else
(if(ah (a0.1=6))then
((if(ah (0<=a0.2.1))then
(if(ah (a0.2.1<8))then
(if(ah (0<=a0.2.2))then
aa (ah (a0.2.2<16))
else
aa ag)
else
aa ag)
else
aa ag):Option Bool).bind λj7=>
aa j7
else
aa ag)))))))
theorem PB(N:Nat):Fo 144 (.i1 [.g aC]) (.i1 [.l .bool]) (M.ed N):=fz N [] (.o (.two (.mb 10 32) (.two (.o (.two (.o (.two (.mb 2 96) (.o (.two (.mb 2 128) (.o (.two (.mb 2 160) (.o (.two (.mb 2 192) (.o (.two (.mb 2 224) (.o (.two (.mb 2 256) .nil)))))))))))) .nil)) .nil))) Tryz.func144
def M.cV(N:Nat)(a0:List aC.den):Option Bool:=
Loop (S:=Int) (X:=Bool) (λs1=>
(if(ah (s1<(a0.length:Int)))then
(idx a0 s1).bind λx2=>
(M.ed N x2).bind λy3=>
(if(!y3)then
aa (.inr ag)
else
aa (.inl (aoz.wrap (s1+1))))
else
aa (.inr af))) N 0
theorem aeF(N:Nat):Fo 141 (.i1 [.l (.slice aC)]) (.i1 [.l .bool]) (M.cV N):=fz N [ck (PB N)] (.o (.two (.o (.two (.lp 7 64 .nil) .nil)) .nil)) Tryz.func141
def M.mX(N:Nat)(a0:aC.den)(a1:aA.den):Option Bool:=
((M.ed N a0).bind λy2=>
(if y2 then
(if(ah (a0.1=a1.1))then
aa (ah (a0.2.1=a1.2))
else
aa ag)
else
aa ag):Option Bool).bind λj1=>
aa j1
theorem Zw(N:Nat):Fo 206 (.i1 [.g aC, .g aA]) (.i1 [.l .bool]) (u2 (M.mX N)):=fz N [ck (PB N)] (.o (.mb 4 48)) Tryz.func206
def M.iD(N:Nat)(a0:Int):Option Bool:=
((if(ah (a0=2))then
aa af
else
(if(ah (a0=3))then
aa af
else
aa (ah (a0=4)))):Option Bool).bind λj1=>
aa j1
theorem Wn(N:Nat):Fo 254 (.i1 [.l aB]) (.i1 [.l .bool]) (M.iD N):=fz N [] (.o (.mb 2 16)) Tryz.func254
def M.gE(N:Nat)(a0:Int)(a1:aA.den):Option Bool:=
(if(!ah (a1.2=0))then
aa ag
else
(if(ah (a0=36))then
((if(ah (a1.1=2))then
aa af
else
aa (ah (a1.1=3))):Option Bool).bind λj1=>
aa j1
else
(if(ah (a0=39))then
((M.iD N a1.1).bind λy3=>
(if y3 then
aa af
else
aa (ah (a1.1=5))):Option Bool).bind λj2=>
aa j2
else
aa (ah (a1.1=1)))))
theorem aeG(N:Nat):Fo 207 (.i1 [.l aB, .g aA]) (.i1 [.l .bool]) (u2 (M.gE N)):=fz N [ck (Wn N)] (.o (.o (.two (.o (.two (.o (.two (.mb 4 128) (.o (.two (.mb 4 160) .nil)))) .nil)) .nil))) Tryz.func207
def M.dp(N:Nat)(a0:Int)(a1:Int):Option Bool:=
(if(ah (a0=10))then
(M.iD N a1).bind λy1=>
aa y1
else
(if(ah (a0=25))then
aa (ah (a1=1))
else
aa (ah (a1=5))))
theorem aeH(N:Nat):Fo 208 (.i1 [.l aB, .l aB]) (.i1 [.l .bool]) (u2 (M.dp N)):=fz N [ck (Wn N)] .nil Tryz.func208
def M.eL(N:Nat)(a0:aC.den)(a1:aC.den):Option Bool:=
((if(ah (a0.1=a1.1))then
aa (ah (a0.2.1=a1.2.1))
else
aa ag):Option Bool).bind λj1=>
aa j1
theorem Zx(N:Nat):Fo 210 (.i1 [.g aC, .g aC]) (.i1 [.l .bool]) (u2 (M.eL N)):=fz N [] (.o (.mb 4 48)) Tryz.func210
def M.aZ(N:Nat)(a0:Int)(a1:aC.den)(a2:aC.den):Option Bool:=
((if(ah (a0=11))then
aa (ah (a0=11))
else
aa (ah (a0=12))):Option Bool).bind λj1=>
(if j1 then
((M.eL N a1 a2).bind λy3=>
(if y3 then
(M.iD N a1.1).bind λy4=>
aa y4
else
aa ag):Option Bool).bind λj2=>
aa j2
else
(if(ah (a0=13))then
((if(ah (a2.1=2))then
(if(ah (a1.1=2))then
aa af
else
aa (ah (a1.1=3)))
else
aa ag):Option Bool).bind λj5=>
aa j5
else
(if(ah (a0=14))then
((if(ah (a2.1=4))then
(if(ah (a1.1=3))then
aa af
else
aa (ah (a1.1=4)))
else
aa ag):Option Bool).bind λj6=>
aa j6
else
(if(ah (a0=15))then
(if(ah (a2.1=2))then
((if(ah (a1.1=2))then
aa af
else
aa (ah (a1.1=3))):Option Bool).bind λj7=>
aa j7
else
((if(ah (a1.1=3))then
aa (ah (a2.1=3))
else
aa ag):Option Bool).bind λj8=>
aa j8)
else
(if(ah (a0=16))then
((if(ah (a1.1=3))then
aa (ah (a2.1=3))
else
aa ag):Option Bool).bind λj9=>
aa j9
else
((if(ah (a0=17))then
aa (ah (a0=17))
else
(if(ah (a0=18))then
aa (ah (a0=18))
else
(if(ah (a0=21))then
aa (ah (a0=21))
else
aa (ah (a0=22))))):Option Bool).bind λsx=>
(if sx then
((M.eL N a1 a2).bind λpJ=>
(if pJ then
(M.iD N a1.1).bind λpT=>
(if pT then
aa af
else
aa (ah (a1.1=5)))
else
aa ag):Option Bool).bind λsK=>
aa sK
else
((if(ah (a0=19))then
aa (ah (a0=19))
else
aa (ah (a0=20))):Option Bool).bind λAQ=>
(if AQ then
(M.eL N a1 a2).bind λlv=>
aa lv
else
((if(ah (a0=23))then
aa (ah (a0=23))
else
aa (ah (a0=24))):Option Bool).bind λAO=>
(if AO then
((if(ah (a1.1=1))then
aa (ah (a2.1=1))
else
aa ag):Option Bool).bind λRm=>
aa Rm
else
((if(ah (a0=27))then
aa (ah (a0=27))
else
aa (ah (a0=28))):Option Bool).bind λSJ=>
(if SJ then
((if(ah (a1.1=5))then
aa (ah (a2.1=2))
else
aa ag):Option Bool).bind λXQ=>
aa XQ
else
((if(ah (a1.1=5))then
aa (ah (a2.1=5))
else
aa ag):Option Bool).bind λUH=>
aa UH)))))))))
theorem aeI(N:Nat):Fo 209 (.i1 [.l aB, .g aC, .g aC]) (.i1 [.l .bool]) (u3 (M.aZ N)):=fz N [ck (Zx N),ck (Wn N)] (.o (.two (.o (.two (.meet ⟨[(8, .l .bool)],[],[],64⟩ .nil (.two (.mb 6 64) (.o (.two (.mb 6 96) (.o (.two (.mb 6 128) (.o (.two (.two (.o (.two (.mb 6 208) .nil)) (.mb 6 208)) (.o (.two (.mb 6 192) (.meet ⟨[(80, .l .bool)],[],[],192⟩ .nil (.two (.mb 6 192) (.meet ⟨[(98, .l .bool)],[],[],192⟩ .nil (.o (.meet ⟨[(104, .l .bool)],[],[],192⟩ .nil (.two (.mb 6 192) (.meet ⟨[(115, .l .bool)],[],[],192⟩ .nil (.two (.mb 6 192) .nil)))))))))))))))))) .nil)) (.mb 6 192))) Tryz.func209
def M.bT(N:Nat)(a0:aA.den)(a1:List aC.den)(a2:cz.den):Option Bool:=
(if(ah (a0.1=7))then
(idx a2.2.1 a0.2).bind λx1=>
(M.ed N x1).bind λy2=>
aa y2
else
(if(ah (a0.1=8))then
(idx a2.2.2.1 a0.2).bind λx3=>
(M.ed N x3).bind λy4=>
aa y4
else
(if(ah (a0.1=33))then
(idx a2.2.2.2.2.2 a0.2).bind λx5=>
((idx a1 0).bind λx7=>
(M.mX N x7 x5.2.1).bind λy8=>
(if y8 then
(if(ah (1<=x5.2.2.1.1))then
aa (ah (x5.2.2.1.1<=6))
else
aa ag)
else
aa ag):Option Bool).bind λj6=>
aa j6
else
(if(ah (a0.1=34))then
(idx a2.2.2.2.2.2 (aoz.wrap (aoM a0.2 8))).bind λx9=>
((idx a1 0).bind λnT=>
(if(ah (nT.1=3))then
(if(px aA x9.2.1 (3,0))then
aa (px aA x9.2.2.1 (4,0))
else
aa ag)
else
aa ag):Option Bool).bind λsx=>
aa sx
else
((if(ah (a0.1=36))then
aa (ah (a0.1=36))
else
(if(ah (a0.1=37))then
aa (ah (a0.1=37))
else
(if(ah (a0.1=38))then
aa (ah (a0.1=38))
else
aa (ah (a0.1=39))))):Option Bool).bind λsD=>
(if sD then
(idx a2.2.2.2.2.1 a0.2).bind λnK=>
(M.gE N a0.1 nK).bind λlz=>
aa lz
else
(if(ah ((a1.length:Int)=1))then
(idx a1 0).bind λub=>
(M.dp N a0.1 ub.1).bind λzN=>
aa zN
else
(if(ah ((a1.length:Int)=2))then
(idx a1 0).bind λyJ=>
(idx a1 1).bind λuN=>
(M.aZ N a0.1 yJ uN).bind λIw=>
aa Iw
else
(if(ah ((a1.length:Int)=3))then
((idx a1 0).bind λZy=>
(if(ah (Zy.1=1))then
(idx a1 1).bind λSG=>
(idx a1 2).bind λVZ=>
(M.eL N SG VZ).bind λy24=>
aa y24
else
aa ag):Option Bool).bind λUH=>
aa UH
else
aa af))))))))
theorem aeJ(N:Nat):Fo 142 (.i1 [.g aA, .l (.slice aC), .g cz]) (.i1 [.l .bool]) (u3 (M.bT N)):=fz N [ck (PB N),ck (Zw N),ck (aeG N),ck (aeH N),ck (aeI N),ck (Zx N)] (.o (.two (.o (.two (.o (.o (.o (.o (.o (.two (.o (.mb 6 304)) (.o (.two (.o (.mb 6 352)) (.mb 81 208))))))))) .nil)) (.two (.o (.two (.o (.o (.o (.o (.o (.two (.mb 6 336) .nil)))))) .nil)) .nil))) Tryz.func142
def M.gq(N:Nat)(a0:aA.den)(a1:cz.den):Option (aC.den×Int):=
(idx a1.2.2.2.2.1 a0.2).bind λx1=>
((if(ah (a0.1=37))then
aa (x1.1,(x1.2,1))
else
aa (x1.1,(x1.2,0))):Option (aC.den)).bind λj2=>
((if(ah (a0.1=39))then
aa (ah ((a1.2.2.2.1.length:Int)=0))
else
aa ag):Option Bool).bind λj3=>
(if j3 then
aa ((0,(0,0)),6)
else
bx (J:=aC.den) (R:=aC.den×Int) (Loop (S:=Int×aC.den) (X:=(aC.den)⊕(aC.den×Int)) (λs5=>
(if(ah (s5.1<(a1.2.2.2.1.length:Int)))then
(idx a1.2.2.2.1 s5.1).bind λx6=>
((if(ah ((x6.length:Int)<=a0.2))then
aa af
else
(idx x6 a0.2).bind λx8=>
aa (ah (x8.1=0))):Option Bool).bind λj7=>
(if j7 then
aa (.inr (.inr ((0,(0,0)),6)))
else
(idx x6 a0.2).bind λx9=>
(M.mX N x9 x1).bind λnI=>
(if(!nI)then
aa (.inr (.inr ((0,(0,0)),8)))
else
bx (J:=aC.den) (R:=(Int×aC.den)⊕((aC.den)⊕(aC.den×Int))) ((if(ah (a0.1=36))then
(M.ed N (s5.2.1,(s5.2.2.1,aoz.wrap (s5.2.2.2+x9.2.2)))).bind λpJ=>
(if(!pJ)then
aa (.inr (.inr (.inr ((0,(0,0)),3))))
else
aa (.inl (s5.2.1,(s5.2.2.1,aoz.wrap (s5.2.2.2+x9.2.2)))))
else
(if(ah (a0.1=37))then
aa (.inl (s5.2.1,(s5.2.2.1,if x9.2.2<s5.2.2.2 then x9.2.2 else s5.2.2.2)))
else
(if(ah (a0.1=38))then
aa (.inl (s5.2.1,(s5.2.2.1,if s5.2.2.2<x9.2.2 then x9.2.2 else s5.2.2.2)))
else
(if(ah (a0.1=39))then
((if(ah (s5.1=0))then
aa af
else
aa (ah (s5.2.2.2<x9.2.2))):Option Bool).bind λFK=>
(if FK then
aa (.inl x9)
else
aa (.inl s5.2))
else
aa (.inl s5.2)))))) λsK=>
aa (.inl (aoz.wrap (s5.1+1),sK))))
else
aa (.inr (.inl s5.2)))) N (0,j2)) λj4=>
aa (j4,0))
theorem aeK(N:Nat):Fo 211 (.i1 [.g aA, .g cz]) (.i1 [.g aC, .l aB]) (u2 (M.gq N)):=fz N [ck (PB N),ck (Zw N)] (.o (.o (.o (.meet ⟨[],[(272, .box 71 (.leaf aC))],[],305⟩ .nil (.two (.mb 34 305) (.join ⟨[],[(272, .box 71 (.leaf aC))],[],306⟩ (.o (.two (.loop ⟨[(39, .l aB)],[(272, .box 71 (.leaf aC))],[],370⟩ (.o (.o (.two (.two (.o (.two (.mb 57 466) (.o (.o (.o (.join ⟨[],[(272, .box 71 (.leaf aC))],[],675⟩ (.o (.o (.o (.o (.o (.o (.o (.two (.mb 109 802) .nil)))))))) .nil)))))) .nil) .nil)))) .nil)) .nil)))))) Tryz.func211
def M.gG(N:Nat)(a0:dM.den)(a1:Int)(a2:Int):Option (Bool×Int×Int):=
((M.bV N a0.1 a1).bind λy2=>
(if y2 then
(if(ah (a0.2.1<=a2))then
aa (ah (a2<a0.2.2.1))
else
aa ag)
else
aa ag):Option Bool).bind λj1=>
aa (j1,a1,a2)
theorem Wo(N:Nat):Fo 255 (.j1 [.g dM, .ptr 0 [] 0, .ptr 1 [] 0] [.box 3 (.leaf aB), .box 3 (.leaf aB)] 2) (.j1 [.l .bool] [.box 3 (.leaf aB), .box 3 (.leaf aB)] 4) (u3 (M.gG N)):=fz N [ck (XS N)] (.o (.mb 4 34)) Tryz.func255
def M.cT(N:Nat)(a0:List dM.den)(a1:Int)(a2:Int):Option (Int×Bool×Int×Int):=
Loop (S:=Int×Int×Int) (X:=Int×Bool×Int×Int) (λs1=>
(if(ah (s1.1<(a0.length:Int)))then
(idx a0 s1.1).bind λx2=>
(M.gG N x2 s1.2.1 s1.2.2).bind λy3=>
(if y3.1 then
aa (.inr (s1.1,af,y3.2.1,y3.2.2))
else
aa (.inl (aoz.wrap (s1.1+1),y3.2.1,y3.2.2)))
else
aa (.inr (0,ag,s1.2.1,s1.2.2)))) N (0,a1,a2)
theorem Wq(N:Nat):Fo 105 (.j1 [.l (.slice dM), .fn 255 [(0,[],0),(1,[],0)]] [.box 3 (.leaf aB), .box 3 (.leaf aB)] 2) (.j1 [.l aB, .l .bool] [.box 3 (.leaf aB), .box 3 (.leaf aB)] 4) (u3 (M.cT N)):=fz N [ck (Wo N)] (.o (.two (.o (.two (.loop ⟨[(10, .l aB)],[(0, .box 3 (.leaf aB)),(1, .box 3 (.leaf aB))],[],84⟩ .nil) .nil)) .nil)) Tryz.func105
def M.kS(N:Nat)(a0:aP.den)(a1:Int)(a2:Int):Option (Int×Bool):=
(M.cT N a0.2.2.2 a1 a2).bind λy1=>
aa (y1.1,y1.2.1)
theorem aeL(N:Nat):Fo 212 (.i1 [.g aP, .l aB, .l aB]) (.i1 [.l aB, .l .bool]) (u3 (M.kS N)):=fz N [ck (Wq N)] .nil Tryz.func212
def M.ei(N:Nat)(a0:Int)(a1:Int):Option (Int×Int):=
aa (aoD.wrap ((aoD.wrap ((aoD.wrap ((iA .u64 a0 32)*(iA .u64 a1 32)))+(iA .u64 (aoD.wrap ((aoD.wrap ((iA .u64 a0 32)*(fU .and .u64 a1 4294967295)))+(iA .u64 (aoD.wrap ((fU .and .u64 a0 4294967295)*(fU .and .u64 a1 4294967295))) 32))) 32)))+(iA .u64 (aoD.wrap ((fU .and .u64 (aoD.wrap ((aoD.wrap ((iA .u64 a0 32)*(fU .and .u64 a1 4294967295)))+(iA .u64 (aoD.wrap ((fU .and .u64 a0 4294967295)*(fU .and .u64 a1 4294967295))) 32))) 4294967295)+(aoD.wrap ((fU .and .u64 a0 4294967295)*(iA .u64 a1 32))))) 32)),aoD.wrap (a0*a1))
theorem SK(N:Nat):Fo 284 (.i1 [.l (.int .u64), .l (.int .u64)]) (.i1 [.l (.int .u64), .l (.int .u64)]) (u2 (M.ei N)):=fz N [] .nil Tryz.func284
def M.ma(N:Nat)(a0:Int):Option Int:=
((if(ah (4294967296<=a0))then
aa (iA .u64 a0 32,32)
else
aa (a0,0)):Option (Int×Int)).bind λj1=>
((if(ah (65536<=j1.1))then
aa (iA .u64 j1.1 16,aoz.wrap (j1.2+16))
else
aa (j1.1,j1.2)):Option (Int×Int)).bind λj2=>
((if(ah (256<=j2.1))then
aa (iA .u64 j2.1 8,aoz.wrap (j2.2+8))
else
aa (j2.1,j2.2)):Option (Int×Int)).bind λj3=>
(lj (⟨#[0,1,2,2,3,3,3,3,4,4,4,4,4,4,4,4,5,5,5,5,5,5,5,5,5,5,5,5,5,5,5,5,6,6,6,6,6,6,6,6,6,6,6,6,6,6,6,6,6,6,6,6,6,6,6,6,6,6,6,6,6,6,6,6,7,7,7,7,7,7,7,7,7,7,7,7,7,7,7,7,7,7,7,7,7,7,7,7,7,7,7,7,7,7,7,7,7,7,7,7,7,7,7,7,7,7,7,7,7,7,7,7,7,7,7,7,7,7,7,7,7,7,7,7,7,7,7,7,8,8,8,8,8,8,8,8,8,8,8,8,8,8,8,8,8,8,8,8,8,8,8,8,8,8,8,8,8,8,8,8,8,8,8,8,8,8,8,8,8,8,8,8,8,8,8,8,8,8,8,8,8,8,8,8,8,8,8,8,8,8,8,8,8,8,8,8,8,8,8,8,8,8,8,8,8,8,8,8,8,8,8,8,8,8,8,8,8,8,8,8,8,8,8,8,8,8,8,8,8,8,8,8,8,8,8,8,8,8,8,8,8,8,8,8,8,8,8,8,8,8,8,8,8,8,8,8]⟩:ByteArray) (IntKind.u8.wrap j3.1)).bind λx4=>
aa (aoz.wrap (j3.2+(aoz.wrap x4)))
theorem aeM(N:Nat):Fo 132 (.i1 [.l (.int .u64)]) (.i1 [.l aB]) (M.ma N):=fz N [] (.o (.meet ⟨[(0, .l (.int .u64)),(2, .l aB)],[],[],16⟩ .nil (.meet ⟨[(0, .l (.int .u64)),(2, .l aB)],[],[],16⟩ .nil (.meet ⟨[(0, .l (.int .u64)),(2, .l aB)],[],[],16⟩ .nil .nil)))) Tryz.func132
def M.fD(N:Nat)(a0:Int):Option Int:=
(M.ma N a0).bind λy1=>
aa (aoz.wrap (64-y1))
theorem aeN(N:Nat):Fo 314 (.i1 [.l (.int .u64)]) (.i1 [.l aB]) (M.fD N):=fz N [ck (aeM N)] .nil Tryz.func314
def M.dE(N:Nat)(a0:Int)(a1:Int)(a2:Int):Option (Int×Int):=
(if(ah (a2=0))then
ae
else
(if(ah (a2<=a0))then
ae
else
(if(ah (a0=0))then
(nG a1 a2).bind λx1=>
(sQ a1 a2).bind λx2=>
aa (aoD.wrap x1,x2)
else
(M.fD N a2).bind λy3=>
(Hw .u64 a2 (aoD.wrap y3)).bind λx4=>
(Hw .u64 a0 (aoD.wrap y3)).bind λx5=>
(Eu .u64 a1 (aoD.wrap (64-(aoD.wrap y3)))).bind λx6=>
(Hw .u64 a1 (aoD.wrap y3)).bind λx7=>
(nG (fU .or .u64 x5 x6) (iA .u64 x4 32)).bind λx8=>
((Loop (S:=Int×Int) (X:=Int) (λnL=>
((if(ah (4294967296<=nL.1))then
aa af
else
aa (ah ((aoD.wrap ((aoD.wrap (4294967296*nL.2))+(iA .u64 x7 32)))<(aoD.wrap (nL.1*(fU .and .u64 x4 4294967295)))))):Option Bool).bind λsD=>
(if sD then
(if(ah (4294967296<=(aoD.wrap (nL.2+(iA .u64 x4 32)))))then
aa (.inr (aoD.wrap (nL.1-1)))
else
aa (.inl (aoD.wrap (nL.1-1),aoD.wrap (nL.2+(iA .u64 x4 32)))))
else
aa (.inr nL.1))) N (aoD.wrap x8,aoD.wrap ((fU .or .u64 x5 x6)-(aoD.wrap ((aoD.wrap x8)*(iA .u64 x4 32))))):Option Int).bind λsx=>
aa sx:Option Int).bind λj9=>
(nG (aoD.wrap ((aoD.wrap ((aoD.wrap ((fU .or .u64 x5 x6)*4294967296))+(iA .u64 x7 32)))-(aoD.wrap (j9*x4)))) (iA .u64 x4 32)).bind λnK=>
((Loop (S:=Int×Int) (X:=Int) (λKc=>
((if(ah (4294967296<=Kc.2))then
aa af
else
aa (ah ((aoD.wrap ((aoD.wrap (4294967296*Kc.1))+(fU .and .u64 x7 4294967295)))<(aoD.wrap (Kc.2*(fU .and .u64 x4 4294967295)))))):Option Bool).bind λRm=>
(if Rm then
(if(ah (4294967296<=(aoD.wrap (Kc.1+(iA .u64 x4 32)))))then
aa (.inr (aoD.wrap (Kc.2-1)))
else
aa (.inl (aoD.wrap (Kc.1+(iA .u64 x4 32)),aoD.wrap (Kc.2-1))))
else
aa (.inr Kc.2))) N (aoD.wrap ((aoD.wrap ((aoD.wrap ((aoD.wrap ((fU .or .u64 x5 x6)*4294967296))+(iA .u64 x7 32)))-(aoD.wrap (j9*x4))))-(aoD.wrap ((aoD.wrap nK)*(iA .u64 x4 32)))),aoD.wrap nK):Option Int).bind λRk=>
aa Rk:Option Int).bind λAQ=>
(Eu .u64 (aoD.wrap ((aoD.wrap ((aoD.wrap ((aoD.wrap ((aoD.wrap ((aoD.wrap ((fU .or .u64 x5 x6)*4294967296))+(iA .u64 x7 32)))-(aoD.wrap (j9*x4))))*4294967296))+(fU .and .u64 x7 4294967295)))-(aoD.wrap (AQ*x4)))) (aoD.wrap y3)).bind λuN=>
aa (aoD.wrap ((aoD.wrap (j9*4294967296))+AQ),uN))))
theorem Wr(N:Nat):Fo 285 (.i1 [.l (.int .u64), .l (.int .u64), .l (.int .u64)]) (.i1 [.l (.int .u64), .l (.int .u64)]) (u3 (M.dE N)):=fz N [ck (aeN N)] (.o (.o (.o (.o (.o (.o (.o (.o (.o (.o (.o (.o (.o (.o (.meet ⟨[(15, .l (.int .u64))],[],[],832⟩ (.meet ⟨[(15, .l (.int .u64))],[],[],832⟩ (.loop ⟨[(15, .l (.int .u64)),(16, .l (.int .u64))],[],[],832⟩ (.two (.mb 78 832) .nil)) .nil) (.o (.o (.o (.meet ⟨[(18, .l (.int .u64))],[],[],1136⟩ (.meet ⟨[(18, .l (.int .u64))],[],[],1136⟩ (.loop ⟨[(16, .l (.int .u64)),(18, .l (.int .u64))],[],[],1136⟩ (.two (.mb 113 1136) .nil)) .nil) .nil))))))))))))))))))) Tryz.func285
def M.fu(N:Nat)(a0:Int)(a1:Int):Option (Int×Int×Bool):=
((if(ah (a1<0))then
aa (aoD.wrap (0-(aoD.wrap a1)))
else
aa (aoD.wrap a1)):Option Int).bind λj1=>
(M.ei N (aoD.wrap a0) j1).bind λy2=>
(if(ah (1000000<=y2.1))then
aa (0,0,ag)
else
(M.dE N y2.1 y2.2 1000000).bind λy3=>
(if(ah (1000000000000000<y3.1))then
aa (0,0,ag)
else
(if(ah (a1<0))then
aa (aoz.wrap (0-(aoz.wrap y3.1)),aoz.wrap (0-(aoz.wrap y3.2)),af)
else
aa (aoz.wrap y3.1,aoz.wrap y3.2,af))))
theorem aeO(N:Nat):Fo 256 (.i1 [.l aB, .l aB]) (.i1 [.l aB, .l aB, .l .bool]) (u2 (M.fu N)):=fz N [ck (SK N),ck (Wr N)] (.o (.o (.meet ⟨[(7, .l (.int .u64))],[],[],96⟩ .nil .nil))) Tryz.func256
def M.fT(N:Nat)(a0:Int):Option Bool:=
((if(ah (0<=a0))then
aa (ah (a0<=5))
else
aa ag):Option Bool).bind λj1=>
aa j1
theorem Ws(N:Nat):Fo 315 (.i1 [.l aB]) (.i1 [.l .bool]) (M.fT N):=fz N [] (.o (.mb 2 16)) Tryz.func315
def M.eP(N:Nat)(a0:Int)(a1:Int):Option Bool:=
((if(ah (a1<a0))then
aa af
else
aa (ah (a0<(aoz.wrap (0-a1))))):Option Bool).bind λj1=>
aa j1
theorem Wt(N:Nat):Fo 316 (.i1 [.l aB, .l aB]) (.i1 [.l .bool]) (u2 (M.eP N)):=fz N [] (.o (.mb 4 16)) Tryz.func316
def M.eo(N:Nat)(a0:Int):Option Int:=
(if(ah (a0<0))then
aa (aoD.wrap (0-(aoD.wrap a0)))
else
aa (aoD.wrap a0))
theorem Zz(N:Nat):Fo 317 (.i1 [.l aB]) (.i1 [.l (.int .u64)]) (M.eo N):=fz N [] .nil Tryz.func317
def M.dz(N:Nat)(a0:Int)(a1:Int)(a2:Int)(a3:Bool)(a4:Int):Option Int:=
(if(ah (a1=0))then
aa a0
else
((if(ah (a4=0))then
aa a3
else
(if(ah (a4=1))then
aa (!a3)
else
(if(ah (a4=3))then
aa af
else
(if(ah (a4=4))then
aa (ah ((aoD.wrap (a2-a1))<=a1))
else
(if(ah (a4=5))then
(if(ah ((aoD.wrap (a2-a1))<a1))then
aa af
else
(if(ah (a1=(aoD.wrap (a2-a1))))then
aa (ah ((aoP a0 2)=1))
else
aa ag))
else
aa ag))))):Option Bool).bind λj1=>
((if j1 then
aa (aoD.wrap (a0+1))
else
aa a0):Option Int).bind λj2=>
aa j2)
theorem ZA(N:Nat):Fo 318 (.i1 [.l (.int .u64), .l (.int .u64), .l (.int .u64), .l .bool, .l aB]) (.i1 [.l (.int .u64)]) (u5 (M.dz N)):=fz N [] (.o (.o (.o (.two (.o (.mb 11 80)) (.meet ⟨[(0, .l (.int .u64))],[],[],80⟩ .nil .nil))))) Tryz.func318
def M.iq(N:Nat)(a0:Int)(a1:Bool):Option Int:=
(if a1 then
aa (aoz.wrap (0-(aoz.wrap a0)))
else
aa (aoz.wrap a0))
theorem ZB(N:Nat):Fo 319 (.i1 [.l (.int .u64), .l .bool]) (.i1 [.l aB]) (u2 (M.iq N)):=fz N [] .nil Tryz.func319
def M.eQ(N:Nat)(a0:Int)(a1:Int)(a2:Int):Option (Int×Int):=
(M.fT N a2).bind λy1=>
(if(!y1)then
aa (0,1)
else
(if(ah (a1=0))then
aa (0,12)
else
((M.eP N a0 4611686018427387904).bind λy3=>
(if y3 then
aa af
else
(M.eP N a1 4611686018427387904).bind λy4=>
aa y4):Option Bool).bind λj2=>
(if j2 then
aa (0,3)
else
(M.eo N a0).bind λy5=>
(M.eo N a1).bind λy6=>
(nG y5 y6).bind λx7=>
(sQ y5 y6).bind λx8=>
(M.dz N (aoD.wrap x7) x8 y6 (!ah ((ah (a0<0))=(ah (a1<0)))) a2).bind λy9=>
(M.iq N y9 (!ah ((ah (a0<0))=(ah (a1<0))))).bind λnI=>
aa (nI,0))))
theorem SL(N:Nat):Fo 286 (.i1 [.l aB, .l aB, .l aB]) (.i1 [.l aB, .l aB]) (u3 (M.eQ N)):=fz N [ck (Ws N),ck (Wt N),ck (Zz N),ck (ZA N),ck (ZB N)] (.o (.o (.o (.two (.mb 22 112) .nil)))) Tryz.func286
def M.gH(N:Nat)(a0:Int)(a1:Int)(a2:Int):Option (Int×Int):=
((if(ah ((aoz.wrap (a0+(aoz.wrap (aoM a1 1000000))))<(-2000000000000000)))then
aa af
else
aa (ah (2000000000000000<(aoz.wrap (a0+(aoz.wrap (aoM a1 1000000))))))):Option Bool).bind λj1=>
(if j1 then
aa (0,3)
else
((if(ah (1<(aoz.wrap (a0+(aoz.wrap (aoM a1 1000000))))))then
aa (aoz.wrap ((aoP (aoz.wrap (a0+(aoz.wrap (aoM a1 1000000)))) 2)+2))
else
(if(ah ((aoz.wrap (a0+(aoz.wrap (aoM a1 1000000))))<(-1)))then
aa (aoz.wrap ((aoP (aoz.wrap (a0+(aoz.wrap (aoM a1 1000000)))) 2)-2))
else
aa (aoP (aoz.wrap (a0+(aoz.wrap (aoM a1 1000000)))) 2))):Option Int).bind λj2=>
(M.eQ N (aoz.wrap ((aoz.wrap (j2*1000000))+(aoP a1 1000000))) 1000000 a2).bind λy3=>
(if(!ah (y3.2=0))then
aa (0,y3.2)
else
((if(ah ((aoz.wrap ((aoz.wrap ((aoz.wrap (a0+(aoz.wrap (aoM a1 1000000))))-j2))+y3.1))<(-1000000000000000)))then
aa af
else
aa (ah (1000000000000000<(aoz.wrap ((aoz.wrap ((aoz.wrap (a0+(aoz.wrap (aoM a1 1000000))))-j2))+y3.1))))):Option Bool).bind λj4=>
(if j4 then
aa (0,3)
else
aa (aoz.wrap ((aoz.wrap ((aoz.wrap (a0+(aoz.wrap (aoM a1 1000000))))-j2))+y3.1),0))))
theorem aeP(N:Nat):Fo 257 (.i1 [.l aB, .l aB, .l aB]) (.i1 [.l aB, .l aB]) (u3 (M.gH N)):=fz N [ck (SL N)] (.o (.o (.o (.two (.mb 23 160) (.o (.two (.meet ⟨[(8, .l aB)],[],[],208⟩ .nil .nil) (.o (.o (.o (.two (.mb 58 512) .nil)))))))))) Tryz.func257
def M.gI(N:Nat)(a0:aP.den)(a1:Int)(a2:Int)(a3:Int):Option (Int×Int):=
((if(ah (a3<0))then
aa af
else
aa (ah (5<a3))):Option Bool).bind λj1=>
(if j1 then
aa (0,1)
else
((if(!(px aA a0.2.1 (3,0)))then
aa af
else
aa (!(px aA a0.2.2.1 (4,0)))):Option Bool).bind λj2=>
(if j2 then
aa (0,8)
else
((if(ah (a2<(-1000000000000000)))then
aa af
else
aa (ah (1000000000000000<a2))):Option Bool).bind λj3=>
(if j3 then
aa (0,3)
else
bx (J:=Int×Int) (R:=Int×Int) (Loop (S:=Int×Int×Int) (X:=(Int×Int)⊕(Int×Int)) (λs5=>
(if(ah (s5.2.2<(a0.2.2.2.length:Int)))then
bx (J:=Int×Int) (R:=(Int×Int×Int)⊕((Int×Int)⊕(Int×Int))) ((idx a0.2.2.2 s5.2.2).bind λx7=>
((M.bV N x7.1 a1).bind λy9=>
(if(!y9)then
aa af
else
aa (ah ((if a2<x7.2.2.1 then a2 else x7.2.2.1)<=(if x7.2.1<0 then 0 else x7.2.1)))):Option Bool).bind λj8=>
(if j8 then
aa (.inl (s5.1,s5.2.1))
else
(M.fu N (aoz.wrap ((if a2<x7.2.2.1 then a2 else x7.2.2.1)-(if x7.2.1<0 then 0 else x7.2.1))) x7.2.2.2).bind λnI=>
(if(!nI.2.2)then
aa (.inr (.inr (.inr (0,3))))
else
aa (.inl (aoz.wrap (s5.1+nI.1),aoz.wrap (s5.2.1+nI.2.1)))))) λj6=>
aa (.inl (j6.1,j6.2,aoz.wrap (s5.2.2+1)))
else
aa (.inr (.inl (s5.1,s5.2.1))))) N (0,0,0)) λj4=>
(M.gH N j4.1 j4.2 a3).bind λqY=>
aa (qY.1,qY.2))))
theorem aeQ(N:Nat):Fo 213 (.i1 [.g aP, .l aB, .l aB, .l aB]) (.i1 [.l aB, .l aB]) (u4 (M.gI N)):=fz N [ck (XS N),ck (aeO N),ck (aeP N)] (.o (.two (.mb 24 48) (.two (.mb 34 48) (.two (.mb 40 48) (.o (.join ⟨[(10, .l aB),(11, .l aB)],[],[],80⟩ (.o (.two (.loop ⟨[(10, .l aB),(11, .l aB),(44, .l aB)],[],[],144⟩ (.o (.o (.two (.join ⟨[(10, .l aB),(11, .l aB)],[],[],160⟩ (.o (.o (.two (.mb 64 368) .nil))) .nil) .nil)))) .nil)) .nil)))))) Tryz.func213
def M.eR(N:Nat)(a0:Bool):Option (aC.den):=
(if a0 then
aa (1,(0,1))
else
aa (1,(0,0)))
theorem ZC(N:Nat):Fo 258 (.i1 [.l .bool]) (.i1 [.g aC]) (M.eR N):=fz N [] .nil Tryz.func258
def M.jq(N:Nat)(a0:Int):Option Bool:=
((if(ah (0<=a0))then
aa (ah (a0<=109572))
else
aa ag):Option Bool).bind λj1=>
aa j1
theorem Wu(N:Nat):Fo 287 (.i1 [.l aB]) (.i1 [.l .bool]) (M.jq N):=fz N [] (.o (.mb 2 16)) Tryz.func287
def M.kA(N:Nat)(a0:Int):Option Int:=
aa (aoz.wrap ((aoz.wrap ((aoz.wrap (aoM a0 4))-(aoz.wrap (aoM a0 100))))+(aoz.wrap (aoM a0 400))))
theorem aeR(N:Nat):Fo 320 (.i1 [.l aB]) (.i1 [.l aB]) (M.kA N):=fz N [] .nil Tryz.func320
def M.eT(N:Nat)(a0:Int):Option Int:=
(M.kA N (aoz.wrap (a0-1))).bind λy1=>
(M.kA N 1899).bind λy2=>
aa (aoz.wrap ((aoz.wrap ((aoz.wrap ((aoz.wrap (a0-1900))*365))+y1))-y2))
theorem ZD(N:Nat):Fo 288 (.i1 [.l aB]) (.i1 [.l aB]) (M.eT N):=fz N [ck (aeR N)] .nil Tryz.func288
def M.oH(N:Nat)(a0:Int):Option Bool:=
((if(ah ((aoP a0 4)=0))then
(if(!ah ((aoP a0 100)=0))then
aa af
else
aa (ah ((aoP a0 400)=0)))
else
aa ag):Option Bool).bind λj1=>
aa j1
theorem aeS(N:Nat):Fo 321 (.i1 [.l aB]) (.i1 [.l .bool]) (M.oH N):=fz N [] (.o (.mb 2 16)) Tryz.func321
def M.dJ(N:Nat)(a0:Int)(a1:Int):Option Int:=
((if(ah (a1<1))then
aa af
else
aa (ah (12<a1))):Option Bool).bind λj1=>
(if j1 then
aa 0
else
((if(ah (a1=2))then
(M.oH N a0).bind λy3=>
aa y3
else
aa ag):Option Bool).bind λj2=>
(if j2 then
aa 29
else
(idx ([31,28,31,30,31,30,31,31,30,31,30,31]:List Int) (aoz.wrap (a1-1))).bind λx4=>
aa x4))
theorem Wv(N:Nat):Fo 289 (.i1 [.l aB, .l aB]) (.i1 [.l aB]) (u2 (M.dJ N)):=fz N [ck (aeS N)] (.o (.two (.mb 10 16) (.two (.mb 16 16) .nil))) Tryz.func289
def M.eU(N:Nat)(a0:Int):Option (Int×Int×Int):=
(M.jq N a0).bind λy1=>
(if(!y1)then
aa (0,0,0)
else
(Loop (S:=Int) (X:=Int) (λs3=>
(M.eT N (aoz.wrap (s3+1))).bind λy4=>
(if(ah (y4<=a0))then
aa (.inl (aoz.wrap (s3+1)))
else
aa (.inr s3))) N (aoz.wrap (1900+(aoz.wrap (aoM a0 366)))):Option Int).bind λj2=>
(M.eT N j2).bind λy5=>
Loop (S:=Int×Int) (X:=Int×Int×Int) (λs6=>
(if(ah (s6.2<12))then
(M.dJ N j2 (aoz.wrap (s6.2+1))).bind λy7=>
(if(ah (s6.1<y7))then
aa (.inr (j2,aoz.wrap (s6.2+1),aoz.wrap (s6.1+1)))
else
aa (.inl (aoz.wrap (s6.1-y7),aoz.wrap (s6.2+1))))
else
aa (.inr (0,0,0)))) N (aoz.wrap (a0-y5),0))
theorem Ww(N:Nat):Fo 259 (.i1 [.l aB]) (.i1 [.l aB, .l aB, .l aB]) (M.eU N):=fz N [ck (Wu N),ck (ZD N),ck (Wv N)] (.o (.o (.o (.meet ⟨[(5, .l aB)],[],[],160⟩ (.two (.lp 5 160 .nil) .nil) (.o (.two (.o (.two (.loop ⟨[(6, .l aB),(26, .l aB)],[],[],256⟩ .nil) .nil)) .nil)))))) Tryz.func259
def M.jr(N:Nat)(a0:Int)(a1:aC.den):Option (aC.den):=
(if(ah (a0=10))then
aa (a1.1,(0,aoz.wrap (0-a1.2.2)))
else
(if(ah (a0=25))then
(M.eR N (ah (a1.2.2=0))).bind λy1=>
aa y1
else
(M.eU N a1.2.2).bind λy2=>
(if(ah (a0=31))then
aa (2,(0,y2.1))
else
aa (2,(0,y2.2.1)))))
theorem aeT(N:Nat):Fo 214 (.i1 [.l aB, .g aC]) (.i1 [.g aC]) (u2 (M.jr N)):=fz N [ck (ZC N),ck (Ww N)] .nil Tryz.func214
def M.kT(N:Nat)(a0:Int)(a1:Int):Option (Int×Int):=
(M.ei N (aoD.wrap (if a0<(aoz.wrap (0-a0))then(aoz.wrap (0-a0))else a0)) (aoD.wrap (if a1<(aoz.wrap (0-a1))then(aoz.wrap (0-a1))else a1))).bind λy1=>
((if(!ah (y1.1=0))then
aa af
else
aa (ah (1000000000000000<y1.2))):Option Bool).bind λj2=>
(if j2 then
aa (0,3)
else
(if(!ah ((ah (a0<0))=(ah (a1<0))))then
aa (aoz.wrap (0-(aoz.wrap y1.2)),0)
else
aa (aoz.wrap y1.2,0)))
theorem aeU(N:Nat):Fo 290 (.i1 [.l aB, .l aB]) (.i1 [.l aB, .l aB]) (u2 (M.kT N)):=fz N [ck (SK N)] (.o (.o (.two (.mb 27 288) .nil))) Tryz.func290
def M.mZ(N:Nat)(a0:Int)(a1:Int)(a2:Int)(a3:Int):Option (Int×Int):=
(M.fT N a3).bind λy1=>
(if(!y1)then
aa (0,1)
else
(if(ah (a2=0))then
aa (0,12)
else
((M.eP N a0 1000000000000000).bind λy3=>
(if y3 then
aa af
else
(M.eP N a1 1000000000).bind λy4=>
(if y4 then
aa af
else
(M.eP N a2 1000000000).bind λy5=>
aa y5)):Option Bool).bind λj2=>
(if j2 then
aa (0,3)
else
(M.eo N a0).bind λy6=>
(M.eo N a1).bind λy7=>
(M.ei N y6 y7).bind λy8=>
(M.eo N a2).bind λy9=>
(if(ah (y9<=y8.1))then
aa (0,3)
else
(M.dE N y8.1 y8.2 y9).bind λnI=>
(if(ah (1000000000000000<nI.1))then
aa (0,3)
else
(M.dz N nI.1 nI.2 y9 (!ah ((!ah ((ah (a0<0))=(ah (a1<0))))=(ah (a2<0)))) a3).bind λqY=>
(if(ah (1000000000000000<qY))then
aa (0,3)
else
(M.iq N qY (!ah ((!ah ((ah (a0<0))=(ah (a1<0))))=(ah (a2<0))))).bind λpJ=>
aa (pJ,0)))))))
theorem aeV(N:Nat):Fo 322 (.i1 [.l aB, .l aB, .l aB, .l aB]) (.i1 [.l aB, .l aB]) (u4 (M.mZ N)):=fz N [ck (SK N),ck (Wr N),ck (Ws N),ck (Wt N),ck (Zz N),ck (ZA N),ck (ZB N)] (.o (.o (.o (.two (.mb 30 112) .nil)))) Tryz.func322
def M.nX(N:Nat)(a0:Int)(a1:Int)(a2:Int):Option (Int×Int):=
(M.mZ N a0 a1 1000000 a2).bind λy1=>
aa (y1.1,y1.2)
theorem aeW(N:Nat):Fo 291 (.i1 [.l aB, .l aB, .l aB]) (.i1 [.l aB, .l aB]) (u3 (M.nX N)):=fz N [ck (aeV N)] .nil Tryz.func291
def M.kB(N:Nat)(a0:Int):Option Bool:=
((if(ah (0<=a0))then
aa (ah (a0<=5))
else
aa ag):Option Bool).bind λj1=>
aa j1
theorem ZE(N:Nat):Fo 323 (.i1 [.l aB]) (.i1 [.l .bool]) (M.kB N):=fz N [] (.o (.mb 2 16)) Tryz.func323
def M.jh(N:Nat)(a0:Int)(a1:Int):Option Bool:=
((if(ah (a1<a0))then
aa af
else
aa (ah (a0<(aoz.wrap (0-a1))))):Option Bool).bind λj1=>
aa j1
theorem ZF(N:Nat):Fo 324 (.i1 [.l aB, .l aB]) (.i1 [.l .bool]) (u2 (M.jh N)):=fz N [] (.o (.mb 4 16)) Tryz.func324
def M.m5(N:Nat)(a0:Int)(a1:Int)(a2:Int):Option (Int×Int):=
(M.kB N a2).bind λy1=>
(if(!y1)then
aa (0,1)
else
((M.jh N a0 1000000000).bind λy3=>
(if y3 then
aa af
else
(M.jh N a1 1000000000).bind λy4=>
aa y4):Option Bool).bind λj2=>
(if j2 then
aa (0,3)
else
(M.eQ N (aoz.wrap (a0*a1)) 1000000 a2).bind λy5=>
(if(!ah (y5.2=0))then
aa (0,y5.2)
else
(M.jh N y5.1 1000000000).bind λy6=>
(if y6 then
aa (0,3)
else
aa (y5.1,0)))))
theorem aeX(N:Nat):Fo 292 (.i1 [.l aB, .l aB, .l aB]) (.i1 [.l aB, .l aB]) (u3 (M.m5 N)):=fz N [ck (SL N),ck (ZE N),ck (ZF N)] (.o (.o (.two (.mb 18 80) .nil))) Tryz.func292
def M.fE(N:Nat)(a0:Int)(a1:Int)(a2:Int):Option (Int×Int):=
(M.fT N a2).bind λy1=>
(if(!y1)then
aa (0,1)
else
(if(ah (a1<1))then
aa (0,12)
else
((M.eP N a0 1000000000000000).bind λy3=>
(if y3 then
aa af
else
aa (ah (1000000000000000<a1))):Option Bool).bind λj2=>
(if j2 then
aa (0,3)
else
(M.eQ N a0 a1 a2).bind λy4=>
(if(!ah (y4.2=0))then
aa (0,y4.2)
else
(M.eP N (aoz.wrap (y4.1*a1)) 1000000000000000).bind λy5=>
(if y5 then
aa (0,3)
else
aa (aoz.wrap (y4.1*a1),0))))))
theorem aeY(N:Nat):Fo 293 (.i1 [.l aB, .l aB, .l aB]) (.i1 [.l aB, .l aB]) (u3 (M.fE N)):=fz N [ck (SL N),ck (Ws N),ck (Wt N)] (.o (.o (.o (.two (.mb 20 112) .nil)))) Tryz.func293
def M.jH(N:Nat)(a0:Int)(a1:Int)(a2:Int)(a3:Bool)(a4:Int):Option Bool:=
(if(ah (a1=0))then
aa ag
else
(if(ah (a4=0))then
aa a3
else
(if(ah (a4=1))then
aa (!a3)
else
(if(ah (a4=3))then
aa af
else
(if(ah (a4=4))then
aa (ah ((aoD.wrap (a2-a1))<=a1))
else
(if(ah (a4=5))then
((if(ah ((aoD.wrap (a2-a1))<a1))then
aa af
else
(if(ah (a1=(aoD.wrap (a2-a1))))then
aa (ah ((aoP a0 2)=1))
else
aa ag)):Option Bool).bind λj1=>
aa j1
else
aa ag))))))
theorem aeZ(N:Nat):Fo 325 (.i1 [.l (.int .u64), .l (.int .u64), .l (.int .u64), .l .bool, .l aB]) (.i1 [.l .bool]) (u5 (M.jH N)):=fz N [] (.o (.o (.two (.o (.two (.o (.o (.o (.o (.o (.o (.o (.o (.o (.two (.mb 10 224) .nil)))))))))) .nil)) .nil))) Tryz.func325
def M.iT(N:Nat)(a0:Int)(a1:Int)(a2:Int):Option (Int×Int):=
(M.kB N a2).bind λy1=>
(if(!y1)then
aa (0,1)
else
(if(ah (a1=0))then
aa (0,12)
else
((M.jh N a0 1000000000000000).bind λy3=>
(if y3 then
aa af
else
(M.jh N a1 1000000000000000).bind λy4=>
aa y4):Option Bool).bind λj2=>
(if j2 then
aa (0,3)
else
(M.ei N (aoD.wrap (if a0<(aoz.wrap (0-a0))then(aoz.wrap (0-a0))else a0)) 1000000).bind λy5=>
(if(ah ((aoD.wrap (if a1<(aoz.wrap (0-a1))then(aoz.wrap (0-a1))else a1))<=y5.1))then
aa (0,3)
else
(M.dE N y5.1 y5.2 (aoD.wrap (if a1<(aoz.wrap (0-a1))then(aoz.wrap (0-a1))else a1))).bind λy6=>
(if(ah (1000000000<y6.1))then
aa (0,3)
else
((M.jH N y6.1 y6.2 (aoD.wrap (if a1<(aoz.wrap (0-a1))then(aoz.wrap (0-a1))else a1)) (!ah ((ah (a0<0))=(ah (a1<0)))) a2).bind λy8=>
(if y8 then
aa (aoz.wrap ((aoz.wrap y6.1)+1))
else
aa (aoz.wrap y6.1)):Option Int).bind λj7=>
(if(ah (1000000000<j7))then
aa (0,3)
else
((if(!ah ((ah (a0<0))=(ah (a1<0))))then
aa (aoz.wrap (0-j7))
else
aa j7):Option Int).bind λj9=>
aa (j9,0)))))))
theorem ae0(N:Nat):Fo 294 (.i1 [.l aB, .l aB, .l aB]) (.i1 [.l aB, .l aB]) (u3 (M.iT N)):=fz N [ck (SK N),ck (Wr N),ck (ZE N),ck (ZF N),ck (aeZ N)] (.o (.o (.o (.two (.mb 25 112) (.o (.o (.o (.o (.o (.o (.o (.meet ⟨[(14, .l aB)],[],[],752⟩ .nil (.o (.meet ⟨[(14, .l aB)],[],[],784⟩ .nil .nil)))))))))))))) Tryz.func294
def M.ji(N:Nat)(a0:aA.den)(a1:aC.den)(a2:aC.den):Option (aC.den×Int):=
((if(ah (a0.1=13))then
(M.kT N a1.2.2 a2.2.2).bind λy2=>
aa (y2.2,(a1.1,(0,y2.1)))
else
((if(ah (a0.1=14))then
aa (ah (a1.1=3))
else
aa ag):Option Bool).bind λj3=>
(if j3 then
(M.nX N a1.2.2 a2.2.2 a0.2).bind λy4=>
aa (y4.2,(a1.1,(0,y4.1)))
else
(if(ah (a0.1=14))then
(M.m5 N a1.2.2 a2.2.2 a0.2).bind λy5=>
aa (y5.2,(a1.1,(0,y5.1)))
else
(if(ah (a0.1=16))then
(M.fE N a1.2.2 a2.2.2 a0.2).bind λy6=>
aa (y6.2,(a1.1,(0,y6.1)))
else
(if(ah (a2.1=2))then
(M.eQ N a1.2.2 a2.2.2 a0.2).bind λy7=>
aa (y7.2,(a1.1,(0,y7.1)))
else
(M.iT N a1.2.2 a2.2.2 a0.2).bind λy8=>
aa (y8.2,(4,(0,y8.1)))))))):Option (Int×aC.den)).bind λj1=>
aa (j1.2,j1.1)
theorem ae1(N:Nat):Fo 260 (.i1 [.g aA, .g aC, .g aC]) (.i1 [.g aC, .l aB]) (u3 (M.ji N)):=fz N [ck (SL N),ck (aeU N),ck (aeW N),ck (aeX N),ck (aeY N),ck (ae0 N)] (.o (.o (.two (.meet ⟨[(9, .l aB)],[(128, .box 71 (.leaf aC))],[],177⟩ (.o (.o (.mb 38 240))) .nil) .nil))) Tryz.func260
def M.kU(N:Nat)(a0:Int)(a1:Int)(a2:Int):Option (Int×Int):=
((if(ah (a0<1900))then
aa af
else
(if(ah (2199<a0))then
aa af
else
(if(ah (a1<1))then
aa af
else
(if(ah (12<a1))then
aa af
else
(if(ah (a2<1))then
aa af
else
(M.dJ N a0 a1).bind λy2=>
aa (ah (y2<a2))))))):Option Bool).bind λj1=>
(if j1 then
aa (0,3)
else
(M.eT N a0).bind λy3=>
(Loop (S:=Int×Int) (X:=Int) (λs5=>
(if(ah (s5.2<(aoz.wrap (a1-1))))then
(M.dJ N a0 (aoz.wrap (s5.2+1))).bind λy6=>
aa (.inl (aoz.wrap (s5.1+y6),aoz.wrap (s5.2+1)))
else
aa (.inr s5.1))) N (y3,0):Option Int).bind λj4=>
aa (aoz.wrap ((aoz.wrap (j4+a2))-1),0))
theorem ae2(N:Nat):Fo 295 (.i1 [.l aB, .l aB, .l aB]) (.i1 [.l aB, .l aB]) (u3 (M.kU N)):=fz N [ck (ZD N),ck (Wv N)] (.o (.two (.mb 34 32) (.o (.meet ⟨[(8, .l aB)],[],[],80⟩ (.o (.two (.loop ⟨[(8, .l aB),(39, .l aB)],[],[],128⟩ .nil) .nil)) .nil)))) Tryz.func295
def M.dA(N:Nat)(a0:Int)(a1:Int):Option (Int×Int):=
((M.jq N a0).bind λy2=>
(if(!y2)then
aa af
else
(if(ah (a1<(-3600)))then
aa af
else
aa (ah (3600<a1)))):Option Bool).bind λj1=>
(if j1 then
aa (0,3)
else
(M.eU N a0).bind λy3=>
((if(ah ((aoz.wrap ((aoz.wrap ((aoz.wrap ((aoz.wrap ((aoz.wrap (y3.1-1900))*12))+y3.2.1))-1))+a1))<0))then
aa af
else
aa (ah (3599<(aoz.wrap ((aoz.wrap ((aoz.wrap ((aoz.wrap ((aoz.wrap (y3.1-1900))*12))+y3.2.1))-1))+a1))))):Option Bool).bind λj4=>
(if j4 then
aa (0,3)
else
(M.dJ N (aoz.wrap (1900+(aoz.wrap (aoM (aoz.wrap ((aoz.wrap ((aoz.wrap ((aoz.wrap ((aoz.wrap (y3.1-1900))*12))+y3.2.1))-1))+a1)) 12)))) (aoz.wrap ((aoP (aoz.wrap ((aoz.wrap ((aoz.wrap ((aoz.wrap ((aoz.wrap (y3.1-1900))*12))+y3.2.1))-1))+a1)) 12)+1))).bind λy5=>
(M.kU N (aoz.wrap (1900+(aoz.wrap (aoM (aoz.wrap ((aoz.wrap ((aoz.wrap ((aoz.wrap ((aoz.wrap (y3.1-1900))*12))+y3.2.1))-1))+a1)) 12)))) (aoz.wrap ((aoP (aoz.wrap ((aoz.wrap ((aoz.wrap ((aoz.wrap ((aoz.wrap (y3.1-1900))*12))+y3.2.1))-1))+a1)) 12)+1)) (if y5<y3.2.2 then y5 else y3.2.2)).bind λy6=>
aa (y6.1,y6.2)))
theorem ZG(N:Nat):Fo 261 (.i1 [.l aB, .l aB]) (.i1 [.l aB, .l aB]) (u2 (M.dA N)):=fz N [ck (Ww N),ck (Wu N),ck (Wv N),ck (ae2 N)] (.o (.two (.mb 20 32) (.o (.o (.two (.mb 40 320) .nil))))) Tryz.func261
def M.eW(N:Nat)(a0:Int)(a1:Int):Option Int:=
((M.jq N a0).bind λy2=>
(if(!y2)then
aa af
else
(M.jq N a1).bind λy3=>
(if(!y3)then
aa af
else
aa (ah (a1<a0)))):Option Bool).bind λj1=>
(if j1 then
aa 0
else
(M.eU N a0).bind λy4=>
(M.eU N a1).bind λy5=>
((M.dA N a0 (aoz.wrap (12*(aoz.wrap (y5.1-y4.1))))).bind λy7=>
((if(!ah (y7.2=0))then
aa af
else
aa (ah (a1<y7.1))):Option Bool).bind λj8=>
(if j8 then
aa (aoz.wrap ((aoz.wrap (y5.1-y4.1))-1))
else
aa (aoz.wrap (y5.1-y4.1))):Option Int).bind λj6=>
aa (if j6<0 then 0 else j6))
theorem ae3(N:Nat):Fo 262 (.i1 [.l aB, .l aB]) (.i1 [.l aB]) (u2 (M.eW N)):=fz N [ck (Ww N),ck (ZG N),ck (Wu N)] (.o (.two (.mb 26 16) (.o (.o (.o (.meet ⟨[(11, .l aB)],[],[],368⟩ (.o (.mb 55 512)) .nil)))))) Tryz.func262
end
end
end Go.Proofs.YtfjgcenlllgonaaGreatDoor
