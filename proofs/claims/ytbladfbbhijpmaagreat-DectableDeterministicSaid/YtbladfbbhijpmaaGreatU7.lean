/- Joined texts: SL Model. -/
import Derived.Test.YtbladfbbhijpmaaGreatU6
import Derived.Test.YtbladfbbhijpmaaGreatProg
import Derived.Test.YtbladfbbhijpmaaGreatU5
open _root_.Bool renaming false->aaM,true->aaL
open _root_.Option renaming none->aaK
open _root_.Decidable renaming decide->aaN
open _root_.ByteArray renaming empty->aaB
open _root_.Int renaming tdiv->Z6,tmod->aaq
open _root_.Go.IntKind renaming i64->YW,u64->Y2
open _root_.List renaming forall_mem_cons->aap
open _root_.Nat renaming beq->YZ
namespace Go.Proofs.YtbladfbbhijpmaaGreat
open Go Go.RowKit
set_option maxRecDepth 100000
set_option linter.unusedSimpArgs false
set_option linter.unusedVariables false
set_option linter.defProp false
section
open Go Go.RowKit Go.Shelf Go.Lib Go.Sort
theorem AI{g:Int->Int->Int->Int->Option Int}(Re:gK Tryz.prog 106 ⟨⟨[(0, .val aaL (.leaf jM)),(1, .val aaL (.leaf jM))],[],[],0⟩,⟨[(0, .val aaM (.leaf ae))],[],[],0⟩,λ(x:jM.den×jM.den)=>g x.1.1 x.1.2 x.2.1 x.2.2⟩):
 gK Tryz.prog 105 ⟨⟨[(0, .val aaM (.own 0)),(1, .fn 106 [])],[(0, .own 58 jM)],[],1⟩,⟨[],[(0, .own 58 jM)],[],2⟩,λx=>uJ g x⟩:=by
 have eg:∀args w,(callFunc 106 args).run Tryz.prog w= .ok (.enter 106 args) w:=enters_of Tryz.func106 (by kernel_rfl) rfl;refine GO ⟨_,Tryz.func105,by kernel_rfl,by kernel_rfl⟩ Re (λcf hO kr off cap d w hC hH hb hs hT=>?_) (λw=>?_)
 .exact AnyQ.slices_SortFunc_total Tryz.B9 2 Tryz.isAgg58 Tryz.sizeOf58 iP GM (λx v hv=>by simp[iP]at hv;rcases hv with rfl|rfl<;>rfl) cf hO 106 #[] kr off cap d w eg hC hH hb hs hT
 .exact AnyF.slices_SortFunc_none Tryz.B9 aaK 0 _ w
end
section
noncomputable section
set_option maxRecDepth 100000
set_option linter.unusedVariables false
@[reducible] def aa:Row:= .pair ae ae
@[reducible] def bi:Row:= .pair .str aa
@[reducible] def cB:Row:= .pair .str (.pair ae (.pair ae (.pair ae (.pair aa (.pair (.slice aa) (.pair (.slice aa) .str))))))
@[reducible] def aW:Row:= .pair .str (.pair ae (.pair (.slice bi) (.pair (.slice bi) (.slice cB))))
@[reducible] def cD:Row:= .pair .str (.slice .str)
@[reducible] def gN:Row:= .pair aa (.pair ae aa)
@[reducible] def cu:Row:= .pair .str (.pair aa (.pair aa (.slice gN)))
@[reducible] def ew:Row:= .pair (.slice cD) (.pair (.slice cu) (.slice aW))
@[reducible] def bx:Row:= .pair ae (.pair ae aa)
@[reducible] def bg:Row:= .pair (.slice cD) (.pair (.slice cu) (.pair (.slice aa) (.pair (.slice aa) (.pair (.slice aa) .bool))))
@[reducible] def ey:Row:= .pair (.slice ae) (.pair (.slice ae) (.slice ae))
@[reducible] def an:Row:= .pair aa ae
@[reducible] def cE:Row:= .pair ae (.pair (.slice (.slice aa)) (.pair (.slice ae) (.slice an)))
theorem GP:TI Tryz.prog 3 ae:=TI.mk (k:=1) (by kernel_rfl) rfl
theorem V7:TI Tryz.prog 4 .bool:=TI.mk (k:=1) (by kernel_rfl) rfl
theorem V8:TI Tryz.prog 9 .str:=TI.mk (k:=1) (by kernel_rfl) rfl
theorem Rf:TI Tryz.prog 22 (.slice cD):=TI.mk (k:=1) (by kernel_rfl) rfl
theorem Rg:TI Tryz.prog 23 (.slice cu):=TI.mk (k:=1) (by kernel_rfl) rfl
theorem Rh:TI Tryz.prog 24 (.slice aW):=TI.mk (k:=1) (by kernel_rfl) rfl
theorem Ri:TI Tryz.prog 26 ew:=TI.mk (k:=3) (by kernel_rfl) rfl
theorem Rj:TI Tryz.prog 27 (.pair ae aa):=TI.mk (k:=3) (by kernel_rfl) rfl
theorem Rk:TI Tryz.prog 30 (.slice (.slice aa)):=TI.mk (k:=1) (by kernel_rfl) rfl
theorem Rl:TI Tryz.prog 31 (.slice ae):=TI.mk (k:=1) (by kernel_rfl) rfl
theorem Rm:TI Tryz.prog 32 (.slice an):=TI.mk (k:=1) (by kernel_rfl) rfl
theorem Rn:TI Tryz.prog 34 cE:=TI.mk (k:=4) (by kernel_rfl) rfl
theorem NV:TI Tryz.prog 35 ae:=TI.mk (k:=1) (by kernel_rfl) rfl
theorem Ro:TI Tryz.prog 45 bx:=TI.mk (k:=4) (by kernel_rfl) rfl
theorem Rp:TI Tryz.prog 47 (.slice bi):=TI.mk (k:=1) (by kernel_rfl) rfl
theorem Rq:TI Tryz.prog 48 (.slice cB):=TI.mk (k:=1) (by kernel_rfl) rfl
theorem Rr:TI Tryz.prog 50 aW:=TI.mk (k:=5) (by kernel_rfl) rfl
theorem NW:TI Tryz.prog 58 aa:=TI.mk (k:=2) (by kernel_rfl) rfl
theorem Rs:TI Tryz.prog 60 an:=TI.mk (k:=3) (by kernel_rfl) rfl
theorem Rt:TI Tryz.prog 62 (.slice .str):=TI.mk (k:=1) (by kernel_rfl) rfl
theorem Ru:TI Tryz.prog 64 cD:=TI.mk (k:=2) (by kernel_rfl) rfl
theorem Rv:TI Tryz.prog 66 aa:=TI.mk (k:=2) (by kernel_rfl) rfl
theorem Rx:TI Tryz.prog 67 (.slice gN):=TI.mk (k:=1) (by kernel_rfl) rfl
theorem Ry:TI Tryz.prog 69 cu:=TI.mk (k:=6) (by kernel_rfl) rfl
theorem Rz:TI Tryz.prog 74 aa:=TI.mk (k:=2) (by kernel_rfl) rfl
theorem RA:TI Tryz.prog 75 (.slice aa):=TI.mk (k:=1) (by kernel_rfl) rfl
theorem RB:TI Tryz.prog 77 cB:=TI.mk (k:=9) (by kernel_rfl) rfl
theorem RC:TI Tryz.prog 81 aa:=TI.mk (k:=2) (by kernel_rfl) rfl
theorem RD:TI Tryz.prog 96 ey:=TI.mk (k:=3) (by kernel_rfl) rfl
theorem NX:TI Tryz.prog 100 bi:=TI.mk (k:=3) (by kernel_rfl) rfl
theorem NY:TI Tryz.prog 132 gN:=TI.mk (k:=5) (by kernel_rfl) rfl
theorem NZ:TI Tryz.prog 144 (.slice aa):=TI.mk (k:=1) (by kernel_rfl) rfl
theorem N0:TI Tryz.prog 146 bg:=TI.mk (k:=6) (by kernel_rfl) rfl
theorem N1:TI Tryz.prog 207 (.int .u64):=TI.mk (k:=1) (by kernel_rfl) rfl
theorem Ig:kZ Tryz.prog 3 ae 1:=Bm Tryz.underlying3
theorem RE:kZ Tryz.prog 66 aa 2:=jt Tryz.underlying66 (by kernel_rfl) (jr rfl rfl Tryz.underlying3 (by simp[gr]) GP Ig (lQ rfl rfl Tryz.underlying3 (by simp[gr]) GP Ig))
theorem RF:kZ Tryz.prog 81 aa 2:=jt Tryz.underlying81 (by kernel_rfl) (jr rfl rfl Tryz.underlying3 (by simp[gr]) GP Ig (lQ rfl rfl Tryz.underlying3 (by simp[gr]) GP Ig))
theorem N2:kZ Tryz.prog 58 aa 2:=jt Tryz.underlying58 (by kernel_rfl) (jr rfl rfl Tryz.underlying3 (by simp[gr]) GP Ig (lQ rfl rfl Tryz.underlying3 (by simp[gr]) GP Ig))
theorem RG:kZ Tryz.prog 35 ae 1:=Bm Tryz.underlying35
theorem RH:kZ Tryz.prog 45 bx 2:=jt Tryz.underlying45 (by kernel_rfl) (jr rfl rfl Tryz.underlying35 (by simp[gr]) NV RG (jr rfl rfl Tryz.underlying3 (by simp[gr]) GP Ig (jr rfl rfl Tryz.underlying3 (by simp[gr]) GP Ig (lQ rfl rfl Tryz.underlying3 (by simp[gr]) GP Ig))))
theorem N3:kZ Tryz.prog 3 ae 2:=Ig.lift 1
theorem RJ:kZ Tryz.prog 60 an 3:=jt Tryz.underlying60 (by kernel_rfl) (jr rfl rfl Tryz.underlying58 (by intro h;cases h) NW N2 (lQ rfl rfl Tryz.underlying3 (by simp[gr]) GP N3))
theorem tu:∀p∈([(3, .int .i64),(4, .bool),(5, .int .u8),(9, .str),(22, .slice 64),(23, .slice 69),(24, .slice 50),(26, .struct [(22,0),(23,1),(24,2)]),(27, .array 3 3),(30, .slice 75),(31, .slice 3),(32, .slice 60),(34, .struct [(3,0),(30,1),(31,2),(32,3)]),(35, .int .i64),(45, .struct [(35,0),(3,1),(3,2),(3,3)]),(47, .slice 100),(48, .slice 77),(50, .struct [(9,0),(3,1),(47,2),(47,3),(48,4)]),(54, .slice 4),(58, .struct [(3,0),(3,1)]),(60, .struct [(58,0),(3,2)]),(62, .slice 9),(64, .struct [(9,0),(62,1)]),(66, .struct [(3,0),(3,1)]),(67, .slice 132),(69, .struct [(9,0),(66,1),(66,3),(67,5)]),(70, .other),(74, .struct [(3,0),(3,1)]),(75, .slice 81),(77, .struct [(9,0),(3,1),(3,2),(3,3),(74,4),(75,6),(75,7),(9,8)]),(81, .struct [(3,0),(3,1)]),(92, .other),(96, .struct [(31,0),(31,1),(31,2)]),(100, .struct [(9,0),(66,1)]),(101, .slice 58),(114, .map 3 4),(115, .map 58 4),(132, .struct [(74,0),(3,2),(3,3),(3,4)]),(135, .other),(139, .other),(141, .other),(144, .slice 66),(146, .struct [(22,0),(23,1),(144,2),(144,3),(144,4),(4,5)]),(157, .int .u64),(158, .other),(171, .other),(176, .slice 31),(181, .int .u32),(183, .int .u64),(207, .int .u64),(211, .ptr 3),(225, .ptr 207)]:List (Nat×EN)),tR Tryz.prog p.1 p.2:=by
 simp only[aap];exact⟨Tryz.underlying3,Tryz.underlying4,Tryz.underlying5,Tryz.underlying9,Tryz.underlying22,Tryz.underlying23,Tryz.underlying24,⟨_,Tryz.underlying26,rfl⟩,Tryz.underlying27,Tryz.underlying30,Tryz.underlying31,Tryz.underlying32,⟨_,Tryz.underlying34,rfl⟩,Tryz.underlying35,⟨_,Tryz.underlying45,rfl⟩,Tryz.underlying47,Tryz.underlying48,⟨_,Tryz.underlying50,rfl⟩,Tryz.underlying54,⟨_,Tryz.underlying58,rfl⟩,⟨_,Tryz.underlying60,rfl⟩,Tryz.underlying62,⟨_,Tryz.underlying64,rfl⟩,⟨_,Tryz.underlying66,rfl⟩,Tryz.underlying67,⟨_,Tryz.underlying69,rfl⟩,⟨_,Tryz.underlying70,rfl⟩,⟨_,Tryz.underlying74,rfl⟩,Tryz.underlying75,⟨_,Tryz.underlying77,rfl⟩,⟨_,Tryz.underlying81,rfl⟩,⟨_,Tryz.underlying92,rfl⟩,⟨_,Tryz.underlying96,rfl⟩,⟨_,Tryz.underlying100,rfl⟩,Tryz.underlying101,Tryz.underlying114,Tryz.underlying115,⟨_,Tryz.underlying132,rfl⟩,⟨_,Tryz.underlying135,rfl⟩,⟨_,Tryz.underlying139,rfl⟩,⟨_,Tryz.underlying141,rfl⟩,Tryz.underlying144,⟨_,Tryz.underlying146,rfl⟩,Tryz.underlying157,⟨_,Tryz.underlying158,rfl⟩,⟨_,Tryz.underlying171,rfl⟩,Tryz.underlying176,Tryz.underlying181,Tryz.underlying183,Tryz.underlying207,Tryz.underlying211,Tryz.underlying225,λ_ h=>absurd h (by simp)⟩
theorem tr:∀p∈([(3,ae),(4, .bool),(9, .str),(22,(.slice cD)),(23,(.slice cu)),(24,(.slice aW)),(26,ew),(27,(.pair ae aa)),(30,(.slice (.slice aa))),(31,(.slice ae)),(32,(.slice an)),(34,cE),(35,ae),(45,bx),(47,(.slice bi)),(48,(.slice cB)),(50,aW),(58,aa),(60,an),(62,(.slice .str)),(64,cD),(66,aa),(67,(.slice gN)),(69,cu),(74,aa),(75,(.slice aa)),(77,cB),(81,aa),(96,ey),(100,bi),(132,gN),(144,(.slice aa)),(146,bg),(207,(.int .u64))]:List (Nat×Row)),TI Tryz.prog p.1 p.2:=by
 simp only[aap];exact⟨GP,V7,V8,Rf,Rg,Rh,Ri,Rj,Rk,Rl,Rm,Rn,NV,Ro,Rp,Rq,Rr,NW,Rs,Rt,Ru,Rv,Rx,Ry,Rz,RA,RB,RC,RD,NX,NY,NZ,N0,N1,λ_ h=>absurd h (by simp)⟩
theorem te:∀p∈([(45,bx),(58,aa),(60,an),(66,aa),(81,aa)]:List (Nat×Row)),∃K d,kZ Tryz.prog p.1 p.2 K/\d+K=10000/\Tryz.prog.eqGuardType Tryz.prog.depth p.1=aaM/\(Tryz.prog.underlying p.1).any gr=aaL:=by
 simp only[aap];exact⟨⟨2,9998,RH,rfl,by kernel_rfl,by kernel_rfl⟩,⟨2,9998,N2,rfl,by kernel_rfl,by kernel_rfl⟩,⟨3,9997,RJ,rfl,by kernel_rfl,by kernel_rfl⟩,⟨2,9998,RE,rfl,by kernel_rfl,by kernel_rfl⟩,⟨2,9998,RF,rfl,by kernel_rfl,by kernel_rfl⟩,λ_ h=>absurd h (by simp)⟩
theorem tz:∀p∈([(4,(aaM, .bool))]:List (Nat×(Bool×Row))),vg Tryz.prog p.1 p.2.1 p.2.2:=by
 simp only[aap];exact⟨⟨_,by kernel_rfl,rfl⟩,λ_ h=>absurd h (by simp)⟩
theorem tk:∀t∈([58]:List TypeId),∀(em:Bool)(a b:Value)(w:World),(Instr.checkKey em 10000 t (.agg #[a,b])).run Tryz.prog w= .ok () w:=by
 simp only[aap];exact⟨λem a b w=>by kernel_rfl,λ_ h=>absurd h (by simp)⟩
def RL:aJ Tryz.prog:=⟨_,_,_,_,jR tu,jR tr,jR te,λt a r h=>jR (Q:=λt p=>vg Tryz.prog t p.1 p.2) tz t (a,r) h,_,tk,[],λ_ h=>absurd h (by simp)⟩
theorem mixed:Tryz.prog.follows .mixedOrders=aaL:=by kernel_rfl
def en(l:List (CT Tryz.prog))(d p:Bool):Env Tryz.prog:=⟨RL,CT.tab l,CT.GI,mixed,d,p⟩
abbrev Fo(f:Nat)(a b:JS)(g:ct a.rows->Option (ct b.rows)):Prop:=gK Tryz.prog f ⟨a,b,g⟩
theorem fz{f:FuncId}{fn:Func}{sg:oq}(N:Nat)(l:List (CT Tryz.prog))(a:qy)(hf:Tryz.prog.funcs[f]? =some fn)(hc:Rb fn sg=aaL:=by kernel_rfl)(Al:∀x,sg.fn x=Lk (en l aaM aaM) fn.ntmps N (fn.body.getD .skip) fn.results.toList a sg.inn sg.out x:=by intro x;kernel_rfl):gK Tryz.prog f sg:=fw (en l aaM aaM) (N:=N) a hf hc Al
def M.gj(N:Nat)(a0:aW.den):Option Bool:=
((if(aaN (80<(a0.1.size:Int)))then
some aaL
else
(if(aaN (14<(a0.2.2.1.length:Int)))then
some aaL
else
(if(aaN (14<(a0.2.2.2.1.length:Int)))then
some aaL
else
some (aaN (60<(a0.2.2.2.2.length:Int)))))):Option Bool).bind λj1=>
(if j1 then
some aaM
else
bF (J:=Unit) (R:=Bool) (Loop (S:=Int) (X:=Unit⊕Bool) (λs3=>
(if(aaN (s3<(a0.2.2.1.length:Int)))then
(idx a0.2.2.1 s3).bind λx4=>
(if(aaN (80<(x4.1.size:Int)))then
some (.inr (.inr aaM))
else
some (.inl (YW.wrap (s3+1))))
else
some (.inr (.inl ())))) N 0) λj2=>
bF (J:=Unit) (R:=Bool) (Loop (S:=Int) (X:=Unit⊕Bool) (λs6=>
(if(aaN (s6<(a0.2.2.2.1.length:Int)))then
(idx a0.2.2.2.1 s6).bind λx7=>
(if(aaN (80<(x7.1.size:Int)))then
some (.inr (.inr aaM))
else
some (.inl (YW.wrap (s6+1))))
else
some (.inr (.inl ())))) N 0) λj5=>
Loop (S:=Int) (X:=Bool) (λs8=>
(if(aaN (s8<(a0.2.2.2.2.length:Int)))then
(idx a0.2.2.2.2 s8).bind λx9=>
((if(aaN (80<(x9.1.size:Int)))then
some aaL
else
(if(aaN (80<(x9.2.2.2.2.2.2.2.size:Int)))then
some aaL
else
(if(aaN (50<(x9.2.2.2.2.2.1.length:Int)))then
some aaL
else
some (aaN (50<(x9.2.2.2.2.2.2.1.length:Int)))))):Option Bool).bind λrj=>
(if rj then
some (.inr aaM)
else
some (.inl (YW.wrap (s8+1))))
else
some (.inr aaL))) N 0)
theorem V9(N:Nat):Fo 21 (.i1 [.g aW]) (.i1 [.l .bool]) (M.gj N):=fz N [] (.o (.two (.mb 28 32) (.join ⟨[],[],[],32⟩ (.o (.two (.lp 3 48 .nil) .nil)) (.join ⟨[],[],[],32⟩ (.o (.two (.lp 4 48 .nil) .nil)) (.two (.o (.two (.lp 5 48 (.o (.two (.two (.o (.mb 92 240)) .nil) .nil))) .nil)) .nil))))) Tryz.func21
def M.iD(N:Nat)(a0:ew.den):Option Bool:=
((if(aaN (9<(a0.1.length:Int)))then
some aaL
else
(if(aaN (9<(a0.2.1.length:Int)))then
some aaL
else
some (aaN (5<(a0.2.2.length:Int))))):Option Bool).bind λj1=>
(if j1 then
some aaM
else
bF (J:=Unit) (R:=Bool) (Loop (S:=Int) (X:=Unit⊕Bool) (λs3=>
(if(aaN (s3<(a0.1.length:Int)))then
bF (J:=Unit) (R:=Int⊕(Unit⊕Bool)) (((idx a0.1 s3).bind λx6=>
(if(aaN (80<(x6.1.size:Int)))then
some aaL
else
(idx a0.1 s3).bind λx7=>
some (aaN (20<(x7.2.length:Int)))):Option Bool).bind λj5=>
(if j5 then
some (.inr (.inr (.inr aaM)))
else
Loop (S:=Int) (X:=Unit⊕(Int⊕(Unit⊕Bool))) (λs8=>
(idx a0.1 s3).bind λx9=>
(if(aaN (s8<(x9.2.length:Int)))then
(idx a0.1 s3).bind λrk=>
(idx rk.2 s8).bind λwL=>
(if(aaN (80<(wL.size:Int)))then
some (.inr (.inr (.inr (.inr aaM))))
else
some (.inl (YW.wrap (s8+1))))
else
some (.inr (.inl ())))) N 0)) λj4=>
some (.inl (YW.wrap (s3+1)))
else
some (.inr (.inl ())))) N 0) λj2=>
bF (J:=Unit) (R:=Bool) (Loop (S:=Int×Int) (X:=Unit⊕Bool) (λCa=>
(if(aaN (Ca.2<(a0.2.1.length:Int)))then
(idx a0.2.1 Ca.2).bind λET=>
((idx a0.2.1 Ca.2).bind λLn=>
(if(aaN (80<(Ln.1.size:Int)))then
some aaL
else
some (aaN (150<(YW.wrap (Ca.1+(ET.2.2.2.length:Int)))))):Option Bool).bind λGQ=>
(if GQ then
some (.inr (.inr aaM))
else
some (.inl (YW.wrap (Ca.1+(ET.2.2.2.length:Int)),YW.wrap (Ca.2+1))))
else
some (.inr (.inl ())))) N (0,0)) λv8=>
Loop (S:=Int×Int) (X:=Bool) (λtx=>
(if(aaN (tx.2<(a0.2.2.length:Int)))then
(idx a0.2.2 tx.2).bind λKh=>
((if(aaN (60<(YW.wrap (tx.1+(Kh.2.2.2.2.length:Int)))))then
some aaL
else
(idx a0.2.2 tx.2).bind λTX=>
(M.gj N TX).bind λIh=>
some (!Ih)):Option Bool).bind λPA=>
(if PA then
some (.inr aaM)
else
some (.inl (YW.wrap (tx.1+(Kh.2.2.2.2.length:Int)),YW.wrap (tx.2+1))))
else
some (.inr aaL))) N (0,0))
theorem W7(N:Nat):Fo 7 (.i1 [.g ew]) (.i1 [.l .bool]) (M.iD N):=fz N [ck (V9 N)] (.o (.two (.mb 24 32) (.o (.o (.join ⟨[],[],[],64⟩ (.o (.two (.lp 5 80 (.o (.join ⟨[],[],[],160⟩ (.two (.two (.mb 49 160) (.o (.two (.lp 6 176 .nil) .nil))) .nil) .nil))) .nil)) (.join ⟨[],[],[],64⟩ (.o (.two (.loop ⟨[(3, .l ae),(7, .l ae)],[],[],80⟩ (.o (.two (.two (.o (.mb 99 320)) .nil) .nil))) .nil)) (.two (.o (.two (.loop ⟨[(4, .l ae),(8, .l ae)],[],[],80⟩ (.o (.two (.two (.o (.mb 126 320)) .nil) .nil))) .nil)) .nil))))))) Tryz.func7
def M.fW(N:Nat)(a0:Int):Option Bool:=
((if(aaN (97<=a0))then
some (aaN (a0<=122))
else
some aaM):Option Bool).bind λj1=>
some j1
theorem TY(N:Nat):Fo 89 (.i1 [.l (.int .u8)]) (.i1 [.l .bool]) (M.fW N):=fz N [] (.o (.mb 2 16)) Tryz.func89
def M.iE(N:Nat)(a0:Int):Option Bool:=
((if(aaN (48<=a0))then
some (aaN (a0<=57))
else
some aaM):Option Bool).bind λj1=>
some j1
theorem RM(N:Nat):Fo 130 (.i1 [.l (.int .u8)]) (.i1 [.l .bool]) (M.iE N):=fz N [] (.o (.mb 2 16)) Tryz.func130
def M.fG(N:Nat)(a0:ByteArray):Option Int:=
Loop (S:=Int) (X:=Int) (λs1=>
((if(aaN (s1<(a0.size:Int)))then
(jU a0 s1).bind λx3=>
(M.fW N x3).bind λy4=>
(if y4 then
some aaL
else
(jU a0 s1).bind λx5=>
(M.iE N x5).bind λy6=>
(if y6 then
some aaL
else
(jU a0 s1).bind λx7=>
some (aaN (x7=95))))
else
some aaM):Option Bool).bind λj2=>
(if j2 then
some (.inl (YW.wrap (s1+1)))
else
some (.inr s1))) N 0
theorem Wa(N:Nat):Fo 90 (.i1 [.l .str]) (.i1 [.l ae]) (M.fG N):=fz N [ck (TY N),ck (RM N)] (.o (.o (.two (.two (.lp 3 32 (.two (.mb 25 32) .nil)) .nil) .nil))) Tryz.func90
def M.gO(N:Nat)(a0:ByteArray):Option Bool:=
((if(aaN (a0=(⟨#[105,102]⟩:ByteArray)))then
some (aaN (a0=(⟨#[105,102]⟩:ByteArray)))
else
(if(aaN (a0=(⟨#[116,104,101,110]⟩:ByteArray)))then
some (aaN (a0=(⟨#[116,104,101,110]⟩:ByteArray)))
else
(if(aaN (a0=(⟨#[101,108,115,101]⟩:ByteArray)))then
some (aaN (a0=(⟨#[101,108,115,101]⟩:ByteArray)))
else
(if(aaN (a0=(⟨#[111,114]⟩:ByteArray)))then
some (aaN (a0=(⟨#[111,114]⟩:ByteArray)))
else
(if(aaN (a0=(⟨#[97,110,100]⟩:ByteArray)))then
some (aaN (a0=(⟨#[97,110,100]⟩:ByteArray)))
else
(if(aaN (a0=(⟨#[110,111,116]⟩:ByteArray)))then
some (aaN (a0=(⟨#[110,111,116]⟩:ByteArray)))
else
(if(aaN (a0=(⟨#[116,114,117,101]⟩:ByteArray)))then
some (aaN (a0=(⟨#[116,114,117,101]⟩:ByteArray)))
else
(if(aaN (a0=(⟨#[102,97,108,115,101]⟩:ByteArray)))then
some (aaN (a0=(⟨#[102,97,108,115,101]⟩:ByteArray)))
else
(if(aaN (a0=(⟨#[116,111,100,97,121]⟩:ByteArray)))then
some (aaN (a0=(⟨#[116,111,100,97,121]⟩:ByteArray)))
else
(if(aaN (a0=(⟨#[115,104,97,114,101]⟩:ByteArray)))then
some (aaN (a0=(⟨#[115,104,97,114,101]⟩:ByteArray)))
else
(if(aaN (a0=(⟨#[100,105,118]⟩:ByteArray)))then
some (aaN (a0=(⟨#[100,105,118]⟩:ByteArray)))
else
(if(aaN (a0=(⟨#[114,111,117,110,100]⟩:ByteArray)))then
some (aaN (a0=(⟨#[114,111,117,110,100]⟩:ByteArray)))
else
(if(aaN (a0=(⟨#[109,105,110]⟩:ByteArray)))then
some (aaN (a0=(⟨#[109,105,110]⟩:ByteArray)))
else
(if(aaN (a0=(⟨#[109,97,120]⟩:ByteArray)))then
some (aaN (a0=(⟨#[109,97,120]⟩:ByteArray)))
else
(if(aaN (a0=(⟨#[112,108,117,115]⟩:ByteArray)))then
some (aaN (a0=(⟨#[112,108,117,115]⟩:ByteArray)))
else
(if(aaN (a0=(⟨#[109,111,110,116,104,115]⟩:ByteArray)))then
some (aaN (a0=(⟨#[109,111,110,116,104,115]⟩:ByteArray)))
else
(if(aaN (a0=(⟨#[100,97,121,115]⟩:ByteArray)))then
some (aaN (a0=(⟨#[100,97,121,115]⟩:ByteArray)))
else
(if(aaN (a0=(⟨#[121,101,97,114,115]⟩:ByteArray)))then
some (aaN (a0=(⟨#[121,101,97,114,115]⟩:ByteArray)))
else
(if(aaN (a0=(⟨#[121,101,97,114]⟩:ByteArray)))then
some (aaN (a0=(⟨#[121,101,97,114]⟩:ByteArray)))
else
(if(aaN (a0=(⟨#[109,111,110,116,104]⟩:ByteArray)))then
some (aaN (a0=(⟨#[109,111,110,116,104]⟩:ByteArray)))
else
(if(aaN (a0=(⟨#[116,97,98]⟩:ByteArray)))then
some (aaN (a0=(⟨#[116,97,98]⟩:ByteArray)))
else
(if(aaN (a0=(⟨#[98,97,110,100]⟩:ByteArray)))then
some (aaN (a0=(⟨#[98,97,110,100]⟩:ByteArray)))
else
(if(aaN (a0=(⟨#[99,111,117,110,116]⟩:ByteArray)))then
some (aaN (a0=(⟨#[99,111,117,110,116]⟩:ByteArray)))
else
(if(aaN (a0=(⟨#[115,117,109]⟩:ByteArray)))then
some (aaN (a0=(⟨#[115,117,109]⟩:ByteArray)))
else
(if(aaN (a0=(⟨#[97,108,108]⟩:ByteArray)))then
some (aaN (a0=(⟨#[97,108,108]⟩:ByteArray)))
else
(if(aaN (a0=(⟨#[97,110,121]⟩:ByteArray)))then
some (aaN (a0=(⟨#[97,110,121]⟩:ByteArray)))
else
(if(aaN (a0=(⟨#[109,111,115,116]⟩:ByteArray)))then
some (aaN (a0=(⟨#[109,111,115,116]⟩:ByteArray)))
else
(if(aaN (a0=(⟨#[101,110,117,109]⟩:ByteArray)))then
some (aaN (a0=(⟨#[101,110,117,109]⟩:ByteArray)))
else
(if(aaN (a0=(⟨#[116,97,98,108,101]⟩:ByteArray)))then
some (aaN (a0=(⟨#[116,97,98,108,101]⟩:ByteArray)))
else
(if(aaN (a0=(⟨#[114,111,119]⟩:ByteArray)))then
some (aaN (a0=(⟨#[114,111,119]⟩:ByteArray)))
else
(if(aaN (a0=(⟨#[115,99,111,112,101]⟩:ByteArray)))then
some (aaN (a0=(⟨#[115,99,111,112,101]⟩:ByteArray)))
else
(if(aaN (a0=(⟨#[109,101,109,98,101,114,115]⟩:ByteArray)))then
some (aaN (a0=(⟨#[109,101,109,98,101,114,115]⟩:ByteArray)))
else
(if(aaN (a0=(⟨#[105,110,112,117,116]⟩:ByteArray)))then
some (aaN (a0=(⟨#[105,110,112,117,116]⟩:ByteArray)))
else
(if(aaN (a0=(⟨#[100,101,102]⟩:ByteArray)))then
some (aaN (a0=(⟨#[100,101,102]⟩:ByteArray)))
else
(if(aaN (a0=(⟨#[114,117,108,101]⟩:ByteArray)))then
some (aaN (a0=(⟨#[114,117,108,101]⟩:ByteArray)))
else
(if(aaN (a0=(⟨#[111,102]⟩:ByteArray)))then
some (aaN (a0=(⟨#[111,102]⟩:ByteArray)))
else
(if(aaN (a0=(⟨#[111,118,101,114]⟩:ByteArray)))then
some (aaN (a0=(⟨#[111,118,101,114]⟩:ByteArray)))
else
(if(aaN (a0=(⟨#[112,114,105,111]⟩:ByteArray)))then
some (aaN (a0=(⟨#[112,114,105,111]⟩:ByteArray)))
else
(if(aaN (a0=(⟨#[102,114,111,109]⟩:ByteArray)))then
some (aaN (a0=(⟨#[102,114,111,109]⟩:ByteArray)))
else
(if(aaN (a0=(⟨#[116,111]⟩:ByteArray)))then
some (aaN (a0=(⟨#[116,111]⟩:ByteArray)))
else
(if(aaN (a0=(⟨#[101,110,100]⟩:ByteArray)))then
some (aaN (a0=(⟨#[101,110,100]⟩:ByteArray)))
else
(if(aaN (a0=(⟨#[119,104,101,110]⟩:ByteArray)))then
some (aaN (a0=(⟨#[119,104,101,110]⟩:ByteArray)))
else
(if(aaN (a0=(⟨#[105,115]⟩:ByteArray)))then
some (aaN (a0=(⟨#[105,115]⟩:ByteArray)))
else
(if(aaN (a0=(⟨#[115,114,99]⟩:ByteArray)))then
some (aaN (a0=(⟨#[115,114,99]⟩:ByteArray)))
else
(if(aaN (a0=(⟨#[98,111,111,108]⟩:ByteArray)))then
some (aaN (a0=(⟨#[98,111,111,108]⟩:ByteArray)))
else
(if(aaN (a0=(⟨#[105,110,116]⟩:ByteArray)))then
some (aaN (a0=(⟨#[105,110,116]⟩:ByteArray)))
else
(if(aaN (a0=(⟨#[109,111,110,101,121]⟩:ByteArray)))then
some (aaN (a0=(⟨#[109,111,110,101,121]⟩:ByteArray)))
else
(if(aaN (a0=(⟨#[114,97,116,101]⟩:ByteArray)))then
some (aaN (a0=(⟨#[114,97,116,101]⟩:ByteArray)))
else
(if(aaN (a0=(⟨#[100,97,116,101]⟩:ByteArray)))then
some (aaN (a0=(⟨#[100,97,116,101]⟩:ByteArray)))
else
(if(aaN (a0=(⟨#[100,111,119,110]⟩:ByteArray)))then
some (aaN (a0=(⟨#[100,111,119,110]⟩:ByteArray)))
else
(if(aaN (a0=(⟨#[117,112]⟩:ByteArray)))then
some (aaN (a0=(⟨#[117,112]⟩:ByteArray)))
else
(if(aaN (a0=(⟨#[122,101,114,111]⟩:ByteArray)))then
some (aaN (a0=(⟨#[122,101,114,111]⟩:ByteArray)))
else
(if(aaN (a0=(⟨#[97,119,97,121]⟩:ByteArray)))then
some (aaN (a0=(⟨#[97,119,97,121]⟩:ByteArray)))
else
(if(aaN (a0=(⟨#[104,97,108,102]⟩:ByteArray)))then
some (aaN (a0=(⟨#[104,97,108,102]⟩:ByteArray)))
else
some (aaN (a0=(⟨#[101,118,101,110]⟩:ByteArray))))))))))))))))))))))))))))))))))))))))))))))))))))))))):Option Bool).bind λj1=>
(if j1 then
some aaL
else
some aaM)
theorem Wb(N:Nat):Fo 91 (.i1 [.l .str]) (.i1 [.l .bool]) (M.gO N):=fz N [] (.o (.two (.o (.two (.mb 4 32) .nil)) .nil)) Tryz.func91
def M.bu(N:Nat)(a0:ByteArray):Option Bool:=
((if(!aaN (a0=(⟨#[]⟩:ByteArray)))then
(jU a0 0).bind λx2=>
(M.fW N x2).bind λy3=>
(if y3 then
(M.fG N a0).bind λy4=>
(if(aaN (y4=(a0.size:Int)))then
(if(aaN ((a0.size:Int)<=16))then
(M.gO N a0).bind λy5=>
some (!y5)
else
some aaM)
else
some aaM)
else
some aaM)
else
some aaM):Option Bool).bind λj1=>
some j1
theorem N4(N:Nat):Fo 61 (.i1 [.l .str]) (.i1 [.l .bool]) (M.bu N):=fz N [ck (TY N),ck (Wa N),ck (Wb N)] (.o (.mb 2 16)) Tryz.func61
def M.gP(N:Nat)(a0:cD.den)(a1:ByteArray):Option (Bool×ByteArray):=
some (aaN (a0.1=a1),a1)
theorem N5(N:Nat):Fo 93 (.j1 [.g cD, .ptr 0 [] 0] [.box 9 (.leaf .str)] 1) (.j1 [.l .bool] [.box 9 (.leaf .str)] 2) (u2 (M.gP N)):=fz N [] .nil Tryz.func93
def M.aR(N:Nat)(a0:List cD.den)(a1:ByteArray):Option (Int×ByteArray):=
Loop (S:=Int×ByteArray) (X:=Int×ByteArray) (λs1=>
(if(aaN (s1.1<(a0.length:Int)))then
(idx a0 s1.1).bind λx2=>
(M.gP N x2 s1.2).bind λy3=>
(if y3.1 then
some (.inr (s1.1,y3.2))
else
some (.inl (YW.wrap (s1.1+1),y3.2)))
else
some (.inr ((-1),s1.2)))) N (0,a1)
theorem Lo(N:Nat):Fo 131 (.j1 [.l (.slice cD), .fn 93 [(0,[],0)]] [.box 9 (.leaf .str)] 1) (.j1 [.l ae] [.box 9 (.leaf .str)] 2) (u2 (M.aR N)):=fz N [ck (N5 N)] (.o (.two (.o (.two (.loop ⟨[(8, .l ae)],[(0, .box 9 (.leaf .str))],[],66⟩ .nil) .nil)) .nil)) Tryz.func131
def M.bh(N:Nat)(a0:List cD.den)(a1:ByteArray):Option (Bool×ByteArray):=
(M.aR N a0 a1).bind λy1=>
some (aaN (0<=y1.1),y1.2)
theorem N6(N:Nat):Fo 92 (.j1 [.l (.slice cD), .fn 93 [(0,[],0)]] [.box 9 (.leaf .str)] 1) (.j1 [.l .bool] [.box 9 (.leaf .str)] 2) (u2 (M.bh N)):=fz N [ck (Lo N)] .nil Tryz.func92
def M.fq(N:Nat)(a0:List cD.den)(a1:ByteArray):Option Bool:=
(M.bh N a0 a1).bind λy1=>
some y1.1
theorem RN(N:Nat):Fo 62 (.i1 [.l (.slice cD), .l .str]) (.i1 [.l .bool]) (u2 (M.fq N)):=fz N [ck (N6 N)] .nil Tryz.func62
def M.cF(N:Nat)(a0:List ByteArray)(a1:ByteArray):Option Int:=
Loop (S:=Int) (X:=Int) (λs1=>
(if(aaN (s1<(a0.length:Int)))then
(idx a0 s1).bind λx2=>
(if(aaN (a1=x2))then
some (.inr s1)
else
some (.inl (YW.wrap (s1+1))))
else
some (.inr (-1)))) N 0
theorem RO(N:Nat):Fo 128 (.i1 [.l (.slice .str), .l .str]) (.i1 [.l ae]) (u2 (M.cF N)):=fz N [] (.o (.two (.o (.two (.lp 8 64 .nil) .nil)) .nil)) Tryz.func128
def M.cd(N:Nat)(a0:List ByteArray)(a1:ByteArray):Option Bool:=
(M.cF N a0 a1).bind λy1=>
some (aaN (0<=y1))
theorem Wc(N:Nat):Fo 83 (.i1 [.l (.slice .str), .l .str]) (.i1 [.l .bool]) (u2 (M.cd N)):=fz N [ck (RO N)] .nil Tryz.func83
def M.iF(N:Nat)(a0:ew.den)(a1:Int)(a2:cD.den):Option (Int×Int):=
(M.bu N a2.1).bind λy1=>
(if(!y1)then
some (2,0)
else
(eG a0.1 0 a1).bind λl2=>
(M.fq N l2 a2.1).bind λy3=>
(if y3 then
some (7,0)
else
(if(aaN ((a2.2.length:Int)=0))then
some (5,0)
else
(if(aaN (16<(a2.2.length:Int)))then
some (4,116)
else
Loop (S:=Int) (X:=Int×Int) (λs4=>
(if(aaN (s4<(a2.2.length:Int)))then
(idx a2.2 s4).bind λx5=>
(M.bu N x5).bind λy6=>
(if(!y6)then
some (.inr (2,YW.wrap (100+s4)))
else
(eG a2.2 0 s4).bind λl7=>
(M.cd N l7 x5).bind λy8=>
(if y8 then
some (.inr (7,YW.wrap (100+s4)))
else
some (.inl (YW.wrap (s4+1)))))
else
some (.inr (0,0)))) N 0))))
theorem We(N:Nat):Fo 59 (.i1 [.g ew, .l ae, .g cD]) (.i1 [.l ae, .l ae]) (u3 (M.iF N)):=fz N [ck (N4 N),ck (RN N),ck (Wc N)] (.o (.o (.two (.o (.two (.lp 36 496 .nil) .nil)) .nil))) Tryz.func59
def M.gQ(N:Nat)(a0:ew.den):Option (bx.den):=
(if(aaN (8<(a0.1.length:Int)))then
some (4,(1,(8,0)))
else
bF (J:=Unit) (R:=bx.den) (Loop (S:=Int) (X:=Unit⊕(bx.den)) (λs2=>
(if(aaN (s2<(a0.1.length:Int)))then
(idx a0.1 s2).bind λx3=>
(M.iF N a0 s2 x3).bind λy4=>
(if(!aaN (y4.1=0))then
some (.inr (.inr (y4.1,(1,(s2,y4.2)))))
else
some (.inl (YW.wrap (s2+1))))
else
some (.inr (.inl ())))) N 0) λj1=>
some (0,(0,(0,0))))
theorem Wf(N:Nat):Fo 37 (.i1 [.g ew]) (.i1 [.g bx]) (M.gQ N):=fz N [ck (We N)] (.o (.o (.join ⟨[],[],[],96⟩ (.o (.two (.lp 15 160 .nil) .nil)) .nil))) Tryz.func37
def M.dH(N:Nat)(a0:aa.den):Option Bool:=
((if(aaN (0<=a0.1))then
(if(aaN (a0.1<=a0.2))then
some (aaN (a0.2<=109573))
else
some aaM)
else
some aaM):Option Bool).bind λj1=>
some j1
theorem RP(N:Nat):Fo 65 (.i1 [.g aa]) (.i1 [.l .bool]) (M.dH N):=fz N [] (.o (.mb 2 32)) Tryz.func65
def M.bU(N:Nat)(a0:aa.den)(a1:List cD.den):Option Bool:=
((if(aaN (a0.1=1))then
some (aaN (a0.1=1))
else
(if(aaN (a0.1=2))then
some (aaN (a0.1=2))
else
(if(aaN (a0.1=3))then
some (aaN (a0.1=3))
else
(if(aaN (a0.1=4))then
some (aaN (a0.1=4))
else
some (aaN (a0.1=5)))))):Option Bool).bind λj1=>
(if j1 then
some (aaN (a0.2=0))
else
(if(aaN (a0.1=6))then
((if(aaN (0<=a0.2))then
some (aaN (a0.2<(a1.length:Int)))
else
some aaM):Option Bool).bind λj2=>
some j2
else
some aaM))
theorem N7(N:Nat):Fo 84 (.i1 [.g aa, .l (.slice cD)]) (.i1 [.l .bool]) (u2 (M.bU N)):=fz N [] (.o (.two (.o (.two (.meet ⟨[(7, .l .bool)],[],[],64⟩ .nil (.o (.o (.two (.mb 4 96) .nil)))) .nil)) .nil)) Tryz.func84
def M.fH(N:Nat)(a0:aa.den)(a1:List cD.den):Option (Int×Int):=
(M.bU N a0 a1).bind λy1=>
(if(!y1)then
some (0,(-1))
else
(if(aaN (a0.1=1))then
some (0,1)
else
(if(aaN (a0.1=2))then
some ((-1000000000000),1000000000000)
else
(if(aaN (a0.1=3))then
some ((-1000000000000000),1000000000000000)
else
(if(aaN (a0.1=4))then
some ((-1000000000),1000000000)
else
(if(aaN (a0.1=5))then
some (0,109572)
else
(idx a1 a0.2).bind λx2=>
some (0,YW.wrap ((x2.2.length:Int)-1))))))))
theorem TZ(N:Nat):Fo 85 (.i1 [.g aa, .l (.slice cD)]) (.i1 [.l ae, .l ae]) (u2 (M.fH N)):=fz N [ck (N7 N)] .nil Tryz.func85
def M.fe(N:Nat)(a0:aa.den):Option Bool:=
((M.dH N a0).bind λy2=>
(if y2 then
some (aaN (a0.1<a0.2))
else
some aaM):Option Bool).bind λj1=>
some j1
theorem RQ(N:Nat):Fo 157 (.i1 [.g aa]) (.i1 [.l .bool]) (M.fe N):=fz N [ck (RP N)] (.o (.mb 2 32)) Tryz.func157
def M.fQ(N:Nat)(a0:aa.den)(a1:aa.den):Option (aa.den×Bool):=
((M.fe N a0).bind λy2=>
(if(!y2)then
some aaL
else
(M.fe N a1).bind λy3=>
some (!y3)):Option Bool).bind λj1=>
(if j1 then
some ((0,0),aaM)
else
(if(aaN ((if a1.2<a0.2 then a1.2 else a0.2)<=(if a0.1<a1.1 then a1.1 else a0.1)))then
some ((0,0),aaM)
else
some ((if a0.1<a1.1 then a1.1 else a0.1,if a1.2<a0.2 then a1.2 else a0.2),aaL)))
theorem RS(N:Nat):Fo 129 (.i1 [.g aa, .g aa]) (.i1 [.g aa, .l .bool]) (u2 (M.fQ N)):=fz N [ck (RQ N)] (.o (.two (.mb 14 64) .nil)) Tryz.func129
def M.gR(N:Nat)(a0:gN.den)(a1:gN.den):Option Bool:=
(M.fQ N a0.1 a1.1).bind λy1=>
((if y1.2 then
some (aaN ((if a0.2.1<a1.2.1 then a1.2.1 else a0.2.1)<(if a1.2.2.1<a0.2.2.1 then a1.2.2.1 else a0.2.2.1)))
else
some aaM):Option Bool).bind λj2=>
some j2
theorem Wg(N:Nat):Fo 88 (.i1 [.g gN, .g gN]) (.i1 [.l .bool]) (u2 (M.gR N)):=fz N [ck (RS N)] (.o (.o (.mb 4 224))) Tryz.func88
def M.fu(N:Nat)(a0:gN.den)(a1:gN.den):Option (Bool×gN.den):=
(M.gR N a0 a1).bind λy1=>
some (y1,a1)
theorem N8(N:Nat):Fo 87 (.j1 [.g gN, .ptr 0 [] 0] [.box 132 (.leaf gN)] 1) (.j1 [.l .bool] [.box 132 (.leaf gN)] 2) (u2 (M.fu N)):=fz N [ck (Wg N)] .nil Tryz.func87
def M.bq(N:Nat)(a0:List gN.den)(a1:gN.den):Option (Int×Bool×gN.den):=
Loop (S:=Int×gN.den) (X:=Int×Bool×gN.den) (λs1=>
(if(aaN (s1.1<(a0.length:Int)))then
(idx a0 s1.1).bind λx2=>
(M.fu N x2 s1.2).bind λy3=>
(if y3.1 then
some (.inr (s1.1,aaL,y3.2))
else
some (.inl (YW.wrap (s1.1+1),y3.2)))
else
some (.inr (0,aaM,s1.2)))) N (0,a1)
theorem N9(N:Nat):Fo 86 (.j1 [.l (.slice gN), .fn 87 [(0,[],0)]] [.box 132 (.leaf gN)] 1) (.j1 [.l ae, .l .bool] [.box 132 (.leaf gN)] 2) (u2 (M.bq N)):=fz N [ck (N8 N)] (.o (.two (.o (.two (.loop ⟨[(10, .l ae)],[(0, .box 132 (.leaf gN))],[],82⟩ .nil) .nil)) .nil)) Tryz.func86
def M.gS(N:Nat)(a0:cu.den)(a1:List cD.den):Option (Int×Int):=
(if(aaN (64<(a0.2.2.2.length:Int)))then
some (64,4)
else
((M.bU N a0.2.1 a1).bind λy2=>
(if(!y2)then
some aaL
else
(M.bU N a0.2.2.1 a1).bind λy3=>
some (!y3)):Option Bool).bind λj1=>
(if j1 then
some ((-1),8)
else
(M.fH N a0.2.1 a1).bind λy4=>
(M.fH N a0.2.2.1 a1).bind λy5=>
Loop (S:=Int) (X:=Int×Int) (λs6=>
(if(aaN (s6<(a0.2.2.2.length:Int)))then
(idx a0.2.2.2 s6).bind λx7=>
((M.dH N x7.1).bind λy9=>
(if(!y9)then
some aaL
else
(if(aaN (x7.1.1=x7.1.2))then
some aaL
else
some (aaN (x7.2.2.1<=x7.2.1)))):Option Bool).bind λj8=>
(if j8 then
some (.inr (s6,3))
else
((if(aaN (x7.2.1<y4.1))then
some aaL
else
(if(aaN (y4.2<x7.2.1))then
some aaL
else
(if(aaN ((YW.wrap (x7.2.2.1-1))<y4.1))then
some aaL
else
some (aaN (y4.2<(YW.wrap (x7.2.2.1-1))))))):Option Bool).bind λrj=>
(if rj then
some (.inr (s6,3))
else
((if(aaN (x7.2.2.2<y5.1))then
some aaL
else
some (aaN (y5.2<x7.2.2.2))):Option Bool).bind λCb=>
(if Cb then
some (.inr (s6,3))
else
(eG a0.2.2.2 0 s6).bind λIi=>
(M.bq N Ii x7).bind λWh=>
(if Wh.2.1 then
some (.inr (s6,11))
else
some (.inl (YW.wrap (s6+1)))))))
else
some (.inr (0,0)))) N 0))
theorem Wi(N:Nat):Fo 60 (.i1 [.g cu, .l (.slice cD)]) (.i1 [.l ae, .l ae]) (u2 (M.gS N)):=fz N [ck (RP N),ck (N7 N),ck (TZ N),ck (N9 N)] (.o (.o (.two (.mb 29 112) (.o (.o (.two (.o (.two (.lp 47 464 (.o (.o (.two (.two (.o (.two (.mb 71 576) (.two (.mb 96 576) (.two (.mb 107 576) .nil)))) .nil) .nil)))) .nil)) .nil)))))) Tryz.func60
def M.gw(N:Nat)(a0:cu.den)(a1:ByteArray):Option (Bool×ByteArray):=
some (aaN (a0.1=a1),a1)
theorem Oa(N:Nat):Fo 95 (.j1 [.g cu, .ptr 0 [] 0] [.box 9 (.leaf .str)] 1) (.j1 [.l .bool] [.box 9 (.leaf .str)] 2) (u2 (M.gw N)):=fz N [] .nil Tryz.func95
def M.aN(N:Nat)(a0:List cu.den)(a1:ByteArray):Option (Int×ByteArray):=
Loop (S:=Int×ByteArray) (X:=Int×ByteArray) (λs1=>
(if(aaN (s1.1<(a0.length:Int)))then
(idx a0 s1.1).bind λx2=>
(M.gw N x2 s1.2).bind λy3=>
(if y3.1 then
some (.inr (s1.1,y3.2))
else
some (.inl (YW.wrap (s1.1+1),y3.2)))
else
some (.inr ((-1),s1.2)))) N (0,a1)
theorem Lp(N:Nat):Fo 132 (.j1 [.l (.slice cu), .fn 95 [(0,[],0)]] [.box 9 (.leaf .str)] 1) (.j1 [.l ae] [.box 9 (.leaf .str)] 2) (u2 (M.aN N)):=fz N [ck (Oa N)] (.o (.two (.o (.two (.loop ⟨[(8, .l ae)],[(0, .box 9 (.leaf .str))],[],66⟩ .nil) .nil)) .nil)) Tryz.func132
def M.aZ(N:Nat)(a0:List cu.den)(a1:ByteArray):Option (Bool×ByteArray):=
(M.aN N a0 a1).bind λy1=>
some (aaN (0<=y1.1),y1.2)
theorem Ob(N:Nat):Fo 94 (.j1 [.l (.slice cu), .fn 95 [(0,[],0)]] [.box 9 (.leaf .str)] 1) (.j1 [.l .bool] [.box 9 (.leaf .str)] 2) (u2 (M.aZ N)):=fz N [ck (Lp N)] .nil Tryz.func94
def M.fI(N:Nat)(a0:List cu.den)(a1:ByteArray):Option Bool:=
(M.aZ N a0 a1).bind λy1=>
some y1.1
theorem T4(N:Nat):Fo 63 (.i1 [.l (.slice cu), .l .str]) (.i1 [.l .bool]) (u2 (M.fI N)):=fz N [ck (Ob N)] .nil Tryz.func63
def M.gk(N:Nat)(a0:ew.den):Option (bx.den):=
(if(aaN (8<(a0.2.1.length:Int)))then
some (4,(2,(8,0)))
else
bF (J:=Unit) (R:=bx.den) (Loop (S:=Int) (X:=Unit⊕(bx.den)) (λs2=>
(if(aaN (s2<(a0.2.1.length:Int)))then
(idx a0.2.1 s2).bind λx3=>
(M.gS N x3 a0.1).bind λy4=>
((M.bu N x3.1).bind λy6=>
(if(!y6)then
some (2,(2,(s2,0)))
else
((M.fq N a0.1 x3.1).bind λy8=>
(if y8 then
some aaL
else
(eG a0.2.1 0 s2).bind λl9=>
(M.fI N l9 x3.1).bind λLq=>
some Lq):Option Bool).bind λj7=>
(if j7 then
some (7,(2,(s2,0)))
else
(if(!aaN (y4.2=0))then
(if(!aaN (y4.1=(-1)))then
some (y4.2,(2,(s2,YW.wrap (100+y4.1))))
else
some (y4.2,(2,(s2,0))))
else
some (0,(2,(s2,0)))))):Option (bx.den)).bind λj5=>
(if(!aaN (j5.1=0))then
some (.inr (.inr j5))
else
some (.inl (YW.wrap (s2+1))))
else
some (.inr (.inl ())))) N 0) λj1=>
some (0,(0,(0,0))))
theorem Wj(N:Nat):Fo 38 (.i1 [.g ew]) (.i1 [.g bx]) (M.gk N):=fz N [ck (Wi N),ck (N4 N),ck (RN N),ck (T4 N)] (.o (.o (.join ⟨[],[],[],96⟩ (.o (.two (.lp 16 160 (.o (.o (.two (.two (.o (.o (.o (.two (.meet ⟨[],[(304, .box 45 (.leaf bx))],[],481⟩ (.o (.o (.mb 36 560))) .nil) .nil)))) .nil) .nil)))) .nil)) .nil))) Tryz.func38
def M.fx(N:Nat)(a0:bi.den)(a1:bi.den):Option (Bool×bi.den):=
some (aaN (a0.1=a1.1),a1)
theorem Lr(N:Nat):Fo 134 (.j1 [.g bi, .ptr 0 [] 0] [.box 100 (.leaf bi)] 1) (.j1 [.l .bool] [.box 100 (.leaf bi)] 2) (u2 (M.fx N)):=fz N [] .nil Tryz.func134
def M.aO(N:Nat)(a0:List bi.den)(a1:bi.den):Option (Int×bi.den):=
Loop (S:=Int×bi.den) (X:=Int×bi.den) (λs1=>
(if(aaN (s1.1<(a0.length:Int)))then
(idx a0 s1.1).bind λx2=>
(M.fx N x2 s1.2).bind λy3=>
(if y3.1 then
some (.inr (s1.1,y3.2))
else
some (.inl (YW.wrap (s1.1+1),y3.2)))
else
some (.inr ((-1),s1.2)))) N (0,a1)
theorem Ls(N:Nat):Fo 158 (.j1 [.l (.slice bi), .fn 134 [(0,[],0)]] [.box 100 (.leaf bi)] 1) (.j1 [.l ae] [.box 100 (.leaf bi)] 2) (u2 (M.aO N)):=fz N [ck (Lr N)] (.o (.two (.o (.two (.loop ⟨[(8, .l ae)],[(0, .box 100 (.leaf bi))],[],66⟩ .nil) .nil)) .nil)) Tryz.func158
def M.az(N:Nat)(a0:List bi.den)(a1:bi.den):Option (Bool×bi.den):=
(M.aO N a0 a1).bind λy1=>
some (aaN (0<=y1.1),y1.2)
theorem Lt(N:Nat):Fo 135 (.j1 [.l (.slice bi), .fn 134 [(0,[],0)]] [.box 100 (.leaf bi)] 1) (.j1 [.l .bool] [.box 100 (.leaf bi)] 2) (u2 (M.az N)):=fz N [ck (Ls N)] .nil Tryz.func135
def M.fy(N:Nat)(a0:ew.den)(a1:bi.den)(a2:List bi.den)(a3:List bi.den):Option Int:=
(M.bu N a1.1).bind λy1=>
(if(!y1)then
some 2
else
((M.az N a2 a1).bind λy3=>
(if y3.1 then
some (aaL,y3.2)
else
(M.az N a3 y3.2).bind λy4=>
some (y4.1,y4.2)):Option (Bool×bi.den)).bind λj2=>
(if j2.1 then
some 7
else
(M.bU N j2.2.2 a0.1).bind λy5=>
(if(!y5)then
some 8
else
some 0)))
theorem Wk(N:Nat):Fo 98 (.i1 [.g ew, .g bi, .l (.slice bi), .l (.slice bi)]) (.i1 [.l ae]) (u4 (M.fy N)):=fz N [ck (N4 N),ck (N7 N),ck (Lt N)] (.o (.o (.two (.two (.o (.o (.meet ⟨[(16, .l .bool)],[(16, .box 100 (.leaf bi))],[],161⟩ .nil .nil))) .nil) .nil))) Tryz.func98
def M.gT(N:Nat)(a0:List bi.den):Option (List aa.den):=
Loop (S:=Int×List aa.den) (X:=List aa.den) (λs1=>
(if(aaN (s1.1<(a0.length:Int)))then
(idx a0 s1.1).bind λx2=>
(b7 s1.2 ([x2.2]:List aa.den)).bind λl3=>
some (.inl (YW.wrap (s1.1+1),l3))
else
some (.inr s1.2))) N (0,([]:List aa.den))
theorem RT(N:Nat):Fo 136 (.i1 [.l (.slice bi)]) (.w1 66 aa) (M.gT N):=fz N [] (.o (.o (.two (.o (.two (.loop ⟨[(3, .val aaM (.own 80)),(8, .l ae)],[(80, .own 66 aa)],[],81⟩ .nil) .nil)) .nil))) Tryz.func136
def M.fR(N:Nat)(a0:ew.den)(a1:Int):Option ((List cD.den)×(List cu.den)×Bool×(List aa.den)×(List aa.den)×List aa.den):=
(idx a0.2.2 a1).bind λx1=>
(M.gT N x1.2.2.1).bind λy2=>
(M.gT N x1.2.2.2.1).bind λy3=>
(((if(aaN (0<=x1.2.1))then
some (aaN (x1.2.1<(a0.2.2.length:Int)))
else
some aaM):Option Bool).bind λj5=>
(if j5 then
(idx a0.2.2 x1.2.1).bind λx6=>
(M.gT N x6.2.2.2.1).bind λy7=>
some (y2,y3,a0.1,a0.2.1,aaL,y7)
else
some (y2,y3,a0.1,a0.2.1,aaM,([]:List aa.den))):Option ((List aa.den)×(List aa.den)×(List cD.den)×(List cu.den)×Bool×List aa.den)).bind λj4=>
some (j4.2.2.1,j4.2.2.2.1,j4.2.2.2.2.1,j4.1,j4.2.1,j4.2.2.2.2.2)
theorem Wl(N:Nat):Fo 99 (.i1 [.g ew, .l ae]) (.j1 [.val aaL (.pair (.leaf (.slice cD)) (.pair (.leaf (.slice cu)) (.pair (.own 0) (.pair (.own 1) (.pair (.own 2) (.leaf .bool))))))] [.own 66 aa, .own 66 aa, .own 66 aa] 3) (u2 (M.fR N)):=fz N [ck (RT N)] (.o (.o (.o (.meet ⟨[],[(240, .own 66 aa),(288, .own 66 aa),(320, .box 146 (.pair (.leaf (.slice cD)) (.pair (.leaf (.slice cu)) (.pair (.own 240) (.pair (.own 288) (.pair (.own 352) (.leaf .bool))))))),(352, .own 66 aa)],[],356⟩ (.mb 33 352) .nil)))) Tryz.func99
def M.strings_Contains(N:Nat)(a0:ByteArray)(a1:ByteArray):Option Bool:=na (a0,a1)
def RU(N:Nat):oq:=⟨.i1 [.l .str, .l .str], .i1 [.l .bool],u2 (M.strings_Contains N)⟩
theorem RV(N:Nat):gK Tryz.prog 160 (RU N):=yl ⟨_,Tryz.func160,by kernel_rfl,by kernel_rfl⟩ Tryz.strings_Contains_one
def M.gm(N:Nat)(a0:ByteArray):Option Bool:=
((if(aaN (64<(a0.size:Int)))then
some aaL
else
(M.strings_Contains N a0 (⟨#[34]⟩:ByteArray)).bind λy2=>
some y2):Option Bool).bind λj1=>
(if j1 then
some aaM
else
Loop (S:=Int) (X:=Bool) (λs3=>
(if(aaN (s3<(a0.size:Int)))then
((jU a0 s3).bind λx5=>
(if(aaN (x5<32))then
some aaL
else
(jU a0 s3).bind λx6=>
some (aaN (126<x6))):Option Bool).bind λj4=>
(if j4 then
some (.inr aaM)
else
some (.inl (YW.wrap (s3+1))))
else
some (.inr aaL))) N 0)
theorem RW(N:Nat):Fo 139 (.i1 [.l .str]) (.i1 [.l .bool]) (M.gm N):=fz N [ck (RV N)] (.o (.two (.mb 10 16) (.two (.o (.two (.lp 13 64 (.o (.o (.two (.two (.o (.mb 25 112)) .nil) .nil)))) .nil)) .nil))) Tryz.func139
def M.jA(N:Nat)(a0:Int):Option Int:=
((if(aaN (a0=1))then
some (aaN (a0=1))
else
(if(aaN (a0=2))then
some (aaN (a0=2))
else
(if(aaN (a0=3))then
some (aaN (a0=3))
else
(if(aaN (a0=4))then
some (aaN (a0=4))
else
(if(aaN (a0=5))then
some (aaN (a0=5))
else
(if(aaN (a0=6))then
some (aaN (a0=6))
else
(if(aaN (a0=7))then
some (aaN (a0=7))
else
(if(aaN (a0=8))then
some (aaN (a0=8))
else
(if(aaN (a0=9))then
some (aaN (a0=9))
else
(if(aaN (a0=35))then
some (aaN (a0=35))
else
(if(aaN (a0=36))then
some (aaN (a0=36))
else
(if(aaN (a0=37))then
some (aaN (a0=37))
else
(if(aaN (a0=38))then
some (aaN (a0=38))
else
some (aaN (a0=39))))))))))))))):Option Bool).bind λj1=>
(if j1 then
some 0
else
((if(aaN (a0=10))then
some (aaN (a0=10))
else
(if(aaN (a0=25))then
some (aaN (a0=25))
else
(if(aaN (a0=31))then
some (aaN (a0=31))
else
(if(aaN (a0=32))then
some (aaN (a0=32))
else
(if(aaN (a0=33))then
some (aaN (a0=33))
else
some (aaN (a0=34))))))):Option Bool).bind λj2=>
(if j2 then
some 1
else
((if(aaN (a0=11))then
some (aaN (a0=11))
else
(if(aaN (a0=12))then
some (aaN (a0=12))
else
(if(aaN (a0=13))then
some (aaN (a0=13))
else
(if(aaN (a0=14))then
some (aaN (a0=14))
else
(if(aaN (a0=15))then
some (aaN (a0=15))
else
(if(aaN (a0=16))then
some (aaN (a0=16))
else
(if(aaN (a0=17))then
some (aaN (a0=17))
else
(if(aaN (a0=18))then
some (aaN (a0=18))
else
(if(aaN (a0=19))then
some (aaN (a0=19))
else
(if(aaN (a0=20))then
some (aaN (a0=20))
else
(if(aaN (a0=21))then
some (aaN (a0=21))
else
(if(aaN (a0=22))then
some (aaN (a0=22))
else
(if(aaN (a0=23))then
some (aaN (a0=23))
else
(if(aaN (a0=24))then
some (aaN (a0=24))
else
(if(aaN (a0=27))then
some (aaN (a0=27))
else
(if(aaN (a0=28))then
some (aaN (a0=28))
else
(if(aaN (a0=29))then
some (aaN (a0=29))
else
some (aaN (a0=30))))))))))))))))))):Option Bool).bind λj3=>
(if j3 then
some 2
else
(if(aaN (a0=26))then
some 3
else
some (-1)))))
theorem Oc(N:Nat):Fo 182 (.i1 [.l ae]) (.i1 [.l ae]) (M.jA N):=fz N [] (.o (.two (.o (.two (.meet ⟨[(4, .l .bool)],[],[],32⟩ .nil (.o (.meet ⟨[(19, .l .bool)],[],[],32⟩ .nil (.o (.mb 26 32))))) .nil)) .nil)) Tryz.func182
def M.gU(N:Nat)(a0:List aa.den):Option (Int×Int×List Int):=
(if(aaN (48<(a0.length:Int)))then
some (0,4,([]:List Int))
else
(if(aaN ((a0.length:Int)=0))then
some (0,5,([]:List Int))
else
(tO (a0.length:Int) 0).bind λl1=>
bF (J:=(List Int)×List Int) (R:=Int×Int×List Int) (Loop (S:=Int×(List Int)×List Int) (X:=((List Int)×List Int)⊕(Int×Int×List Int)) (λs3=>
(if(aaN (s3.1<(a0.length:Int)))then
(idx a0 s3.1).bind λx4=>
(M.jA N x4.1).bind λy5=>
(if(aaN (y5<0))then
some (.inr (.inr (s3.1,2,([]:List Int))))
else
(if(aaN ((s3.2.2.length:Int)<y5))then
some (.inr (.inr (s3.1,5,([]:List Int))))
else
(idx s3.2.1 s3.1).bind λx6=>
((if(aaN (0<y5))then
(idx s3.2.2 (YW.wrap ((s3.2.2.length:Int)-y5))).bind λx8=>
(idx (bz s3.2.1 s3.1 s3.1) s3.1).bind λx9=>
some (bz (bz s3.2.1 s3.1 s3.1) s3.1 x8)
else
some (bz s3.2.1 s3.1 s3.1)):Option (List Int)).bind λj7=>
(eG s3.2.2 0 (YW.wrap ((s3.2.2.length:Int)-y5))).bind λJg=>
(idx j7 s3.1).bind λwL=>
(b7 Jg ([wL]:List Int)).bind λIi=>
(if(aaN (12<(Ii.length:Int)))then
some (.inr (.inr (s3.1,16,([]:List Int))))
else
some (.inl (YW.wrap (s3.1+1),j7,Ii)))))
else
some (.inr (.inl (s3.2.1,s3.2.2))))) N (0,l1,([]:List Int))) λj2=>
(if(aaN (1<(j2.2.length:Int)))then
some ((a0.length:Int),4,([]:List Int))
else
some (0,0,j2.1))))
theorem RX(N:Nat):Fo 180 (.i1 [.l (.slice aa)]) (.j1 [.val aaM (.own 0), .l ae, .l ae] [.own 3 ae] 1) (M.gU N):=fz N [ck (Oc N)] (.o (.o (.o (.o (.o (.join ⟨[(6, .val aaM (.own 224))],[(176, .own 3 ae),(224, .own 3 ae)],[],226⟩ (.o (.two (.loop ⟨[(6, .val aaM (.own 272)),(21, .l ae)],[(176, .own 3 ae),(272, .own 3 ae)],[],274⟩ (.o (.o (.two (.two (.o (.o (.o (.o (.o (.meet ⟨[],[(176, .own 3 ae)],[],627⟩ .nil .nil)))))) .nil) .nil)))) .nil)) .nil)))))) Tryz.func180
def M.lf(N:Nat)(a0:Int):Option Bool:=
((if(aaN (a0=1))then
some (aaN (a0=1))
else
(if(aaN (a0=2))then
some (aaN (a0=2))
else
(if(aaN (a0=3))then
some (aaN (a0=3))
else
(if(aaN (a0=4))then
some (aaN (a0=4))
else
(if(aaN (a0=5))then
some (aaN (a0=5))
else
(if(aaN (a0=6))then
some (aaN (a0=6))
else
(if(aaN (a0=7))then
some (aaN (a0=7))
else
(if(aaN (a0=8))then
some (aaN (a0=8))
else
(if(aaN (a0=14))then
some (aaN (a0=14))
else
(if(aaN (a0=15))then
some (aaN (a0=15))
else
(if(aaN (a0=16))then
some (aaN (a0=16))
else
(if(aaN (a0=33))then
some (aaN (a0=33))
else
(if(aaN (a0=34))then
some (aaN (a0=34))
else
(if(aaN (a0=36))then
some (aaN (a0=36))
else
(if(aaN (a0=37))then
some (aaN (a0=37))
else
(if(aaN (a0=38))then
some (aaN (a0=38))
else
some (aaN (a0=39)))))))))))))))))):Option Bool).bind λj1=>
(if j1 then
some aaL
else
some aaM)
theorem RY(N:Nat):Fo 181 (.i1 [.l ae]) (.i1 [.l .bool]) (M.lf N):=fz N [] (.o (.two (.o (.two (.mb 4 32) .nil)) .nil)) Tryz.func181
def M.cC(N:Nat)(a0:Int)(a1:Int)(a2:bg.den):Option (aa.den×Int):=
(M.fH N (a1,0) a2.1).bind λy1=>
((if(aaN (a0<y1.1))then
some aaL
else
some (aaN (y1.2<a0))):Option Bool).bind λj2=>
(if j2 then
some ((0,0),3)
else
some ((a1,0),0))
theorem RZ(N:Nat):Fo 199 (.i1 [.l ae, .l ae, .g bg]) (.i1 [.g aa, .l ae]) (u3 (M.cC N)):=fz N [ck (TZ N)] (.o (.o (.two (.o (.mb 27 256)) .nil))) Tryz.func199
def M.br(N:Nat)(a0:Int)(a1:bg.den):Option (aa.den×Int):=
(if(aaN (a0<0))then
some ((0,0),3)
else
((if(aaN ((a1.1.length:Int)<=(YW.wrap (Z6 a0 16))))then
some aaL
else
(idx a1.1 (YW.wrap (Z6 a0 16))).bind λx2=>
some (aaN ((x2.2.length:Int)<=(aaq a0 16)))):Option Bool).bind λj1=>
(if j1 then
some ((0,0),6)
else
some ((6,YW.wrap (Z6 a0 16)),0)))
theorem R0(N:Nat):Fo 200 (.i1 [.l ae, .g bg]) (.i1 [.g aa, .l ae]) (u2 (M.br N)):=fz N [] (.o (.o (.o (.two (.mb 30 176) .nil)))) Tryz.func200
def M.dI(N:Nat)(a0:Int)(a1:List aa.den)(a2:bg.den):Option (aa.den×Int):=
((if(aaN (a0<0))then
some aaL
else
some (aaN ((a1.length:Int)<=a0))):Option Bool).bind λj1=>
(if j1 then
some ((0,0),6)
else
(idx a1 a0).bind λx2=>
(M.bU N x2 a2.1).bind λy3=>
(if(!y3)then
some ((0,0),8)
else
(idx a1 a0).bind λx4=>
some (x4,0)))
theorem Od(N:Nat):Fo 201 (.i1 [.l ae, .l (.slice aa), .g bg]) (.i1 [.g aa, .l ae]) (u3 (M.dI N)):=fz N [ck (N7 N)] (.o (.two (.mb 15 48) .nil)) Tryz.func201
def M.fA(N:Nat)(a0:Int):Option Bool:=
((if(aaN (0<=a0))then
some (aaN (a0<=5))
else
some aaM):Option Bool).bind λj1=>
some j1
theorem Oe(N:Nat):Fo 204 (.i1 [.l ae]) (.i1 [.l .bool]) (M.fA N):=fz N [] (.o (.mb 2 16)) Tryz.func204
def M.gV(N:Nat)(a0:aa.den)(a1:aa.den)(a2:bg.den):Option (aa.den×Int):=
bF (J:=Int) (R:=aa.den×Int) ((if(aaN (a0.1=34))then
((if(aaN (a0.2<0))then
some aaL
else
(M.fA N (aaq a0.2 8)).bind λy3=>
some (!y3)):Option Bool).bind λj2=>
(if j2 then
some (.inr ((0,0),3))
else
some (.inl (YW.wrap (Z6 a0.2 8))))
else
some (.inl a0.2))) λj1=>
((if(aaN (j1<0))then
some aaL
else
some (aaN ((a2.2.1.length:Int)<=j1))):Option Bool).bind λj4=>
(if j4 then
some ((0,0),6)
else
(idx a2.2.1 j1).bind λx5=>
(idx a2.2.1 j1).bind λx6=>
((M.bU N x5.2.1 a2.1).bind λy8=>
(if(!y8)then
some aaL
else
(M.bU N x6.2.2.1 a2.1).bind λy9=>
(if(!y9)then
some aaL
else
some (!(ku aa a1 x5.2.1)))):Option Bool).bind λj7=>
(if j7 then
some ((0,0),8)
else
(if(aaN (a0.1=34))then
((if(!aaN (x5.2.1.1=3))then
some aaL
else
some (!aaN (x6.2.2.1.1=4))):Option Bool).bind λrj=>
(if rj then
some ((0,0),8)
else
some (x5.2.1,0))
else
some (x6.2.2.1,0))))
theorem R1(N:Nat):Fo 202 (.i1 [.g aa, .g aa, .g bg]) (.i1 [.g aa, .l ae]) (u3 (M.gV N)):=fz N [ck (N7 N),ck (Oe N)] (.o (.o (.join ⟨[(8, .l ae)],[],[],128⟩ (.o (.two (.two (.mb 25 176) .nil) .nil)) (.two (.mb 38 128) (.o (.two (.mb 68 384) (.two (.o (.two (.two (.mb 80 432) .nil) .nil)) .nil))))))) Tryz.func202
def M.dq(N:Nat)(a0:Int):Option Bool:=
((if(aaN (a0=2))then
some aaL
else
(if(aaN (a0=3))then
some aaL
else
some (aaN (a0=4)))):Option Bool).bind λj1=>
some j1
theorem Of(N:Nat):Fo 217 (.i1 [.l ae]) (.i1 [.l .bool]) (M.dq N):=fz N [] (.o (.mb 2 16)) Tryz.func217
def M.bc(N:Nat)(a0:aa.den)(a1:bg.den):Option (aa.den×Int):=
(if(!a1.2.2.2.2.2)then
some ((0,0),6)
else
(if(aaN (a0.1=35))then
some ((2,0),0)
else
(M.dI N a0.2 a1.2.2.2.2.1 a1).bind λy1=>
(if(!aaN (y1.2=0))then
some ((0,0),y1.2)
else
((if(aaN (a0.1=36))then
(if(aaN (y1.1.1=2))then
some aaL
else
some (aaN (y1.1.1=3)))
else
((if(aaN (a0.1=37))then
some (aaN (a0.1=37))
else
some (aaN (a0.1=38))):Option Bool).bind λj3=>
(if j3 then
some (aaN (y1.1.1=1))
else
(if(aaN (a0.1=39))then
(M.dq N y1.1.1).bind λy4=>
(if y4 then
some aaL
else
some (aaN (y1.1.1=5)))
else
some aaM))):Option Bool).bind λj2=>
(if(!j2)then
some ((0,0),8)
else
some (y1.1,0)))))
theorem R2(N:Nat):Fo 203 (.i1 [.g aa, .g bg]) (.i1 [.g aa, .l ae]) (u2 (M.bc N)):=fz N [ck (Od N),ck (Of N)] (.o (.o (.o (.o (.o (.o (.two (.o (.meet ⟨[(8, .l .bool)],[],[],432⟩ (.o (.o (.mb 42 464))) .nil)) .nil))))))) Tryz.func203
def M.iw(N:Nat)(a0:Int)(a1:Int)(a2:Int):Option (aa.den×Bool):=
(if(aaN (a0=14))then
((if(aaN (a2=4))then
(if(aaN (a1=3))then
some (aaL,(a1,0))
else
some (aaN (a1=4),(a1,0)))
else
some (aaM,(a1,0))):Option (Bool×aa.den)).bind λj1=>
some (j1.2,j1.1)
else
(if(aaN (a2=2))then
((if(aaN (a1=2))then
some (aaL,(a1,0))
else
some (aaN (a1=3),(a1,0))):Option (Bool×aa.den)).bind λj2=>
some (j2.2,j2.1)
else
((if(aaN (a0=15))then
(if(aaN (a1=3))then
some (aaN (a2=3))
else
some aaM)
else
some aaM):Option Bool).bind λj3=>
(if j3 then
some ((4,0),aaL)
else
some ((0,0),aaM))))
theorem R3(N:Nat):Fo 218 (.i1 [.l ae, .l ae, .l ae]) (.i1 [.g aa, .l .bool]) (u3 (M.iw N)):=fz N [] (.o (.two (.two (.o (.two (.meet ⟨[(7, .l .bool)],[(0, .box 66 (.leaf aa))],[],81⟩ .nil .nil) (.o (.two (.meet ⟨[(7, .l .bool)],[(0, .box 66 (.leaf aa))],[],129⟩ .nil .nil) (.mb 34 128))))) .nil) .nil)) Tryz.func218
def M.cI(N:Nat)(a0:Int)(a1:List aa.den):Option (aa.den×Bool):=
(if(aaN (a0=10))then
(idx a1 0).bind λx1=>
(idx a1 0).bind λx2=>
(M.dq N x2.1).bind λy3=>
some (x1,y3)
else
(if(aaN (a0=25))then
(idx a1 0).bind λx4=>
some ((1,0),aaN (x4.1=1))
else
((if(aaN (a0=11))then
some (aaN (a0=11))
else
some (aaN (a0=12))):Option Bool).bind λj5=>
(if j5 then
((idx a1 0).bind λx7=>
(idx a1 0).bind λx8=>
(idx a1 1).bind λx9=>
(if(ku aa x8 x9)then
(idx a1 0).bind λrk=>
(M.dq N rk.1).bind λD9=>
some (D9,x7)
else
some (aaM,x7)):Option (Bool×aa.den)).bind λj6=>
some (j6.2,j6.1)
else
((if(aaN (a0=13))then
some (aaN (a0=13))
else
(if(aaN (a0=14))then
some (aaN (a0=14))
else
some (aaN (a0=15)))):Option Bool).bind λv8=>
(if v8 then
(idx a1 0).bind λsz=>
(idx a1 1).bind λET=>
(M.iw N a0 sz.1 ET.1).bind λIj=>
some (Ij.1,Ij.2)
else
(if(aaN (a0=16))then
((idx a1 0).bind λOg=>
(idx a1 0).bind λKh=>
(if(aaN (Kh.1=3))then
(idx a1 1).bind λLu=>
some (aaN (Lu.1=3),Og)
else
some (aaM,Og)):Option (Bool×aa.den)).bind λIk=>
some (Ik.2,Ik.1)
else
((if(aaN (a0=17))then
some (aaN (a0=17))
else
some (aaN (a0=18))):Option Bool).bind λKi=>
(if Ki then
((idx a1 0).bind λLv=>
(idx a1 0).bind λWm=>
(idx a1 1).bind λWn=>
(if(ku aa Wm Wn)then
(idx a1 0).bind λR4=>
(M.dq N R4.1).bind λR5=>
(if R5 then
some (aaL,Lv)
else
(idx a1 0).bind λWo=>
some (aaN (Wo.1=5),Lv))
else
some (aaM,Lv)):Option (Bool×aa.den)).bind λR6=>
some (R6.2,R6.1)
else
((if(aaN (a0=19))then
some (aaN (a0=19))
else
some (aaN (a0=20))):Option Bool).bind λR7=>
(if R7 then
(idx a1 0).bind λR8=>
(idx a1 1).bind λWq=>
some ((1,0),(ku aa R8 Wq))
else
((if(aaN (a0=21))then
some (aaN (a0=21))
else
some (aaN (a0=22))):Option Bool).bind λMC=>
(if MC then
((idx a1 0).bind λWr=>
(idx a1 1).bind λWs=>
(if(ku aa Wr Ws)then
(idx a1 0).bind λWt=>
(M.dq N Wt.1).bind λWu=>
(if Wu then
some (aaL,(1,0))
else
(idx a1 0).bind λWv=>
some (aaN (Wv.1=5),(1,0)))
else
some (aaM,(1,0))):Option (Bool×aa.den)).bind λT5=>
some (T5.2,T5.1)
else
((if(aaN (a0=23))then
some (aaN (a0=23))
else
some (aaN (a0=24))):Option Bool).bind λWw=>
(if Ww then
((idx a1 0).bind λWx=>
(if(aaN (Wx.1=1))then
(idx a1 1).bind λWy=>
some (aaN (Wy.1=1),(1,0))
else
some (aaM,(1,0))):Option (Bool×aa.den)).bind λT6=>
some (T6.2,T6.1)
else
(if(aaN (a0=26))then
((idx a1 1).bind λT7=>
(idx a1 0).bind λWz=>
(if(aaN (Wz.1=1))then
(idx a1 1).bind λWA=>
(idx a1 2).bind λWB=>
some ((ku aa WA WB),T7)
else
some (aaM,T7)):Option (Bool×aa.den)).bind λT8=>
some (T8.2,T8.1)
else
((if(aaN (a0=27))then
some (aaN (a0=27))
else
some (aaN (a0=28))):Option Bool).bind λWC=>
(if WC then
((idx a1 0).bind λT9=>
(idx a1 0).bind λWD=>
(if(aaN (WD.1=5))then
(idx a1 1).bind λWE=>
some (aaN (WE.1=2),T9)
else
some (aaM,T9)):Option (Bool×aa.den)).bind λUa=>
some (Ua.2,Ua.1)
else
((if(aaN (a0=29))then
some (aaN (a0=29))
else
some (aaN (a0=30))):Option Bool).bind λWG=>
(if WG then
((idx a1 0).bind λWH=>
(if(aaN (WH.1=5))then
(idx a1 1).bind λWI=>
some (aaN (WI.1=5),(2,0))
else
some (aaM,(2,0))):Option (Bool×aa.den)).bind λUb=>
some (Ub.2,Ub.1)
else
((if(aaN (a0=31))then
some (aaN (a0=31))
else
some (aaN (a0=32))):Option Bool).bind λWJ=>
(if WJ then
(idx a1 0).bind λWK=>
some ((2,0),aaN (WK.1=5))
else
some ((0,0),aaM))))))))))))))
theorem R9(N:Nat):Fo 205 (.i1 [.l ae, .l (.slice aa)]) (.i1 [.g aa, .l .bool]) (u2 (M.cI N)):=fz N [ck (Of N),ck (R3 N)] (.o (.o (.two (.o (.two (.o (.o (.o (.o (.meet ⟨[(27, .l .bool)],[],[],160⟩ .nil (.two (.meet ⟨[(5, .l .bool)],[(0, .box 66 (.leaf aa))],[],161⟩ .nil .nil) (.meet ⟨[(47, .l .bool)],[],[],160⟩ .nil (.o (.o (.two (.meet ⟨[(5, .l .bool)],[(0, .box 66 (.leaf aa))],[],193⟩ .nil .nil) (.meet ⟨[(80, .l .bool)],[],[],192⟩ .nil (.two (.meet ⟨[(5, .l .bool)],[(0, .box 66 (.leaf aa))],[],193⟩ .nil .nil) (.meet ⟨[(107, .l .bool)],[],[],192⟩ .nil (.o (.meet ⟨[(118, .l .bool)],[],[],192⟩ .nil (.two (.meet ⟨[(5, .l .bool)],[(0, .box 66 (.leaf aa))],[],193⟩ .nil .nil) (.meet ⟨[(143, .l .bool)],[],[],192⟩ .nil (.two (.meet ⟨[(5, .l .bool)],[(0, .box 66 (.leaf aa))],[],193⟩ .nil .nil) (.o (.two (.meet ⟨[(5, .l .bool)],[(0, .box 66 (.leaf aa))],[],225⟩ .nil .nil) (.meet ⟨[(178, .l .bool)],[],[],224⟩ .nil (.two (.meet ⟨[(5, .l .bool)],[(0, .box 66 (.leaf aa))],[],225⟩ .nil .nil) (.meet ⟨[(196, .l .bool)],[],[],224⟩ .nil (.two (.meet ⟨[(5, .l .bool)],[(0, .box 66 (.leaf aa))],[],225⟩ .nil .nil) (.mb 212 224))))))))))))))))))))))))) .nil)) .nil))) Tryz.func205
def M.aE(N:Nat)(a0:aa.den)(a1:List aa.den)(a2:bg.den):Option (aa.den×Int):=
bF (J:=Unit) (R:=aa.den×Int) ((if(aaN (a0.1=1))then
(M.cC N a0.2 1 a2).bind λy2=>
some (.inr (y2.1,y2.2))
else
(if(aaN (a0.1=2))then
(M.cC N a0.2 2 a2).bind λy3=>
some (.inr (y3.1,y3.2))
else
(if(aaN (a0.1=3))then
(M.cC N a0.2 3 a2).bind λy4=>
some (.inr (y4.1,y4.2))
else
(if(aaN (a0.1=4))then
(M.cC N a0.2 4 a2).bind λy5=>
some (.inr (y5.1,y5.2))
else
(if(aaN (a0.1=5))then
(M.cC N a0.2 5 a2).bind λy6=>
some (.inr (y6.1,y6.2))
else
(if(aaN (a0.1=6))then
(M.br N a0.2 a2).bind λy7=>
some (.inr (y7.1,y7.2))
else
(if(aaN (a0.1=7))then
(M.dI N a0.2 a2.2.2.1 a2).bind λy8=>
some (.inr (y8.1,y8.2))
else
(if(aaN (a0.1=8))then
(M.dI N a0.2 a2.2.2.2.1 a2).bind λy9=>
some (.inr (y9.1,y9.2))
else
(if(aaN (a0.1=9))then
some (.inr ((5,0),0))
else
((if(aaN (a0.1=33))then
some (aaN (a0.1=33))
else
some (aaN (a0.1=34))):Option Bool).bind λrj=>
(if rj then
(idx a1 0).bind λwL=>
(M.gV N a0 wL a2).bind λJh=>
some (.inr (Jh.1,Jh.2))
else
((if(aaN (a0.1=35))then
some (aaN (a0.1=35))
else
(if(aaN (a0.1=36))then
some (aaN (a0.1=36))
else
(if(aaN (a0.1=37))then
some (aaN (a0.1=37))
else
(if(aaN (a0.1=38))then
some (aaN (a0.1=38))
else
some (aaN (a0.1=39)))))):Option Bool).bind λIl=>
(if Il then
(M.bc N a0 a2).bind λtA=>
some (.inr (tA.1,tA.2))
else
((if(aaN (a0.1=14))then
some (aaN (a0.1=14))
else
(if(aaN (a0.1=15))then
some (aaN (a0.1=15))
else
some (aaN (a0.1=16)))):Option Bool).bind λGQ=>
(if GQ then
(M.fA N a0.2).bind λKj=>
(if(!Kj)then
some (.inr ((0,0),3))
else
some (.inl ()))
else
some (.inl ())))))))))))))) λj1=>
(M.cI N a0.1 a1).bind λLx=>
(if(!Lx.2)then
some ((0,0),8)
else
some (Lx.1,0))
theorem Sa(N:Nat):Fo 183 (.i1 [.g aa, .l (.slice aa), .g bg]) (.i1 [.g aa, .l ae]) (u3 (M.aE N)):=fz N [ck (RZ N),ck (R0 N),ck (Od N),ck (R1 N),ck (R2 N),ck (Oe N),ck (R9 N)] (.o (.two (.o (.join ⟨[],[],[],96⟩ (.o (.o (.o (.o (.o (.o (.o (.o (.o (.o (.o (.o (.o (.o (.o (.o (.o (.o (.meet ⟨[(83, .l .bool)],[],[],384⟩ .nil (.o (.meet ⟨[(94, .l .bool)],[],[],384⟩ .nil (.o (.mb 105 384))))))))))))))))))))))) .nil)) .nil)) Tryz.func183
def M.jY(N:Nat)(a0:List aa.den)(a1:bg.den):Option (aa.den×Int×Int):=
(M.gU N a0).bind λy1=>
(if(!aaN (y1.2.1=0))then
some ((0,0),y1.1,y1.2.1)
else
bF (J:=List aa.den) (R:=aa.den×Int×Int) (Loop (S:=Int×List aa.den) (X:=(List aa.den)⊕(aa.den×Int×Int)) (λs3=>
(if(aaN (s3.1<(a0.length:Int)))then
(idx a0 s3.1).bind λx4=>
((if(!aaN (x4.2=0))then
(M.lf N x4.1).bind λy6=>
some (!y6)
else
some aaM):Option Bool).bind λj5=>
(if j5 then
some (.inr (.inr ((0,0),s3.1,2)))
else
(M.jA N x4.1).bind λy7=>
(eG s3.2 (YW.wrap ((s3.2.length:Int)-y7)) (s3.2.length:Int)).bind λl8=>
(M.aE N x4 l8 a1).bind λy9=>
(if(!aaN (y9.2=0))then
some (.inr (.inr ((0,0),s3.1,y9.2)))
else
(eG s3.2 0 (YW.wrap ((s3.2.length:Int)-y7))).bind λJg=>
(b7 Jg ([y9.1]:List aa.den)).bind λGR=>
some (.inl (YW.wrap (s3.1+1),GR))))
else
some (.inr (.inl s3.2)))) N (0,([]:List aa.den))) λj2=>
(idx j2 0).bind λCd=>
some (Cd,0,0))
theorem Sb(N:Nat):Fo 161 (.i1 [.l (.slice aa), .g bg]) (.i1 [.g aa, .l ae, .l ae]) (u2 (M.jY N)):=fz N [ck (RX N),ck (RY N),ck (Oc N),ck (Sa N)] (.o (.o (.o (.o (.join ⟨[(10, .val aaM (.own 256))],[(256, .own 66 aa)],[],257⟩ (.o (.two (.loop ⟨[(10, .val aaM (.own 304)),(29, .l ae)],[(304, .own 66 aa)],[],305⟩ (.o (.o (.two (.two (.o (.two (.mb 42 417) .nil)) .nil) .nil)))) .nil)) .nil))))) Tryz.func161
def M.dT(N:Nat)(a0:List aa.den)(a1:bg.den)(a2:aa.den):Option Int:=
(M.jY N a0 a1).bind λy1=>
(if(!aaN (y1.2.2=0))then
some y1.2.2
else
(if(!(ku aa y1.1 a2))then
some 8
else
some 0))
theorem Sc(N:Nat):Fo 140 (.i1 [.l (.slice aa), .g bg, .g aa]) (.i1 [.l ae]) (u3 (M.dT N)):=fz N [ck (Sb N)] .nil Tryz.func140
def M.fS(N:Nat)(a0:cB.den)(a1:cB.den):Option (Bool×cB.den):=
some (aaN (a0.1=a1.1),a1)
theorem Ly(N:Nat):Fo 138 (.j1 [.g cB, .ptr 0 [] 0] [.box 77 (.leaf cB)] 1) (.j1 [.l .bool] [.box 77 (.leaf cB)] 2) (u2 (M.fS N)):=fz N [] .nil Tryz.func138
def M.aS(N:Nat)(a0:List cB.den)(a1:cB.den):Option (Int×cB.den):=
Loop (S:=Int×cB.den) (X:=Int×cB.den) (λs1=>
(if(aaN (s1.1<(a0.length:Int)))then
(idx a0 s1.1).bind λx2=>
(M.fS N x2 s1.2).bind λy3=>
(if y3.1 then
some (.inr (s1.1,y3.2))
else
some (.inl (YW.wrap (s1.1+1),y3.2)))
else
some (.inr ((-1),s1.2)))) N (0,a1)
theorem Lz(N:Nat):Fo 159 (.j1 [.l (.slice cB), .fn 138 [(0,[],0)]] [.box 77 (.leaf cB)] 1) (.j1 [.l ae] [.box 77 (.leaf cB)] 2) (u2 (M.aS N)):=fz N [ck (Ly N)] (.o (.two (.o (.two (.loop ⟨[(8, .l ae)],[(0, .box 77 (.leaf cB))],[],66⟩ .nil) .nil)) .nil)) Tryz.func159
def M.aM(N:Nat)(a0:List cB.den)(a1:cB.den):Option (Bool×cB.den):=
(M.aS N a0 a1).bind λy1=>
some (aaN (0<=y1.1),y1.2)
theorem LA(N:Nat):Fo 137 (.j1 [.l (.slice cB), .fn 138 [(0,[],0)]] [.box 77 (.leaf cB)] 1) (.j1 [.l .bool] [.box 77 (.leaf cB)] 2) (u2 (M.aM N)):=fz N [ck (Lz N)] .nil Tryz.func137
def M.fX(N:Nat)(a0:aW.den)(a1:Int)(a2:bg.den):Option Int:=
(idx a0.2.2.2.2 a1).bind λx1=>
((eG a0.2.2.2.2 0 a1).bind λl3=>
Loop (S:=Int×Int) (X:=Int) (λs4=>
(if(aaN (s4.2<(l3.length:Int)))then
((idx l3 s4.2).bind λx6=>
(if(aaN (x6.2.1=x1.2.1))then
some (YW.wrap (s4.1+1))
else
some s4.1):Option Int).bind λj5=>
some (.inl (j5,YW.wrap (s4.2+1)))
else
some (.inr s4.1))) N (0,0):Option Int).bind λj2=>
(M.bu N x1.1).bind λy7=>
(if(!y7)then
some 2
else
(eG a0.2.2.2.2 0 a1).bind λl8=>
(M.aM N l8 x1).bind λy9=>
(if y9.1 then
some 7
else
((if(aaN (y9.2.2.1<0))then
some aaL
else
some (aaN ((a0.2.2.2.1.length:Int)<=y9.2.2.1))):Option Bool).bind λrj=>
(if rj then
some 6
else
((if(!aaN (y9.2.2.2.1=(-1)))then
(if(aaN (y9.2.2.2.1<0))then
some aaL
else
(if(aaN (a1<=y9.2.2.2.1))then
some aaL
else
(idx a0.2.2.2.2 y9.2.2.2.1).bind λCd=>
some (!aaN (Cd.2.1=y9.2.2.1))))
else
some aaM):Option Bool).bind λCb=>
(if Cb then
some 9
else
((if(aaN (y9.2.2.2.2.1<0))then
some aaL
else
some (aaN (9<y9.2.2.2.2.1))):Option Bool).bind λIl=>
(if Il then
some 3
else
((if(aaN (y9.2.2.2.2.2.1.1<0))then
some aaL
else
(if(aaN (y9.2.2.2.2.2.1.2<=y9.2.2.2.2.2.1.1))then
some aaL
else
some (aaN (109573<y9.2.2.2.2.2.1.2)))):Option Bool).bind λIm=>
(if Im then
some 3
else
(if(aaN (8<=j2))then
some 4
else
(M.gm N y9.2.2.2.2.2.2.2.2).bind λIj=>
(if(!Ij)then
some 2
else
bF (J:=Unit) (R:=Int) ((if(aaN (0<(y9.2.2.2.2.2.2.1.length:Int)))then
(M.dT N y9.2.2.2.2.2.2.1 a2 (1,0)).bind λLx=>
(if(!aaN (Lx=0))then
some (.inr Lx)
else
some (.inl ()))
else
some (.inl ()))) λIk=>
(idx a0.2.2.2.1 y9.2.2.1).bind λKh=>
(M.dT N y9.2.2.2.2.2.2.2.1 a2 Kh.2).bind λPB=>
some PB))))))))
theorem Sd(N:Nat):Fo 100 (.i1 [.g aW, .l ae, .g bg]) (.i1 [.l ae]) (u3 (M.fX N)):=fz N [ck (N4 N),ck (LA N),ck (RW N),ck (Sc N)] (.o (.o (.o (.meet ⟨[(8, .l ae)],[],[],176⟩ (.o (.two (.loop ⟨[(8, .l ae),(22, .l ae)],[],[],272⟩ (.o (.o (.two (.meet ⟨[(8, .l ae)],[],[],288⟩ .nil .nil) .nil)))) .nil)) (.two (.two (.o (.o (.o (.o (.meet ⟨[(46, .l .bool)],[],[],368⟩ .nil (.o (.meet ⟨[(58, .l .bool)],[],[],368⟩ .nil (.o (.meet ⟨[(85, .l .bool)],[],[],368⟩ .nil (.o (.mb 94 368))))))))))) .nil) (.join ⟨[],[],[],496⟩ .nil .nil)))))) Tryz.func100
def M.dL(N:Nat)(a0:List Int)(a1:Int):Option Int:=
Loop (S:=Int) (X:=Int) (λs1=>
(if(aaN (s1<(a0.length:Int)))then
(idx a0 s1).bind λx2=>
(if(aaN (a1=x2))then
some (.inr s1)
else
some (.inl (YW.wrap (s1+1))))
else
some (.inr (-1)))) N 0
theorem Se(N:Nat):Fo 141 (.i1 [.l (.slice ae), .l ae]) (.i1 [.l ae]) (u2 (M.dL N)):=fz N [] (.o (.two (.o (.two (.lp 8 64 .nil) .nil)) .nil)) Tryz.func141
def M.c8(N:Nat)(a0:List Int)(a1:Int):Option Bool:=
(M.dL N a0 a1).bind λy1=>
some (aaN (0<=y1))
theorem Sf(N:Nat):Fo 101 (.i1 [.l (.slice ae), .l ae]) (.i1 [.l .bool]) (u2 (M.c8 N)):=fz N [ck (Se N)] .nil Tryz.func101
def M.jg(N:Nat)(a0:List (List Int))(a1:Int):Option (List Int):=
(tO (a0.length:Int) aaM).bind λl1=>
(Loop (S:=(List Bool)×List Int) (X:=List Bool) (λs3=>
(if(aaN (0<(s3.2.length:Int)))then
(idx s3.2 0).bind λx4=>
(eG s3.2 1 (s3.2.length:Int)).bind λl5=>
(idx a0 x4).bind λx6=>
Loop (S:=Int×(List Bool)×List Int) (X:=((List Bool)×List Int)⊕(List Bool)) (λs7=>
(if(aaN (s7.1<(x6.length:Int)))then
((idx x6 s7.1).bind λx9=>
(idx s7.2.1 x9).bind λrk=>
(if(!rk)then
(idx s7.2.1 x9).bind λwL=>
(b7 s7.2.2 ([x9]:List Int)).bind λIi=>
some (bz s7.2.1 x9 aaL,Ii)
else
some (s7.2.1,s7.2.2)):Option ((List Bool)×List Int)).bind λj8=>
some (.inl (YW.wrap (s7.1+1),j8.1,j8.2))
else
some (.inr (.inl (s7.2.1,s7.2.2))))) N (0,s3.1,l5)
else
some (.inr s3.1))) N (l1,([a1]:List Int)):Option (List Bool)).bind λj2=>
Loop (S:=Int×List Int) (X:=List Int) (λCa=>
(if(aaN (Ca.1<(j2.length:Int)))then
((idx j2 Ca.1).bind λIo=>
(if Io then
(b7 Ca.2 ([Ca.1]:List Int)).bind λLB=>
some LB
else
some Ca.2):Option (List Int)).bind λIm=>
some (.inl (YW.wrap (Ca.1+1),Im))
else
some (.inr Ca.2))) N (0,([]:List Int))
def Sg(N:Nat):oq:=⟨.i1 [.l (.slice (.slice ae)), .l ae], .w1 3 ae,u2 (M.jg N)⟩
theorem Si(N:Nat):gK Tryz.prog 142 (Sg N):=fw (en [] aaM aaL) (N:=N) (.o (.o (.o (.meet ⟨[],[(48, .own 4 .bool)],[96],129⟩ (.two (.loop ⟨[(6, .val aaM (.own 128))],[(48, .own 4 .bool),(128, .own 3 ae)],[96],130⟩ (.o (.two (.o (.o (.o (.two (.loop ⟨[(6, .val aaM (.own 386)),(31, .l ae)],[(48, .own 4 .bool),(386, .own 3 ae)],[258],388⟩ (.o (.o (.two (.meet ⟨[(6, .val aaM (.own 404))],[(48, .own 4 .bool),(404, .own 3 ae)],[386],406⟩ .nil .nil) .nil)))) .nil)))) .nil))) .nil) (.o (.two (.o (.two (.loop ⟨[(10, .val aaM (.own 193)),(50, .l ae)],[(193, .own 3 ae)],[],194⟩ (.o (.o (.two (.meet ⟨[(10, .val aaM (.own 210))],[(210, .own 3 ae)],[193],211⟩ .nil .nil) .nil)))) .nil)) .nil)))))) Tryz.func142 (by kernel_rfl) λx=>by kernel_rfl
def M.cH(N:Nat)(a0:List Int):Option (List Int):=yk a0
def Sj(N:Nat):oq:=⟨.w1 3 ae, .j1 [] [.own 3 ae] 2,M.cH N⟩
theorem Oh(N:Nat):gK Tryz.prog 185 (Sj N):=Je ⟨_,Tryz.func185,by kernel_rfl,by kernel_rfl⟩ Tryz.slices_Sort_int Tryz.slices_Sort_int_none
def M.bY(N:Nat)(a0:List Int):Option (List Int):=mg a0
def Sk(N:Nat):oq:=⟨.w1 3 ae,⟨[(0, .val aaM (.own 1))],[(1, .own 3 ae)],[],2⟩,M.bY N⟩
theorem Oi(N:Nat):gK Tryz.prog 186 (Sk N):=AG ⟨_,Tryz.func186,by kernel_rfl,by kernel_rfl⟩ Tryz.slices_Compact_int Tryz.slices_Compact_int_empty
def M.eA(N:Nat)(a0:List Int):Option (List Int):=
(M.cH N a0).bind λy1=>
(M.bY N y1).bind λy2=>
some y2
theorem LC(N:Nat):Fo 206 (.w1 3 ae) ⟨[(0, .val aaM (.own 1))],[(1, .own 3 ae)],[],2⟩ (M.eA N):=fz N [ck (Oh N),ck (Oi N)] .nil Tryz.func206
def M.eX(N:Nat)(a0:List aa.den):Option ((List Int)×(List Int)×List Int):=
(Loop (S:=Int×(List Int)×(List Int)×List Int) (X:=(List Int)×(List Int)×List Int) (λs2=>
(if(aaN (s2.1<(a0.length:Int)))then
(idx a0 s2.1).bind λx3=>
((if(aaN (x3.1=7))then
(b7 s2.2.1 ([x3.2]:List Int)).bind λl5=>
some (l5,s2.2.2.1,s2.2.2.2)
else
(if(aaN (x3.1=8))then
(b7 s2.2.2.1 ([x3.2]:List Int)).bind λl6=>
some (s2.2.1,l6,s2.2.2.2)
else
((if(aaN (x3.1=36))then
some (aaN (x3.1=36))
else
(if(aaN (x3.1=37))then
some (aaN (x3.1=37))
else
(if(aaN (x3.1=38))then
some (aaN (x3.1=38))
else
some (aaN (x3.1=39))))):Option Bool).bind λj7=>
(if j7 then
(b7 s2.2.2.2 ([x3.2]:List Int)).bind λl8=>
some (s2.2.1,s2.2.2.1,l8)
else
some (s2.2.1,s2.2.2.1,s2.2.2.2)))):Option ((List Int)×(List Int)×List Int)).bind λj4=>
some (.inl (YW.wrap (s2.1+1),j4.1,j4.2.1,j4.2.2))
else
some (.inr (s2.2.1,s2.2.2.1,s2.2.2.2)))) N (0,([]:List Int),([]:List Int),([]:List Int)):Option ((List Int)×(List Int)×List Int)).bind λj1=>
(M.eA N j1.1).bind λy9=>
(M.eA N j1.2.1).bind λLq=>
(M.eA N j1.2.2).bind λD9=>
some (y9,Lq,D9)
theorem Sl(N:Nat):Fo 184 (.i1 [.l (.slice aa)]) (.j1 [.val aaM (.own 0), .val aaM (.own 1), .val aaM (.own 2)] [.own 3 ae, .own 3 ae, .own 3 ae] 3) (M.eX N):=fz N [ck (LC N)] (.o (.o (.meet ⟨[(5, .val aaM (.own 96)),(6, .val aaM (.own 97)),(7, .val aaM (.own 98))],[(96, .own 3 ae),(97, .own 3 ae),(98, .own 3 ae)],[],99⟩ (.o (.two (.loop ⟨[(5, .val aaM (.own 144)),(6, .val aaM (.own 145)),(7, .val aaM (.own 146)),(12, .l ae)],[(144, .own 3 ae),(145, .own 3 ae),(146, .own 3 ae)],[],147⟩ (.o (.o (.two (.two (.o (.o (.meet ⟨[(5, .val aaM (.own 259)),(6, .val aaM (.own 260)),(7, .val aaM (.own 261))],[(259, .own 3 ae),(260, .own 3 ae),(261, .own 3 ae)],[144,145,146],262⟩ (.o (.o (.o (.o (.mb 32 323))))) .nil))) .nil) .nil)))) .nil)) .nil))) Tryz.func184
def M.eN(N:Nat)(a0:cB.den)(a1:Int):Option (List Int):=
(M.eX N a0.2.2.2.2.2.1).bind λy1=>
(M.eX N a0.2.2.2.2.2.2.1).bind λy2=>
(Loop (S:=Int×List Int) (X:=List Int) (λs4=>
(if(aaN (s4.1<(y1.2.1.length:Int)))then
((idx y1.2.1 s4.1).bind λx6=>
((if(aaN (0<=x6))then
some (aaN (x6<a1))
else
some aaM):Option Bool).bind λj7=>
(if j7 then
(b7 s4.2 ([x6]:List Int)).bind λl8=>
some l8
else
some s4.2):Option (List Int)).bind λj5=>
some (.inl (YW.wrap (s4.1+1),j5))
else
some (.inr s4.2))) N (0,([]:List Int)):Option (List Int)).bind λj3=>
Loop (S:=Int×List Int) (X:=List Int) (λs9=>
(if(aaN (s9.1<(y2.2.1.length:Int)))then
((idx y2.2.1 s9.1).bind λwL=>
((if(aaN (0<=wL))then
some (aaN (wL<a1))
else
some aaM):Option Bool).bind λv8=>
(if v8 then
(b7 s9.2 ([wL]:List Int)).bind λOj=>
some Oj
else
some s9.2):Option (List Int)).bind λrj=>
some (.inl (YW.wrap (s9.1+1),rj))
else
some (.inr s9.2))) N (0,j3)
theorem Sm(N:Nat):Fo 162 (.i1 [.g cB, .l ae]) (.w1 3 ae) (u2 (M.eN N)):=fz N [ck (Sl N)] (.o (.o (.o (.o (.meet ⟨[(5, .val aaM (.own 368))],[(368, .own 3 ae)],[],369⟩ (.o (.two (.loop ⟨[(5, .val aaM (.own 416)),(32, .l ae)],[(416, .own 3 ae)],[],417⟩ (.o (.o (.two (.meet ⟨[(5, .val aaM (.own 433))],[(433, .own 3 ae)],[416],434⟩ (.o (.mb 42 481)) .nil) .nil)))) .nil)) (.two (.o (.two (.loop ⟨[(5, .val aaM (.own 417)),(50, .l ae)],[(417, .own 3 ae)],[368],418⟩ (.o (.o (.two (.meet ⟨[(5, .val aaM (.own 434))],[(434, .own 3 ae)],[417],435⟩ (.o (.mb 60 482)) .nil) .nil)))) .nil)) .nil)))))) Tryz.func162
def M.gW(N:Nat)(a0:List Int):Option (List Int):=
(M.cH N a0).bind λy1=>
(M.bY N y1).bind λy2=>
some y2
theorem LD(N:Nat):Fo 163 (.w1 3 ae) ⟨[(0, .val aaM (.own 1))],[(1, .own 3 ae)],[],2⟩ (M.gW N):=fz N [ck (Oh N),ck (Oi N)] .nil Tryz.func163
def M.gX(N:Nat)(a0:aW.den):Option (List (List Int)):=
(tO (a0.2.2.2.1.length:Int) ([]:List Int)).bind λl1=>
(Loop (S:=Int×List (List Int)) (X:=List (List Int)) (λs3=>
(if(aaN (s3.1<(a0.2.2.2.2.length:Int)))then
((idx a0.2.2.2.2 s3.1).bind λx5=>
((if(aaN (0<=x5.2.1))then
some (aaN (x5.2.1<(s3.2.length:Int)))
else
some aaM):Option Bool).bind λj6=>
(if j6 then
(idx s3.2 x5.2.1).bind λx7=>
(idx s3.2 x5.2.1).bind λx8=>
(M.eN N x5 (s3.2.length:Int)).bind λy9=>
(b7 x8 y9).bind λJg=>
(idx s3.2 x5.2.1).bind λwL=>
(if aaN (x5.2.1=x5.2.1)then
(idx s3.2 x5.2.1).bind λCd=>
some (pB s3.2 x5.2.1 (λm13=>Jg))
else aaK)
else
some s3.2):Option (List (List Int))).bind λj4=>
some (.inl (YW.wrap (s3.1+1),j4))
else
some (.inr s3.2))) N (0,l1):Option (List (List Int))).bind λj2=>
Loop (S:=Int×List (List Int)) (X:=List (List Int)) (λAJ=>
(if(aaN (AJ.1<(j2.length:Int)))then
(idx AJ.2 AJ.1).bind λIo=>
(idx AJ.2 AJ.1).bind λLn=>
(M.gW N Ln).bind λLx=>
(idx AJ.2 AJ.1).bind λKh=>
(if aaN (AJ.1=AJ.1)then
(idx AJ.2 AJ.1).bind λLu=>
some (.inl (YW.wrap (AJ.1+1),pB AJ.2 AJ.1 (λm20=>Lx)))
else aaK)
else
some (.inr AJ.2))) N (0,j2)
def Sp(N:Nat):oq:=⟨.i1 [.g aW], .j1 [.val aaM (.own 0)] [.deep 31 (.sl 3 (.leaf ae))] 1,M.gX N⟩
theorem Sq(N:Nat):gK Tryz.prog 143 (Sp N):=fw (en [ck (Sm N),ck (LD N)] aaL aaM) (N:=N) (.o (.o (.meet ⟨[],[(80, .deep 31 (.sl 3 (.leaf ae)))],[],113⟩ (.o (.two (.loop ⟨[(15, .l ae)],[(80, .deep 31 (.sl 3 (.leaf ae)))],[],177⟩ (.o (.o (.two (.meet ⟨[],[(80, .deep 31 (.sl 3 (.leaf ae)))],[],194⟩ (.o (.meet ⟨[(28, .l .bool)],[],[],257⟩ .nil .nil)) .nil) .nil)))) .nil)) (.two (.o (.two (.loop ⟨[(46, .l ae)],[(80, .deep 31 (.sl 3 (.leaf ae)))],[],162⟩ .nil) .nil)) .nil)))) Tryz.func143 (by kernel_rfl) λx=>by kernel_rfl
def M.eY(N:Nat)(a0:aW.den)(a1:Int):Option (List Int):=
((if(aaN (a1<0))then
some aaL
else
some (aaN ((a0.2.2.2.1.length:Int)<=a1))):Option Bool).bind λj1=>
(if j1 then
some ([]:List Int)
else
(M.gX N a0).bind λy2=>
(M.jg N y2 a1).bind λy3=>
some y3)
theorem Sr(N:Nat):Fo 102 (.i1 [.g aW, .l ae]) (.w1 3 ae) (u2 (M.eY N)):=fz N [ck (Si N),ck (Sq N)] (.o (.two (.mb 13 32) .nil)) Tryz.func102
def M.fB(N:Nat)(a0:aW.den)(a1:aW.den):Option (Bool×aW.den):=
some (aaN (a0.1=a1.1),a1)
theorem Ol(N:Nat):Fo 97 (.j1 [.g aW, .ptr 0 [] 0] [.box 50 (.leaf aW)] 1) (.j1 [.l .bool] [.box 50 (.leaf aW)] 2) (u2 (M.fB N)):=fz N [] .nil Tryz.func97
def M.aP(N:Nat)(a0:List aW.den)(a1:aW.den):Option (Int×aW.den):=
Loop (S:=Int×aW.den) (X:=Int×aW.den) (λs1=>
(if(aaN (s1.1<(a0.length:Int)))then
(idx a0 s1.1).bind λx2=>
(M.fB N x2 s1.2).bind λy3=>
(if y3.1 then
some (.inr (s1.1,y3.2))
else
some (.inl (YW.wrap (s1.1+1),y3.2)))
else
some (.inr ((-1),s1.2)))) N (0,a1)
theorem LF(N:Nat):Fo 133 (.j1 [.l (.slice aW), .fn 97 [(0,[],0)]] [.box 50 (.leaf aW)] 1) (.j1 [.l ae] [.box 50 (.leaf aW)] 2) (u2 (M.aP N)):=fz N [ck (Ol N)] (.o (.two (.o (.two (.loop ⟨[(8, .l ae)],[(0, .box 50 (.leaf aW))],[],66⟩ .nil) .nil)) .nil)) Tryz.func133
def M.aA(N:Nat)(a0:List aW.den)(a1:aW.den):Option (Bool×aW.den):=
(M.aP N a0 a1).bind λy1=>
some (aaN (0<=y1.1),y1.2)
theorem Om(N:Nat):Fo 96 (.j1 [.l (.slice aW), .fn 97 [(0,[],0)]] [.box 50 (.leaf aW)] 1) (.j1 [.l .bool] [.box 50 (.leaf aW)] 2) (u2 (M.aA N)):=fz N [ck (LF N)] .nil Tryz.func96
def M.gY(N:Nat)(a0:ew.den)(a1:Int):Option (Int×Int):=
(idx a0.2.2 a1).bind λx1=>
(eG a0.2.2 0 a1).bind λl2=>
((M.fq N a0.1 x1.1).bind λy4=>
(if y4 then
some (aaL,x1)
else
(M.fI N a0.2.1 x1.1).bind λy5=>
(if y5 then
some (aaL,x1)
else
(M.aA N l2 x1).bind λy6=>
some (y6.1,y6.2))):Option (Bool×aW.den)).bind λj3=>
(M.bu N j3.2.1).bind λy7=>
(if(!y7)then
some (2,0)
else
(if j3.1 then
some (7,0)
else
((if(!aaN (j3.2.2.1=(-1)))then
(if(aaN (j3.2.2.1<0))then
some aaL
else
(if(aaN (a1<=j3.2.2.1))then
some aaL
else
(idx l2 j3.2.2.1).bind λx9=>
some (!aaN (x9.2.1=(-1)))))
else
some aaM):Option Bool).bind λj8=>
(if j8 then
some (6,0)
else
(if(aaN (12<(j3.2.2.2.1.length:Int)))then
some (4,112)
else
(if(aaN (12<(j3.2.2.2.2.1.length:Int)))then
some (4,212)
else
bF (J:=Unit) (R:=Int×Int) (Loop (S:=Int) (X:=Unit⊕(Int×Int)) (λOn=>
(if(aaN (On<(j3.2.2.2.1.length:Int)))then
(idx j3.2.2.2.1 On).bind λCd=>
(eG j3.2.2.2.1 0 On).bind λOj=>
(M.fy N a0 Cd Oj ([]:List bi.den)).bind λtA=>
(if(!aaN (tA=0))then
some (.inr (.inr (tA,YW.wrap (100+On))))
else
some (.inl (YW.wrap (On+1))))
else
some (.inr (.inl ())))) N 0) λrj=>
bF (J:=Unit) (R:=Int×Int) (Loop (S:=Int) (X:=Unit⊕(Int×Int)) (λOo=>
(if(aaN (Oo<(j3.2.2.2.2.1.length:Int)))then
(idx j3.2.2.2.2.1 Oo).bind λOg=>
(eG j3.2.2.2.2.1 0 Oo).bind λSu=>
(M.fy N a0 Og j3.2.2.2.1 Su).bind λPB=>
(if(!aaN (PB=0))then
some (.inr (.inr (PB,YW.wrap (200+Oo))))
else
some (.inl (YW.wrap (Oo+1))))
else
some (.inr (.inl ())))) N 0) λGQ=>
(M.fR N a0 a1).bind λKl=>
bF (J:=Unit) (R:=Int×Int) (Loop (S:=Int) (X:=Unit⊕(Int×Int)) (λPC=>
(if(aaN (PC<(j3.2.2.2.2.2.length:Int)))then
(M.fX N j3.2 PC (Kl.1,(Kl.2.1,(Kl.2.2.2.1,(Kl.2.2.2.2.1,(Kl.2.2.2.2.2,Kl.2.2.1)))))).bind λUc=>
(if(!aaN (Uc=0))then
some (.inr (.inr (Uc,YW.wrap (300+PC))))
else
some (.inl (YW.wrap (PC+1))))
else
some (.inr (.inl ())))) N 0) λR6=>
Loop (S:=Int) (X:=Int×Int) (λOq=>
(if(aaN (Oq<(j3.2.2.2.2.1.length:Int)))then
(M.eY N j3.2 Oq).bind λWL=>
(M.c8 N WL Oq).bind λR5=>
(if R5 then
some (.inr (9,YW.wrap (200+Oq)))
else
some (.inl (YW.wrap (Oq+1))))
else
some (.inr (0,0)))) N 0)))))
theorem WM(N:Nat):Fo 64 (.i1 [.g ew, .l ae]) (.i1 [.l ae, .l ae]) (u2 (M.gY N)):=fz N [ck (N4 N),ck (RN N),ck (T4 N),ck (Om N),ck (Wk N),ck (Wl N),ck (Sd N),ck (Sf N),ck (Sr N)] (.o (.o (.o (.meet ⟨[(8, .l .bool)],[(128, .box 50 (.leaf aW))],[],241⟩ .nil (.two (.two (.o (.o (.o (.o (.mb 52 353))))) .nil) (.join ⟨[],[],[],513⟩ (.o (.two (.lp 89 577 .nil) .nil)) (.join ⟨[],[],[],513⟩ (.o (.two (.lp 110 577 .nil) .nil)) (.o (.join ⟨[],[],[],593⟩ (.o (.two (.lp 136 657 .nil) .nil)) (.two (.o (.two (.lp 152 657 .nil) .nil)) .nil)))))))))) Tryz.func64
def M.gn(N:Nat)(a0:ew.den):Option (bx.den):=
(if(aaN (4<(a0.2.2.length:Int)))then
some (4,(3,(4,0)))
else
bF (J:=Unit) (R:=bx.den) (Loop (S:=Int) (X:=Unit⊕(bx.den)) (λs2=>
(if(aaN (s2<(a0.2.2.length:Int)))then
(M.gY N a0 s2).bind λy3=>
(if(!aaN (y3.1=0))then
some (.inr (.inr (y3.1,(3,(s2,y3.2)))))
else
some (.inl (YW.wrap (s2+1))))
else
some (.inr (.inl ())))) N 0) λj1=>
some (0,(0,(0,0))))
theorem WN(N:Nat):Fo 39 (.i1 [.g ew]) (.i1 [.g bx]) (M.gn N):=fz N [ck (WM N)] (.o (.o (.join ⟨[],[],[],96⟩ (.o (.two (.lp 14 160 .nil) .nil)) .nil))) Tryz.func39
def M.dM(N:Nat)(a0:ew.den):Option (bx.den):=
(M.gQ N a0).bind λy1=>
(if(!aaN (y1.1=0))then
some y1
else
(M.gk N a0).bind λy2=>
(if(!aaN (y2.1=0))then
some y2
else
(M.gn N a0).bind λy3=>
some y3))
theorem Ud(N:Nat):Fo 16 (.i1 [.g ew]) (.i1 [.g bx]) (M.dM N):=fz N [ck (Wf N),ck (Wj N),ck (WN N)] .nil Tryz.func16
def M.eP(N:Nat)(a0:aa.den)(a1:Int):Option Bool:=
((M.dH N a0).bind λy2=>
(if y2 then
(if(aaN (a0.1<=a1))then
some (aaN (a1<a0.2))
else
some aaM)
else
some aaM):Option Bool).bind λj1=>
some j1
theorem WO(N:Nat):Fo 42 (.i1 [.g aa, .l ae]) (.i1 [.l .bool]) (u2 (M.eP N)):=fz N [ck (RP N)] (.o (.mb 4 32)) Tryz.func42
def M.dj(N:Nat)(a0:cB.den)(a1:Int)(a2:Int):Option (Bool×Int×Int):=
((if(aaN (a0.2.1=a1))then
(M.eP N a0.2.2.2.2.1 a2).bind λy2=>
some y2
else
some aaM):Option Bool).bind λj1=>
some (j1,a1,a2)
theorem Ot(N:Nat):Fo 41 (.j1 [.g cB, .ptr 0 [] 0, .ptr 1 [] 0] [.box 3 (.leaf ae), .box 3 (.leaf ae)] 2) (.j1 [.l .bool] [.box 3 (.leaf ae), .box 3 (.leaf ae)] 4) (u3 (M.dj N)):=fz N [ck (WO N)] (.o (.mb 4 34)) Tryz.func41
def M.dl(N:Nat)(a0:List cB.den)(a1:Int)(a2:Int):Option (Int×Int×(List Int)×List Int):=
(tO (a0.length:Int) 0).bind λl1=>
Loop (S:=Int×Int×Int×(List Int)×(List Int)×List Int) (X:=Int×Int×(List Int)×List Int) (λs2=>
(if(aaN (s2.1<(a0.length:Int)))then
((idx a0 s2.1).bind λx4=>
(((if(aaN (0<=x4.2.2.1))then
some (aaN (x4.2.2.1<s2.1))
else
some aaM):Option Bool).bind λj6=>
(if j6 then
(idx s2.2.2.2.1 x4.2.2.1).bind λx7=>
some x7
else
some (-1)):Option Int).bind λj5=>
(idx s2.2.2.2.1 s2.1).bind λx8=>
(M.dj N x4 s2.2.1 s2.2.2.1).bind λy9=>
(if y9.1 then
(idx (bz s2.2.2.2.1 s2.1 j5) s2.1).bind λrk=>
(b7 s2.2.2.2.2.1 ([s2.1]:List Int)).bind λGR=>
(b7 s2.2.2.2.2.2 ([j5]:List Int)).bind λIi=>
some (y9.2.1,y9.2.2,bz (bz s2.2.2.2.1 s2.1 j5) s2.1 (s2.2.2.2.2.1.length:Int),GR,Ii)
else
some (y9.2.1,y9.2.2,bz s2.2.2.2.1 s2.1 j5,s2.2.2.2.2.1,s2.2.2.2.2.2)):Option (Int×Int×(List Int)×(List Int)×List Int)).bind λj3=>
some (.inl (YW.wrap (s2.1+1),j3.1,j3.2.1,j3.2.2.1,j3.2.2.2.1,j3.2.2.2.2))
else
some (.inr (s2.2.1,s2.2.2.1,s2.2.2.2.2.1,s2.2.2.2.2.2)))) N (0,a1,a2,l1,([]:List Int),([]:List Int))
theorem Ou(N:Nat):Fo 40 (.j1 [.l (.slice cB), .fn 41 [(0,[],0),(1,[],0)]] [.box 3 (.leaf ae), .box 3 (.leaf ae)] 2) (.j1 [.val aaM (.own 2), .val aaM (.own 3)] [.box 3 (.leaf ae), .box 3 (.leaf ae), .own 3 ae, .own 3 ae] 6) (u3 (M.dl N)):=fz N [ck (Ot N)] (.o (.o (.o (.two (.o (.two (.loop ⟨[(6, .val aaM (.own 178)),(7, .val aaM (.own 179)),(17, .l ae)],[(0, .box 3 (.leaf ae)),(1, .box 3 (.leaf ae)),(98, .own 3 ae),(178, .own 3 ae),(179, .own 3 ae)],[],183⟩ (.o (.o (.two (.meet ⟨[(6, .val aaM (.own 199)),(7, .val aaM (.own 200))],[(0, .box 3 (.leaf ae)),(1, .box 3 (.leaf ae)),(98, .own 3 ae),(199, .own 3 ae),(200, .own 3 ae)],[178,179],204⟩ (.o (.o (.meet ⟨[(11, .l ae)],[],[],311⟩ (.mb 30 311) .nil))) .nil) .nil)))) .nil)) .nil)))) Tryz.func40
def M.dt(N:Nat)(a0:aW.den)(a1:Int)(a2:Int):Option ((List Int)×(List Int)×List Int):=
(M.dl N a0.2.2.2.2 a1 a2).bind λy1=>
(Loop (S:=Int×List Int) (X:=List Int) (λs3=>
(if(aaN (s3.1<(y1.2.2.1.length:Int)))then
(idx y1.2.2.1 s3.1).bind λx4=>
(idx a0.2.2.2.2 x4).bind λx5=>
(b7 s3.2 ([x5.2.2.2.1]:List Int)).bind λl6=>
some (.inl (YW.wrap (s3.1+1),l6))
else
some (.inr s3.2))) N (0,([]:List Int)):Option (List Int)).bind λj2=>
some (y1.2.2.1,y1.2.2.2,j2)
theorem Ue(N:Nat):Fo 17 (.i1 [.g aW, .l ae, .l ae]) (.j1 [.val aaM (.own 0), .val aaM (.own 1), .val aaM (.own 2)] [.own 3 ae, .own 3 ae, .own 3 ae] 3) (u3 (M.dt N)):=fz N [ck (Ou N)] (.o (.o (.o (.meet ⟨[(11, .val aaM (.own 256))],[(256, .own 3 ae)],[],257⟩ (.o (.two (.loop ⟨[(11, .val aaM (.own 304)),(23, .l ae)],[(304, .own 3 ae)],[],305⟩ .nil) .nil)) .nil)))) Tryz.func17
def M.be(N:Nat)(a0:List aa.den)(a1:List aa.den):Option Bool:=
(if(!aaN ((a0.length:Int)=(a1.length:Int)))then
some aaM
else
Loop (S:=Int) (X:=Bool) (λs1=>
(if(aaN (s1<(a0.length:Int)))then
(idx a0 s1).bind λx2=>
(idx a1 s1).bind λx3=>
(if(!(ku aa x2 x3))then
some (.inr aaM)
else
some (.inl (YW.wrap (s1+1))))
else
some (.inr aaL))) N 0)
theorem WQ(N:Nat):Fo 47 (.i1 [.l (.slice aa), .l (.slice aa)]) (.i1 [.l .bool]) (u2 (M.be N)):=fz N [] (.o (.o (.two (.o (.two (.lp 13 144 .nil) .nil)) .nil))) Tryz.func47
def M.c9(N:Nat)(a0:List (List aa.den))(a1:List aa.den):Option Int:=
Loop (S:=Int) (X:=Int) (λs1=>
(if(aaN (s1<(a0.length:Int)))then
(idx a0 s1).bind λx2=>
(M.be N x2 a1).bind λy3=>
(if y3 then
some (.inr s1)
else
some (.inl (YW.wrap (s1+1))))
else
some (.inr (-1)))) N 0
theorem WR(N:Nat):Fo 24 (.i1 [.l (.slice (.slice aa)), .l (.slice aa)]) (.i1 [.l ae]) (u2 (M.c9 N)):=fz N [ck (WQ N)] (.o (.two (.o (.two (.lp 9 64 .nil) .nil)) .nil)) Tryz.func24
def M.bf(N:Nat)(a0:List aa.den):Option (List aa.den):=
(if YZ (a0).length 0 then
xP (some ([]:List aa.den))
((b7 ([]:List aa.den) a0).bind λl1=>
some l1)
else
(b7 ([]:List aa.den) a0).bind λl2=>
some l2)
theorem WS(N:Nat):Fo 25 (.i1 [.l (.slice aa)]) (.w1 81 aa) (M.bf N):=fz N [] .nil Tryz.func25
def M.cg(N:Nat)(a0:List Int)(a1:List Int):Option Int:=
(if(!aaN ((a0.length:Int)=(a1.length:Int)))then
some 2
else
(if(aaN (8<(a0.length:Int)))then
some 4
else
Loop (S:=Int) (X:=Int) (λs1=>
(if(aaN (s1<(a0.length:Int)))then
(idx a0 s1).bind λx2=>
((if(aaN (x2<(-1)))then
some aaL
else
some (aaN (s1<=x2))):Option Bool).bind λj3=>
(if j3 then
some (.inr 9)
else
((idx a1 s1).bind λx5=>
(if(aaN (x5<0))then
some aaL
else
(idx a1 s1).bind λx6=>
some (aaN (9<x6))):Option Bool).bind λj4=>
(if j4 then
some (.inr 3)
else
some (.inl (YW.wrap (s1+1)))))
else
some (.inr 0))) N 0))
theorem WT(N:Nat):Fo 43 (.i1 [.l (.slice ae), .l (.slice ae)]) (.i1 [.l ae]) (u2 (M.cg N)):=fz N [] (.o (.o (.o (.two (.o (.two (.lp 17 192 (.o (.o (.two (.two (.o (.two (.mb 28 288) (.mb 40 288))) .nil) .nil)))) .nil)) .nil)))) Tryz.func43
def M.cG(N:Nat)(a0:List Int)(a1:Int):Option (List Int):=
Loop (S:=Int×List Int) (X:=List Int) (λs1=>
(if(aaN (s1.1<(a0.length:Int)))then
((idx a0 s1.1).bind λx3=>
(if(aaN (x3=a1))then
(b7 s1.2 ([s1.1]:List Int)).bind λl4=>
some l4
else
some s1.2):Option (List Int)).bind λj2=>
some (.inl (YW.wrap (s1.1+1),j2))
else
some (.inr s1.2))) N (0,([]:List Int))
theorem Sv(N:Nat):Fo 103 (.i1 [.l (.slice ae), .l ae]) (.w1 3 ae) (u2 (M.cG N)):=fz N [] (.o (.o (.two (.o (.two (.loop ⟨[(5, .val aaM (.own 80)),(10, .l ae)],[(80, .own 3 ae)],[],81⟩ (.o (.o (.two (.meet ⟨[(5, .val aaM (.own 97))],[(97, .own 3 ae)],[80],98⟩ .nil .nil) .nil)))) .nil)) .nil))) Tryz.func103
def M.cP(N:Nat)(a0:ey.den)(a1:Int):Option (List Int):=
(M.cG N a0.1 a1).bind λy1=>
Loop (S:=Int×List Int) (X:=List Int) (λs2=>
(if(aaN (s2.1<(y1.length:Int)))then
((idx y1 s2.1).bind λx4=>
(idx a0.2.2 x4).bind λx5=>
(if(aaN (x5=(-1)))then
some s2.2
else
(((if(aaN (0<(s2.2.length:Int)))then
(idx a0.2.1 x4).bind λx8=>
(idx s2.2 0).bind λx9=>
(idx a0.2.1 x9).bind λrk=>
some (aaN (rk<x8))
else
some aaM):Option Bool).bind λj7=>
(if j7 then
(eG s2.2 0 0).bind λGR=>
some GR
else
some s2.2):Option (List Int)).bind λj6=>
((if(aaN ((j6.length:Int)=0))then
some aaL
else
(idx a0.2.1 x4).bind λsz=>
(idx j6 0).bind λET=>
(idx a0.2.1 ET).bind λIo=>
some (aaN (sz=Io))):Option Bool).bind λv8=>
(if v8 then
(b7 j6 ([x4]:List Int)).bind λLB=>
some LB
else
some j6)):Option (List Int)).bind λj3=>
some (.inl (YW.wrap (s2.1+1),j3))
else
some (.inr s2.2))) N (0,([]:List Int))
theorem WU(N:Nat):Fo 66 (.i1 [.g ey, .l ae]) (.w1 3 ae) (u2 (M.cP N)):=fz N [ck (Sv N)] (.o (.o (.two (.o (.two (.loop ⟨[(5, .val aaM (.own 144)),(13, .l ae)],[(144, .own 3 ae)],[],145⟩ (.o (.o (.two (.meet ⟨[(5, .val aaM (.own 161))],[(161, .own 3 ae)],[144],162⟩ (.o (.o (.meet ⟨[(5, .val aaM (.own 305))],[(305, .own 3 ae)],[144],306⟩ (.mb 40 305) (.mb 60 306)))) .nil) .nil)))) .nil)) .nil))) Tryz.func66
def M.bw(N:Nat)(a0:ey.den)(a1:Int):Option Int:=
(M.cP N a0 a1).bind λy1=>
(if(aaN ((y1.length:Int)=0))then
some (-1)
else
(if(aaN ((y1.length:Int)=1))then
(idx y1 0).bind λx2=>
(idx a0.2.2 x2).bind λx3=>
some x3
else
some (-2)))
theorem Uf(N:Nat):Fo 45 (.i1 [.g ey, .l ae]) (.i1 [.l ae]) (u2 (M.bw N)):=fz N [ck (WU N)] .nil Tryz.func45
def M.da(N:Nat)(a0:List Int)(a1:List Int)(a2:List Bool):Option (List Int):=
(tO (a0.length:Int) 0).bind λl1=>
Loop (S:=Int×List Int) (X:=List Int) (λs2=>
(if(aaN (0<=s2.1))then
((M.bw N (a0,(a1,s2.2)) s2.1).bind λy4=>
(idx s2.2 s2.1).bind λx5=>
((idx (bz s2.2 s2.1 y4) s2.1).bind λx7=>
(if(aaN (x7=(-1)))then
(idx a2 s2.1).bind λx8=>
some x8
else
some aaM):Option Bool).bind λj6=>
(if j6 then
(idx (bz s2.2 s2.1 y4) s2.1).bind λx9=>
some (bz (bz s2.2 s2.1 y4) s2.1 s2.1)
else
some (bz s2.2 s2.1 y4)):Option (List Int)).bind λj3=>
some (.inl (YW.wrap (s2.1-1),j3))
else
some (.inr s2.2))) N (YW.wrap ((a0.length:Int)-1),l1)
theorem WV(N:Nat):Fo 44 (.i1 [.l (.slice ae), .l (.slice ae), .l (.slice .bool)]) (.w1 3 ae) (u3 (M.da N)):=fz N [ck (Uf N)] (.o (.o (.two (.o (.two (.loop ⟨[(8, .l ae)],[(80, .own 3 ae)],[],209⟩ (.o (.two (.meet ⟨[],[(80, .own 3 ae)],[],242⟩ (.o (.mb 40 369)) .nil) .nil))) .nil)) .nil))) Tryz.func44
def M.bG(N:Nat)(a0:List Int)(a1:List Int)(a2:List Bool):Option Int:=
((M.cg N a0 a1).bind λy2=>
(if(!aaN (y2=0))then
some aaL
else
some (!aaN ((a2.length:Int)=(a0.length:Int)))):Option Bool).bind λj1=>
(if j1 then
some (-1)
else
(M.da N a0 a1 a2).bind λy3=>
(M.bw N (a0,(a1,y3)) (-1)).bind λy4=>
some y4)
theorem Ug(N:Nat):Fo 18 (.i1 [.l (.slice ae), .l (.slice ae), .l (.slice .bool)]) (.i1 [.l ae]) (u3 (M.bG N)):=fz N [ck (WT N),ck (WV N),ck (Uf N)] (.o (.two (.mb 17 16) .nil)) Tryz.func18
def M.bH(N:Nat)(a0:List Int)(a1:List Int)(a2:List Int)(a3:List Int)(a4:Int):Option (List Int):=
(ph .i64 1 a4).bind λx1=>
(tO x1 0).bind λl2=>
(tO (a0.length:Int) aaM).bind λl3=>
Loop (S:=Int×(List Int)×List Bool) (X:=List Int) (λs4=>
(if(aaN (s4.1<(l2.length:Int)))then
(((Loop (S:=Int×List Bool) (X:=List Bool) (λs8=>
(if(aaN (s8.1<(a3.length:Int)))then
((idx a3 s8.1).bind λrk=>
(if(aaN (rk<0))then
(idx s8.2 s8.1).bind λwL=>
some (bz s8.2 s8.1 aaL)
else
(zC .i64 s4.1 rk).bind λCd=>
(idx s8.2 s8.1).bind λsz=>
some (bz s8.2 s8.1 (aaN ((ak .and .i64 Cd 1)=1)))):Option (List Bool)).bind λj9=>
some (.inl (YW.wrap (s8.1+1),j9))
else
some (.inr s8.2))) N (0,s4.2.2):Option (List Bool)).bind λj7=>
(M.bG N a1 a2 j7).bind λtA=>
((if(aaN (0<=tA))then
some (aaN (tA<(a0.length:Int)))
else
some aaM):Option Bool).bind λGQ=>
(if GQ then
(idx a0 tA).bind λLn=>
(idx s4.2.1 s4.1).bind λOg=>
some (bz s4.2.1 s4.1 Ln,j7)
else
(idx s4.2.1 s4.1).bind λKh=>
some (bz s4.2.1 s4.1 tA,j7)):Option ((List Int)×List Bool)).bind λj6=>
some (j6.1,j6.2):Option ((List Int)×List Bool)).bind λj5=>
some (.inl (YW.wrap (s4.1+1),j5.1,j5.2))
else
some (.inr s4.2.1))) N (0,l2,l3)
theorem WW(N:Nat):Fo 26 (.i1 [.l (.slice ae), .l (.slice ae), .l (.slice ae), .l (.slice ae), .l ae]) (.w1 3 ae) (u5 (M.bH N)):=fz N [ck (Ug N)] (.o (.o (.o (.two (.o (.two (.loop ⟨[(25, .l ae)],[(48, .own 3 ae),(112, .own 4 .bool)],[],194⟩ (.o (.o (.meet ⟨[],[(48, .own 3 ae),(112, .own 4 .bool)],[],212⟩ (.meet ⟨[],[(48, .own 3 ae),(112, .own 4 .bool)],[],212⟩ (.o (.meet ⟨[],[(112, .own 4 .bool)],[],243⟩ (.o (.two (.loop ⟨[(30, .l ae)],[(112, .own 4 .bool)],[],291⟩ (.o (.o (.two (.meet ⟨[],[(112, .own 4 .bool)],[],308⟩ .nil .nil) .nil)))) .nil)) (.o (.mb 59 323)))) .nil) .nil)))) .nil)) .nil)))) Tryz.func26
def M.dg(N:Nat)(a0:aa.den)(a1:Int):Option Bool:=
some (aaN ((ak .and .i64 a1 a0.1)=a0.2))
theorem Sw(N:Nat):Fo 20 (.i1 [.g aa, .l ae]) (.i1 [.l .bool]) (u2 (M.dg N)):=fz N [] .nil Tryz.func20
def M.dN(N:Nat)(a0:Int):Option Int:=
some (if 8<(if a0<0 then 0 else a0)then 8 else(if a0<0 then 0 else a0))
theorem Uh(N:Nat):Fo 56 (.i1 [.l ae]) (.i1 [.l ae]) (M.dN N):=fz N [] .nil Tryz.func56
def M.fb(N:Nat)(a0:Int):Option Int:=
some (ak .and .i64 (YW.wrap (Y2.wrap ((Y2.wrap ((Y2.wrap ((ak .and .u64 (Y2.wrap ((bW .u64 (Y2.wrap ((ak .and .u64 (bW .u64 (Y2.wrap ((ak .and .u64 (bW .u64 a0 1) 6148914691236517205)+(ak .and .u64 a0 6148914691236517205))) 2) 3689348814741910323)+(ak .and .u64 (Y2.wrap ((ak .and .u64 (bW .u64 a0 1) 6148914691236517205)+(ak .and .u64 a0 6148914691236517205))) 3689348814741910323))) 4)+(Y2.wrap ((ak .and .u64 (bW .u64 (Y2.wrap ((ak .and .u64 (bW .u64 a0 1) 6148914691236517205)+(ak .and .u64 a0 6148914691236517205))) 2) 3689348814741910323)+(ak .and .u64 (Y2.wrap ((ak .and .u64 (bW .u64 a0 1) 6148914691236517205)+(ak .and .u64 a0 6148914691236517205))) 3689348814741910323))))) 1085102592571150095)+(bW .u64 (ak .and .u64 (Y2.wrap ((bW .u64 (Y2.wrap ((ak .and .u64 (bW .u64 (Y2.wrap ((ak .and .u64 (bW .u64 a0 1) 6148914691236517205)+(ak .and .u64 a0 6148914691236517205))) 2) 3689348814741910323)+(ak .and .u64 (Y2.wrap ((ak .and .u64 (bW .u64 a0 1) 6148914691236517205)+(ak .and .u64 a0 6148914691236517205))) 3689348814741910323))) 4)+(Y2.wrap ((ak .and .u64 (bW .u64 (Y2.wrap ((ak .and .u64 (bW .u64 a0 1) 6148914691236517205)+(ak .and .u64 a0 6148914691236517205))) 2) 3689348814741910323)+(ak .and .u64 (Y2.wrap ((ak .and .u64 (bW .u64 a0 1) 6148914691236517205)+(ak .and .u64 a0 6148914691236517205))) 3689348814741910323))))) 1085102592571150095) 8)))+(bW .u64 (Y2.wrap ((ak .and .u64 (Y2.wrap ((bW .u64 (Y2.wrap ((ak .and .u64 (bW .u64 (Y2.wrap ((ak .and .u64 (bW .u64 a0 1) 6148914691236517205)+(ak .and .u64 a0 6148914691236517205))) 2) 3689348814741910323)+(ak .and .u64 (Y2.wrap ((ak .and .u64 (bW .u64 a0 1) 6148914691236517205)+(ak .and .u64 a0 6148914691236517205))) 3689348814741910323))) 4)+(Y2.wrap ((ak .and .u64 (bW .u64 (Y2.wrap ((ak .and .u64 (bW .u64 a0 1) 6148914691236517205)+(ak .and .u64 a0 6148914691236517205))) 2) 3689348814741910323)+(ak .and .u64 (Y2.wrap ((ak .and .u64 (bW .u64 a0 1) 6148914691236517205)+(ak .and .u64 a0 6148914691236517205))) 3689348814741910323))))) 1085102592571150095)+(bW .u64 (ak .and .u64 (Y2.wrap ((bW .u64 (Y2.wrap ((ak .and .u64 (bW .u64 (Y2.wrap ((ak .and .u64 (bW .u64 a0 1) 6148914691236517205)+(ak .and .u64 a0 6148914691236517205))) 2) 3689348814741910323)+(ak .and .u64 (Y2.wrap ((ak .and .u64 (bW .u64 a0 1) 6148914691236517205)+(ak .and .u64 a0 6148914691236517205))) 3689348814741910323))) 4)+(Y2.wrap ((ak .and .u64 (bW .u64 (Y2.wrap ((ak .and .u64 (bW .u64 a0 1) 6148914691236517205)+(ak .and .u64 a0 6148914691236517205))) 2) 3689348814741910323)+(ak .and .u64 (Y2.wrap ((ak .and .u64 (bW .u64 a0 1) 6148914691236517205)+(ak .and .u64 a0 6148914691236517205))) 3689348814741910323))))) 1085102592571150095) 8))) 16)))+(bW .u64 (Y2.wrap ((Y2.wrap ((ak .and .u64 (Y2.wrap ((bW .u64 (Y2.wrap ((ak .and .u64 (bW .u64 (Y2.wrap ((ak .and .u64 (bW .u64 a0 1) 6148914691236517205)+(ak .and .u64 a0 6148914691236517205))) 2) 3689348814741910323)+(ak .and .u64 (Y2.wrap ((ak .and .u64 (bW .u64 a0 1) 6148914691236517205)+(ak .and .u64 a0 6148914691236517205))) 3689348814741910323))) 4)+(Y2.wrap ((ak .and .u64 (bW .u64 (Y2.wrap ((ak .and .u64 (bW .u64 a0 1) 6148914691236517205)+(ak .and .u64 a0 6148914691236517205))) 2) 3689348814741910323)+(ak .and .u64 (Y2.wrap ((ak .and .u64 (bW .u64 a0 1) 6148914691236517205)+(ak .and .u64 a0 6148914691236517205))) 3689348814741910323))))) 1085102592571150095)+(bW .u64 (ak .and .u64 (Y2.wrap ((bW .u64 (Y2.wrap ((ak .and .u64 (bW .u64 (Y2.wrap ((ak .and .u64 (bW .u64 a0 1) 6148914691236517205)+(ak .and .u64 a0 6148914691236517205))) 2) 3689348814741910323)+(ak .and .u64 (Y2.wrap ((ak .and .u64 (bW .u64 a0 1) 6148914691236517205)+(ak .and .u64 a0 6148914691236517205))) 3689348814741910323))) 4)+(Y2.wrap ((ak .and .u64 (bW .u64 (Y2.wrap ((ak .and .u64 (bW .u64 a0 1) 6148914691236517205)+(ak .and .u64 a0 6148914691236517205))) 2) 3689348814741910323)+(ak .and .u64 (Y2.wrap ((ak .and .u64 (bW .u64 a0 1) 6148914691236517205)+(ak .and .u64 a0 6148914691236517205))) 3689348814741910323))))) 1085102592571150095) 8)))+(bW .u64 (Y2.wrap ((ak .and .u64 (Y2.wrap ((bW .u64 (Y2.wrap ((ak .and .u64 (bW .u64 (Y2.wrap ((ak .and .u64 (bW .u64 a0 1) 6148914691236517205)+(ak .and .u64 a0 6148914691236517205))) 2) 3689348814741910323)+(ak .and .u64 (Y2.wrap ((ak .and .u64 (bW .u64 a0 1) 6148914691236517205)+(ak .and .u64 a0 6148914691236517205))) 3689348814741910323))) 4)+(Y2.wrap ((ak .and .u64 (bW .u64 (Y2.wrap ((ak .and .u64 (bW .u64 a0 1) 6148914691236517205)+(ak .and .u64 a0 6148914691236517205))) 2) 3689348814741910323)+(ak .and .u64 (Y2.wrap ((ak .and .u64 (bW .u64 a0 1) 6148914691236517205)+(ak .and .u64 a0 6148914691236517205))) 3689348814741910323))))) 1085102592571150095)+(bW .u64 (ak .and .u64 (Y2.wrap ((bW .u64 (Y2.wrap ((ak .and .u64 (bW .u64 (Y2.wrap ((ak .and .u64 (bW .u64 a0 1) 6148914691236517205)+(ak .and .u64 a0 6148914691236517205))) 2) 3689348814741910323)+(ak .and .u64 (Y2.wrap ((ak .and .u64 (bW .u64 a0 1) 6148914691236517205)+(ak .and .u64 a0 6148914691236517205))) 3689348814741910323))) 4)+(Y2.wrap ((ak .and .u64 (bW .u64 (Y2.wrap ((ak .and .u64 (bW .u64 a0 1) 6148914691236517205)+(ak .and .u64 a0 6148914691236517205))) 2) 3689348814741910323)+(ak .and .u64 (Y2.wrap ((ak .and .u64 (bW .u64 a0 1) 6148914691236517205)+(ak .and .u64 a0 6148914691236517205))) 3689348814741910323))))) 1085102592571150095) 8))) 16))) 32)))) 127)
theorem Sz(N:Nat):Fo 148 (.i1 [.l (.int .u64)]) (.i1 [.l ae]) (M.fb N):=fz N [] .nil Tryz.func148
def M.b8(N:Nat)(a0:Int):Option Int:=
(M.fb N a0).bind λy1=>
some y1
theorem Ov(N:Nat):Fo 109 (.i1 [.l (.int .u64)]) (.i1 [.l ae]) (M.b8 N):=fz N [ck (Sz N)] .nil Tryz.func109
def M.iG(N:Nat)(a0:aa.den)(a1:aa.den):Option (aa.den×Bool):=
((if(!aaN (a0.1=a1.1))then
some aaL
else
(M.b8 N (Y2.wrap (ak .xor .i64 a0.2 a1.2))).bind λy2=>
(if(!aaN (y2=1))then
some aaL
else
some (aaN ((ak .and .i64 (ak .xor .i64 a0.2 a1.2) a0.1)=0)))):Option Bool).bind λj1=>
(if j1 then
some ((0,0),aaM)
else
some ((ak .andNot .i64 a0.1 (ak .xor .i64 a0.2 a1.2),ak .andNot .i64 a0.2 (ak .xor .i64 a0.2 a1.2)),aaL))
theorem SA(N:Nat):Fo 104 (.i1 [.g aa, .g aa]) (.i1 [.g aa, .l .bool]) (u2 (M.iG N)):=fz N [ck (Ov N)] (.o (.o (.two (.mb 29 160) .nil))) Tryz.func104
def M.lg(N:Nat)(a0:List Int):Option Int:=
Loop (S:=Int) (X:=Int) (λs1=>
(if(aaN (s1<(a0.length:Int)))then
(idx a0 s1).bind λx2=>
(if(!aaN (x2=0))then
some (.inr x2)
else
some (.inl (YW.wrap (s1+1))))
else
some (.inr 0))) N 0
theorem SB(N:Nat):Fo 107 (.i1 [.l (.slice ae)]) (.i1 [.l ae]) (M.lg N):=fz N [] (.o (.o (.two (.o (.two (.lp 8 80 .nil) .nil)) .nil))) Tryz.func107
def M.cmp_isNaN_int(N:Nat)(a0:Int):Option Bool:=
some (!aaN (a0=a0))
theorem SC(N:Nat):Fo 146 (.i1 [.l ae]) (.i1 [.l .bool]) (M.cmp_isNaN_int N):=fz N [] .nil Tryz.func146
def M.cmp_Compare_int(N:Nat)(a0:Int)(a1:Int):Option Int:=
(M.cmp_isNaN_int N a0).bind λy1=>
(M.cmp_isNaN_int N a1).bind λy2=>
(if y1 then
(if y2 then
some 0
else
some (-1))
else
(if y2 then
some 1
else
(if(aaN (a0<a1))then
some (-1)
else
(if(aaN (a1<a0))then
some 1
else
some 0))))
theorem SD(N:Nat):Fo 108 (.i1 [.l ae, .l ae]) (.i1 [.l ae]) (u2 (M.cmp_Compare_int N)):=fz N [ck (SC N)] .nil Tryz.func108
def M.bP(N:Nat)(a0:aa.den)(a1:aa.den):Option Int:=
(M.b8 N (Y2.wrap a0.1)).bind λy1=>
(M.b8 N (Y2.wrap a1.1)).bind λy2=>
(M.cmp_Compare_int N y1 y2).bind λy3=>
(M.cmp_Compare_int N a0.1 a1.1).bind λy4=>
(M.cmp_Compare_int N a0.2 a1.2).bind λy5=>
(M.lg N ([y3,y4,y5]:List Int)).bind λy6=>
some y6
theorem SE(N:Nat):Fo 106 (.i1 [.g aa, .g aa]) (.i1 [.l ae]) (u2 (M.bP N)):=fz N [ck (SB N),ck (SD N),ck (Ov N)] .nil Tryz.func106
def M.dO(N:Nat)(a0:Int)(a1:List (aa.den×Bool)):Option (List (aa.den×Bool)):=
mc (S:=(List (aa.den×Bool))×(List (aa.den×Bool))×List aa.den) (R:=List (aa.den×Bool)) (λs1 k2=>
(if(s1.2.1).isEmpty then
Loop (S:=(List (aa.den×Bool))×List aa.den) (X:=List (aa.den×Bool)) (λs4=>
(if(aaN (0<(s4.2.length:Int)))then
(Loop (S:=Int×(List (aa.den×Bool))×List aa.den) (X:=(List (aa.den×Bool))×List aa.den) (λs6=>
(if(aaN (s6.1<(s4.2.length:Int)))then
((idx s4.2 s6.1).bind λx8=>
Loop (S:=Int×(List (aa.den×Bool))×List aa.den) (X:=(List (aa.den×Bool))×List aa.den) (λs9=>
(if(aaN (s9.1<a0))then
((ph .i64 1 s9.1).bind λwL=>
(if(!((bk aa s9.2.1 (x8.1,ak .xor .i64 x8.2 wL)).getD aaM))then
some (s9.2.1,s9.2.2)
else
(M.iG N x8 (x8.1,ak .xor .i64 x8.2 wL)).bind λJh=>
((if Jh.2 then
some (!((bk aa s9.2.1 Jh.1).getD aaM))
else
some aaM):Option Bool).bind λIl=>
(if Il then
(b7 s9.2.2 ([Jh.1]:List aa.den)).bind λOw=>
some (nk aa s9.2.1 Jh.1 aaL,Ow)
else
some (s9.2.1,s9.2.2))):Option ((List (aa.den×Bool))×List aa.den)).bind λrj=>
some (.inl (YW.wrap (s9.1+1),rj.1,rj.2))
else
some (.inr (s9.2.1,s9.2.2)))) N (0,s6.2.1,s6.2.2):Option ((List (aa.den×Bool))×List aa.den)).bind λj7=>
some (.inl (YW.wrap (s6.1+1),j7.1,j7.2))
else
some (.inr (s6.2.1,s6.2.2)))) N (0,s4.1,([]:List aa.den)):Option ((List (aa.den×Bool))×List aa.den)).bind λj5=>
some (.inl (j5.1,j5.2))
else
some (.inr s4.1))) N (s1.1,s1.2.2)
else
IK (λp=>p∈s1.2.1) λx3=>
(b7 s1.2.2 ([x3.1]:List aa.den)).bind λWX=>
k2 (s1.1,jw aa s1.2.1 x3.1,WX))) N (a1,a1,([]:List aa.den))
theorem Ox(N:Nat):Fo 67 (.j1 [.val aaM (.own 0), .l ae] [.smap 115 aa aaM .bool aaK] 1) (.j1 [] [.smap 115 aa aaM .bool aaK] 2) (u2 (M.dO N)):=fz N [ck (SA N)] (.o (.two (.o (.two (.loopK ⟨[(4, .val aaM (.own 49))],[(0, .smap 115 aa aaM .bool (some 34)),(49, .own 58 aa)],[],51⟩ .nil) .nil)) (.two (.loop ⟨[(4, .val aaM (.own 83))],[(0, .smap 115 aa aaM .bool aaK),(83, .own 58 aa)],[49],85⟩ (.o (.two (.o (.meet ⟨[(6, .val aaM (.own 149))],[(0, .smap 115 aa aaM .bool aaK),(149, .own 58 aa)],[],151⟩ (.o (.two (.loop ⟨[(6, .val aaM (.own 197)),(28, .l ae)],[(0, .smap 115 aa aaM .bool aaK),(197, .own 58 aa)],[],199⟩ (.o (.o (.meet ⟨[(6, .val aaM (.own 215))],[(0, .smap 115 aa aaM .bool aaK),(215, .own 58 aa)],[197],217⟩ (.two (.o (.o (.two (.loop ⟨[(6, .val aaM (.own 311)),(33, .l ae)],[(0, .smap 115 aa aaM .bool aaK),(311, .own 58 aa)],[197],313⟩ (.o (.o (.two (.meet ⟨[(6, .val aaM (.own 329))],[(0, .smap 115 aa aaM .bool aaK),(329, .own 58 aa)],[311],331⟩ (.o (.o (.o (.o (.mb 60 729))))) .nil) .nil)))) .nil))) .nil) .nil)))) .nil)) .nil)) .nil))) .nil))) Tryz.func67
def M.aK(N:Nat)(a0:List aa.den):Option (List aa.den):=uJ (λa b c d=>M.bP N (a,b) (c,d)) a0
def LG(N:Nat):oq:=⟨.j1 [.val aaM (.own 0), .fn 106 []] [.own 58 aa] 1, .j1 [] [.own 58 aa] 2,M.aK N⟩
theorem LH(N:Nat):gK Tryz.prog 105 (LG N):=AI (SE N)
def M.ff(N:Nat)(a0:Int)(a1:List (aa.den×Bool)):Option ((List (aa.den×Bool))×List aa.den):=
mc (S:=(List (aa.den×Bool))×(List (aa.den×Bool))×List aa.den) (R:=(List (aa.den×Bool))×List aa.den) (λs1 k2=>
(if(s1.2.1).isEmpty then
(M.aK N s1.2.2).bind λy4=>
some (s1.1,y4)
else
IK (λp=>p∈s1.2.1) λx3=>
((Loop (S:=Bool×Int) (X:=Bool) (λs7=>
(if(aaN (s7.2<a0))then
((ph .i64 1 s7.2).bind λx9=>
(ph .i64 1 s7.2).bind λrk=>
((if(!(ku aa (ak .andNot .i64 x3.1.1 x9,ak .andNot .i64 x3.1.2 rk) x3.1))then
some ((bk aa s1.1 (ak .andNot .i64 x3.1.1 x9,ak .andNot .i64 x3.1.2 rk)).getD aaM)
else
some aaM):Option Bool).bind λCb=>
(if Cb then
some aaM
else
some s7.1):Option Bool).bind λj8=>
some (.inl (j8,YW.wrap (s7.2+1)))
else
some (.inr s7.1))) N (aaL,0):Option Bool).bind λj6=>
(if j6 then
(b7 s1.2.2 ([x3.1]:List aa.den)).bind λIi=>
some Ii
else
some s1.2.2):Option (List aa.den)).bind λj5=>
k2 (s1.1,jw aa s1.2.1 x3.1,j5))) N (a1,a1,([]:List aa.den))
theorem Oy(N:Nat):Fo 68 (.j1 [.val aaM (.own 0), .l ae] [.smap 115 aa aaM .bool aaK] 1) (.j1 [.val aaM (.own 1)] [.smap 115 aa aaM .bool aaK, .own 58 aa] 3) (u2 (M.ff N)):=fz N [ck (LH N)] (.o (.o (.two (.o (.two (.loopK ⟨[(5, .val aaM (.own 65))],[(0, .smap 115 aa aaM .bool (some 50)),(65, .own 58 aa)],[],67⟩ (.o (.o (.meet ⟨[(5, .val aaM (.own 99))],[(99, .own 58 aa)],[65],100⟩ (.o (.o (.meet ⟨[(7, .l .bool)],[],[],179⟩ (.o (.two (.loop ⟨[(7, .l .bool),(17, .l ae)],[],[],211⟩ (.o (.o (.two (.meet ⟨[(7, .l .bool)],[],[],227⟩ (.o (.o (.mb 38 467))) .nil) .nil)))) .nil)) .nil))) .nil)))) .nil)) .nil))) Tryz.func68
def M.fJ(N:Nat)(a0:List Int)(a1:Int):Option (List aa.den):=
(M.dN N a1).bind λy1=>
(ph .i64 1 y1).bind λx2=>
(Loop (S:=Int×(List (Int×Bool))×List (aa.den×Bool)) (X:=(List (Int×Bool))×List (aa.den×Bool)) (λs4=>
(if(aaN (s4.1<(a0.length:Int)))then
((idx a0 s4.1).bind λx6=>
((if(aaN (0<=x6))then
some (aaN (x6<x2))
else
some aaM):Option Bool).bind λj7=>
(if j7 then
some (kE ae s4.2.1 x6 aaL,nk aa s4.2.2 (YW.wrap (x2-1),x6) aaL)
else
some (s4.2.1,s4.2.2)):Option ((List (Int×Bool))×List (aa.den×Bool))).bind λj5=>
some (.inl (YW.wrap (s4.1+1),j5.1,j5.2))
else
some (.inr (s4.2.1,s4.2.2)))) N (0,([]:List (Int×Bool)),([]:List (aa.den×Bool))):Option ((List (Int×Bool))×List (aa.den×Bool))).bind λj3=>
(M.dO N y1 j3.2).bind λy8=>
(M.ff N y1 y8).bind λy9=>
Loop (S:=Int×(List (Int×Bool))×List aa.den) (X:=List aa.den) (λsA=>
(if(aaN (sA.1<(y9.2.length:Int)))then
(((idx y9.2 sA.1).bind λsz=>
(Loop (S:=Bool×Int×List (Int×Bool)) (X:=Bool×List (Int×Bool)) (λyr=>
(if(aaN (yr.2.1<x2))then
(((if((bk ae yr.2.2 yr.2.1).getD aaM)then
(M.dg N sz yr.2.1).bind λWY=>
some WY
else
some aaM):Option Bool).bind λKm=>
(if Km then
some (aaL,lI ae yr.2.2 yr.2.1)
else
some (yr.1,yr.2.2)):Option (Bool×List (Int×Bool))).bind λIk=>
some (.inl (Ik.1,YW.wrap (yr.2.1+1),Ik.2))
else
some (.inr (yr.1,yr.2.2)))) N (aaM,0,sA.2.1):Option (Bool×List (Int×Bool))).bind λIm=>
(if Im.1 then
(b7 sA.2.2 ([sz]:List aa.den)).bind λWZ=>
some (Im.2,WZ)
else
some (Im.2,sA.2.2)):Option ((List (Int×Bool))×List aa.den)).bind λv8=>
some (v8.1,v8.2):Option ((List (Int×Bool))×List aa.den)).bind λCb=>
some (.inl (YW.wrap (sA.1+1),Cb.1,Cb.2))
else
some (.inr sA.2.2))) N (0,j3.1,([]:List aa.den))
theorem W0(N:Nat):Fo 48 (.i1 [.l (.slice ae), .l ae]) (.w1 58 aa) (u2 (M.fJ N)):=fz N [ck (Sw N),ck (Uh N),ck (Ox N),ck (Oy N)] (.o (.o (.o (.o (.o (.meet ⟨[],[(112, .map 114 ae aaM .bool),(144, .smap 115 aa aaM .bool aaK)],[],178⟩ (.o (.two (.loop ⟨[(23, .l ae)],[(112, .map 114 ae aaM .bool),(144, .smap 115 aa aaM .bool aaK)],[],226⟩ (.o (.o (.two (.meet ⟨[],[(112, .map 114 ae aaM .bool),(144, .smap 115 aa aaM .bool aaK)],[],244⟩ (.o (.mb 33 290)) .nil) .nil)))) .nil)) (.o (.o (.two (.o (.two (.loop ⟨[(10, .val aaM (.own 322)),(49, .l ae)],[(112, .map 114 ae aaM .bool),(322, .own 58 aa)],[],324⟩ (.o (.o (.meet ⟨[(10, .val aaM (.own 340))],[(112, .map 114 ae aaM .bool),(340, .own 58 aa)],[322],342⟩ (.meet ⟨[(10, .val aaM (.own 340))],[(112, .map 114 ae aaM .bool),(340, .own 58 aa)],[322],342⟩ (.o (.o (.meet ⟨[(13, .l .bool)],[(112, .map 114 ae aaM .bool)],[],421⟩ (.o (.two (.loop ⟨[(13, .l .bool),(54, .l ae)],[(112, .map 114 ae aaM .bool)],[],453⟩ (.o (.o (.two (.meet ⟨[(13, .l .bool)],[(112, .map 114 ae aaM .bool)],[],470⟩ (.o (.mb 64 501)) .nil) .nil)))) .nil)) .nil))) .nil) .nil)))) .nil)) .nil))))))))) Tryz.func48
def M.eB(N:Nat)(a0:List Int)(a1:List Int)(a2:Int):Option (List an.den):=
(b7 ([(-2),(-1)]:List Int) a1).bind λl1=>
Loop (S:=Int×List an.den) (X:=List an.den) (λs2=>
(if(aaN (s2.1<(l1.length:Int)))then
(((idx l1 s2.1).bind λx5=>
(Loop (S:=Int×List Int) (X:=List Int) (λs7=>
(if(aaN (s7.1<(a0.length:Int)))then
((idx a0 s7.1).bind λx9=>
(if(aaN (x9=x5))then
(b7 s7.2 ([s7.1]:List Int)).bind λJg=>
some Jg
else
some s7.2):Option (List Int)).bind λj8=>
some (.inl (YW.wrap (s7.1+1),j8))
else
some (.inr s7.2))) N (0,([]:List Int)):Option (List Int)).bind λj6=>
(if(aaN ((j6.length:Int)=0))then
some s2.2
else
(M.fJ N j6 a2).bind λD9=>
Loop (S:=Int×List an.den) (X:=List an.den) (λzj=>
(if(aaN (zj.1<(D9.length:Int)))then
(idx D9 zj.1).bind λsz=>
(b7 zj.2 ([(sz,x5)]:List an.den)).bind λOw=>
some (.inl (YW.wrap (zj.1+1),Ow))
else
some (.inr zj.2))) N (0,s2.2)):Option (List an.den)).bind λj4=>
some j4:Option (List an.den)).bind λj3=>
some (.inl (YW.wrap (s2.1+1),j3))
else
some (.inr s2.2))) N (0,([]:List an.den))
theorem W1(N:Nat):Fo 27 (.i1 [.l (.slice ae), .l (.slice ae), .l ae]) (.w1 60 an) (u3 (M.eB N)):=fz N [ck (W0 N)] (.o (.o (.o (.two (.o (.two (.loop ⟨[(8, .val aaM (.own 144)),(21, .l ae)],[(144, .own 60 an)],[],145⟩ (.o (.o (.meet ⟨[(8, .val aaM (.own 161))],[(161, .own 60 an)],[144],162⟩ (.meet ⟨[(8, .val aaM (.own 161))],[(161, .own 60 an)],[144],162⟩ (.o (.o (.meet ⟨[(11, .val aaM (.own 225))],[(225, .own 3 ae)],[],226⟩ (.o (.two (.loop ⟨[(11, .val aaM (.own 273)),(27, .l ae)],[(273, .own 3 ae)],[],274⟩ (.o (.o (.two (.meet ⟨[(11, .val aaM (.own 290))],[(290, .own 3 ae)],[273],291⟩ .nil .nil) .nil)))) .nil)) (.o (.o (.two (.loop ⟨[(8, .val aaM (.own 354)),(47, .l ae)],[(354, .own 60 an)],[144],355⟩ .nil) .nil)))))) .nil) .nil)))) .nil)) .nil)))) Tryz.func27
def M.bI(N:Nat)(a0:ew.den)(a1:Int)(a2:Int)(a3:Int):Option (Int×Int×(List (List aa.den))×(List Int)×List an.den):=
(M.dM N a0).bind λy1=>
(if(!(ku bx y1 (0,(0,(0,0)))))then
some (0,1,([]:List (List aa.den)),([]:List Int),([]:List an.den))
else
((if(aaN (a1<0))then
some aaL
else
some (aaN ((a0.2.2.length:Int)<=a1))):Option Bool).bind λj2=>
(if j2 then
some (0,6,([]:List (List aa.den)),([]:List Int),([]:List an.den))
else
(idx a0.2.2 a1).bind λx3=>
((if(aaN (a2<0))then
some aaL
else
some (aaN ((x3.2.2.2.1.length:Int)<=a2))):Option Bool).bind λj4=>
(if j4 then
some (0,6,([]:List (List aa.den)),([]:List Int),([]:List an.den))
else
((if(aaN (a3<0))then
some aaL
else
some (aaN (109572<a3))):Option Bool).bind λj5=>
(if j5 then
some (0,3,([]:List (List aa.den)),([]:List Int),([]:List an.den))
else
(M.dt N x3 a2 a3).bind λy6=>
(tO (y6.1.length:Int) 0).bind λl7=>
(Loop (S:=Int×Int×(List Int)×(List (List aa.den))×List Int) (X:=Int×(List Int)×(List (List aa.den))×List Int) (λs9=>
(if(aaN (s9.1<(y6.1.length:Int)))then
((idx y6.1 s9.1).bind λwL=>
(idx s9.2.2.1 s9.1).bind λCd=>
(idx x3.2.2.2.2 wL).bind λsz=>
(if(aaN ((sz.2.2.2.2.2.1.length:Int)=0))then
some (s9.2.1,bz s9.2.2.1 s9.1 (-1),s9.2.2.2.1,s9.2.2.2.2)
else
(M.c9 N s9.2.2.2.1 sz.2.2.2.2.2.1).bind λtA=>
((if(aaN (tA<0))then
(M.bf N sz.2.2.2.2.2.1).bind λKj=>
(b7 s9.2.2.2.1 ([Kj]:List (List aa.den))).bind λW2=>
(b7 s9.2.2.2.2 ([wL]:List Int)).bind λSu=>
some ((s9.2.2.2.1.length:Int),s9.2.1,W2,Su)
else
some (tA,s9.2.1,s9.2.2.2.1,s9.2.2.2.2)):Option (Int×Int×(List (List aa.den))×List Int)).bind λGQ=>
(idx (bz s9.2.2.1 s9.1 (-1)) s9.1).bind λLu=>
some (GQ.2.1,bz (bz s9.2.2.1 s9.1 (-1)) s9.1 GQ.1,GQ.2.2.1,GQ.2.2.2)):Option (Int×(List Int)×(List (List aa.den))×List Int)).bind λrj=>
some (.inl (YW.wrap (s9.1+1),rj.1,rj.2.1,rj.2.2.1,rj.2.2.2))
else
some (.inr (s9.2.1,s9.2.2.1,s9.2.2.2.1,s9.2.2.2.2)))) N (0,a2,l7,([]:List (List aa.den)),([]:List Int)):Option (Int×(List Int)×(List (List aa.den))×List Int)).bind λj8=>
(M.bH N y6.1 y6.2.1 y6.2.2 j8.2.1 (j8.2.2.1.length:Int)).bind λKl=>
(M.eB N Kl y6.1 (j8.2.2.1.length:Int)).bind λIh=>
some (j8.1,0,j8.2.2.1,j8.2.2.2,Ih)))))
theorem W9(N:Nat):Fo 9 (.i1 [.g ew, .l ae, .l ae, .l ae]) (.j1 [.val aaL (.pair (.leaf ae) (.pair (.own 0) (.pair (.own 1) (.own 2)))), .l ae] [.own 75 (.slice aa), .own 3 ae, .own 60 an] 3) (u4 (M.bI N)):=fz N [ck (Ud N),ck (Ue N),ck (WR N),ck (WS N),ck (WW N),ck (W1 N)] (.o (.o (.two (.mb 34 112) (.o (.two (.mb 49 224) (.two (.mb 56 224) (.o (.o (.o (.meet ⟨[],[(256, .box 34 (.pair (.leaf ae) (.pair (.own 528) (.pair (.own 529) .nil)))),(496, .own 3 ae),(528, .own 75 (.slice aa)),(529, .own 3 ae)],[],532⟩ (.o (.two (.loop ⟨[(73, .l ae)],[(256, .box 34 (.pair (.leaf ae) (.pair (.own 576) (.pair (.own 577) .nil)))),(496, .own 3 ae),(576, .own 75 (.slice aa)),(577, .own 3 ae)],[],580⟩ (.o (.o (.two (.meet ⟨[],[(256, .box 34 (.pair (.leaf ae) (.pair (.own 596) (.pair (.own 597) .nil)))),(496, .own 3 ae),(596, .own 75 (.slice aa)),(597, .own 3 ae)],[576,577],600⟩ (.o (.o (.o (.o (.o (.meet ⟨[(19, .l ae)],[(256, .box 34 (.pair (.leaf ae) (.pair (.own 980) (.pair (.own 981) .nil)))),(980, .own 75 (.slice aa)),(981, .own 3 ae)],[576,577],983⟩ .nil .nil)))))) .nil) .nil)))) .nil)) .nil)))))))))) Tryz.func9
def M.du(N:Nat)(a0:cE.den)(a1:Int):Option (Int×Bool):=
Loop (S:=Int) (X:=Int×Bool) (λs1=>
(if(aaN (s1<(a0.2.2.2.length:Int)))then
(idx a0.2.2.2 s1).bind λx2=>
(M.dg N x2.1 a1).bind λy3=>
(if y3 then
some (.inr (x2.2,aaL))
else
some (.inl (YW.wrap (s1+1))))
else
some (.inr (0,aaM)))) N 0
theorem Ui(N:Nat):Fo 12 (.i1 [.g cE, .l ae]) (.i1 [.l ae, .l .bool]) (u2 (M.du N)):=fz N [ck (Sw N)] (.o (.two (.o (.two (.lp 11 112 .nil) .nil)) .nil)) Tryz.func12
def M.iH(N:Nat)(a0:aa.den)(a1:Int):Option Bool:=
((if(aaN (0<=a0.1))then
(M.dN N a1).bind λy2=>
(ph .i64 1 y2).bind λx3=>
(if(aaN (a0.1<x3))then
(if(aaN (0<=a0.2))then
some (aaN ((ak .and .i64 a0.2 a0.1)=a0.2))
else
some aaM)
else
some aaM)
else
some aaM):Option Bool).bind λj1=>
some j1
theorem W3(N:Nat):Fo 33 (.i1 [.g aa, .l ae]) (.i1 [.l .bool]) (u2 (M.iH N)):=fz N [ck (Uh N)] (.o (.mb 4 32)) Tryz.func33
def M.cM(N:Nat)(a0:List an.den)(a1:Int):Option Int:=
bF (J:=Bool) (R:=Int) (Loop (S:=Bool×Int×Int) (X:=Bool⊕Int) (λs2=>
(if(aaN (s2.2.2<(a0.length:Int)))then
bF (J:=Bool×Int) (R:=(Bool×Int×Int)⊕(Bool⊕Int)) ((idx a0 s2.2.2).bind λx4=>
(M.dg N x4.1 a1).bind λy5=>
(if(!y5)then
some (.inl (s2.1,s2.2.1))
else
((if s2.1 then
some (!aaN (x4.2=s2.2.1))
else
some aaM):Option Bool).bind λj6=>
(if j6 then
some (.inr (.inr (.inr 11)))
else
some (.inl (aaL,x4.2))))) λj3=>
some (.inl (j3.1,j3.2,YW.wrap (s2.2.2+1)))
else
some (.inr (.inl s2.1)))) N (aaM,0,0)) λj1=>
(if(!j1)then
some 10
else
some 0)
theorem W4(N:Nat):Fo 34 (.i1 [.l (.slice an), .l ae]) (.i1 [.l ae]) (u2 (M.cM N)):=fz N [ck (Sw N)] (.o (.o (.o (.join ⟨[(5, .l .bool)],[],[],48⟩ (.o (.two (.loop ⟨[(5, .l .bool),(6, .l ae),(11, .l ae)],[],[],96⟩ (.o (.o (.two (.join ⟨[(5, .l .bool),(6, .l ae)],[],[],112⟩ (.o (.o (.two (.mb 26 256) .nil))) .nil) .nil)))) .nil)) .nil)))) Tryz.func34
def M.db(N:Nat)(a0:cE.den):Option Int:=
(if(aaN (8<(a0.2.1.length:Int)))then
some 4
else
bF (J:=Unit) (R:=Int) (Loop (S:=Int) (X:=Unit⊕Int) (λs2=>
(if(aaN (s2<(a0.2.2.2.length:Int)))then
(idx a0.2.2.2 s2).bind λx3=>
(M.iH N x3.1 (a0.2.1.length:Int)).bind λy4=>
(if(!y4)then
some (.inr (.inr 3))
else
some (.inl (YW.wrap (s2+1))))
else
some (.inr (.inl ())))) N 0) λj1=>
(ph .i64 1 (a0.2.1.length:Int)).bind λx5=>
Loop (S:=Int) (X:=Int) (λs6=>
(if(aaN (s6<x5))then
(M.cM N a0.2.2.2 s6).bind λy7=>
(if(!aaN (y7=0))then
some (.inr y7)
else
some (.inl (YW.wrap (s6+1))))
else
some (.inr 0))) N 0)
theorem Uj(N:Nat):Fo 14 (.i1 [.g cE]) (.i1 [.l ae]) (M.db N):=fz N [ck (W3 N),ck (W4 N)] (.o (.o (.o (.join ⟨[],[],[],128⟩ (.o (.two (.lp 16 192 .nil) .nil)) (.two (.o (.two (.lp 28 176 .nil) .nil)) .nil))))) Tryz.func14
def M.pX(N:Nat):Option (List aW.den):=
some ([((⟨#[115]⟩:ByteArray),((-1),(([((⟨#[120]⟩:ByteArray),(1,0))]:List bi.den),(([((⟨#[100]⟩:ByteArray),(2,0))]:List bi.den),([((⟨#[97]⟩:ByteArray),(0,((-1),(0,((0,109573),(([]:List aa.den),(([(2,1)]:List aa.den),aaB))))))),((⟨#[98]⟩:ByteArray),(0,(0,(0,((0,109573),(([(7,0)]:List aa.den),(([(2,2)]:List aa.den),aaB)))))))]:List cB.den)))))]:List aW.den)
theorem W6(N:Nat):Fo 22 (.i1 []) (.j1 [.val aaL (.pair .nil (.pair .nil (.own 0)))] [.own 50 aW] 1) (λ(x:Unit)=>M.pX N):=fz N [] .nil Tryz.func22
def M.uK(N:Nat)(a0:List Int)(a1:List Int):Option Bool:=
(if(!aaN ((a0.length:Int)=(a1.length:Int)))then
some aaM
else
Loop (S:=Int) (X:=Bool) (λs1=>
((if(aaN (s1<(a0.length:Int)))then
some (aaN (s1<(a1.length:Int)))
else
some aaM):Option Bool).bind λj2=>
(if j2 then
(idx a0 s1).bind λx3=>
(idx a1 s1).bind λx4=>
(if(!aaN (x3=x4))then
some (.inr aaM)
else
some (.inl (YW.wrap (s1+1))))
else
some (.inr aaL))) N 0)
theorem Xa(N:Nat):Fo 23 (.i1 [.l (.slice ae), .l (.slice ae)]) (.i1 [.l .bool]) (u2 (M.uK N)):=fz N [] (.o (.o (.two (.o (.two (.lp 5 112 (.two (.mb 20 112) .nil)) .nil)) .nil))) Tryz.func23
def M.gE(N:Nat):Option Bool:=
(M.pX N).bind λy1=>
(M.bI N (([]:List cD.den),(([]:List cu.den),y1)) 0 0 100).bind λy2=>
(M.du N (y2.1,(y2.2.2.1,(y2.2.2.2.1,y2.2.2.2.2))) 0).bind λy3=>
(M.du N (y2.1,(y2.2.2.1,(y2.2.2.2.1,y2.2.2.2.2))) 1).bind λy4=>
((if(aaN (y2.2.1=0))then
(if(aaN ((y2.2.2.2.2.length:Int)=2))then
(if(aaN ((y2.2.2.1.length:Int)=1))then
(M.uK N y2.2.2.2.1 ([1]:List Int)).bind λy6=>
(if y6 then
(if(aaN (y3.1=0))then
(if y3.2 then
(if(aaN (y4.1=1))then
(if y4.2 then
(M.db N (y2.1,(y2.2.2.1,(y2.2.2.2.1,y2.2.2.2.2)))).bind λy7=>
(if(aaN (y7=0))then
(M.db N (0,(([]:List (List aa.den)),(([]:List Int),([]:List an.den))))).bind λy8=>
some (aaN (y8=10))
else
some aaM)
else
some aaM)
else
some aaM)
else
some aaM)
else
some aaM)
else
some aaM)
else
some aaM)
else
some aaM)
else
some aaM):Option Bool).bind λj5=>
some j5
theorem W8(N:Nat):Fo 8 (.i1 []) (.i1 [.l .bool]) (λ(x:Unit)=>M.gE N):=fz N [ck (W9 N),ck (Ui N),ck (Uj N),ck (W6 N),ck (Xa N)] (.o (.o (.o (.o (.mb 0 368))))) Tryz.func8
def M.jZ(N:Nat)(a0:Int):Option Bool:=
((if(aaN (97<=a0))then
some (aaN (a0<=122))
else
some aaM):Option Bool).bind λj1=>
some j1
def M.mh(N:Nat)(a0:Int):Option Bool:=
((if(aaN (48<=a0))then
some (aaN (a0<=57))
else
some aaM):Option Bool).bind λj1=>
some j1
def M.nV(N:Nat)(a0:Int):Option Bool:=
((M.jZ N a0).bind λy2=>
(if y2 then
some aaL
else
(M.mh N a0).bind λy3=>
(if y3 then
some aaL
else
some (aaN (a0=95)))):Option Bool).bind λj1=>
some j1
def M.jB(N:Nat):Option (List ByteArray):=
some ([(⟨#[105,102]⟩:ByteArray),(⟨#[116,104,101,110]⟩:ByteArray),(⟨#[101,108,115,101]⟩:ByteArray),(⟨#[111,114]⟩:ByteArray),(⟨#[97,110,100]⟩:ByteArray),(⟨#[110,111,116]⟩:ByteArray),(⟨#[116,114,117,101]⟩:ByteArray),(⟨#[102,97,108,115,101]⟩:ByteArray),(⟨#[116,111,100,97,121]⟩:ByteArray),(⟨#[115,104,97,114,101]⟩:ByteArray),(⟨#[100,105,118]⟩:ByteArray),(⟨#[114,111,117,110,100]⟩:ByteArray),(⟨#[109,105,110]⟩:ByteArray),(⟨#[109,97,120]⟩:ByteArray),(⟨#[112,108,117,115]⟩:ByteArray),(⟨#[109,111,110,116,104,115]⟩:ByteArray),(⟨#[100,97,121,115]⟩:ByteArray),(⟨#[121,101,97,114,115]⟩:ByteArray),(⟨#[121,101,97,114]⟩:ByteArray),(⟨#[109,111,110,116,104]⟩:ByteArray),(⟨#[116,97,98]⟩:ByteArray),(⟨#[98,97,110,100]⟩:ByteArray),(⟨#[99,111,117,110,116]⟩:ByteArray),(⟨#[115,117,109]⟩:ByteArray),(⟨#[97,108,108]⟩:ByteArray),(⟨#[97,110,121]⟩:ByteArray),(⟨#[109,111,115,116]⟩:ByteArray),(⟨#[101,110,117,109]⟩:ByteArray),(⟨#[116,97,98,108,101]⟩:ByteArray),(⟨#[114,111,119]⟩:ByteArray),(⟨#[115,99,111,112,101]⟩:ByteArray),(⟨#[109,101,109,98,101,114,115]⟩:ByteArray),(⟨#[105,110,112,117,116]⟩:ByteArray),(⟨#[100,101,102]⟩:ByteArray),(⟨#[114,117,108,101]⟩:ByteArray),(⟨#[111,102]⟩:ByteArray),(⟨#[111,118,101,114]⟩:ByteArray),(⟨#[112,114,105,111]⟩:ByteArray),(⟨#[102,114,111,109]⟩:ByteArray),(⟨#[116,111]⟩:ByteArray),(⟨#[101,110,100]⟩:ByteArray),(⟨#[119,104,101,110]⟩:ByteArray),(⟨#[105,115]⟩:ByteArray),(⟨#[115,114,99]⟩:ByteArray),(⟨#[98,111,111,108]⟩:ByteArray),(⟨#[105,110,116]⟩:ByteArray),(⟨#[109,111,110,101,121]⟩:ByteArray),(⟨#[114,97,116,101]⟩:ByteArray),(⟨#[100,97,116,101]⟩:ByteArray),(⟨#[100,111,119,110]⟩:ByteArray),(⟨#[117,112]⟩:ByteArray),(⟨#[122,101,114,111]⟩:ByteArray),(⟨#[97,119,97,121]⟩:ByteArray),(⟨#[104,97,108,102]⟩:ByteArray),(⟨#[101,118,101,110]⟩:ByteArray)]:List ByteArray)
def M.gx(N:Nat)(a0:ByteArray):Option Bool:=
((if(aaN ((a0.size:Int)=0))then
some aaL
else
(if(aaN (16<(a0.size:Int)))then
some aaL
else
(jU a0 0).bind λx2=>
(M.jZ N x2).bind λy3=>
some (!y3))):Option Bool).bind λj1=>
(if j1 then
some aaM
else
bF (J:=Unit) (R:=Bool) (Loop (S:=Int) (X:=Unit⊕Bool) (λs5=>
(if(aaN (s5<(a0.size:Int)))then
(jU a0 s5).bind λx6=>
(M.nV N x6).bind λy7=>
(if(!y7)then
some (.inr (.inr aaM))
else
some (.inl (YW.wrap (s5+1))))
else
some (.inr (.inl ())))) N 0) λj4=>
(M.jB N).bind λy8=>
Loop (S:=Int) (X:=Bool) (λs9=>
(if(aaN (s9<(y8.length:Int)))then
(idx y8 s9).bind λrk=>
(if(aaN (rk=a0))then
some (.inr aaM)
else
some (.inl (YW.wrap (s9+1))))
else
some (.inr aaL))) N 0)
def M.dJ(N:Nat)(a0:aa.den)(a1:List cD.den):Option Bool:=
(if(aaN (a0.1=6))then
((if(aaN (0<=a0.2))then
some (aaN (a0.2<(a1.length:Int)))
else
some aaM):Option Bool).bind λj1=>
some j1
else
((if(aaN (1<=a0.1))then
(if(aaN (a0.1<=5))then
some (aaN (a0.2=0))
else
some aaM)
else
some aaM):Option Bool).bind λj2=>
some j2)
def M.mj(N:Nat)(a0:aa.den):Option Bool:=
((if(aaN (0<=a0.1))then
(if(aaN (a0.1<=a0.2))then
some (aaN (a0.2<=109573))
else
some aaM)
else
some aaM):Option Bool).bind λj1=>
some j1
def M.lj(N:Nat)(a0:aa.den)(a1:List cD.den):Option (Int×Int):=
(M.dJ N a0 a1).bind λy1=>
(if(!y1)then
some (0,(-1))
else
(if(aaN (a0.1=1))then
some (0,1)
else
(if(aaN (a0.1=2))then
some ((-1000000000000),1000000000000)
else
(if(aaN (a0.1=3))then
some ((-1000000000000000),1000000000000000)
else
(if(aaN (a0.1=4))then
some ((-1000000000),1000000000)
else
(if(aaN (a0.1=5))then
some (0,109572)
else
(idx a1 a0.2).bind λx2=>
some (0,YW.wrap ((x2.2.length:Int)-1))))))))
def M.eC(N:Nat)(a0:List bi.den):Option (List aa.den):=
Loop (S:=Int×List aa.den) (X:=List aa.den) (λs1=>
(if(aaN (s1.1<(a0.length:Int)))then
(idx a0 s1.1).bind λx2=>
(b7 s1.2 ([x2.2]:List aa.den)).bind λl3=>
some (.inl (YW.wrap (s1.1+1),l3))
else
some (.inr s1.2))) N (0,([]:List aa.den))
def M.iZ(N:Nat)(a0:ew.den)(a1:Int):Option ((List cD.den)×(List cu.den)×Bool×(List aa.den)×(List aa.den)×List aa.den):=
((if(aaN (a1<0))then
some aaL
else
some (aaN ((a0.2.2.length:Int)<=a1))):Option Bool).bind λj1=>
(if j1 then
some (([]:List cD.den),([]:List cu.den),aaM,([]:List aa.den),([]:List aa.den),([]:List aa.den))
else
(idx a0.2.2 a1).bind λx2=>
(M.eC N x2.2.2.1).bind λy3=>
(M.eC N x2.2.2.2.1).bind λy4=>
(((if(aaN (0<=x2.2.1))then
some (aaN (x2.2.1<(a0.2.2.length:Int)))
else
some aaM):Option Bool).bind λj6=>
(if j6 then
(idx a0.2.2 x2.2.1).bind λx7=>
(M.eC N x7.2.2.2.1).bind λy8=>
some (y3,y4,a0.1,a0.2.1,aaL,y8)
else
some (y3,y4,a0.1,a0.2.1,aaM,([]:List aa.den))):Option ((List aa.den)×(List aa.den)×(List cD.den)×(List cu.den)×Bool×List aa.den)).bind λj5=>
some (j5.2.2.1,j5.2.2.2.1,j5.2.2.2.2.1,j5.1,j5.2.1,j5.2.2.2.2.2))
def M.kj(N:Nat)(a0:Int):Option Bool:=
((if(aaN (1<=a0))then
(if(aaN (a0<=8))then
some aaL
else
(if(aaN (36<=a0))then
some (aaN (a0<=39))
else
some aaM))
else
(if(aaN (36<=a0))then
some (aaN (a0<=39))
else
some aaM)):Option Bool).bind λj1=>
(if j1 then
some aaL
else
((if(aaN (a0=14))then
some aaL
else
(if(aaN (a0=15))then
some aaL
else
(if(aaN (a0=16))then
some aaL
else
(if(aaN (a0=33))then
some aaL
else
some (aaN (a0=34)))))):Option Bool).bind λj2=>
some j2)
def M.cz(N:Nat)(a0:Int):Option (aa.den):=
some (a0,0)
def M.jh(N:Nat)(a0:aa.den)(a1:bg.den):Option Bool:=
((if(aaN (a0.1=1))then
some (aaN (a0.1=1))
else
(if(aaN (a0.1=2))then
some (aaN (a0.1=2))
else
(if(aaN (a0.1=3))then
some (aaN (a0.1=3))
else
(if(aaN (a0.1=4))then
some (aaN (a0.1=4))
else
some (aaN (a0.1=5)))))):Option Bool).bind λj1=>
(if j1 then
(M.cz N a0.1).bind λy2=>
(M.lj N y2 a1.1).bind λy3=>
((if(aaN (y3.1<=a0.2))then
some (aaN (a0.2<=y3.2))
else
some aaM):Option Bool).bind λj4=>
some j4
else
((if(aaN (a0.1=14))then
some (aaN (a0.1=14))
else
(if(aaN (a0.1=15))then
some (aaN (a0.1=15))
else
some (aaN (a0.1=16)))):Option Bool).bind λj5=>
(if j5 then
((if(aaN (0<=a0.2))then
some (aaN (a0.2<=5))
else
some aaM):Option Bool).bind λj6=>
some j6
else
(if(aaN (a0.1=34))then
((if(aaN (0<=a0.2))then
some (aaN ((aaq a0.2 8)<=5))
else
some aaM):Option Bool).bind λj7=>
some j7
else
(if(aaN (a0.1=6))then
some (aaN (0<=a0.2))
else
some aaL))))
def M.aU(N:Nat)(a0:aa.den)(a1:bg.den):Option Bool:=
(if(aaN (a0.1=6))then
((if(aaN ((YW.wrap (Z6 a0.2 16))<(a1.1.length:Int)))then
(idx a1.1 (YW.wrap (Z6 a0.2 16))).bind λx2=>
some (aaN ((aaq a0.2 16)<(x2.2.length:Int)))
else
some aaM):Option Bool).bind λj1=>
some j1
else
(if(aaN (a0.1=7))then
((if(aaN (0<=a0.2))then
some (aaN (a0.2<(a1.2.2.1.length:Int)))
else
some aaM):Option Bool).bind λj3=>
some j3
else
(if(aaN (a0.1=8))then
((if(aaN (0<=a0.2))then
some (aaN (a0.2<(a1.2.2.2.1.length:Int)))
else
some aaM):Option Bool).bind λj4=>
some j4
else
(if(aaN (a0.1=33))then
((if(aaN (0<=a0.2))then
some (aaN (a0.2<(a1.2.1.length:Int)))
else
some aaM):Option Bool).bind λj5=>
some j5
else
(if(aaN (a0.1=34))then
some (aaN ((YW.wrap (Z6 a0.2 8))<(a1.2.1.length:Int)))
else
(if(aaN (a0.1=35))then
some a1.2.2.2.2.2
else
((if(aaN (a0.1=36))then
some (aaN (a0.1=36))
else
(if(aaN (a0.1=37))then
some (aaN (a0.1=37))
else
(if(aaN (a0.1=38))then
some (aaN (a0.1=38))
else
some (aaN (a0.1=39))))):Option Bool).bind λj6=>
(if j6 then
((if a1.2.2.2.2.2 then
(if(aaN (0<=a0.2))then
some (aaN (a0.2<(a1.2.2.2.2.1.length:Int)))
else
some aaM)
else
some aaM):Option Bool).bind λj7=>
some j7
else
some aaL)))))))
def M.gZ(N:Nat)(a0:Int):Option Bool:=
((if(aaN (a0=2))then
some aaL
else
(if(aaN (a0=3))then
some aaL
else
some (aaN (a0=4)))):Option Bool).bind λj1=>
some j1
def M.e7(N:Nat)(a0:Int):Option Bool:=
((M.gZ N a0).bind λy2=>
(if y2 then
some aaL
else
some (aaN (a0=5))):Option Bool).bind λj1=>
some j1
def M.bC(N:Nat)(a0:aa.den)(a1:bg.den):Option (aa.den×Bool):=
((if(aaN (a0.1=6))then
some (6,YW.wrap (Z6 a0.2 16))
else
(if(aaN (a0.1=7))then
(idx a1.2.2.1 a0.2).bind λx2=>
some x2
else
(if(aaN (a0.1=8))then
(idx a1.2.2.2.1 a0.2).bind λx3=>
some x3
else
(if(aaN (a0.1=9))then
(M.cz N 5).bind λy4=>
some y4
else
(if(aaN (a0.1=35))then
(M.cz N 2).bind λy5=>
some y5
else
((if(aaN (a0.1=36))then
some (aaN (a0.1=36))
else
(if(aaN (a0.1=37))then
some (aaN (a0.1=37))
else
(if(aaN (a0.1=38))then
some (aaN (a0.1=38))
else
some (aaN (a0.1=39))))):Option Bool).bind λj6=>
(if j6 then
(idx a1.2.2.2.2.1 a0.2).bind λx7=>
some x7
else
(M.cz N a0.1).bind λy8=>
some y8)))))):Option (aa.den)).bind λj1=>
(M.dJ N j1 a1.1).bind λy9=>
((if(aaN (a0.1=36))then
(if y9 then
(if(aaN (j1.1=2))then
some aaL
else
some (aaN (j1.1=3)))
else
some aaM)
else
((if(aaN (a0.1=37))then
some (aaN (a0.1=37))
else
some (aaN (a0.1=38))):Option Bool).bind λCb=>
(if Cb then
(if y9 then
some (aaN (j1.1=1))
else
some aaM)
else
(if(aaN (a0.1=39))then
(if y9 then
(M.e7 N j1.1).bind λJh=>
some Jh
else
some aaM)
else
some y9))):Option Bool).bind λrj=>
some (j1,rj)
def M.cx(N:Nat)(a0:aa.den)(a1:aa.den)(a2:bg.den):Option (aa.den×Bool):=
(if(aaN (a0.1=10))then
(M.gZ N a1.1).bind λy1=>
some (a1,y1)
else
(if(aaN (a0.1=25))then
some (a1,aaN (a1.1=1))
else
((if(aaN (a0.1=31))then
some (aaN (a0.1=31))
else
some (aaN (a0.1=32))):Option Bool).bind λj2=>
(if j2 then
(M.cz N 2).bind λy3=>
some (y3,aaN (a1.1=5))
else
(if(aaN (a0.1=33))then
(idx a2.2.1 a0.2).bind λx4=>
((M.dJ N x4.2.1 a2.1).bind λy6=>
(if y6 then
(M.dJ N x4.2.2.1 a2.1).bind λy7=>
(if y7 then
some ((ku aa a1 x4.2.1),x4.2.2.1)
else
some (aaM,x4.2.2.1))
else
some (aaM,x4.2.2.1)):Option (Bool×aa.den)).bind λj5=>
some (j5.2,j5.1)
else
(idx a2.2.1 (YW.wrap (Z6 a0.2 8))).bind λx8=>
((if(aaN (a1.1=3))then
(M.cz N 3).bind λLq=>
(if(ku aa x8.2.1 Lq)then
(M.cz N 4).bind λD9=>
some ((ku aa x8.2.2.1 D9),a1)
else
some (aaM,a1))
else
some (aaM,a1)):Option (Bool×aa.den)).bind λj9=>
some (j9.2,j9.1)))))
def M.hU(N:Nat)(a0:Int)(a1:Int)(a2:Int):Option (aa.den×Bool):=
(if(aaN (a0=13))then
((M.cz N a1).bind λy2=>
(if(aaN (a2=2))then
(if(aaN (a1=2))then
some (aaL,y2)
else
some (aaN (a1=3),y2))
else
some (aaM,y2)):Option (Bool×aa.den)).bind λj1=>
some (j1.2,j1.1)
else
(if(aaN (a0=14))then
((M.cz N a1).bind λy4=>
(if(aaN (a2=4))then
(if(aaN (a1=3))then
some (aaL,y4)
else
some (aaN (a1=4),y4))
else
some (aaM,y4)):Option (Bool×aa.den)).bind λj3=>
some (j3.2,j3.1)
else
((if(aaN (a1=3))then
some (aaN (a2=3))
else
some aaM):Option Bool).bind λj5=>
(if j5 then
(M.cz N 4).bind λy6=>
some (y6,aaL)
else
((M.cz N a1).bind λy8=>
(if(aaN (a2=2))then
(if(aaN (a1=2))then
some (aaL,y8)
else
some (aaN (a1=3),y8))
else
some (aaM,y8)):Option (Bool×aa.den)).bind λj7=>
some (j7.2,j7.1))))
def M.eQ(N:Nat)(a0:Int)(a1:aa.den)(a2:aa.den):Option (aa.den×Bool):=
((if(aaN (a0=11))then
some (aaN (a0=11))
else
some (aaN (a0=12))):Option Bool).bind λj1=>
(if j1 then
((if(ku aa a1 a2)then
(M.gZ N a1.1).bind λy3=>
some (y3,a1)
else
some (aaM,a1)):Option (Bool×aa.den)).bind λj2=>
some (j2.2,j2.1)
else
((if(aaN (a0=13))then
some (aaN (a0=13))
else
(if(aaN (a0=14))then
some (aaN (a0=14))
else
some (aaN (a0=15)))):Option Bool).bind λj4=>
(if j4 then
(M.hU N a0 a1.1 a2.1).bind λy5=>
some (y5.1,y5.2)
else
(if(aaN (a0=16))then
((if(aaN (a1.1=3))then
some (aaN (a2.1=3),a1)
else
some (aaM,a1)):Option (Bool×aa.den)).bind λj6=>
some (j6.2,j6.1)
else
((if(aaN (a0=17))then
some (aaN (a0=17))
else
some (aaN (a0=18))):Option Bool).bind λj7=>
(if j7 then
((if(ku aa a1 a2)then
(M.e7 N a1.1).bind λy9=>
some (y9,a1)
else
some (aaM,a1)):Option (Bool×aa.den)).bind λj8=>
some (j8.2,j8.1)
else
((if(aaN (a0=19))then
some (aaN (a0=19))
else
some (aaN (a0=20))):Option Bool).bind λrj=>
(if rj then
(M.cz N 1).bind λD9=>
some (D9,(ku aa a1 a2))
else
((if(aaN (a0=21))then
some (aaN (a0=21))
else
some (aaN (a0=22))):Option Bool).bind λv8=>
(if v8 then
((M.cz N 1).bind λtA=>
(if(ku aa a1 a2)then
(M.e7 N a1.1).bind λIj=>
some (Ij,tA)
else
some (aaM,tA)):Option (Bool×aa.den)).bind λIl=>
some (Il.2,Il.1)
else
((if(aaN (a0=23))then
some (aaN (a0=23))
else
some (aaN (a0=24))):Option Bool).bind λIk=>
(if Ik then
((if(aaN (a1.1=1))then
some (aaN (a2.1=1),a1)
else
some (aaM,a1)):Option (Bool×aa.den)).bind λKm=>
some (Km.2,Km.1)
else
((if(aaN (a0=27))then
some (aaN (a0=27))
else
some (aaN (a0=28))):Option Bool).bind λLI=>
(if LI then
((if(aaN (a1.1=5))then
some (aaN (a2.1=2),a1)
else
some (aaM,a1)):Option (Bool×aa.den)).bind λPA=>
some (PA.2,PA.1)
else
((M.cz N 2).bind λIh=>
(if(aaN (a1.1=5))then
some (aaN (a2.1=5),Ih)
else
some (aaM,Ih)):Option (Bool×aa.den)).bind λKi=>
some (Ki.2,Ki.1)))))))))
def M.aC(N:Nat)(a0:aa.den)(a1:List aa.den)(a2:bg.den):Option (aa.den×Int):=
((if(!aaN (a0.2=0))then
(M.kj N a0.1).bind λy2=>
some (!y2)
else
some aaM):Option Bool).bind λj1=>
(if j1 then
some ((0,0),2)
else
(M.jh N a0 a2).bind λy3=>
(if(!y3)then
some ((0,0),3)
else
(M.aU N a0 a2).bind λy4=>
(if(!y4)then
some ((0,0),6)
else
((if(aaN ((a1.length:Int)=0))then
(M.bC N a0 a2).bind λy6=>
some (y6.2,y6.1)
else
(if(aaN ((a1.length:Int)=1))then
(idx a1 0).bind λx7=>
(M.cx N a0 x7 a2).bind λy8=>
some (y8.2,y8.1)
else
(if(aaN ((a1.length:Int)=2))then
(idx a1 0).bind λx9=>
(idx a1 1).bind λrk=>
(M.eQ N a0.1 x9 rk).bind λD9=>
some (D9.2,D9.1)
else
(idx a1 1).bind λCd=>
(idx a1 0).bind λsz=>
(if(aaN (sz.1=1))then
(idx a1 1).bind λET=>
(idx a1 2).bind λIo=>
some ((ku aa ET Io),Cd)
else
some (aaM,Cd))))):Option (Bool×aa.den)).bind λj5=>
(if(!j5.1)then
some ((0,0),8)
else
some (j5.2,0)))))
end
end
end Go.Proofs.YtbladfbbhijpmaaGreat
