/- Joined texts: SL Model ModelA Plain. -/
import Derived.Test.YtbladfbbhijpmaaGreatU6
import Derived.Test.YtbladfbbhijpmaaGreatProg
import Derived.Test.YtbladfbbhijpmaaGreatU5
import Derived.Test.YtbladfbbhijpmaaGreatU1
open _root_.Bool renaming false->Yy,true->Yx
open _root_.Option renaming none->Yw
open _root_.Decidable renaming decide->Yz
open _root_.ByteArray renaming empty->Yn
open _root_.Int renaming tdiv->XR,tmod->Yd
open _root_.Go.IntKind renaming i64->WG,u64->WK
open _root_.List renaming forall_mem_cons->Yb,length_map->XQ,range->WM
open _root_.Nat renaming beq->WI
namespace Go.Proofs.YtbladfbbhijpmaaGreat
open Go Go.RowKit
set_option maxRecDepth 100000
set_option linter.unusedSimpArgs false
set_option linter.unusedVariables false
set_option linter.defProp false
section
open Go Go.RowKit Go.Shelf Go.Lib Go.Sort
theorem y0{g:Int->Int->Int->Int->Option Int}(Pk:fK Tryz.prog 106 ⟨⟨[(0, .val Yx (.leaf iQ)),(1, .val Yx (.leaf iQ))],[],[],0⟩,⟨[(0, .val Yy (.leaf ae))],[],[],0⟩,λ(x:iQ.den×iQ.den)=>g x.1.1 x.1.2 x.2.1 x.2.2⟩):
 fK Tryz.prog 105 ⟨⟨[(0, .val Yy (.own 0)),(1, .fn 106 [])],[(0, .own 58 iQ)],[],1⟩,⟨[],[(0, .own 58 iQ)],[],2⟩,λx=>th g x⟩:=by
 have eg:∀args w,(callFunc 106 args).run Tryz.prog w= .ok (.enter 106 args) w:=enters_of Tryz.func106 (by kernel_rfl) rfl;refine ES ⟨_,Tryz.func105,by kernel_rfl,by kernel_rfl⟩ Pk (λcf hO jx off cap d w hC hH hb hs hT=>?_) (λw=>?_)
 .exact AnyQ.slices_SortFunc_total Tryz.Aw 2 Tryz.isAgg58 Tryz.sizeOf58 gH EQ (λx v hv=>by simp[gH]at hv;rcases hv with rfl|rfl<;>rfl) cf hO 106 #[] jx off cap d w eg hC hH hb hs hT
 .exact AnyF.slices_SortFunc_none Tryz.Aw Yw 0 _ w
end
section
noncomputable section
set_option maxRecDepth 100000
set_option linter.unusedVariables false
@[reducible] def aa:Row:= .pair ae ae
@[reducible] def aY:Row:= .pair .str aa
@[reducible] def cr:Row:= .pair .str (.pair ae (.pair ae (.pair ae (.pair aa (.pair (.slice aa) (.pair (.slice aa) .str))))))
@[reducible] def aZ:Row:= .pair .str (.pair ae (.pair (.slice aY) (.pair (.slice aY) (.slice cr))))
@[reducible] def cO:Row:= .pair .str (.slice .str)
@[reducible] def gn:Row:= .pair aa (.pair ae aa)
@[reducible] def cK:Row:= .pair .str (.pair aa (.pair aa (.slice gn)))
@[reducible] def ig:Row:= .pair (.slice cO) (.pair (.slice cK) (.slice aZ))
@[reducible] def bm:Row:= .pair ae (.pair ae aa)
@[reducible] def aR:Row:= .pair (.slice cO) (.pair (.slice cK) (.pair (.slice aa) (.pair (.slice aa) (.pair (.slice aa) .bool))))
@[reducible] def dF:Row:= .pair (.slice ae) (.pair (.slice ae) (.slice ae))
@[reducible] def aj:Row:= .pair aa ae
@[reducible] def bJ:Row:= .pair ae (.pair (.slice (.slice aa)) (.pair (.slice ae) (.slice aj)))
theorem ET:TI Tryz.prog 3 ae:=TI.mk (k:=1) (by kernel_rfl) rfl
theorem TV:TI Tryz.prog 4 .bool:=TI.mk (k:=1) (by kernel_rfl) rfl
theorem TW:TI Tryz.prog 9 .str:=TI.mk (k:=1) (by kernel_rfl) rfl
theorem Pm:TI Tryz.prog 22 (.slice cO):=TI.mk (k:=1) (by kernel_rfl) rfl
theorem Pn:TI Tryz.prog 23 (.slice cK):=TI.mk (k:=1) (by kernel_rfl) rfl
theorem Po:TI Tryz.prog 24 (.slice aZ):=TI.mk (k:=1) (by kernel_rfl) rfl
theorem Pp:TI Tryz.prog 26 ig:=TI.mk (k:=3) (by kernel_rfl) rfl
theorem Pq:TI Tryz.prog 27 (.pair ae aa):=TI.mk (k:=3) (by kernel_rfl) rfl
theorem Ps:TI Tryz.prog 30 (.slice (.slice aa)):=TI.mk (k:=1) (by kernel_rfl) rfl
theorem Pu:TI Tryz.prog 31 (.slice ae):=TI.mk (k:=1) (by kernel_rfl) rfl
theorem Pv:TI Tryz.prog 32 (.slice aj):=TI.mk (k:=1) (by kernel_rfl) rfl
theorem Pw:TI Tryz.prog 34 bJ:=TI.mk (k:=4) (by kernel_rfl) rfl
theorem LS:TI Tryz.prog 35 ae:=TI.mk (k:=1) (by kernel_rfl) rfl
theorem Px:TI Tryz.prog 45 bm:=TI.mk (k:=4) (by kernel_rfl) rfl
theorem Py:TI Tryz.prog 47 (.slice aY):=TI.mk (k:=1) (by kernel_rfl) rfl
theorem Pz:TI Tryz.prog 48 (.slice cr):=TI.mk (k:=1) (by kernel_rfl) rfl
theorem PA:TI Tryz.prog 50 aZ:=TI.mk (k:=5) (by kernel_rfl) rfl
theorem LU:TI Tryz.prog 58 aa:=TI.mk (k:=2) (by kernel_rfl) rfl
theorem PB:TI Tryz.prog 60 aj:=TI.mk (k:=3) (by kernel_rfl) rfl
theorem PC:TI Tryz.prog 62 (.slice .str):=TI.mk (k:=1) (by kernel_rfl) rfl
theorem PD:TI Tryz.prog 64 cO:=TI.mk (k:=2) (by kernel_rfl) rfl
theorem PE:TI Tryz.prog 66 aa:=TI.mk (k:=2) (by kernel_rfl) rfl
theorem PF:TI Tryz.prog 67 (.slice gn):=TI.mk (k:=1) (by kernel_rfl) rfl
theorem PG:TI Tryz.prog 69 cK:=TI.mk (k:=6) (by kernel_rfl) rfl
theorem PH:TI Tryz.prog 74 aa:=TI.mk (k:=2) (by kernel_rfl) rfl
theorem PI:TI Tryz.prog 75 (.slice aa):=TI.mk (k:=1) (by kernel_rfl) rfl
theorem PJ:TI Tryz.prog 77 cr:=TI.mk (k:=9) (by kernel_rfl) rfl
theorem PK:TI Tryz.prog 81 aa:=TI.mk (k:=2) (by kernel_rfl) rfl
theorem PL:TI Tryz.prog 96 dF:=TI.mk (k:=3) (by kernel_rfl) rfl
theorem LV:TI Tryz.prog 100 aY:=TI.mk (k:=3) (by kernel_rfl) rfl
theorem LW:TI Tryz.prog 132 gn:=TI.mk (k:=5) (by kernel_rfl) rfl
theorem LX:TI Tryz.prog 144 (.slice aa):=TI.mk (k:=1) (by kernel_rfl) rfl
theorem LY:TI Tryz.prog 146 aR:=TI.mk (k:=6) (by kernel_rfl) rfl
theorem LZ:TI Tryz.prog 207 (.int .u64):=TI.mk (k:=1) (by kernel_rfl) rfl
theorem Gk:jZ Tryz.prog 3 ae 1:=zI Tryz.underlying3
theorem PM:jZ Tryz.prog 66 aa 2:=iA Tryz.underlying66 (by kernel_rfl) (iz rfl rfl Tryz.underlying3 (by simp[fm]) ET Gk (kV rfl rfl Tryz.underlying3 (by simp[fm]) ET Gk))
theorem PN:jZ Tryz.prog 81 aa 2:=iA Tryz.underlying81 (by kernel_rfl) (iz rfl rfl Tryz.underlying3 (by simp[fm]) ET Gk (kV rfl rfl Tryz.underlying3 (by simp[fm]) ET Gk))
theorem L1:jZ Tryz.prog 58 aa 2:=iA Tryz.underlying58 (by kernel_rfl) (iz rfl rfl Tryz.underlying3 (by simp[fm]) ET Gk (kV rfl rfl Tryz.underlying3 (by simp[fm]) ET Gk))
theorem PO:jZ Tryz.prog 35 ae 1:=zI Tryz.underlying35
theorem PP:jZ Tryz.prog 45 bm 2:=iA Tryz.underlying45 (by kernel_rfl) (iz rfl rfl Tryz.underlying35 (by simp[fm]) LS PO (iz rfl rfl Tryz.underlying3 (by simp[fm]) ET Gk (iz rfl rfl Tryz.underlying3 (by simp[fm]) ET Gk (kV rfl rfl Tryz.underlying3 (by simp[fm]) ET Gk))))
theorem L2:jZ Tryz.prog 3 ae 2:=Gk.lift 1
theorem PQ:jZ Tryz.prog 60 aj 3:=iA Tryz.underlying60 (by kernel_rfl) (iz rfl rfl Tryz.underlying58 (by intro h;cases h) LU L1 (kV rfl rfl Tryz.underlying3 (by simp[fm]) ET L2))
theorem tu:∀p∈([(3, .int .i64),(4, .bool),(5, .int .u8),(9, .str),(22, .slice 64),(23, .slice 69),(24, .slice 50),(26, .struct [(22,0),(23,1),(24,2)]),(27, .array 3 3),(30, .slice 75),(31, .slice 3),(32, .slice 60),(34, .struct [(3,0),(30,1),(31,2),(32,3)]),(35, .int .i64),(45, .struct [(35,0),(3,1),(3,2),(3,3)]),(47, .slice 100),(48, .slice 77),(50, .struct [(9,0),(3,1),(47,2),(47,3),(48,4)]),(54, .slice 4),(58, .struct [(3,0),(3,1)]),(60, .struct [(58,0),(3,2)]),(62, .slice 9),(64, .struct [(9,0),(62,1)]),(66, .struct [(3,0),(3,1)]),(67, .slice 132),(69, .struct [(9,0),(66,1),(66,3),(67,5)]),(70, .other),(74, .struct [(3,0),(3,1)]),(75, .slice 81),(77, .struct [(9,0),(3,1),(3,2),(3,3),(74,4),(75,6),(75,7),(9,8)]),(81, .struct [(3,0),(3,1)]),(92, .other),(96, .struct [(31,0),(31,1),(31,2)]),(100, .struct [(9,0),(66,1)]),(101, .slice 58),(114, .map 3 4),(115, .map 58 4),(132, .struct [(74,0),(3,2),(3,3),(3,4)]),(135, .other),(139, .other),(141, .other),(144, .slice 66),(146, .struct [(22,0),(23,1),(144,2),(144,3),(144,4),(4,5)]),(157, .int .u64),(158, .other),(171, .other),(176, .slice 31),(181, .int .u32),(183, .int .u64),(207, .int .u64),(211, .ptr 3),(225, .ptr 207)]:List (Nat×CR)),sq Tryz.prog p.1 p.2:=by
 simp only[Yb];exact⟨Tryz.underlying3,Tryz.underlying4,Tryz.underlying5,Tryz.underlying9,Tryz.underlying22,Tryz.underlying23,Tryz.underlying24,⟨_,Tryz.underlying26,rfl⟩,Tryz.underlying27,Tryz.underlying30,Tryz.underlying31,Tryz.underlying32,⟨_,Tryz.underlying34,rfl⟩,Tryz.underlying35,⟨_,Tryz.underlying45,rfl⟩,Tryz.underlying47,Tryz.underlying48,⟨_,Tryz.underlying50,rfl⟩,Tryz.underlying54,⟨_,Tryz.underlying58,rfl⟩,⟨_,Tryz.underlying60,rfl⟩,Tryz.underlying62,⟨_,Tryz.underlying64,rfl⟩,⟨_,Tryz.underlying66,rfl⟩,Tryz.underlying67,⟨_,Tryz.underlying69,rfl⟩,⟨_,Tryz.underlying70,rfl⟩,⟨_,Tryz.underlying74,rfl⟩,Tryz.underlying75,⟨_,Tryz.underlying77,rfl⟩,⟨_,Tryz.underlying81,rfl⟩,⟨_,Tryz.underlying92,rfl⟩,⟨_,Tryz.underlying96,rfl⟩,⟨_,Tryz.underlying100,rfl⟩,Tryz.underlying101,Tryz.underlying114,Tryz.underlying115,⟨_,Tryz.underlying132,rfl⟩,⟨_,Tryz.underlying135,rfl⟩,⟨_,Tryz.underlying139,rfl⟩,⟨_,Tryz.underlying141,rfl⟩,Tryz.underlying144,⟨_,Tryz.underlying146,rfl⟩,Tryz.underlying157,⟨_,Tryz.underlying158,rfl⟩,⟨_,Tryz.underlying171,rfl⟩,Tryz.underlying176,Tryz.underlying181,Tryz.underlying183,Tryz.underlying207,Tryz.underlying211,Tryz.underlying225,λ_ h=>absurd h (by simp)⟩
theorem tr:∀p∈([(3,ae),(4, .bool),(9, .str),(22,(.slice cO)),(23,(.slice cK)),(24,(.slice aZ)),(26,ig),(27,(.pair ae aa)),(30,(.slice (.slice aa))),(31,(.slice ae)),(32,(.slice aj)),(34,bJ),(35,ae),(45,bm),(47,(.slice aY)),(48,(.slice cr)),(50,aZ),(58,aa),(60,aj),(62,(.slice .str)),(64,cO),(66,aa),(67,(.slice gn)),(69,cK),(74,aa),(75,(.slice aa)),(77,cr),(81,aa),(96,dF),(100,aY),(132,gn),(144,(.slice aa)),(146,aR),(207,(.int .u64))]:List (Nat×Row)),TI Tryz.prog p.1 p.2:=by
 simp only[Yb];exact⟨ET,TV,TW,Pm,Pn,Po,Pp,Pq,Ps,Pu,Pv,Pw,LS,Px,Py,Pz,PA,LU,PB,PC,PD,PE,PF,PG,PH,PI,PJ,PK,PL,LV,LW,LX,LY,LZ,λ_ h=>absurd h (by simp)⟩
theorem te:∀p∈([(45,bm),(58,aa),(60,aj),(66,aa),(81,aa)]:List (Nat×Row)),∃K d,jZ Tryz.prog p.1 p.2 K/\d+K=10000/\Tryz.prog.eqGuardType Tryz.prog.depth p.1=Yy/\(Tryz.prog.underlying p.1).any fm=Yx:=by
 simp only[Yb];exact⟨⟨2,9998,PP,rfl,by kernel_rfl,by kernel_rfl⟩,⟨2,9998,L1,rfl,by kernel_rfl,by kernel_rfl⟩,⟨3,9997,PQ,rfl,by kernel_rfl,by kernel_rfl⟩,⟨2,9998,PM,rfl,by kernel_rfl,by kernel_rfl⟩,⟨2,9998,PN,rfl,by kernel_rfl,by kernel_rfl⟩,λ_ h=>absurd h (by simp)⟩
theorem tz:∀p∈([(4,(Yy, .bool))]:List (Nat×(Bool×Row))),tQ Tryz.prog p.1 p.2.1 p.2.2:=by
 simp only[Yb];exact⟨⟨_,by kernel_rfl,rfl⟩,λ_ h=>absurd h (by simp)⟩
theorem tk:∀t∈([58]:List TypeId),∀(em:Bool)(a b:Value)(w:World),(Instr.checkKey em 10000 t (.agg #[a,b])).run Tryz.prog w= .ok () w:=by
 simp only[Yb];exact⟨λem a b w=>by kernel_rfl,λ_ h=>absurd h (by simp)⟩
def PR:aF Tryz.prog:=⟨_,_,_,_,iW tu,iW tr,iW te,λt a r h=>iW (Q:=λt p=>tQ Tryz.prog t p.1 p.2) tz t (a,r) h,_,tk,[],λ_ h=>absurd h (by simp)⟩
theorem mixed:Tryz.prog.follows .mixedOrders=Yx:=by kernel_rfl
def en(l:List (CT Tryz.prog))(d p:Bool):Env Tryz.prog:=⟨PR,CT.tab l,CT.EM,mixed,d,p⟩
abbrev Fo(f:Nat)(a b:JS)(g:bZ a.rows->Option (bZ b.rows)):Prop:=fK Tryz.prog f ⟨a,b,g⟩
theorem fz{f:FuncId}{fn:Func}{sg:nq}(N:Nat)(l:List (CT Tryz.prog))(a:pn)(hf:Tryz.prog.funcs[f]? =some fn)(hc:Ph fn sg=Yx:=by kernel_rfl)(yF:∀x,sg.fn x=Ju (en l Yy Yy) fn.ntmps N (fn.body.getD .skip) fn.results.toList a sg.inn sg.out x:=by intro x;kernel_rfl):fK Tryz.prog f sg:=fw (en l Yy Yy) (N:=N) a hf hc yF
def M.jo(N:Nat)(a0:Int):Option Bool:=
((if(Yz (97<=a0))then
some (Yz (a0<=122))
else
some Yy):Option Bool).bind λj1=>
some j1
theorem RG(N:Nat):Fo 89 (.i1 [.l (.int .u8)]) (.i1 [.l .bool]) (M.jo N):=fz N [] (.o (.mb 2 16)) Tryz.func89
def M.mB(N:Nat)(a0:Int):Option Bool:=
((if(Yz (48<=a0))then
some (Yz (a0<=57))
else
some Yy):Option Bool).bind λj1=>
some j1
theorem PT(N:Nat):Fo 130 (.i1 [.l (.int .u8)]) (.i1 [.l .bool]) (M.mB N):=fz N [] (.o (.mb 2 16)) Tryz.func130
def M.jQ(N:Nat)(a0:ByteArray):Option Int:=
Loop (S:=Int) (X:=Int) (λs1=>
((if(Yz (s1<(a0.size:Int)))then
(mv a0 s1).bind λx3=>
(M.jo N x3).bind λy4=>
(if y4 then
some Yx
else
(mv a0 s1).bind λx5=>
(M.mB N x5).bind λy6=>
(if y6 then
some Yx
else
(mv a0 s1).bind λx7=>
some (Yz (x7=95))))
else
some Yy):Option Bool).bind λj2=>
(if j2 then
some (.inl (WG.wrap (s1+1)))
else
some (.inr s1))) N 0
theorem TX(N:Nat):Fo 90 (.i1 [.l .str]) (.i1 [.l ae]) (M.jQ N):=fz N [ck (RG N),ck (PT N)] (.o (.o (.two (.two (.lp 3 32 (.two (.mb 25 32) .nil)) .nil) .nil))) Tryz.func90
def M.lj(N:Nat)(a0:ByteArray):Option Bool:=
((if(Yz (a0=(⟨#[105,102]⟩:ByteArray)))then
some (Yz (a0=(⟨#[105,102]⟩:ByteArray)))
else
(if(Yz (a0=(⟨#[116,104,101,110]⟩:ByteArray)))then
some (Yz (a0=(⟨#[116,104,101,110]⟩:ByteArray)))
else
(if(Yz (a0=(⟨#[101,108,115,101]⟩:ByteArray)))then
some (Yz (a0=(⟨#[101,108,115,101]⟩:ByteArray)))
else
(if(Yz (a0=(⟨#[111,114]⟩:ByteArray)))then
some (Yz (a0=(⟨#[111,114]⟩:ByteArray)))
else
(if(Yz (a0=(⟨#[97,110,100]⟩:ByteArray)))then
some (Yz (a0=(⟨#[97,110,100]⟩:ByteArray)))
else
(if(Yz (a0=(⟨#[110,111,116]⟩:ByteArray)))then
some (Yz (a0=(⟨#[110,111,116]⟩:ByteArray)))
else
(if(Yz (a0=(⟨#[116,114,117,101]⟩:ByteArray)))then
some (Yz (a0=(⟨#[116,114,117,101]⟩:ByteArray)))
else
(if(Yz (a0=(⟨#[102,97,108,115,101]⟩:ByteArray)))then
some (Yz (a0=(⟨#[102,97,108,115,101]⟩:ByteArray)))
else
(if(Yz (a0=(⟨#[116,111,100,97,121]⟩:ByteArray)))then
some (Yz (a0=(⟨#[116,111,100,97,121]⟩:ByteArray)))
else
(if(Yz (a0=(⟨#[115,104,97,114,101]⟩:ByteArray)))then
some (Yz (a0=(⟨#[115,104,97,114,101]⟩:ByteArray)))
else
(if(Yz (a0=(⟨#[100,105,118]⟩:ByteArray)))then
some (Yz (a0=(⟨#[100,105,118]⟩:ByteArray)))
else
(if(Yz (a0=(⟨#[114,111,117,110,100]⟩:ByteArray)))then
some (Yz (a0=(⟨#[114,111,117,110,100]⟩:ByteArray)))
else
(if(Yz (a0=(⟨#[109,105,110]⟩:ByteArray)))then
some (Yz (a0=(⟨#[109,105,110]⟩:ByteArray)))
else
(if(Yz (a0=(⟨#[109,97,120]⟩:ByteArray)))then
some (Yz (a0=(⟨#[109,97,120]⟩:ByteArray)))
else
(if(Yz (a0=(⟨#[112,108,117,115]⟩:ByteArray)))then
some (Yz (a0=(⟨#[112,108,117,115]⟩:ByteArray)))
else
(if(Yz (a0=(⟨#[109,111,110,116,104,115]⟩:ByteArray)))then
some (Yz (a0=(⟨#[109,111,110,116,104,115]⟩:ByteArray)))
else
(if(Yz (a0=(⟨#[100,97,121,115]⟩:ByteArray)))then
some (Yz (a0=(⟨#[100,97,121,115]⟩:ByteArray)))
else
(if(Yz (a0=(⟨#[121,101,97,114,115]⟩:ByteArray)))then
some (Yz (a0=(⟨#[121,101,97,114,115]⟩:ByteArray)))
else
(if(Yz (a0=(⟨#[121,101,97,114]⟩:ByteArray)))then
some (Yz (a0=(⟨#[121,101,97,114]⟩:ByteArray)))
else
(if(Yz (a0=(⟨#[109,111,110,116,104]⟩:ByteArray)))then
some (Yz (a0=(⟨#[109,111,110,116,104]⟩:ByteArray)))
else
(if(Yz (a0=(⟨#[116,97,98]⟩:ByteArray)))then
some (Yz (a0=(⟨#[116,97,98]⟩:ByteArray)))
else
(if(Yz (a0=(⟨#[98,97,110,100]⟩:ByteArray)))then
some (Yz (a0=(⟨#[98,97,110,100]⟩:ByteArray)))
else
(if(Yz (a0=(⟨#[99,111,117,110,116]⟩:ByteArray)))then
some (Yz (a0=(⟨#[99,111,117,110,116]⟩:ByteArray)))
else
(if(Yz (a0=(⟨#[115,117,109]⟩:ByteArray)))then
some (Yz (a0=(⟨#[115,117,109]⟩:ByteArray)))
else
(if(Yz (a0=(⟨#[97,108,108]⟩:ByteArray)))then
some (Yz (a0=(⟨#[97,108,108]⟩:ByteArray)))
else
(if(Yz (a0=(⟨#[97,110,121]⟩:ByteArray)))then
some (Yz (a0=(⟨#[97,110,121]⟩:ByteArray)))
else
(if(Yz (a0=(⟨#[109,111,115,116]⟩:ByteArray)))then
some (Yz (a0=(⟨#[109,111,115,116]⟩:ByteArray)))
else
(if(Yz (a0=(⟨#[101,110,117,109]⟩:ByteArray)))then
some (Yz (a0=(⟨#[101,110,117,109]⟩:ByteArray)))
else
(if(Yz (a0=(⟨#[116,97,98,108,101]⟩:ByteArray)))then
some (Yz (a0=(⟨#[116,97,98,108,101]⟩:ByteArray)))
else
(if(Yz (a0=(⟨#[114,111,119]⟩:ByteArray)))then
some (Yz (a0=(⟨#[114,111,119]⟩:ByteArray)))
else
(if(Yz (a0=(⟨#[115,99,111,112,101]⟩:ByteArray)))then
some (Yz (a0=(⟨#[115,99,111,112,101]⟩:ByteArray)))
else
(if(Yz (a0=(⟨#[109,101,109,98,101,114,115]⟩:ByteArray)))then
some (Yz (a0=(⟨#[109,101,109,98,101,114,115]⟩:ByteArray)))
else
(if(Yz (a0=(⟨#[105,110,112,117,116]⟩:ByteArray)))then
some (Yz (a0=(⟨#[105,110,112,117,116]⟩:ByteArray)))
else
(if(Yz (a0=(⟨#[100,101,102]⟩:ByteArray)))then
some (Yz (a0=(⟨#[100,101,102]⟩:ByteArray)))
else
(if(Yz (a0=(⟨#[114,117,108,101]⟩:ByteArray)))then
some (Yz (a0=(⟨#[114,117,108,101]⟩:ByteArray)))
else
(if(Yz (a0=(⟨#[111,102]⟩:ByteArray)))then
some (Yz (a0=(⟨#[111,102]⟩:ByteArray)))
else
(if(Yz (a0=(⟨#[111,118,101,114]⟩:ByteArray)))then
some (Yz (a0=(⟨#[111,118,101,114]⟩:ByteArray)))
else
(if(Yz (a0=(⟨#[112,114,105,111]⟩:ByteArray)))then
some (Yz (a0=(⟨#[112,114,105,111]⟩:ByteArray)))
else
(if(Yz (a0=(⟨#[102,114,111,109]⟩:ByteArray)))then
some (Yz (a0=(⟨#[102,114,111,109]⟩:ByteArray)))
else
(if(Yz (a0=(⟨#[116,111]⟩:ByteArray)))then
some (Yz (a0=(⟨#[116,111]⟩:ByteArray)))
else
(if(Yz (a0=(⟨#[101,110,100]⟩:ByteArray)))then
some (Yz (a0=(⟨#[101,110,100]⟩:ByteArray)))
else
(if(Yz (a0=(⟨#[119,104,101,110]⟩:ByteArray)))then
some (Yz (a0=(⟨#[119,104,101,110]⟩:ByteArray)))
else
(if(Yz (a0=(⟨#[105,115]⟩:ByteArray)))then
some (Yz (a0=(⟨#[105,115]⟩:ByteArray)))
else
(if(Yz (a0=(⟨#[115,114,99]⟩:ByteArray)))then
some (Yz (a0=(⟨#[115,114,99]⟩:ByteArray)))
else
(if(Yz (a0=(⟨#[98,111,111,108]⟩:ByteArray)))then
some (Yz (a0=(⟨#[98,111,111,108]⟩:ByteArray)))
else
(if(Yz (a0=(⟨#[105,110,116]⟩:ByteArray)))then
some (Yz (a0=(⟨#[105,110,116]⟩:ByteArray)))
else
(if(Yz (a0=(⟨#[109,111,110,101,121]⟩:ByteArray)))then
some (Yz (a0=(⟨#[109,111,110,101,121]⟩:ByteArray)))
else
(if(Yz (a0=(⟨#[114,97,116,101]⟩:ByteArray)))then
some (Yz (a0=(⟨#[114,97,116,101]⟩:ByteArray)))
else
(if(Yz (a0=(⟨#[100,97,116,101]⟩:ByteArray)))then
some (Yz (a0=(⟨#[100,97,116,101]⟩:ByteArray)))
else
(if(Yz (a0=(⟨#[100,111,119,110]⟩:ByteArray)))then
some (Yz (a0=(⟨#[100,111,119,110]⟩:ByteArray)))
else
(if(Yz (a0=(⟨#[117,112]⟩:ByteArray)))then
some (Yz (a0=(⟨#[117,112]⟩:ByteArray)))
else
(if(Yz (a0=(⟨#[122,101,114,111]⟩:ByteArray)))then
some (Yz (a0=(⟨#[122,101,114,111]⟩:ByteArray)))
else
(if(Yz (a0=(⟨#[97,119,97,121]⟩:ByteArray)))then
some (Yz (a0=(⟨#[97,119,97,121]⟩:ByteArray)))
else
(if(Yz (a0=(⟨#[104,97,108,102]⟩:ByteArray)))then
some (Yz (a0=(⟨#[104,97,108,102]⟩:ByteArray)))
else
some (Yz (a0=(⟨#[101,118,101,110]⟩:ByteArray))))))))))))))))))))))))))))))))))))))))))))))))))))))))):Option Bool).bind λj1=>
(if j1 then
some Yx
else
some Yy)
theorem TY(N:Nat):Fo 91 (.i1 [.l .str]) (.i1 [.l .bool]) (M.lj N):=fz N [] (.o (.two (.o (.two (.mb 4 32) .nil)) .nil)) Tryz.func91
def M.cd(N:Nat)(a0:ByteArray):Option Bool:=
((if(!Yz (a0=(⟨#[]⟩:ByteArray)))then
(mv a0 0).bind λx2=>
(M.jo N x2).bind λy3=>
(if y3 then
(M.jQ N a0).bind λy4=>
(if(Yz (y4=(a0.size:Int)))then
(if(Yz ((a0.size:Int)<=16))then
(M.lj N a0).bind λy5=>
some (!y5)
else
some Yy)
else
some Yy)
else
some Yy)
else
some Yy):Option Bool).bind λj1=>
some j1
theorem L3(N:Nat):Fo 61 (.i1 [.l .str]) (.i1 [.l .bool]) (M.cd N):=fz N [ck (RG N),ck (TX N),ck (TY N)] (.o (.mb 2 16)) Tryz.func61
def M.jd(N:Nat)(a0:cO.den)(a1:ByteArray):Option (Bool×ByteArray):=
some (Yz (a0.1=a1),a1)
theorem L4(N:Nat):Fo 93 (.j1 [.g cO, .ptr 0 [] 0] [.box 9 (.leaf .str)] 1) (.j1 [.l .bool] [.box 9 (.leaf .str)] 2) (u2 (M.jd N)):=fz N [] .nil Tryz.func93
def M.bz(N:Nat)(a0:List cO.den)(a1:ByteArray):Option (Int×ByteArray):=
Loop (S:=Int×ByteArray) (X:=Int×ByteArray) (λs1=>
(if(Yz (s1.1<(a0.length:Int)))then
(idx a0 s1.1).bind λx2=>
(M.jd N x2 s1.2).bind λy3=>
(if y3.1 then
some (.inr (s1.1,y3.2))
else
some (.inl (WG.wrap (s1.1+1),y3.2)))
else
some (.inr ((-1),s1.2)))) N (0,a1)
theorem Jy(N:Nat):Fo 131 (.j1 [.l (.slice cO), .fn 93 [(0,[],0)]] [.box 9 (.leaf .str)] 1) (.j1 [.l ae] [.box 9 (.leaf .str)] 2) (u2 (M.bz N)):=fz N [ck (L4 N)] (.o (.two (.o (.two (.loop ⟨[(8, .l ae)],[(0, .box 9 (.leaf .str))],[],66⟩ .nil) .nil)) .nil)) Tryz.func131
def M.bk(N:Nat)(a0:List cO.den)(a1:ByteArray):Option (Bool×ByteArray):=
(M.bz N a0 a1).bind λy1=>
some (Yz (0<=y1.1),y1.2)
theorem L5(N:Nat):Fo 92 (.j1 [.l (.slice cO), .fn 93 [(0,[],0)]] [.box 9 (.leaf .str)] 1) (.j1 [.l .bool] [.box 9 (.leaf .str)] 2) (u2 (M.bk N)):=fz N [ck (Jy N)] .nil Tryz.func92
def M.je(N:Nat)(a0:List cO.den)(a1:ByteArray):Option Bool:=
(M.bk N a0 a1).bind λy1=>
some y1.1
theorem PU(N:Nat):Fo 62 (.i1 [.l (.slice cO), .l .str]) (.i1 [.l .bool]) (u2 (M.je N)):=fz N [ck (L5 N)] .nil Tryz.func62
def M.eI(N:Nat)(a0:List ByteArray)(a1:ByteArray):Option Int:=
Loop (S:=Int) (X:=Int) (λs1=>
(if(Yz (s1<(a0.length:Int)))then
(idx a0 s1).bind λx2=>
(if(Yz (a1=x2))then
some (.inr s1)
else
some (.inl (WG.wrap (s1+1))))
else
some (.inr (-1)))) N 0
theorem PV(N:Nat):Fo 128 (.i1 [.l (.slice .str), .l .str]) (.i1 [.l ae]) (u2 (M.eI N)):=fz N [] (.o (.two (.o (.two (.lp 8 64 .nil) .nil)) .nil)) Tryz.func128
def M.dP(N:Nat)(a0:List ByteArray)(a1:ByteArray):Option Bool:=
(M.eI N a0 a1).bind λy1=>
some (Yz (0<=y1))
theorem TZ(N:Nat):Fo 83 (.i1 [.l (.slice .str), .l .str]) (.i1 [.l .bool]) (u2 (M.dP N)):=fz N [ck (PV N)] .nil Tryz.func83
def M.mC(N:Nat)(a0:ig.den)(a1:Int)(a2:cO.den):Option (Int×Int):=
(M.cd N a2.1).bind λy1=>
(if(!y1)then
some (2,0)
else
(dQ a0.1 0 a1).bind λl2=>
(M.je N l2 a2.1).bind λy3=>
(if y3 then
some (7,0)
else
(if(Yz ((a2.2.length:Int)=0))then
some (5,0)
else
(if(Yz (16<(a2.2.length:Int)))then
some (4,116)
else
Loop (S:=Int) (X:=Int×Int) (λs4=>
(if(Yz (s4<(a2.2.length:Int)))then
(idx a2.2 s4).bind λx5=>
(M.cd N x5).bind λy6=>
(if(!y6)then
some (.inr (2,WG.wrap (100+s4)))
else
(dQ a2.2 0 s4).bind λl7=>
(M.dP N l7 x5).bind λy8=>
(if y8 then
some (.inr (7,WG.wrap (100+s4)))
else
some (.inl (WG.wrap (s4+1)))))
else
some (.inr (0,0)))) N 0))))
theorem T4(N:Nat):Fo 59 (.i1 [.g ig, .l ae, .g cO]) (.i1 [.l ae, .l ae]) (u3 (M.mC N)):=fz N [ck (L3 N),ck (PU N),ck (TZ N)] (.o (.o (.two (.o (.two (.lp 36 496 .nil) .nil)) .nil))) Tryz.func59
def M.lk(N:Nat)(a0:ig.den):Option (bm.den):=
(if(Yz (8<(a0.1.length:Int)))then
some (4,(1,(8,0)))
else
bG (J:=Unit) (R:=bm.den) (Loop (S:=Int) (X:=Unit⊕(bm.den)) (λs2=>
(if(Yz (s2<(a0.1.length:Int)))then
(idx a0.1 s2).bind λx3=>
(M.mC N a0 s2 x3).bind λy4=>
(if(!Yz (y4.1=0))then
some (.inr (.inr (y4.1,(1,(s2,y4.2)))))
else
some (.inl (WG.wrap (s2+1))))
else
some (.inr (.inl ())))) N 0) λj1=>
some (0,(0,(0,0))))
theorem T5(N:Nat):Fo 37 (.i1 [.g ig]) (.i1 [.g bm]) (M.lk N):=fz N [ck (T4 N)] (.o (.o (.join ⟨[],[],[],96⟩ (.o (.two (.lp 15 160 .nil) .nil)) .nil))) Tryz.func37
def M.dl(N:Nat)(a0:aa.den):Option Bool:=
((if(Yz (0<=a0.1))then
(if(Yz (a0.1<=a0.2))then
some (Yz (a0.2<=109573))
else
some Yy)
else
some Yy):Option Bool).bind λj1=>
some j1
theorem PW(N:Nat):Fo 65 (.i1 [.g aa]) (.i1 [.l .bool]) (M.dl N):=fz N [] (.o (.mb 2 32)) Tryz.func65
def M.bL(N:Nat)(a0:aa.den)(a1:List cO.den):Option Bool:=
((if(Yz (a0.1=1))then
some (Yz (a0.1=1))
else
(if(Yz (a0.1=2))then
some (Yz (a0.1=2))
else
(if(Yz (a0.1=3))then
some (Yz (a0.1=3))
else
(if(Yz (a0.1=4))then
some (Yz (a0.1=4))
else
some (Yz (a0.1=5)))))):Option Bool).bind λj1=>
(if j1 then
some (Yz (a0.2=0))
else
(if(Yz (a0.1=6))then
((if(Yz (0<=a0.2))then
some (Yz (a0.2<(a1.length:Int)))
else
some Yy):Option Bool).bind λj2=>
some j2
else
some Yy))
theorem L6(N:Nat):Fo 84 (.i1 [.g aa, .l (.slice cO)]) (.i1 [.l .bool]) (u2 (M.bL N)):=fz N [] (.o (.two (.o (.two (.meet ⟨[(7, .l .bool)],[],[],64⟩ .nil (.o (.o (.two (.mb 4 96) .nil)))) .nil)) .nil)) Tryz.func84
def M.eU(N:Nat)(a0:aa.den)(a1:List cO.den):Option (Int×Int):=
(M.bL N a0 a1).bind λy1=>
(if(!y1)then
some (0,(-1))
else
(if(Yz (a0.1=1))then
some (0,1)
else
(if(Yz (a0.1=2))then
some ((-1000000000000),1000000000000)
else
(if(Yz (a0.1=3))then
some ((-1000000000000000),1000000000000000)
else
(if(Yz (a0.1=4))then
some ((-1000000000),1000000000)
else
(if(Yz (a0.1=5))then
some (0,109572)
else
(idx a1 a0.2).bind λx2=>
some (0,WG.wrap ((x2.2.length:Int)-1))))))))
theorem RH(N:Nat):Fo 85 (.i1 [.g aa, .l (.slice cO)]) (.i1 [.l ae, .l ae]) (u2 (M.eU N)):=fz N [ck (L6 N)] .nil Tryz.func85
def M.fN(N:Nat)(a0:aa.den):Option Bool:=
((M.dl N a0).bind λy2=>
(if y2 then
some (Yz (a0.1<a0.2))
else
some Yy):Option Bool).bind λj1=>
some j1
theorem PX(N:Nat):Fo 157 (.i1 [.g aa]) (.i1 [.l .bool]) (M.fN N):=fz N [ck (PW N)] (.o (.mb 2 32)) Tryz.func157
def M.gZ(N:Nat)(a0:aa.den)(a1:aa.den):Option (aa.den×Bool):=
((M.fN N a0).bind λy2=>
(if(!y2)then
some Yx
else
(M.fN N a1).bind λy3=>
some (!y3)):Option Bool).bind λj1=>
(if j1 then
some ((0,0),Yy)
else
(if(Yz ((if a1.2<a0.2 then a1.2 else a0.2)<=(if a0.1<a1.1 then a1.1 else a0.1)))then
some ((0,0),Yy)
else
some ((if a0.1<a1.1 then a1.1 else a0.1,if a1.2<a0.2 then a1.2 else a0.2),Yx)))
theorem PY(N:Nat):Fo 129 (.i1 [.g aa, .g aa]) (.i1 [.g aa, .l .bool]) (u2 (M.gZ N)):=fz N [ck (PX N)] (.o (.two (.mb 14 64) .nil)) Tryz.func129
def M.ll(N:Nat)(a0:gn.den)(a1:gn.den):Option Bool:=
(M.gZ N a0.1 a1.1).bind λy1=>
((if y1.2 then
some (Yz ((if a0.2.1<a1.2.1 then a1.2.1 else a0.2.1)<(if a1.2.2.1<a0.2.2.1 then a1.2.2.1 else a0.2.2.1)))
else
some Yy):Option Bool).bind λj2=>
some j2
theorem T6(N:Nat):Fo 88 (.i1 [.g gn, .g gn]) (.i1 [.l .bool]) (u2 (M.ll N)):=fz N [ck (PY N)] (.o (.o (.mb 4 224))) Tryz.func88
def M.gI(N:Nat)(a0:gn.den)(a1:gn.den):Option (Bool×gn.den):=
(M.ll N a0 a1).bind λy1=>
some (y1,a1)
theorem L7(N:Nat):Fo 87 (.j1 [.g gn, .ptr 0 [] 0] [.box 132 (.leaf gn)] 1) (.j1 [.l .bool] [.box 132 (.leaf gn)] 2) (u2 (M.gI N)):=fz N [ck (T6 N)] .nil Tryz.func87
def M.dG(N:Nat)(a0:List gn.den)(a1:gn.den):Option (Int×Bool×gn.den):=
Loop (S:=Int×gn.den) (X:=Int×Bool×gn.den) (λs1=>
(if(Yz (s1.1<(a0.length:Int)))then
(idx a0 s1.1).bind λx2=>
(M.gI N x2 s1.2).bind λy3=>
(if y3.1 then
some (.inr (s1.1,Yx,y3.2))
else
some (.inl (WG.wrap (s1.1+1),y3.2)))
else
some (.inr (0,Yy,s1.2)))) N (0,a1)
theorem L8(N:Nat):Fo 86 (.j1 [.l (.slice gn), .fn 87 [(0,[],0)]] [.box 132 (.leaf gn)] 1) (.j1 [.l ae, .l .bool] [.box 132 (.leaf gn)] 2) (u2 (M.dG N)):=fz N [ck (L7 N)] (.o (.two (.o (.two (.loop ⟨[(10, .l ae)],[(0, .box 132 (.leaf gn))],[],82⟩ .nil) .nil)) .nil)) Tryz.func86
def M.lm(N:Nat)(a0:cK.den)(a1:List cO.den):Option (Int×Int):=
(if(Yz (64<(a0.2.2.2.length:Int)))then
some (64,4)
else
((M.bL N a0.2.1 a1).bind λy2=>
(if(!y2)then
some Yx
else
(M.bL N a0.2.2.1 a1).bind λy3=>
some (!y3)):Option Bool).bind λj1=>
(if j1 then
some ((-1),8)
else
(M.eU N a0.2.1 a1).bind λy4=>
(M.eU N a0.2.2.1 a1).bind λy5=>
Loop (S:=Int) (X:=Int×Int) (λs6=>
(if(Yz (s6<(a0.2.2.2.length:Int)))then
(idx a0.2.2.2 s6).bind λx7=>
((M.dl N x7.1).bind λy9=>
(if(!y9)then
some Yx
else
(if(Yz (x7.1.1=x7.1.2))then
some Yx
else
some (Yz (x7.2.2.1<=x7.2.1)))):Option Bool).bind λj8=>
(if j8 then
some (.inr (s6,3))
else
((if(Yz (x7.2.1<y4.1))then
some Yx
else
(if(Yz (y4.2<x7.2.1))then
some Yx
else
(if(Yz ((WG.wrap (x7.2.2.1-1))<y4.1))then
some Yx
else
some (Yz (y4.2<(WG.wrap (x7.2.2.1-1))))))):Option Bool).bind λrI=>
(if rI then
some (.inr (s6,3))
else
((if(Yz (x7.2.2.2<y5.1))then
some Yx
else
some (Yz (y5.2<x7.2.2.2))):Option Bool).bind λCo=>
(if Co then
some (.inr (s6,3))
else
(dQ a0.2.2.2 0 s6).bind λGl=>
(M.dG N Gl x7).bind λT7=>
(if T7.2.1 then
some (.inr (s6,11))
else
some (.inl (WG.wrap (s6+1)))))))
else
some (.inr (0,0)))) N 0))
theorem T8(N:Nat):Fo 60 (.i1 [.g cK, .l (.slice cO)]) (.i1 [.l ae, .l ae]) (u2 (M.lm N)):=fz N [ck (PW N),ck (L6 N),ck (RH N),ck (L8 N)] (.o (.o (.two (.mb 29 112) (.o (.o (.two (.o (.two (.lp 47 464 (.o (.o (.two (.two (.o (.two (.mb 71 576) (.two (.mb 96 576) (.two (.mb 107 576) .nil)))) .nil) .nil)))) .nil)) .nil)))))) Tryz.func60
def M.iH(N:Nat)(a0:cK.den)(a1:ByteArray):Option (Bool×ByteArray):=
some (Yz (a0.1=a1),a1)
theorem L9(N:Nat):Fo 95 (.j1 [.g cK, .ptr 0 [] 0] [.box 9 (.leaf .str)] 1) (.j1 [.l .bool] [.box 9 (.leaf .str)] 2) (u2 (M.iH N)):=fz N [] .nil Tryz.func95
def M.bo(N:Nat)(a0:List cK.den)(a1:ByteArray):Option (Int×ByteArray):=
Loop (S:=Int×ByteArray) (X:=Int×ByteArray) (λs1=>
(if(Yz (s1.1<(a0.length:Int)))then
(idx a0 s1.1).bind λx2=>
(M.iH N x2 s1.2).bind λy3=>
(if y3.1 then
some (.inr (s1.1,y3.2))
else
some (.inl (WG.wrap (s1.1+1),y3.2)))
else
some (.inr ((-1),s1.2)))) N (0,a1)
theorem Jz(N:Nat):Fo 132 (.j1 [.l (.slice cK), .fn 95 [(0,[],0)]] [.box 9 (.leaf .str)] 1) (.j1 [.l ae] [.box 9 (.leaf .str)] 2) (u2 (M.bo N)):=fz N [ck (L9 N)] (.o (.two (.o (.two (.loop ⟨[(8, .l ae)],[(0, .box 9 (.leaf .str))],[],66⟩ .nil) .nil)) .nil)) Tryz.func132
def M.bg(N:Nat)(a0:List cK.den)(a1:ByteArray):Option (Bool×ByteArray):=
(M.bo N a0 a1).bind λy1=>
some (Yz (0<=y1.1),y1.2)
theorem Ma(N:Nat):Fo 94 (.j1 [.l (.slice cK), .fn 95 [(0,[],0)]] [.box 9 (.leaf .str)] 1) (.j1 [.l .bool] [.box 9 (.leaf .str)] 2) (u2 (M.bg N)):=fz N [ck (Jz N)] .nil Tryz.func94
def M.kl(N:Nat)(a0:List cK.den)(a1:ByteArray):Option Bool:=
(M.bg N a0 a1).bind λy1=>
some y1.1
theorem RJ(N:Nat):Fo 63 (.i1 [.l (.slice cK), .l .str]) (.i1 [.l .bool]) (u2 (M.kl N)):=fz N [ck (Ma N)] .nil Tryz.func63
def M.kJ(N:Nat)(a0:ig.den):Option (bm.den):=
(if(Yz (8<(a0.2.1.length:Int)))then
some (4,(2,(8,0)))
else
bG (J:=Unit) (R:=bm.den) (Loop (S:=Int) (X:=Unit⊕(bm.den)) (λs2=>
(if(Yz (s2<(a0.2.1.length:Int)))then
(idx a0.2.1 s2).bind λx3=>
(M.lm N x3 a0.1).bind λy4=>
((M.cd N x3.1).bind λy6=>
(if(!y6)then
some (2,(2,(s2,0)))
else
((M.je N a0.1 x3.1).bind λy8=>
(if y8 then
some Yx
else
(dQ a0.2.1 0 s2).bind λl9=>
(M.kl N l9 x3.1).bind λMb=>
some Mb):Option Bool).bind λj7=>
(if j7 then
some (7,(2,(s2,0)))
else
(if(!Yz (y4.2=0))then
(if(!Yz (y4.1=(-1)))then
some (y4.2,(2,(s2,WG.wrap (100+y4.1))))
else
some (y4.2,(2,(s2,0))))
else
some (0,(2,(s2,0)))))):Option (bm.den)).bind λj5=>
(if(!Yz (j5.1=0))then
some (.inr (.inr j5))
else
some (.inl (WG.wrap (s2+1))))
else
some (.inr (.inl ())))) N 0) λj1=>
some (0,(0,(0,0))))
theorem T9(N:Nat):Fo 38 (.i1 [.g ig]) (.i1 [.g bm]) (M.kJ N):=fz N [ck (T8 N),ck (L3 N),ck (PU N),ck (RJ N)] (.o (.o (.join ⟨[],[],[],96⟩ (.o (.two (.lp 16 160 (.o (.o (.two (.two (.o (.o (.o (.two (.meet ⟨[],[(304, .box 45 (.leaf bm))],[],481⟩ (.o (.o (.mb 36 560))) .nil) .nil)))) .nil) .nil)))) .nil)) .nil))) Tryz.func38
def M.gJ(N:Nat)(a0:aY.den)(a1:aY.den):Option (Bool×aY.den):=
some (Yz (a0.1=a1.1),a1)
theorem JA(N:Nat):Fo 134 (.j1 [.g aY, .ptr 0 [] 0] [.box 100 (.leaf aY)] 1) (.j1 [.l .bool] [.box 100 (.leaf aY)] 2) (u2 (M.gJ N)):=fz N [] .nil Tryz.func134
def M.bp(N:Nat)(a0:List aY.den)(a1:aY.den):Option (Int×aY.den):=
Loop (S:=Int×aY.den) (X:=Int×aY.den) (λs1=>
(if(Yz (s1.1<(a0.length:Int)))then
(idx a0 s1.1).bind λx2=>
(M.gJ N x2 s1.2).bind λy3=>
(if y3.1 then
some (.inr (s1.1,y3.2))
else
some (.inl (WG.wrap (s1.1+1),y3.2)))
else
some (.inr ((-1),s1.2)))) N (0,a1)
theorem JB(N:Nat):Fo 158 (.j1 [.l (.slice aY), .fn 134 [(0,[],0)]] [.box 100 (.leaf aY)] 1) (.j1 [.l ae] [.box 100 (.leaf aY)] 2) (u2 (M.bp N)):=fz N [ck (JA N)] (.o (.two (.o (.two (.loop ⟨[(8, .l ae)],[(0, .box 100 (.leaf aY))],[],66⟩ .nil) .nil)) .nil)) Tryz.func158
def M.aM(N:Nat)(a0:List aY.den)(a1:aY.den):Option (Bool×aY.den):=
(M.bp N a0 a1).bind λy1=>
some (Yz (0<=y1.1),y1.2)
theorem JC(N:Nat):Fo 135 (.j1 [.l (.slice aY), .fn 134 [(0,[],0)]] [.box 100 (.leaf aY)] 1) (.j1 [.l .bool] [.box 100 (.leaf aY)] 2) (u2 (M.aM N)):=fz N [ck (JB N)] .nil Tryz.func135
def M.iI(N:Nat)(a0:ig.den)(a1:aY.den)(a2:List aY.den)(a3:List aY.den):Option Int:=
(M.cd N a1.1).bind λy1=>
(if(!y1)then
some 2
else
((M.aM N a2 a1).bind λy3=>
(if y3.1 then
some (Yx,y3.2)
else
(M.aM N a3 y3.2).bind λy4=>
some (y4.1,y4.2)):Option (Bool×aY.den)).bind λj2=>
(if j2.1 then
some 7
else
(M.bL N j2.2.2 a0.1).bind λy5=>
(if(!y5)then
some 8
else
some 0)))
theorem Ua(N:Nat):Fo 98 (.i1 [.g ig, .g aY, .l (.slice aY), .l (.slice aY)]) (.i1 [.l ae]) (u4 (M.iI N)):=fz N [ck (L3 N),ck (L6 N),ck (JC N)] (.o (.o (.two (.two (.o (.o (.meet ⟨[(16, .l .bool)],[(16, .box 100 (.leaf aY))],[],161⟩ .nil .nil))) .nil) .nil))) Tryz.func98
def M.fO(N:Nat)(a0:List aY.den):Option (List aa.den):=
Loop (S:=Int×List aa.den) (X:=List aa.den) (λs1=>
(if(Yz (s1.1<(a0.length:Int)))then
(idx a0 s1.1).bind λx2=>
(bW s1.2 ([x2.2]:List aa.den)).bind λl3=>
some (.inl (WG.wrap (s1.1+1),l3))
else
some (.inr s1.2))) N (0,([]:List aa.den))
theorem PZ(N:Nat):Fo 136 (.i1 [.l (.slice aY)]) (.w1 66 aa) (M.fO N):=fz N [] (.o (.o (.two (.o (.two (.loop ⟨[(3, .val Yy (.own 80)),(8, .l ae)],[(80, .own 66 aa)],[],81⟩ .nil) .nil)) .nil))) Tryz.func136
def M.hU(N:Nat)(a0:ig.den)(a1:Int):Option ((List cO.den)×(List cK.den)×Bool×(List aa.den)×(List aa.den)×List aa.den):=
(idx a0.2.2 a1).bind λx1=>
(M.fO N x1.2.2.1).bind λy2=>
(M.fO N x1.2.2.2.1).bind λy3=>
(((if(Yz (0<=x1.2.1))then
some (Yz (x1.2.1<(a0.2.2.length:Int)))
else
some Yy):Option Bool).bind λj5=>
(if j5 then
(idx a0.2.2 x1.2.1).bind λx6=>
(M.fO N x6.2.2.2.1).bind λy7=>
some (y2,y3,a0.1,a0.2.1,Yx,y7)
else
some (y2,y3,a0.1,a0.2.1,Yy,([]:List aa.den))):Option ((List aa.den)×(List aa.den)×(List cO.den)×(List cK.den)×Bool×List aa.den)).bind λj4=>
some (j4.2.2.1,j4.2.2.2.1,j4.2.2.2.2.1,j4.1,j4.2.1,j4.2.2.2.2.2)
theorem Ub(N:Nat):Fo 99 (.i1 [.g ig, .l ae]) (.j1 [.val Yx (.pair (.leaf (.slice cO)) (.pair (.leaf (.slice cK)) (.pair (.own 0) (.pair (.own 1) (.pair (.own 2) (.leaf .bool))))))] [.own 66 aa, .own 66 aa, .own 66 aa] 3) (u2 (M.hU N)):=fz N [ck (PZ N)] (.o (.o (.o (.meet ⟨[],[(240, .own 66 aa),(288, .own 66 aa),(320, .box 146 (.pair (.leaf (.slice cO)) (.pair (.leaf (.slice cK)) (.pair (.own 240) (.pair (.own 288) (.pair (.own 352) (.leaf .bool))))))),(352, .own 66 aa)],[],356⟩ (.mb 33 352) .nil)))) Tryz.func99
def M.strings_Contains(N:Nat)(a0:ByteArray)(a1:ByteArray):Option Bool:=mf (a0,a1)
def P0(N:Nat):nq:=⟨.i1 [.l .str, .l .str], .i1 [.l .bool],u2 (M.strings_Contains N)⟩
theorem P1(N:Nat):fK Tryz.prog 160 (P0 N):=wW ⟨_,Tryz.func160,by kernel_rfl,by kernel_rfl⟩ Tryz.strings_Contains_one
def M.kK(N:Nat)(a0:ByteArray):Option Bool:=
((if(Yz (64<(a0.size:Int)))then
some Yx
else
(M.strings_Contains N a0 (⟨#[34]⟩:ByteArray)).bind λy2=>
some y2):Option Bool).bind λj1=>
(if j1 then
some Yy
else
Loop (S:=Int) (X:=Bool) (λs3=>
(if(Yz (s3<(a0.size:Int)))then
((mv a0 s3).bind λx5=>
(if(Yz (x5<32))then
some Yx
else
(mv a0 s3).bind λx6=>
some (Yz (126<x6))):Option Bool).bind λj4=>
(if j4 then
some (.inr Yy)
else
some (.inl (WG.wrap (s3+1))))
else
some (.inr Yx))) N 0)
theorem P2(N:Nat):Fo 139 (.i1 [.l .str]) (.i1 [.l .bool]) (M.kK N):=fz N [ck (P1 N)] (.o (.two (.mb 10 16) (.two (.o (.two (.lp 13 64 (.o (.o (.two (.two (.o (.mb 25 112)) .nil) .nil)))) .nil)) .nil))) Tryz.func139
def M.iJ(N:Nat)(a0:Int):Option Int:=
((if(Yz (a0=1))then
some (Yz (a0=1))
else
(if(Yz (a0=2))then
some (Yz (a0=2))
else
(if(Yz (a0=3))then
some (Yz (a0=3))
else
(if(Yz (a0=4))then
some (Yz (a0=4))
else
(if(Yz (a0=5))then
some (Yz (a0=5))
else
(if(Yz (a0=6))then
some (Yz (a0=6))
else
(if(Yz (a0=7))then
some (Yz (a0=7))
else
(if(Yz (a0=8))then
some (Yz (a0=8))
else
(if(Yz (a0=9))then
some (Yz (a0=9))
else
(if(Yz (a0=35))then
some (Yz (a0=35))
else
(if(Yz (a0=36))then
some (Yz (a0=36))
else
(if(Yz (a0=37))then
some (Yz (a0=37))
else
(if(Yz (a0=38))then
some (Yz (a0=38))
else
some (Yz (a0=39))))))))))))))):Option Bool).bind λj1=>
(if j1 then
some 0
else
((if(Yz (a0=10))then
some (Yz (a0=10))
else
(if(Yz (a0=25))then
some (Yz (a0=25))
else
(if(Yz (a0=31))then
some (Yz (a0=31))
else
(if(Yz (a0=32))then
some (Yz (a0=32))
else
(if(Yz (a0=33))then
some (Yz (a0=33))
else
some (Yz (a0=34))))))):Option Bool).bind λj2=>
(if j2 then
some 1
else
((if(Yz (a0=11))then
some (Yz (a0=11))
else
(if(Yz (a0=12))then
some (Yz (a0=12))
else
(if(Yz (a0=13))then
some (Yz (a0=13))
else
(if(Yz (a0=14))then
some (Yz (a0=14))
else
(if(Yz (a0=15))then
some (Yz (a0=15))
else
(if(Yz (a0=16))then
some (Yz (a0=16))
else
(if(Yz (a0=17))then
some (Yz (a0=17))
else
(if(Yz (a0=18))then
some (Yz (a0=18))
else
(if(Yz (a0=19))then
some (Yz (a0=19))
else
(if(Yz (a0=20))then
some (Yz (a0=20))
else
(if(Yz (a0=21))then
some (Yz (a0=21))
else
(if(Yz (a0=22))then
some (Yz (a0=22))
else
(if(Yz (a0=23))then
some (Yz (a0=23))
else
(if(Yz (a0=24))then
some (Yz (a0=24))
else
(if(Yz (a0=27))then
some (Yz (a0=27))
else
(if(Yz (a0=28))then
some (Yz (a0=28))
else
(if(Yz (a0=29))then
some (Yz (a0=29))
else
some (Yz (a0=30))))))))))))))))))):Option Bool).bind λj3=>
(if j3 then
some 2
else
(if(Yz (a0=26))then
some 3
else
some (-1)))))
theorem Mc(N:Nat):Fo 182 (.i1 [.l ae]) (.i1 [.l ae]) (M.iJ N):=fz N [] (.o (.two (.o (.two (.meet ⟨[(4, .l .bool)],[],[],32⟩ .nil (.o (.meet ⟨[(19, .l .bool)],[],[],32⟩ .nil (.o (.mb 26 32))))) .nil)) .nil)) Tryz.func182
def M.fP(N:Nat)(a0:List aa.den):Option (Int×Int×List Int):=
(if(Yz (48<(a0.length:Int)))then
some (0,4,([]:List Int))
else
(if(Yz ((a0.length:Int)=0))then
some (0,5,([]:List Int))
else
(sf (a0.length:Int) 0).bind λl1=>
bG (J:=(List Int)×List Int) (R:=Int×Int×List Int) (Loop (S:=Int×(List Int)×List Int) (X:=((List Int)×List Int)⊕(Int×Int×List Int)) (λs3=>
(if(Yz (s3.1<(a0.length:Int)))then
(idx a0 s3.1).bind λx4=>
(M.iJ N x4.1).bind λy5=>
(if(Yz (y5<0))then
some (.inr (.inr (s3.1,2,([]:List Int))))
else
(if(Yz ((s3.2.2.length:Int)<y5))then
some (.inr (.inr (s3.1,5,([]:List Int))))
else
(idx s3.2.1 s3.1).bind λx6=>
((if(Yz (0<y5))then
(idx s3.2.2 (WG.wrap ((s3.2.2.length:Int)-y5))).bind λx8=>
(idx (be s3.2.1 s3.1 s3.1) s3.1).bind λx9=>
some (be (be s3.2.1 s3.1 s3.1) s3.1 x8)
else
some (be s3.2.1 s3.1 s3.1)):Option (List Int)).bind λj7=>
(dQ s3.2.2 0 (WG.wrap ((s3.2.2.length:Int)-y5))).bind λHl=>
(idx j7 s3.1).bind λxF=>
(bW Hl ([xF]:List Int)).bind λGl=>
(if(Yz (12<(Gl.length:Int)))then
some (.inr (.inr (s3.1,16,([]:List Int))))
else
some (.inl (WG.wrap (s3.1+1),j7,Gl)))))
else
some (.inr (.inl (s3.2.1,s3.2.2))))) N (0,l1,([]:List Int))) λj2=>
(if(Yz (1<(j2.2.length:Int)))then
some ((a0.length:Int),4,([]:List Int))
else
some (0,0,j2.1))))
theorem P3(N:Nat):Fo 180 (.i1 [.l (.slice aa)]) (.j1 [.val Yy (.own 0), .l ae, .l ae] [.own 3 ae] 1) (M.fP N):=fz N [ck (Mc N)] (.o (.o (.o (.o (.o (.join ⟨[(6, .val Yy (.own 224))],[(176, .own 3 ae),(224, .own 3 ae)],[],226⟩ (.o (.two (.loop ⟨[(6, .val Yy (.own 272)),(21, .l ae)],[(176, .own 3 ae),(272, .own 3 ae)],[],274⟩ (.o (.o (.two (.two (.o (.o (.o (.o (.o (.meet ⟨[],[(176, .own 3 ae)],[],627⟩ .nil .nil)))))) .nil) .nil)))) .nil)) .nil)))))) Tryz.func180
def M.km(N:Nat)(a0:Int):Option Bool:=
((if(Yz (a0=1))then
some (Yz (a0=1))
else
(if(Yz (a0=2))then
some (Yz (a0=2))
else
(if(Yz (a0=3))then
some (Yz (a0=3))
else
(if(Yz (a0=4))then
some (Yz (a0=4))
else
(if(Yz (a0=5))then
some (Yz (a0=5))
else
(if(Yz (a0=6))then
some (Yz (a0=6))
else
(if(Yz (a0=7))then
some (Yz (a0=7))
else
(if(Yz (a0=8))then
some (Yz (a0=8))
else
(if(Yz (a0=14))then
some (Yz (a0=14))
else
(if(Yz (a0=15))then
some (Yz (a0=15))
else
(if(Yz (a0=16))then
some (Yz (a0=16))
else
(if(Yz (a0=33))then
some (Yz (a0=33))
else
(if(Yz (a0=34))then
some (Yz (a0=34))
else
(if(Yz (a0=36))then
some (Yz (a0=36))
else
(if(Yz (a0=37))then
some (Yz (a0=37))
else
(if(Yz (a0=38))then
some (Yz (a0=38))
else
some (Yz (a0=39)))))))))))))))))):Option Bool).bind λj1=>
(if j1 then
some Yx
else
some Yy)
theorem P4(N:Nat):Fo 181 (.i1 [.l ae]) (.i1 [.l .bool]) (M.km N):=fz N [] (.o (.two (.o (.two (.mb 4 32) .nil)) .nil)) Tryz.func181
def M.cn(N:Nat)(a0:Int)(a1:Int)(a2:aR.den):Option (aa.den×Int):=
(M.eU N (a1,0) a2.1).bind λy1=>
((if(Yz (a0<y1.1))then
some Yx
else
some (Yz (y1.2<a0))):Option Bool).bind λj2=>
(if j2 then
some ((0,0),3)
else
some ((a1,0),0))
theorem P5(N:Nat):Fo 199 (.i1 [.l ae, .l ae, .g aR]) (.i1 [.g aa, .l ae]) (u3 (M.cn N)):=fz N [ck (RH N)] (.o (.o (.two (.o (.mb 27 256)) .nil))) Tryz.func199
def M.bc(N:Nat)(a0:Int)(a1:aR.den):Option (aa.den×Int):=
(if(Yz (a0<0))then
some ((0,0),3)
else
((if(Yz ((a1.1.length:Int)<=(WG.wrap (XR a0 16))))then
some Yx
else
(idx a1.1 (WG.wrap (XR a0 16))).bind λx2=>
some (Yz ((x2.2.length:Int)<=(Yd a0 16)))):Option Bool).bind λj1=>
(if j1 then
some ((0,0),6)
else
some ((6,WG.wrap (XR a0 16)),0)))
theorem P6(N:Nat):Fo 200 (.i1 [.l ae, .g aR]) (.i1 [.g aa, .l ae]) (u2 (M.bc N)):=fz N [] (.o (.o (.o (.two (.mb 30 176) .nil)))) Tryz.func200
def M.dm(N:Nat)(a0:Int)(a1:List aa.den)(a2:aR.den):Option (aa.den×Int):=
((if(Yz (a0<0))then
some Yx
else
some (Yz ((a1.length:Int)<=a0))):Option Bool).bind λj1=>
(if j1 then
some ((0,0),6)
else
(idx a1 a0).bind λx2=>
(M.bL N x2 a2.1).bind λy3=>
(if(!y3)then
some ((0,0),8)
else
(idx a1 a0).bind λx4=>
some (x4,0)))
theorem Md(N:Nat):Fo 201 (.i1 [.l ae, .l (.slice aa), .g aR]) (.i1 [.g aa, .l ae]) (u3 (M.dm N)):=fz N [ck (L6 N)] (.o (.two (.mb 15 48) .nil)) Tryz.func201
def M.eJ(N:Nat)(a0:Int):Option Bool:=
((if(Yz (0<=a0))then
some (Yz (a0<=5))
else
some Yy):Option Bool).bind λj1=>
some j1
theorem Me(N:Nat):Fo 204 (.i1 [.l ae]) (.i1 [.l .bool]) (M.eJ N):=fz N [] (.o (.mb 2 16)) Tryz.func204
def M.fQ(N:Nat)(a0:aa.den)(a1:aa.den)(a2:aR.den):Option (aa.den×Int):=
bG (J:=Int) (R:=aa.den×Int) ((if(Yz (a0.1=34))then
((if(Yz (a0.2<0))then
some Yx
else
(M.eJ N (Yd a0.2 8)).bind λy3=>
some (!y3)):Option Bool).bind λj2=>
(if j2 then
some (.inr ((0,0),3))
else
some (.inl (WG.wrap (XR a0.2 8))))
else
some (.inl a0.2))) λj1=>
((if(Yz (j1<0))then
some Yx
else
some (Yz ((a2.2.1.length:Int)<=j1))):Option Bool).bind λj4=>
(if j4 then
some ((0,0),6)
else
(idx a2.2.1 j1).bind λx5=>
(idx a2.2.1 j1).bind λx6=>
((M.bL N x5.2.1 a2.1).bind λy8=>
(if(!y8)then
some Yx
else
(M.bL N x6.2.2.1 a2.1).bind λy9=>
(if(!y9)then
some Yx
else
some (!(jY aa a1 x5.2.1)))):Option Bool).bind λj7=>
(if j7 then
some ((0,0),8)
else
(if(Yz (a0.1=34))then
((if(!Yz (x5.2.1.1=3))then
some Yx
else
some (!Yz (x6.2.2.1.1=4))):Option Bool).bind λrI=>
(if rI then
some ((0,0),8)
else
some (x5.2.1,0))
else
some (x6.2.2.1,0))))
theorem P7(N:Nat):Fo 202 (.i1 [.g aa, .g aa, .g aR]) (.i1 [.g aa, .l ae]) (u3 (M.fQ N)):=fz N [ck (L6 N),ck (Me N)] (.o (.o (.join ⟨[(8, .l ae)],[],[],128⟩ (.o (.two (.two (.mb 25 176) .nil) .nil)) (.two (.mb 38 128) (.o (.two (.mb 68 384) (.two (.o (.two (.two (.mb 80 432) .nil) .nil)) .nil))))))) Tryz.func202
def M.c8(N:Nat)(a0:Int):Option Bool:=
((if(Yz (a0=2))then
some Yx
else
(if(Yz (a0=3))then
some Yx
else
some (Yz (a0=4)))):Option Bool).bind λj1=>
some j1
theorem Mf(N:Nat):Fo 217 (.i1 [.l ae]) (.i1 [.l .bool]) (M.c8 N):=fz N [] (.o (.mb 2 16)) Tryz.func217
def M.aO(N:Nat)(a0:aa.den)(a1:aR.den):Option (aa.den×Int):=
(if(!a1.2.2.2.2.2)then
some ((0,0),6)
else
(if(Yz (a0.1=35))then
some ((2,0),0)
else
(M.dm N a0.2 a1.2.2.2.2.1 a1).bind λy1=>
(if(!Yz (y1.2=0))then
some ((0,0),y1.2)
else
((if(Yz (a0.1=36))then
(if(Yz (y1.1.1=2))then
some Yx
else
some (Yz (y1.1.1=3)))
else
((if(Yz (a0.1=37))then
some (Yz (a0.1=37))
else
some (Yz (a0.1=38))):Option Bool).bind λj3=>
(if j3 then
some (Yz (y1.1.1=1))
else
(if(Yz (a0.1=39))then
(M.c8 N y1.1.1).bind λy4=>
(if y4 then
some Yx
else
some (Yz (y1.1.1=5)))
else
some Yy))):Option Bool).bind λj2=>
(if(!j2)then
some ((0,0),8)
else
some (y1.1,0)))))
theorem P8(N:Nat):Fo 203 (.i1 [.g aa, .g aR]) (.i1 [.g aa, .l ae]) (u2 (M.aO N)):=fz N [ck (Md N),ck (Mf N)] (.o (.o (.o (.o (.o (.o (.two (.o (.meet ⟨[(8, .l .bool)],[],[],432⟩ (.o (.o (.mb 42 464))) .nil)) .nil))))))) Tryz.func203
def M.gp(N:Nat)(a0:Int)(a1:Int)(a2:Int):Option (aa.den×Bool):=
(if(Yz (a0=14))then
((if(Yz (a2=4))then
(if(Yz (a1=3))then
some (Yx,(a1,0))
else
some (Yz (a1=4),(a1,0)))
else
some (Yy,(a1,0))):Option (Bool×aa.den)).bind λj1=>
some (j1.2,j1.1)
else
(if(Yz (a2=2))then
((if(Yz (a1=2))then
some (Yx,(a1,0))
else
some (Yz (a1=3),(a1,0))):Option (Bool×aa.den)).bind λj2=>
some (j2.2,j2.1)
else
((if(Yz (a0=15))then
(if(Yz (a1=3))then
some (Yz (a2=3))
else
some Yy)
else
some Yy):Option Bool).bind λj3=>
(if j3 then
some ((4,0),Yx)
else
some ((0,0),Yy))))
theorem P9(N:Nat):Fo 218 (.i1 [.l ae, .l ae, .l ae]) (.i1 [.g aa, .l .bool]) (u3 (M.gp N)):=fz N [] (.o (.two (.two (.o (.two (.meet ⟨[(7, .l .bool)],[(0, .box 66 (.leaf aa))],[],81⟩ .nil .nil) (.o (.two (.meet ⟨[(7, .l .bool)],[(0, .box 66 (.leaf aa))],[],129⟩ .nil .nil) (.mb 34 128))))) .nil) .nil)) Tryz.func218
def M.cx(N:Nat)(a0:Int)(a1:List aa.den):Option (aa.den×Bool):=
(if(Yz (a0=10))then
(idx a1 0).bind λx1=>
(idx a1 0).bind λx2=>
(M.c8 N x2.1).bind λy3=>
some (x1,y3)
else
(if(Yz (a0=25))then
(idx a1 0).bind λx4=>
some ((1,0),Yz (x4.1=1))
else
((if(Yz (a0=11))then
some (Yz (a0=11))
else
some (Yz (a0=12))):Option Bool).bind λj5=>
(if j5 then
((idx a1 0).bind λx7=>
(idx a1 0).bind λx8=>
(idx a1 1).bind λx9=>
(if(jY aa x8 x9)then
(idx a1 0).bind λrJ=>
(M.c8 N rJ.1).bind λza=>
some (za,x7)
else
some (Yy,x7)):Option (Bool×aa.den)).bind λj6=>
some (j6.2,j6.1)
else
((if(Yz (a0=13))then
some (Yz (a0=13))
else
(if(Yz (a0=14))then
some (Yz (a0=14))
else
some (Yz (a0=15)))):Option Bool).bind λvk=>
(if vk then
(idx a1 0).bind λr4=>
(idx a1 1).bind λHm=>
(M.gp N a0 r4.1 Hm.1).bind λIA=>
some (IA.1,IA.2)
else
(if(Yz (a0=16))then
((idx a1 0).bind λMg=>
(idx a1 0).bind λMh=>
(if(Yz (Mh.1=3))then
(idx a1 1).bind λMi=>
some (Yz (Mi.1=3),Mg)
else
some (Yy,Mg)):Option (Bool×aa.den)).bind λGm=>
some (Gm.2,Gm.1)
else
((if(Yz (a0=17))then
some (Yz (a0=17))
else
some (Yz (a0=18))):Option Bool).bind λKy=>
(if Ky then
((idx a1 0).bind λJD=>
(idx a1 0).bind λUc=>
(idx a1 1).bind λUd=>
(if(jY aa Uc Ud)then
(idx a1 0).bind λQa=>
(M.c8 N Qa.1).bind λQb=>
(if Qb then
some (Yx,JD)
else
(idx a1 0).bind λUe=>
some (Yz (Ue.1=5),JD))
else
some (Yy,JD)):Option (Bool×aa.den)).bind λQc=>
some (Qc.2,Qc.1)
else
((if(Yz (a0=19))then
some (Yz (a0=19))
else
some (Yz (a0=20))):Option Bool).bind λQd=>
(if Qd then
(idx a1 0).bind λQe=>
(idx a1 1).bind λUf=>
some ((1,0),(jY aa Qe Uf))
else
((if(Yz (a0=21))then
some (Yz (a0=21))
else
some (Yz (a0=22))):Option Bool).bind λKz=>
(if Kz then
((idx a1 0).bind λUg=>
(idx a1 1).bind λUh=>
(if(jY aa Ug Uh)then
(idx a1 0).bind λUi=>
(M.c8 N Ui.1).bind λUj=>
(if Uj then
some (Yx,(1,0))
else
(idx a1 0).bind λUk=>
some (Yz (Uk.1=5),(1,0)))
else
some (Yy,(1,0))):Option (Bool×aa.den)).bind λRL=>
some (RL.2,RL.1)
else
((if(Yz (a0=23))then
some (Yz (a0=23))
else
some (Yz (a0=24))):Option Bool).bind λUl=>
(if Ul then
((idx a1 0).bind λUm=>
(if(Yz (Um.1=1))then
(idx a1 1).bind λUn=>
some (Yz (Un.1=1),(1,0))
else
some (Yy,(1,0))):Option (Bool×aa.den)).bind λRM=>
some (RM.2,RM.1)
else
(if(Yz (a0=26))then
((idx a1 1).bind λRN=>
(idx a1 0).bind λUo=>
(if(Yz (Uo.1=1))then
(idx a1 1).bind λUp=>
(idx a1 2).bind λUq=>
some ((jY aa Up Uq),RN)
else
some (Yy,RN)):Option (Bool×aa.den)).bind λRO=>
some (RO.2,RO.1)
else
((if(Yz (a0=27))then
some (Yz (a0=27))
else
some (Yz (a0=28))):Option Bool).bind λUr=>
(if Ur then
((idx a1 0).bind λRP=>
(idx a1 0).bind λUs=>
(if(Yz (Us.1=5))then
(idx a1 1).bind λUt=>
some (Yz (Ut.1=2),RP)
else
some (Yy,RP)):Option (Bool×aa.den)).bind λRQ=>
some (RQ.2,RQ.1)
else
((if(Yz (a0=29))then
some (Yz (a0=29))
else
some (Yz (a0=30))):Option Bool).bind λUu=>
(if Uu then
((idx a1 0).bind λUv=>
(if(Yz (Uv.1=5))then
(idx a1 1).bind λUw=>
some (Yz (Uw.1=5),(2,0))
else
some (Yy,(2,0))):Option (Bool×aa.den)).bind λRS=>
some (RS.2,RS.1)
else
((if(Yz (a0=31))then
some (Yz (a0=31))
else
some (Yz (a0=32))):Option Bool).bind λUx=>
(if Ux then
(idx a1 0).bind λUy=>
some ((2,0),Yz (Uy.1=5))
else
some ((0,0),Yy))))))))))))))
theorem Qf(N:Nat):Fo 205 (.i1 [.l ae, .l (.slice aa)]) (.i1 [.g aa, .l .bool]) (u2 (M.cx N)):=fz N [ck (Mf N),ck (P9 N)] (.o (.o (.two (.o (.two (.o (.o (.o (.o (.meet ⟨[(27, .l .bool)],[],[],160⟩ .nil (.two (.meet ⟨[(5, .l .bool)],[(0, .box 66 (.leaf aa))],[],161⟩ .nil .nil) (.meet ⟨[(47, .l .bool)],[],[],160⟩ .nil (.o (.o (.two (.meet ⟨[(5, .l .bool)],[(0, .box 66 (.leaf aa))],[],193⟩ .nil .nil) (.meet ⟨[(80, .l .bool)],[],[],192⟩ .nil (.two (.meet ⟨[(5, .l .bool)],[(0, .box 66 (.leaf aa))],[],193⟩ .nil .nil) (.meet ⟨[(107, .l .bool)],[],[],192⟩ .nil (.o (.meet ⟨[(118, .l .bool)],[],[],192⟩ .nil (.two (.meet ⟨[(5, .l .bool)],[(0, .box 66 (.leaf aa))],[],193⟩ .nil .nil) (.meet ⟨[(143, .l .bool)],[],[],192⟩ .nil (.two (.meet ⟨[(5, .l .bool)],[(0, .box 66 (.leaf aa))],[],193⟩ .nil .nil) (.o (.two (.meet ⟨[(5, .l .bool)],[(0, .box 66 (.leaf aa))],[],225⟩ .nil .nil) (.meet ⟨[(178, .l .bool)],[],[],224⟩ .nil (.two (.meet ⟨[(5, .l .bool)],[(0, .box 66 (.leaf aa))],[],225⟩ .nil .nil) (.meet ⟨[(196, .l .bool)],[],[],224⟩ .nil (.two (.meet ⟨[(5, .l .bool)],[(0, .box 66 (.leaf aa))],[],225⟩ .nil .nil) (.mb 212 224))))))))))))))))))))))))) .nil)) .nil))) Tryz.func205
def M.aC(N:Nat)(a0:aa.den)(a1:List aa.den)(a2:aR.den):Option (aa.den×Int):=
bG (J:=Unit) (R:=aa.den×Int) ((if(Yz (a0.1=1))then
(M.cn N a0.2 1 a2).bind λy2=>
some (.inr (y2.1,y2.2))
else
(if(Yz (a0.1=2))then
(M.cn N a0.2 2 a2).bind λy3=>
some (.inr (y3.1,y3.2))
else
(if(Yz (a0.1=3))then
(M.cn N a0.2 3 a2).bind λy4=>
some (.inr (y4.1,y4.2))
else
(if(Yz (a0.1=4))then
(M.cn N a0.2 4 a2).bind λy5=>
some (.inr (y5.1,y5.2))
else
(if(Yz (a0.1=5))then
(M.cn N a0.2 5 a2).bind λy6=>
some (.inr (y6.1,y6.2))
else
(if(Yz (a0.1=6))then
(M.bc N a0.2 a2).bind λy7=>
some (.inr (y7.1,y7.2))
else
(if(Yz (a0.1=7))then
(M.dm N a0.2 a2.2.2.1 a2).bind λy8=>
some (.inr (y8.1,y8.2))
else
(if(Yz (a0.1=8))then
(M.dm N a0.2 a2.2.2.2.1 a2).bind λy9=>
some (.inr (y9.1,y9.2))
else
(if(Yz (a0.1=9))then
some (.inr ((5,0),0))
else
((if(Yz (a0.1=33))then
some (Yz (a0.1=33))
else
some (Yz (a0.1=34))):Option Bool).bind λrI=>
(if rI then
(idx a1 0).bind λxF=>
(M.fQ N a0 xF a2).bind λHn=>
some (.inr (Hn.1,Hn.2))
else
((if(Yz (a0.1=35))then
some (Yz (a0.1=35))
else
(if(Yz (a0.1=36))then
some (Yz (a0.1=36))
else
(if(Yz (a0.1=37))then
some (Yz (a0.1=37))
else
(if(Yz (a0.1=38))then
some (Yz (a0.1=38))
else
some (Yz (a0.1=39)))))):Option Bool).bind λC0=>
(if C0 then
(M.aO N a0 a2).bind λtj=>
some (.inr (tj.1,tj.2))
else
((if(Yz (a0.1=14))then
some (Yz (a0.1=14))
else
(if(Yz (a0.1=15))then
some (Yz (a0.1=15))
else
some (Yz (a0.1=16)))):Option Bool).bind λHo=>
(if Ho then
(M.eJ N a0.2).bind λQg=>
(if(!Qg)then
some (.inr ((0,0),3))
else
some (.inl ()))
else
some (.inl ())))))))))))))) λj1=>
(M.cx N a0.1 a1).bind λJE=>
(if(!JE.2)then
some ((0,0),8)
else
some (JE.1,0))
theorem Qh(N:Nat):Fo 183 (.i1 [.g aa, .l (.slice aa), .g aR]) (.i1 [.g aa, .l ae]) (u3 (M.aC N)):=fz N [ck (P5 N),ck (P6 N),ck (Md N),ck (P7 N),ck (P8 N),ck (Me N),ck (Qf N)] (.o (.two (.o (.join ⟨[],[],[],96⟩ (.o (.o (.o (.o (.o (.o (.o (.o (.o (.o (.o (.o (.o (.o (.o (.o (.o (.o (.meet ⟨[(83, .l .bool)],[],[],384⟩ .nil (.o (.meet ⟨[(94, .l .bool)],[],[],384⟩ .nil (.o (.mb 105 384))))))))))))))))))))))) .nil)) .nil)) Tryz.func183
def M.jf(N:Nat)(a0:List aa.den)(a1:aR.den):Option (aa.den×Int×Int):=
(M.fP N a0).bind λy1=>
(if(!Yz (y1.2.1=0))then
some ((0,0),y1.1,y1.2.1)
else
bG (J:=List aa.den) (R:=aa.den×Int×Int) (Loop (S:=Int×List aa.den) (X:=(List aa.den)⊕(aa.den×Int×Int)) (λs3=>
(if(Yz (s3.1<(a0.length:Int)))then
(idx a0 s3.1).bind λx4=>
((if(!Yz (x4.2=0))then
(M.km N x4.1).bind λy6=>
some (!y6)
else
some Yy):Option Bool).bind λj5=>
(if j5 then
some (.inr (.inr ((0,0),s3.1,2)))
else
(M.iJ N x4.1).bind λy7=>
(dQ s3.2 (WG.wrap ((s3.2.length:Int)-y7)) (s3.2.length:Int)).bind λl8=>
(M.aC N x4 l8 a1).bind λy9=>
(if(!Yz (y9.2=0))then
some (.inr (.inr ((0,0),s3.1,y9.2)))
else
(dQ s3.2 0 (WG.wrap ((s3.2.length:Int)-y7))).bind λHl=>
(bW Hl ([y9.1]:List aa.den)).bind λHp=>
some (.inl (WG.wrap (s3.1+1),Hp))))
else
some (.inr (.inl s3.2)))) N (0,([]:List aa.den))) λj2=>
(idx j2 0).bind λxG=>
some (xG,0,0))
theorem Qi(N:Nat):Fo 161 (.i1 [.l (.slice aa), .g aR]) (.i1 [.g aa, .l ae, .l ae]) (u2 (M.jf N)):=fz N [ck (P3 N),ck (P4 N),ck (Mc N),ck (Qh N)] (.o (.o (.o (.o (.join ⟨[(10, .val Yy (.own 256))],[(256, .own 66 aa)],[],257⟩ (.o (.two (.loop ⟨[(10, .val Yy (.own 304)),(29, .l ae)],[(304, .own 66 aa)],[],305⟩ (.o (.o (.two (.two (.o (.two (.mb 42 417) .nil)) .nil) .nil)))) .nil)) .nil))))) Tryz.func161
def M.jq(N:Nat)(a0:List aa.den)(a1:aR.den)(a2:aa.den):Option Int:=
(M.jf N a0 a1).bind λy1=>
(if(!Yz (y1.2.2=0))then
some y1.2.2
else
(if(!(jY aa y1.1 a2))then
some 8
else
some 0))
theorem Qj(N:Nat):Fo 140 (.i1 [.l (.slice aa), .g aR, .g aa]) (.i1 [.l ae]) (u3 (M.jq N)):=fz N [ck (Qi N)] .nil Tryz.func140
def M.hZ(N:Nat)(a0:cr.den)(a1:cr.den):Option (Bool×cr.den):=
some (Yz (a0.1=a1.1),a1)
theorem JF(N:Nat):Fo 138 (.j1 [.g cr, .ptr 0 [] 0] [.box 77 (.leaf cr)] 1) (.j1 [.l .bool] [.box 77 (.leaf cr)] 2) (u2 (M.hZ N)):=fz N [] .nil Tryz.func138
def M.bA(N:Nat)(a0:List cr.den)(a1:cr.den):Option (Int×cr.den):=
Loop (S:=Int×cr.den) (X:=Int×cr.den) (λs1=>
(if(Yz (s1.1<(a0.length:Int)))then
(idx a0 s1.1).bind λx2=>
(M.hZ N x2 s1.2).bind λy3=>
(if y3.1 then
some (.inr (s1.1,y3.2))
else
some (.inl (WG.wrap (s1.1+1),y3.2)))
else
some (.inr ((-1),s1.2)))) N (0,a1)
theorem JG(N:Nat):Fo 159 (.j1 [.l (.slice cr), .fn 138 [(0,[],0)]] [.box 77 (.leaf cr)] 1) (.j1 [.l ae] [.box 77 (.leaf cr)] 2) (u2 (M.bA N)):=fz N [ck (JF N)] (.o (.two (.o (.two (.loop ⟨[(8, .l ae)],[(0, .box 77 (.leaf cr))],[],66⟩ .nil) .nil)) .nil)) Tryz.func159
def M.bl(N:Nat)(a0:List cr.den)(a1:cr.den):Option (Bool×cr.den):=
(M.bA N a0 a1).bind λy1=>
some (Yz (0<=y1.1),y1.2)
theorem JH(N:Nat):Fo 137 (.j1 [.l (.slice cr), .fn 138 [(0,[],0)]] [.box 77 (.leaf cr)] 1) (.j1 [.l .bool] [.box 77 (.leaf cr)] 2) (u2 (M.bl N)):=fz N [ck (JG N)] .nil Tryz.func137
def M.mD(N:Nat)(a0:aZ.den)(a1:Int)(a2:aR.den):Option Int:=
(idx a0.2.2.2.2 a1).bind λx1=>
((dQ a0.2.2.2.2 0 a1).bind λl3=>
Loop (S:=Int×Int) (X:=Int) (λs4=>
(if(Yz (s4.2<(l3.length:Int)))then
((idx l3 s4.2).bind λx6=>
(if(Yz (x6.2.1=x1.2.1))then
some (WG.wrap (s4.1+1))
else
some s4.1):Option Int).bind λj5=>
some (.inl (j5,WG.wrap (s4.2+1)))
else
some (.inr s4.1))) N (0,0):Option Int).bind λj2=>
(M.cd N x1.1).bind λy7=>
(if(!y7)then
some 2
else
(dQ a0.2.2.2.2 0 a1).bind λl8=>
(M.bl N l8 x1).bind λy9=>
(if y9.1 then
some 7
else
((if(Yz (y9.2.2.1<0))then
some Yx
else
some (Yz ((a0.2.2.2.1.length:Int)<=y9.2.2.1))):Option Bool).bind λrI=>
(if rI then
some 6
else
((if(!Yz (y9.2.2.2.1=(-1)))then
(if(Yz (y9.2.2.2.1<0))then
some Yx
else
(if(Yz (a1<=y9.2.2.2.1))then
some Yx
else
(idx a0.2.2.2.2 y9.2.2.2.1).bind λxG=>
some (!Yz (xG.2.1=y9.2.2.1))))
else
some Yy):Option Bool).bind λCo=>
(if Co then
some 9
else
((if(Yz (y9.2.2.2.2.1<0))then
some Yx
else
some (Yz (9<y9.2.2.2.2.1))):Option Bool).bind λC0=>
(if C0 then
some 3
else
((if(Yz (y9.2.2.2.2.2.1.1<0))then
some Yx
else
(if(Yz (y9.2.2.2.2.2.1.2<=y9.2.2.2.2.2.1.1))then
some Yx
else
some (Yz (109573<y9.2.2.2.2.2.1.2)))):Option Bool).bind λGn=>
(if Gn then
some 3
else
(if(Yz (8<=j2))then
some 4
else
(M.kK N y9.2.2.2.2.2.2.2.2).bind λIA=>
(if(!IA)then
some 2
else
bG (J:=Unit) (R:=Int) ((if(Yz (0<(y9.2.2.2.2.2.2.1.length:Int)))then
(M.jq N y9.2.2.2.2.2.2.1 a2 (1,0)).bind λJE=>
(if(!Yz (JE=0))then
some (.inr JE)
else
some (.inl ()))
else
some (.inl ()))) λGm=>
(idx a0.2.2.2.1 y9.2.2.1).bind λMh=>
(M.jq N y9.2.2.2.2.2.2.2.1 a2 Mh.2).bind λNy=>
some Ny))))))))
theorem Qk(N:Nat):Fo 100 (.i1 [.g aZ, .l ae, .g aR]) (.i1 [.l ae]) (u3 (M.mD N)):=fz N [ck (L3 N),ck (JH N),ck (P2 N),ck (Qj N)] (.o (.o (.o (.meet ⟨[(8, .l ae)],[],[],176⟩ (.o (.two (.loop ⟨[(8, .l ae),(22, .l ae)],[],[],272⟩ (.o (.o (.two (.meet ⟨[(8, .l ae)],[],[],288⟩ .nil .nil) .nil)))) .nil)) (.two (.two (.o (.o (.o (.o (.meet ⟨[(46, .l .bool)],[],[],368⟩ .nil (.o (.meet ⟨[(58, .l .bool)],[],[],368⟩ .nil (.o (.meet ⟨[(85, .l .bool)],[],[],368⟩ .nil (.o (.mb 94 368))))))))))) .nil) (.join ⟨[],[],[],496⟩ .nil .nil)))))) Tryz.func100
def M.gK(N:Nat)(a0:List Int)(a1:Int):Option Int:=
Loop (S:=Int) (X:=Int) (λs1=>
(if(Yz (s1<(a0.length:Int)))then
(idx a0 s1).bind λx2=>
(if(Yz (a1=x2))then
some (.inr s1)
else
some (.inl (WG.wrap (s1+1))))
else
some (.inr (-1)))) N 0
theorem Ql(N:Nat):Fo 141 (.i1 [.l (.slice ae), .l ae]) (.i1 [.l ae]) (u2 (M.gK N)):=fz N [] (.o (.two (.o (.two (.lp 8 64 .nil) .nil)) .nil)) Tryz.func141
def M.fE(N:Nat)(a0:List Int)(a1:Int):Option Bool:=
(M.gK N a0 a1).bind λy1=>
some (Yz (0<=y1))
theorem Qm(N:Nat):Fo 101 (.i1 [.l (.slice ae), .l ae]) (.i1 [.l .bool]) (u2 (M.fE N)):=fz N [ck (Ql N)] .nil Tryz.func101
def M.ij(N:Nat)(a0:List (List Int))(a1:Int):Option (List Int):=
(sf (a0.length:Int) Yy).bind λl1=>
(Loop (S:=(List Bool)×List Int) (X:=List Bool) (λs3=>
(if(Yz (0<(s3.2.length:Int)))then
(idx s3.2 0).bind λx4=>
(dQ s3.2 1 (s3.2.length:Int)).bind λl5=>
(idx a0 x4).bind λx6=>
Loop (S:=Int×(List Bool)×List Int) (X:=((List Bool)×List Int)⊕(List Bool)) (λs7=>
(if(Yz (s7.1<(x6.length:Int)))then
((idx x6 s7.1).bind λx9=>
(idx s7.2.1 x9).bind λrJ=>
(if(!rJ)then
(idx s7.2.1 x9).bind λxF=>
(bW s7.2.2 ([x9]:List Int)).bind λGl=>
some (be s7.2.1 x9 Yx,Gl)
else
some (s7.2.1,s7.2.2)):Option ((List Bool)×List Int)).bind λj8=>
some (.inl (WG.wrap (s7.1+1),j8.1,j8.2))
else
some (.inr (.inl (s7.2.1,s7.2.2))))) N (0,s3.1,l5)
else
some (.inr s3.1))) N (l1,([a1]:List Int)):Option (List Bool)).bind λj2=>
Loop (S:=Int×List Int) (X:=List Int) (λJI=>
(if(Yz (JI.1<(j2.length:Int)))then
((idx j2 JI.1).bind λGp=>
(if Gp then
(bW JI.2 ([JI.1]:List Int)).bind λJJ=>
some JJ
else
some JI.2):Option (List Int)).bind λGn=>
some (.inl (WG.wrap (JI.1+1),Gn))
else
some (.inr JI.2))) N (0,([]:List Int))
def Qn(N:Nat):nq:=⟨.i1 [.l (.slice (.slice ae)), .l ae], .w1 3 ae,u2 (M.ij N)⟩
theorem Qo(N:Nat):fK Tryz.prog 142 (Qn N):=fw (en [] Yy Yx) (N:=N) (.o (.o (.o (.meet ⟨[],[(48, .own 4 .bool)],[96],129⟩ (.two (.loop ⟨[(6, .val Yy (.own 128))],[(48, .own 4 .bool),(128, .own 3 ae)],[96],130⟩ (.o (.two (.o (.o (.o (.two (.loop ⟨[(6, .val Yy (.own 386)),(31, .l ae)],[(48, .own 4 .bool),(386, .own 3 ae)],[258],388⟩ (.o (.o (.two (.meet ⟨[(6, .val Yy (.own 404))],[(48, .own 4 .bool),(404, .own 3 ae)],[386],406⟩ .nil .nil) .nil)))) .nil)))) .nil))) .nil) (.o (.two (.o (.two (.loop ⟨[(10, .val Yy (.own 193)),(50, .l ae)],[(193, .own 3 ae)],[],194⟩ (.o (.o (.two (.meet ⟨[(10, .val Yy (.own 210))],[(210, .own 3 ae)],[193],211⟩ .nil .nil) .nil)))) .nil)) .nil)))))) Tryz.func142 (by kernel_rfl) λx=>by kernel_rfl
def M.cu(N:Nat)(a0:List Int):Option (List Int):=wV a0
def Qp(N:Nat):nq:=⟨.w1 3 ae, .j1 [] [.own 3 ae] 2,M.cu N⟩
theorem Mj(N:Nat):fK Tryz.prog 185 (Qp N):=Hj ⟨_,Tryz.func185,by kernel_rfl,by kernel_rfl⟩ Tryz.slices_Sort_int Tryz.slices_Sort_int_none
def M.bQ(N:Nat)(a0:List Int):Option (List Int):=lg a0
def Qq(N:Nat):nq:=⟨.w1 3 ae,⟨[(0, .val Yy (.own 1))],[(1, .own 3 ae)],[],2⟩,M.bQ N⟩
theorem Mk(N:Nat):fK Tryz.prog 186 (Qq N):=yY ⟨_,Tryz.func186,by kernel_rfl,by kernel_rfl⟩ Tryz.slices_Compact_int Tryz.slices_Compact_int_empty
def M.dH(N:Nat)(a0:List Int):Option (List Int):=
(M.cu N a0).bind λy1=>
(M.bQ N y1).bind λy2=>
some y2
theorem JK(N:Nat):Fo 206 (.w1 3 ae) ⟨[(0, .val Yy (.own 1))],[(1, .own 3 ae)],[],2⟩ (M.dH N):=fz N [ck (Mj N),ck (Mk N)] .nil Tryz.func206
def M.ee(N:Nat)(a0:List aa.den):Option ((List Int)×(List Int)×List Int):=
(Loop (S:=Int×(List Int)×(List Int)×List Int) (X:=(List Int)×(List Int)×List Int) (λs2=>
(if(Yz (s2.1<(a0.length:Int)))then
(idx a0 s2.1).bind λx3=>
((if(Yz (x3.1=7))then
(bW s2.2.1 ([x3.2]:List Int)).bind λl5=>
some (l5,s2.2.2.1,s2.2.2.2)
else
(if(Yz (x3.1=8))then
(bW s2.2.2.1 ([x3.2]:List Int)).bind λl6=>
some (s2.2.1,l6,s2.2.2.2)
else
((if(Yz (x3.1=36))then
some (Yz (x3.1=36))
else
(if(Yz (x3.1=37))then
some (Yz (x3.1=37))
else
(if(Yz (x3.1=38))then
some (Yz (x3.1=38))
else
some (Yz (x3.1=39))))):Option Bool).bind λj7=>
(if j7 then
(bW s2.2.2.2 ([x3.2]:List Int)).bind λl8=>
some (s2.2.1,s2.2.2.1,l8)
else
some (s2.2.1,s2.2.2.1,s2.2.2.2)))):Option ((List Int)×(List Int)×List Int)).bind λj4=>
some (.inl (WG.wrap (s2.1+1),j4.1,j4.2.1,j4.2.2))
else
some (.inr (s2.2.1,s2.2.2.1,s2.2.2.2)))) N (0,([]:List Int),([]:List Int),([]:List Int)):Option ((List Int)×(List Int)×List Int)).bind λj1=>
(M.dH N j1.1).bind λy9=>
(M.dH N j1.2.1).bind λMb=>
(M.dH N j1.2.2).bind λza=>
some (y9,Mb,za)
theorem Qr(N:Nat):Fo 184 (.i1 [.l (.slice aa)]) (.j1 [.val Yy (.own 0), .val Yy (.own 1), .val Yy (.own 2)] [.own 3 ae, .own 3 ae, .own 3 ae] 3) (M.ee N):=fz N [ck (JK N)] (.o (.o (.meet ⟨[(5, .val Yy (.own 96)),(6, .val Yy (.own 97)),(7, .val Yy (.own 98))],[(96, .own 3 ae),(97, .own 3 ae),(98, .own 3 ae)],[],99⟩ (.o (.two (.loop ⟨[(5, .val Yy (.own 144)),(6, .val Yy (.own 145)),(7, .val Yy (.own 146)),(12, .l ae)],[(144, .own 3 ae),(145, .own 3 ae),(146, .own 3 ae)],[],147⟩ (.o (.o (.two (.two (.o (.o (.meet ⟨[(5, .val Yy (.own 259)),(6, .val Yy (.own 260)),(7, .val Yy (.own 261))],[(259, .own 3 ae),(260, .own 3 ae),(261, .own 3 ae)],[144,145,146],262⟩ (.o (.o (.o (.o (.mb 32 323))))) .nil))) .nil) .nil)))) .nil)) .nil))) Tryz.func184
def M.dT(N:Nat)(a0:cr.den)(a1:Int):Option (List Int):=
(M.ee N a0.2.2.2.2.2.1).bind λy1=>
(M.ee N a0.2.2.2.2.2.2.1).bind λy2=>
(Loop (S:=Int×List Int) (X:=List Int) (λs4=>
(if(Yz (s4.1<(y1.2.1.length:Int)))then
((idx y1.2.1 s4.1).bind λx6=>
((if(Yz (0<=x6))then
some (Yz (x6<a1))
else
some Yy):Option Bool).bind λj7=>
(if j7 then
(bW s4.2 ([x6]:List Int)).bind λl8=>
some l8
else
some s4.2):Option (List Int)).bind λj5=>
some (.inl (WG.wrap (s4.1+1),j5))
else
some (.inr s4.2))) N (0,([]:List Int)):Option (List Int)).bind λj3=>
Loop (S:=Int×List Int) (X:=List Int) (λs9=>
(if(Yz (s9.1<(y2.2.1.length:Int)))then
((idx y2.2.1 s9.1).bind λxF=>
((if(Yz (0<=xF))then
some (Yz (xF<a1))
else
some Yy):Option Bool).bind λvk=>
(if vk then
(bW s9.2 ([xF]:List Int)).bind λMl=>
some Ml
else
some s9.2):Option (List Int)).bind λrI=>
some (.inl (WG.wrap (s9.1+1),rI))
else
some (.inr s9.2))) N (0,j3)
theorem Qs(N:Nat):Fo 162 (.i1 [.g cr, .l ae]) (.w1 3 ae) (u2 (M.dT N)):=fz N [ck (Qr N)] (.o (.o (.o (.o (.meet ⟨[(5, .val Yy (.own 368))],[(368, .own 3 ae)],[],369⟩ (.o (.two (.loop ⟨[(5, .val Yy (.own 416)),(32, .l ae)],[(416, .own 3 ae)],[],417⟩ (.o (.o (.two (.meet ⟨[(5, .val Yy (.own 433))],[(433, .own 3 ae)],[416],434⟩ (.o (.mb 42 481)) .nil) .nil)))) .nil)) (.two (.o (.two (.loop ⟨[(5, .val Yy (.own 417)),(50, .l ae)],[(417, .own 3 ae)],[368],418⟩ (.o (.o (.two (.meet ⟨[(5, .val Yy (.own 434))],[(434, .own 3 ae)],[417],435⟩ (.o (.mb 60 482)) .nil) .nil)))) .nil)) .nil)))))) Tryz.func162
def M.fR(N:Nat)(a0:List Int):Option (List Int):=
(M.cu N a0).bind λy1=>
(M.bQ N y1).bind λy2=>
some y2
theorem JL(N:Nat):Fo 163 (.w1 3 ae) ⟨[(0, .val Yy (.own 1))],[(1, .own 3 ae)],[],2⟩ (M.fR N):=fz N [ck (Mj N),ck (Mk N)] .nil Tryz.func163
def M.fS(N:Nat)(a0:aZ.den):Option (List (List Int)):=
(sf (a0.2.2.2.1.length:Int) ([]:List Int)).bind λl1=>
(Loop (S:=Int×List (List Int)) (X:=List (List Int)) (λs3=>
(if(Yz (s3.1<(a0.2.2.2.2.length:Int)))then
((idx a0.2.2.2.2 s3.1).bind λx5=>
((if(Yz (0<=x5.2.1))then
some (Yz (x5.2.1<(s3.2.length:Int)))
else
some Yy):Option Bool).bind λj6=>
(if j6 then
(idx s3.2 x5.2.1).bind λx7=>
(idx s3.2 x5.2.1).bind λx8=>
(M.dT N x5 (s3.2.length:Int)).bind λy9=>
(bW x8 y9).bind λHl=>
(idx s3.2 x5.2.1).bind λxF=>
(if Yz (x5.2.1=x5.2.1)then
(idx s3.2 x5.2.1).bind λxG=>
some (oB s3.2 x5.2.1 (λm13=>Hl))
else Yw)
else
some s3.2):Option (List (List Int))).bind λj4=>
some (.inl (WG.wrap (s3.1+1),j4))
else
some (.inr s3.2))) N (0,l1):Option (List (List Int))).bind λj2=>
Loop (S:=Int×List (List Int)) (X:=List (List Int)) (λzb=>
(if(Yz (zb.1<(j2.length:Int)))then
(idx zb.2 zb.1).bind λGp=>
(idx zb.2 zb.1).bind λMm=>
(M.fR N Mm).bind λJE=>
(idx zb.2 zb.1).bind λMh=>
(if Yz (zb.1=zb.1)then
(idx zb.2 zb.1).bind λMi=>
some (.inl (WG.wrap (zb.1+1),oB zb.2 zb.1 (λm20=>JE)))
else Yw)
else
some (.inr zb.2))) N (0,j2)
def Qt(N:Nat):nq:=⟨.i1 [.g aZ], .j1 [.val Yy (.own 0)] [.deep 31 (.sl 3 (.leaf ae))] 1,M.fS N⟩
theorem Qu(N:Nat):fK Tryz.prog 143 (Qt N):=fw (en [ck (Qs N),ck (JL N)] Yx Yy) (N:=N) (.o (.o (.meet ⟨[],[(80, .deep 31 (.sl 3 (.leaf ae)))],[],113⟩ (.o (.two (.loop ⟨[(15, .l ae)],[(80, .deep 31 (.sl 3 (.leaf ae)))],[],177⟩ (.o (.o (.two (.meet ⟨[],[(80, .deep 31 (.sl 3 (.leaf ae)))],[],194⟩ (.o (.meet ⟨[(28, .l .bool)],[],[],257⟩ .nil .nil)) .nil) .nil)))) .nil)) (.two (.o (.two (.loop ⟨[(46, .l ae)],[(80, .deep 31 (.sl 3 (.leaf ae)))],[],162⟩ .nil) .nil)) .nil)))) Tryz.func143 (by kernel_rfl) λx=>by kernel_rfl
def M.ef(N:Nat)(a0:aZ.den)(a1:Int):Option (List Int):=
((if(Yz (a1<0))then
some Yx
else
some (Yz ((a0.2.2.2.1.length:Int)<=a1))):Option Bool).bind λj1=>
(if j1 then
some ([]:List Int)
else
(M.fS N a0).bind λy2=>
(M.ij N y2 a1).bind λy3=>
some y3)
theorem Qv(N:Nat):Fo 102 (.i1 [.g aZ, .l ae]) (.w1 3 ae) (u2 (M.ef N)):=fz N [ck (Qo N),ck (Qu N)] (.o (.two (.mb 13 32) .nil)) Tryz.func102
def M.gL(N:Nat)(a0:aZ.den)(a1:aZ.den):Option (Bool×aZ.den):=
some (Yz (a0.1=a1.1),a1)
theorem Mn(N:Nat):Fo 97 (.j1 [.g aZ, .ptr 0 [] 0] [.box 50 (.leaf aZ)] 1) (.j1 [.l .bool] [.box 50 (.leaf aZ)] 2) (u2 (M.gL N)):=fz N [] .nil Tryz.func97
def M.bq(N:Nat)(a0:List aZ.den)(a1:aZ.den):Option (Int×aZ.den):=
Loop (S:=Int×aZ.den) (X:=Int×aZ.den) (λs1=>
(if(Yz (s1.1<(a0.length:Int)))then
(idx a0 s1.1).bind λx2=>
(M.gL N x2 s1.2).bind λy3=>
(if y3.1 then
some (.inr (s1.1,y3.2))
else
some (.inl (WG.wrap (s1.1+1),y3.2)))
else
some (.inr ((-1),s1.2)))) N (0,a1)
theorem JM(N:Nat):Fo 133 (.j1 [.l (.slice aZ), .fn 97 [(0,[],0)]] [.box 50 (.leaf aZ)] 1) (.j1 [.l ae] [.box 50 (.leaf aZ)] 2) (u2 (M.bq N)):=fz N [ck (Mn N)] (.o (.two (.o (.two (.loop ⟨[(8, .l ae)],[(0, .box 50 (.leaf aZ))],[],66⟩ .nil) .nil)) .nil)) Tryz.func133
def M.bh(N:Nat)(a0:List aZ.den)(a1:aZ.den):Option (Bool×aZ.den):=
(M.bq N a0 a1).bind λy1=>
some (Yz (0<=y1.1),y1.2)
theorem Mo(N:Nat):Fo 96 (.j1 [.l (.slice aZ), .fn 97 [(0,[],0)]] [.box 50 (.leaf aZ)] 1) (.j1 [.l .bool] [.box 50 (.leaf aZ)] 2) (u2 (M.bh N)):=fz N [ck (JM N)] .nil Tryz.func96
def M.ln(N:Nat)(a0:ig.den)(a1:Int):Option (Int×Int):=
(idx a0.2.2 a1).bind λx1=>
(dQ a0.2.2 0 a1).bind λl2=>
((M.je N a0.1 x1.1).bind λy4=>
(if y4 then
some (Yx,x1)
else
(M.kl N a0.2.1 x1.1).bind λy5=>
(if y5 then
some (Yx,x1)
else
(M.bh N l2 x1).bind λy6=>
some (y6.1,y6.2))):Option (Bool×aZ.den)).bind λj3=>
(M.cd N j3.2.1).bind λy7=>
(if(!y7)then
some (2,0)
else
(if j3.1 then
some (7,0)
else
((if(!Yz (j3.2.2.1=(-1)))then
(if(Yz (j3.2.2.1<0))then
some Yx
else
(if(Yz (a1<=j3.2.2.1))then
some Yx
else
(idx l2 j3.2.2.1).bind λx9=>
some (!Yz (x9.2.1=(-1)))))
else
some Yy):Option Bool).bind λj8=>
(if j8 then
some (6,0)
else
(if(Yz (12<(j3.2.2.2.1.length:Int)))then
some (4,112)
else
(if(Yz (12<(j3.2.2.2.2.1.length:Int)))then
some (4,212)
else
bG (J:=Unit) (R:=Int×Int) (Loop (S:=Int) (X:=Unit⊕(Int×Int)) (λMp=>
(if(Yz (Mp<(j3.2.2.2.1.length:Int)))then
(idx j3.2.2.2.1 Mp).bind λxG=>
(dQ j3.2.2.2.1 0 Mp).bind λMl=>
(M.iI N a0 xG Ml ([]:List aY.den)).bind λtj=>
(if(!Yz (tj=0))then
some (.inr (.inr (tj,WG.wrap (100+Mp))))
else
some (.inl (WG.wrap (Mp+1))))
else
some (.inr (.inl ())))) N 0) λrI=>
bG (J:=Unit) (R:=Int×Int) (Loop (S:=Int) (X:=Unit⊕(Int×Int)) (λMq=>
(if(Yz (Mq<(j3.2.2.2.2.1.length:Int)))then
(idx j3.2.2.2.2.1 Mq).bind λMg=>
(dQ j3.2.2.2.2.1 0 Mq).bind λQw=>
(M.iI N a0 Mg j3.2.2.2.1 Qw).bind λNy=>
(if(!Yz (Ny=0))then
some (.inr (.inr (Ny,WG.wrap (200+Mq))))
else
some (.inl (WG.wrap (Mq+1))))
else
some (.inr (.inl ())))) N 0) λHo=>
(M.hU N a0 a1).bind λIB=>
bG (J:=Unit) (R:=Int×Int) (Loop (S:=Int) (X:=Unit⊕(Int×Int)) (λNz=>
(if(Yz (Nz<(j3.2.2.2.2.2.length:Int)))then
(M.mD N j3.2 Nz (IB.1,(IB.2.1,(IB.2.2.2.1,(IB.2.2.2.2.1,(IB.2.2.2.2.2,IB.2.2.1)))))).bind λRT=>
(if(!Yz (RT=0))then
some (.inr (.inr (RT,WG.wrap (300+Nz))))
else
some (.inl (WG.wrap (Nz+1))))
else
some (.inr (.inl ())))) N 0) λQc=>
Loop (S:=Int) (X:=Int×Int) (λMr=>
(if(Yz (Mr<(j3.2.2.2.2.1.length:Int)))then
(M.ef N j3.2 Mr).bind λUz=>
(M.fE N Uz Mr).bind λQb=>
(if Qb then
some (.inr (9,WG.wrap (200+Mr)))
else
some (.inl (WG.wrap (Mr+1))))
else
some (.inr (0,0)))) N 0)))))
theorem UA(N:Nat):Fo 64 (.i1 [.g ig, .l ae]) (.i1 [.l ae, .l ae]) (u2 (M.ln N)):=fz N [ck (L3 N),ck (PU N),ck (RJ N),ck (Mo N),ck (Ua N),ck (Ub N),ck (Qk N),ck (Qm N),ck (Qv N)] (.o (.o (.o (.meet ⟨[(8, .l .bool)],[(128, .box 50 (.leaf aZ))],[],241⟩ .nil (.two (.two (.o (.o (.o (.o (.mb 52 353))))) .nil) (.join ⟨[],[],[],513⟩ (.o (.two (.lp 89 577 .nil) .nil)) (.join ⟨[],[],[],513⟩ (.o (.two (.lp 110 577 .nil) .nil)) (.o (.join ⟨[],[],[],593⟩ (.o (.two (.lp 136 657 .nil) .nil)) (.two (.o (.two (.lp 152 657 .nil) .nil)) .nil)))))))))) Tryz.func64
def M.kL(N:Nat)(a0:ig.den):Option (bm.den):=
(if(Yz (4<(a0.2.2.length:Int)))then
some (4,(3,(4,0)))
else
bG (J:=Unit) (R:=bm.den) (Loop (S:=Int) (X:=Unit⊕(bm.den)) (λs2=>
(if(Yz (s2<(a0.2.2.length:Int)))then
(M.ln N a0 s2).bind λy3=>
(if(!Yz (y3.1=0))then
some (.inr (.inr (y3.1,(3,(s2,y3.2)))))
else
some (.inl (WG.wrap (s2+1))))
else
some (.inr (.inl ())))) N 0) λj1=>
some (0,(0,(0,0))))
theorem UB(N:Nat):Fo 39 (.i1 [.g ig]) (.i1 [.g bm]) (M.kL N):=fz N [ck (UA N)] (.o (.o (.join ⟨[],[],[],96⟩ (.o (.two (.lp 14 160 .nil) .nil)) .nil))) Tryz.func39
def M.ik(N:Nat)(a0:ig.den):Option (bm.den):=
(M.lk N a0).bind λy1=>
(if(!Yz (y1.1=0))then
some y1
else
(M.kJ N a0).bind λy2=>
(if(!Yz (y2.1=0))then
some y2
else
(M.kL N a0).bind λy3=>
some y3))
theorem UC(N:Nat):Fo 16 (.i1 [.g ig]) (.i1 [.g bm]) (M.ik N):=fz N [ck (T5 N),ck (T9 N),ck (UB N)] .nil Tryz.func16
def M.dU(N:Nat)(a0:aa.den)(a1:Int):Option Bool:=
((M.dl N a0).bind λy2=>
(if y2 then
(if(Yz (a0.1<=a1))then
some (Yz (a1<a0.2))
else
some Yy)
else
some Yy):Option Bool).bind λj1=>
some j1
theorem UD(N:Nat):Fo 42 (.i1 [.g aa, .l ae]) (.i1 [.l .bool]) (u2 (M.dU N)):=fz N [ck (PW N)] (.o (.mb 4 32)) Tryz.func42
def M.cX(N:Nat)(a0:cr.den)(a1:Int)(a2:Int):Option (Bool×Int×Int):=
((if(Yz (a0.2.1=a1))then
(M.dU N a0.2.2.2.2.1 a2).bind λy2=>
some y2
else
some Yy):Option Bool).bind λj1=>
some (j1,a1,a2)
theorem Mt(N:Nat):Fo 41 (.j1 [.g cr, .ptr 0 [] 0, .ptr 1 [] 0] [.box 3 (.leaf ae), .box 3 (.leaf ae)] 2) (.j1 [.l .bool] [.box 3 (.leaf ae), .box 3 (.leaf ae)] 4) (u3 (M.cX N)):=fz N [ck (UD N)] (.o (.mb 4 34)) Tryz.func41
def M.cY(N:Nat)(a0:List cr.den)(a1:Int)(a2:Int):Option (Int×Int×(List Int)×List Int):=
(sf (a0.length:Int) 0).bind λl1=>
Loop (S:=Int×Int×Int×(List Int)×(List Int)×List Int) (X:=Int×Int×(List Int)×List Int) (λs2=>
(if(Yz (s2.1<(a0.length:Int)))then
((idx a0 s2.1).bind λx4=>
(((if(Yz (0<=x4.2.2.1))then
some (Yz (x4.2.2.1<s2.1))
else
some Yy):Option Bool).bind λj6=>
(if j6 then
(idx s2.2.2.2.1 x4.2.2.1).bind λx7=>
some x7
else
some (-1)):Option Int).bind λj5=>
(idx s2.2.2.2.1 s2.1).bind λx8=>
(M.cX N x4 s2.2.1 s2.2.2.1).bind λy9=>
(if y9.1 then
(idx (be s2.2.2.2.1 s2.1 j5) s2.1).bind λrJ=>
(bW s2.2.2.2.2.1 ([s2.1]:List Int)).bind λHp=>
(bW s2.2.2.2.2.2 ([j5]:List Int)).bind λGl=>
some (y9.2.1,y9.2.2,be (be s2.2.2.2.1 s2.1 j5) s2.1 (s2.2.2.2.2.1.length:Int),Hp,Gl)
else
some (y9.2.1,y9.2.2,be s2.2.2.2.1 s2.1 j5,s2.2.2.2.2.1,s2.2.2.2.2.2)):Option (Int×Int×(List Int)×(List Int)×List Int)).bind λj3=>
some (.inl (WG.wrap (s2.1+1),j3.1,j3.2.1,j3.2.2.1,j3.2.2.2.1,j3.2.2.2.2))
else
some (.inr (s2.2.1,s2.2.2.1,s2.2.2.2.2.1,s2.2.2.2.2.2)))) N (0,a1,a2,l1,([]:List Int),([]:List Int))
theorem Mu(N:Nat):Fo 40 (.j1 [.l (.slice cr), .fn 41 [(0,[],0),(1,[],0)]] [.box 3 (.leaf ae), .box 3 (.leaf ae)] 2) (.j1 [.val Yy (.own 2), .val Yy (.own 3)] [.box 3 (.leaf ae), .box 3 (.leaf ae), .own 3 ae, .own 3 ae] 6) (u3 (M.cY N)):=fz N [ck (Mt N)] (.o (.o (.o (.two (.o (.two (.loop ⟨[(6, .val Yy (.own 178)),(7, .val Yy (.own 179)),(17, .l ae)],[(0, .box 3 (.leaf ae)),(1, .box 3 (.leaf ae)),(98, .own 3 ae),(178, .own 3 ae),(179, .own 3 ae)],[],183⟩ (.o (.o (.two (.meet ⟨[(6, .val Yy (.own 199)),(7, .val Yy (.own 200))],[(0, .box 3 (.leaf ae)),(1, .box 3 (.leaf ae)),(98, .own 3 ae),(199, .own 3 ae),(200, .own 3 ae)],[178,179],204⟩ (.o (.o (.meet ⟨[(11, .l ae)],[],[],311⟩ (.mb 30 311) .nil))) .nil) .nil)))) .nil)) .nil)))) Tryz.func40
def M.eV(N:Nat)(a0:aZ.den)(a1:Int)(a2:Int):Option ((List Int)×(List Int)×List Int):=
(M.cY N a0.2.2.2.2 a1 a2).bind λy1=>
(Loop (S:=Int×List Int) (X:=List Int) (λs3=>
(if(Yz (s3.1<(y1.2.2.1.length:Int)))then
(idx y1.2.2.1 s3.1).bind λx4=>
(idx a0.2.2.2.2 x4).bind λx5=>
(bW s3.2 ([x5.2.2.2.1]:List Int)).bind λl6=>
some (.inl (WG.wrap (s3.1+1),l6))
else
some (.inr s3.2))) N (0,([]:List Int)):Option (List Int)).bind λj2=>
some (y1.2.2.1,y1.2.2.2,j2)
theorem UE(N:Nat):Fo 17 (.i1 [.g aZ, .l ae, .l ae]) (.j1 [.val Yy (.own 0), .val Yy (.own 1), .val Yy (.own 2)] [.own 3 ae, .own 3 ae, .own 3 ae] 3) (u3 (M.eV N)):=fz N [ck (Mu N)] (.o (.o (.o (.meet ⟨[(11, .val Yy (.own 256))],[(256, .own 3 ae)],[],257⟩ (.o (.two (.loop ⟨[(11, .val Yy (.own 304)),(23, .l ae)],[(304, .own 3 ae)],[],305⟩ .nil) .nil)) .nil)))) Tryz.func17
def M.aP(N:Nat)(a0:List aa.den)(a1:List aa.den):Option Bool:=
(if(!Yz ((a0.length:Int)=(a1.length:Int)))then
some Yy
else
Loop (S:=Int) (X:=Bool) (λs1=>
(if(Yz (s1<(a0.length:Int)))then
(idx a0 s1).bind λx2=>
(idx a1 s1).bind λx3=>
(if(!(jY aa x2 x3))then
some (.inr Yy)
else
some (.inl (WG.wrap (s1+1))))
else
some (.inr Yx))) N 0)
theorem UF(N:Nat):Fo 47 (.i1 [.l (.slice aa), .l (.slice aa)]) (.i1 [.l .bool]) (u2 (M.aP N)):=fz N [] (.o (.o (.two (.o (.two (.lp 13 144 .nil) .nil)) .nil))) Tryz.func47
def M.cP(N:Nat)(a0:List (List aa.den))(a1:List aa.den):Option Int:=
Loop (S:=Int) (X:=Int) (λs1=>
(if(Yz (s1<(a0.length:Int)))then
(idx a0 s1).bind λx2=>
(M.aP N x2 a1).bind λy3=>
(if y3 then
some (.inr s1)
else
some (.inl (WG.wrap (s1+1))))
else
some (.inr (-1)))) N 0
theorem UG(N:Nat):Fo 24 (.i1 [.l (.slice (.slice aa)), .l (.slice aa)]) (.i1 [.l ae]) (u2 (M.cP N)):=fz N [ck (UF N)] (.o (.two (.o (.two (.lp 9 64 .nil) .nil)) .nil)) Tryz.func24
def M.aQ(N:Nat)(a0:List aa.den):Option (List aa.den):=
(if WI (a0).length 0 then
wz (some ([]:List aa.den))
((bW ([]:List aa.den) a0).bind λl1=>
some l1)
else
(bW ([]:List aa.den) a0).bind λl2=>
some l2)
theorem UH(N:Nat):Fo 25 (.i1 [.l (.slice aa)]) (.w1 81 aa) (M.aQ N):=fz N [] .nil Tryz.func25
def M.bU(N:Nat)(a0:List Int)(a1:List Int):Option Int:=
(if(!Yz ((a0.length:Int)=(a1.length:Int)))then
some 2
else
(if(Yz (8<(a0.length:Int)))then
some 4
else
Loop (S:=Int) (X:=Int) (λs1=>
(if(Yz (s1<(a0.length:Int)))then
(idx a0 s1).bind λx2=>
((if(Yz (x2<(-1)))then
some Yx
else
some (Yz (s1<=x2))):Option Bool).bind λj3=>
(if j3 then
some (.inr 9)
else
((idx a1 s1).bind λx5=>
(if(Yz (x5<0))then
some Yx
else
(idx a1 s1).bind λx6=>
some (Yz (9<x6))):Option Bool).bind λj4=>
(if j4 then
some (.inr 3)
else
some (.inl (WG.wrap (s1+1)))))
else
some (.inr 0))) N 0))
theorem UI(N:Nat):Fo 43 (.i1 [.l (.slice ae), .l (.slice ae)]) (.i1 [.l ae]) (u2 (M.bU N)):=fz N [] (.o (.o (.o (.two (.o (.two (.lp 17 192 (.o (.o (.two (.two (.o (.two (.mb 28 288) (.mb 40 288))) .nil) .nil)))) .nil)) .nil)))) Tryz.func43
def M.ct(N:Nat)(a0:List Int)(a1:Int):Option (List Int):=
Loop (S:=Int×List Int) (X:=List Int) (λs1=>
(if(Yz (s1.1<(a0.length:Int)))then
((idx a0 s1.1).bind λx3=>
(if(Yz (x3=a1))then
(bW s1.2 ([s1.1]:List Int)).bind λl4=>
some l4
else
some s1.2):Option (List Int)).bind λj2=>
some (.inl (WG.wrap (s1.1+1),j2))
else
some (.inr s1.2))) N (0,([]:List Int))
theorem Qx(N:Nat):Fo 103 (.i1 [.l (.slice ae), .l ae]) (.w1 3 ae) (u2 (M.ct N)):=fz N [] (.o (.o (.two (.o (.two (.loop ⟨[(5, .val Yy (.own 80)),(10, .l ae)],[(80, .own 3 ae)],[],81⟩ (.o (.o (.two (.meet ⟨[(5, .val Yy (.own 97))],[(97, .own 3 ae)],[80],98⟩ .nil .nil) .nil)))) .nil)) .nil))) Tryz.func103
def M.cE(N:Nat)(a0:dF.den)(a1:Int):Option (List Int):=
(M.ct N a0.1 a1).bind λy1=>
Loop (S:=Int×List Int) (X:=List Int) (λs2=>
(if(Yz (s2.1<(y1.length:Int)))then
((idx y1 s2.1).bind λx4=>
(idx a0.2.2 x4).bind λx5=>
(if(Yz (x5=(-1)))then
some s2.2
else
(((if(Yz (0<(s2.2.length:Int)))then
(idx a0.2.1 x4).bind λx8=>
(idx s2.2 0).bind λx9=>
(idx a0.2.1 x9).bind λrJ=>
some (Yz (rJ<x8))
else
some Yy):Option Bool).bind λj7=>
(if j7 then
(dQ s2.2 0 0).bind λHp=>
some Hp
else
some s2.2):Option (List Int)).bind λj6=>
((if(Yz ((j6.length:Int)=0))then
some Yx
else
(idx a0.2.1 x4).bind λr4=>
(idx j6 0).bind λHm=>
(idx a0.2.1 Hm).bind λGp=>
some (Yz (r4=Gp))):Option Bool).bind λvk=>
(if vk then
(bW j6 ([x4]:List Int)).bind λJJ=>
some JJ
else
some j6)):Option (List Int)).bind λj3=>
some (.inl (WG.wrap (s2.1+1),j3))
else
some (.inr s2.2))) N (0,([]:List Int))
theorem UJ(N:Nat):Fo 66 (.i1 [.g dF, .l ae]) (.w1 3 ae) (u2 (M.cE N)):=fz N [ck (Qx N)] (.o (.o (.two (.o (.two (.loop ⟨[(5, .val Yy (.own 144)),(13, .l ae)],[(144, .own 3 ae)],[],145⟩ (.o (.o (.two (.meet ⟨[(5, .val Yy (.own 161))],[(161, .own 3 ae)],[144],162⟩ (.o (.o (.meet ⟨[(5, .val Yy (.own 305))],[(305, .own 3 ae)],[144],306⟩ (.mb 40 305) (.mb 60 306)))) .nil) .nil)))) .nil)) .nil))) Tryz.func66
def M.bd(N:Nat)(a0:dF.den)(a1:Int):Option Int:=
(M.cE N a0 a1).bind λy1=>
(if(Yz ((y1.length:Int)=0))then
some (-1)
else
(if(Yz ((y1.length:Int)=1))then
(idx y1 0).bind λx2=>
(idx a0.2.2 x2).bind λx3=>
some x3
else
some (-2)))
theorem RU(N:Nat):Fo 45 (.i1 [.g dF, .l ae]) (.i1 [.l ae]) (u2 (M.bd N)):=fz N [ck (UJ N)] .nil Tryz.func45
def M.cQ(N:Nat)(a0:List Int)(a1:List Int)(a2:List Bool):Option (List Int):=
(sf (a0.length:Int) 0).bind λl1=>
Loop (S:=Int×List Int) (X:=List Int) (λs2=>
(if(Yz (0<=s2.1))then
((M.bd N (a0,(a1,s2.2)) s2.1).bind λy4=>
(idx s2.2 s2.1).bind λx5=>
((idx (be s2.2 s2.1 y4) s2.1).bind λx7=>
(if(Yz (x7=(-1)))then
(idx a2 s2.1).bind λx8=>
some x8
else
some Yy):Option Bool).bind λj6=>
(if j6 then
(idx (be s2.2 s2.1 y4) s2.1).bind λx9=>
some (be (be s2.2 s2.1 y4) s2.1 s2.1)
else
some (be s2.2 s2.1 y4)):Option (List Int)).bind λj3=>
some (.inl (WG.wrap (s2.1-1),j3))
else
some (.inr s2.2))) N (WG.wrap ((a0.length:Int)-1),l1)
theorem UK(N:Nat):Fo 44 (.i1 [.l (.slice ae), .l (.slice ae), .l (.slice .bool)]) (.w1 3 ae) (u3 (M.cQ N)):=fz N [ck (RU N)] (.o (.o (.two (.o (.two (.loop ⟨[(8, .l ae)],[(80, .own 3 ae)],[],209⟩ (.o (.two (.meet ⟨[],[(80, .own 3 ae)],[],242⟩ (.o (.mb 40 369)) .nil) .nil))) .nil)) .nil))) Tryz.func44
def M.bM(N:Nat)(a0:List Int)(a1:List Int)(a2:List Bool):Option Int:=
((M.bU N a0 a1).bind λy2=>
(if(!Yz (y2=0))then
some Yx
else
some (!Yz ((a2.length:Int)=(a0.length:Int)))):Option Bool).bind λj1=>
(if j1 then
some (-1)
else
(M.cQ N a0 a1 a2).bind λy3=>
(M.bd N (a0,(a1,y3)) (-1)).bind λy4=>
some y4)
theorem UL(N:Nat):Fo 18 (.i1 [.l (.slice ae), .l (.slice ae), .l (.slice .bool)]) (.i1 [.l ae]) (u3 (M.bM N)):=fz N [ck (UI N),ck (UK N),ck (RU N)] (.o (.two (.mb 17 16) .nil)) Tryz.func18
def M.bu(N:Nat)(a0:List Int)(a1:List Int)(a2:List Int)(a3:List Int)(a4:Int):Option (List Int):=
(oj .i64 1 a4).bind λx1=>
(sf x1 0).bind λl2=>
(sf (a0.length:Int) Yy).bind λl3=>
Loop (S:=Int×(List Int)×List Bool) (X:=List Int) (λs4=>
(if(Yz (s4.1<(l2.length:Int)))then
(((Loop (S:=Int×List Bool) (X:=List Bool) (λs8=>
(if(Yz (s8.1<(a3.length:Int)))then
((idx a3 s8.1).bind λrJ=>
(if(Yz (rJ<0))then
(idx s8.2 s8.1).bind λxF=>
some (be s8.2 s8.1 Yx)
else
(Bf .i64 s4.1 rJ).bind λxG=>
(idx s8.2 s8.1).bind λr4=>
some (be s8.2 s8.1 (Yz ((al .and .i64 xG 1)=1)))):Option (List Bool)).bind λj9=>
some (.inl (WG.wrap (s8.1+1),j9))
else
some (.inr s8.2))) N (0,s4.2.2):Option (List Bool)).bind λj7=>
(M.bM N a1 a2 j7).bind λtj=>
((if(Yz (0<=tj))then
some (Yz (tj<(a0.length:Int)))
else
some Yy):Option Bool).bind λHo=>
(if Ho then
(idx a0 tj).bind λMm=>
(idx s4.2.1 s4.1).bind λMg=>
some (be s4.2.1 s4.1 Mm,j7)
else
(idx s4.2.1 s4.1).bind λMh=>
some (be s4.2.1 s4.1 tj,j7)):Option ((List Int)×List Bool)).bind λj6=>
some (j6.1,j6.2):Option ((List Int)×List Bool)).bind λj5=>
some (.inl (WG.wrap (s4.1+1),j5.1,j5.2))
else
some (.inr s4.2.1))) N (0,l2,l3)
theorem UM(N:Nat):Fo 26 (.i1 [.l (.slice ae), .l (.slice ae), .l (.slice ae), .l (.slice ae), .l ae]) (.w1 3 ae) (u5 (M.bu N)):=fz N [ck (UL N)] (.o (.o (.o (.two (.o (.two (.loop ⟨[(25, .l ae)],[(48, .own 3 ae),(112, .own 4 .bool)],[],194⟩ (.o (.o (.meet ⟨[],[(48, .own 3 ae),(112, .own 4 .bool)],[],212⟩ (.meet ⟨[],[(48, .own 3 ae),(112, .own 4 .bool)],[],212⟩ (.o (.meet ⟨[],[(112, .own 4 .bool)],[],243⟩ (.o (.two (.loop ⟨[(30, .l ae)],[(112, .own 4 .bool)],[],291⟩ (.o (.o (.two (.meet ⟨[],[(112, .own 4 .bool)],[],308⟩ .nil .nil) .nil)))) .nil)) (.o (.mb 59 323)))) .nil) .nil)))) .nil)) .nil)))) Tryz.func26
def M.cy(N:Nat)(a0:aa.den)(a1:Int):Option Bool:=
some (Yz ((al .and .i64 a1 a0.1)=a0.2))
theorem NA(N:Nat):Fo 20 (.i1 [.g aa, .l ae]) (.i1 [.l .bool]) (u2 (M.cy N)):=fz N [] .nil Tryz.func20
def M.dq(N:Nat)(a0:Int):Option Int:=
some (if 8<(if a0<0 then 0 else a0)then 8 else(if a0<0 then 0 else a0))
theorem RV(N:Nat):Fo 56 (.i1 [.l ae]) (.i1 [.l ae]) (M.dq N):=fz N [] .nil Tryz.func56
def M.ew(N:Nat)(a0:Int):Option Int:=
some (al .and .i64 (WG.wrap (WK.wrap ((WK.wrap ((WK.wrap ((al .and .u64 (WK.wrap ((bO .u64 (WK.wrap ((al .and .u64 (bO .u64 (WK.wrap ((al .and .u64 (bO .u64 a0 1) 6148914691236517205)+(al .and .u64 a0 6148914691236517205))) 2) 3689348814741910323)+(al .and .u64 (WK.wrap ((al .and .u64 (bO .u64 a0 1) 6148914691236517205)+(al .and .u64 a0 6148914691236517205))) 3689348814741910323))) 4)+(WK.wrap ((al .and .u64 (bO .u64 (WK.wrap ((al .and .u64 (bO .u64 a0 1) 6148914691236517205)+(al .and .u64 a0 6148914691236517205))) 2) 3689348814741910323)+(al .and .u64 (WK.wrap ((al .and .u64 (bO .u64 a0 1) 6148914691236517205)+(al .and .u64 a0 6148914691236517205))) 3689348814741910323))))) 1085102592571150095)+(bO .u64 (al .and .u64 (WK.wrap ((bO .u64 (WK.wrap ((al .and .u64 (bO .u64 (WK.wrap ((al .and .u64 (bO .u64 a0 1) 6148914691236517205)+(al .and .u64 a0 6148914691236517205))) 2) 3689348814741910323)+(al .and .u64 (WK.wrap ((al .and .u64 (bO .u64 a0 1) 6148914691236517205)+(al .and .u64 a0 6148914691236517205))) 3689348814741910323))) 4)+(WK.wrap ((al .and .u64 (bO .u64 (WK.wrap ((al .and .u64 (bO .u64 a0 1) 6148914691236517205)+(al .and .u64 a0 6148914691236517205))) 2) 3689348814741910323)+(al .and .u64 (WK.wrap ((al .and .u64 (bO .u64 a0 1) 6148914691236517205)+(al .and .u64 a0 6148914691236517205))) 3689348814741910323))))) 1085102592571150095) 8)))+(bO .u64 (WK.wrap ((al .and .u64 (WK.wrap ((bO .u64 (WK.wrap ((al .and .u64 (bO .u64 (WK.wrap ((al .and .u64 (bO .u64 a0 1) 6148914691236517205)+(al .and .u64 a0 6148914691236517205))) 2) 3689348814741910323)+(al .and .u64 (WK.wrap ((al .and .u64 (bO .u64 a0 1) 6148914691236517205)+(al .and .u64 a0 6148914691236517205))) 3689348814741910323))) 4)+(WK.wrap ((al .and .u64 (bO .u64 (WK.wrap ((al .and .u64 (bO .u64 a0 1) 6148914691236517205)+(al .and .u64 a0 6148914691236517205))) 2) 3689348814741910323)+(al .and .u64 (WK.wrap ((al .and .u64 (bO .u64 a0 1) 6148914691236517205)+(al .and .u64 a0 6148914691236517205))) 3689348814741910323))))) 1085102592571150095)+(bO .u64 (al .and .u64 (WK.wrap ((bO .u64 (WK.wrap ((al .and .u64 (bO .u64 (WK.wrap ((al .and .u64 (bO .u64 a0 1) 6148914691236517205)+(al .and .u64 a0 6148914691236517205))) 2) 3689348814741910323)+(al .and .u64 (WK.wrap ((al .and .u64 (bO .u64 a0 1) 6148914691236517205)+(al .and .u64 a0 6148914691236517205))) 3689348814741910323))) 4)+(WK.wrap ((al .and .u64 (bO .u64 (WK.wrap ((al .and .u64 (bO .u64 a0 1) 6148914691236517205)+(al .and .u64 a0 6148914691236517205))) 2) 3689348814741910323)+(al .and .u64 (WK.wrap ((al .and .u64 (bO .u64 a0 1) 6148914691236517205)+(al .and .u64 a0 6148914691236517205))) 3689348814741910323))))) 1085102592571150095) 8))) 16)))+(bO .u64 (WK.wrap ((WK.wrap ((al .and .u64 (WK.wrap ((bO .u64 (WK.wrap ((al .and .u64 (bO .u64 (WK.wrap ((al .and .u64 (bO .u64 a0 1) 6148914691236517205)+(al .and .u64 a0 6148914691236517205))) 2) 3689348814741910323)+(al .and .u64 (WK.wrap ((al .and .u64 (bO .u64 a0 1) 6148914691236517205)+(al .and .u64 a0 6148914691236517205))) 3689348814741910323))) 4)+(WK.wrap ((al .and .u64 (bO .u64 (WK.wrap ((al .and .u64 (bO .u64 a0 1) 6148914691236517205)+(al .and .u64 a0 6148914691236517205))) 2) 3689348814741910323)+(al .and .u64 (WK.wrap ((al .and .u64 (bO .u64 a0 1) 6148914691236517205)+(al .and .u64 a0 6148914691236517205))) 3689348814741910323))))) 1085102592571150095)+(bO .u64 (al .and .u64 (WK.wrap ((bO .u64 (WK.wrap ((al .and .u64 (bO .u64 (WK.wrap ((al .and .u64 (bO .u64 a0 1) 6148914691236517205)+(al .and .u64 a0 6148914691236517205))) 2) 3689348814741910323)+(al .and .u64 (WK.wrap ((al .and .u64 (bO .u64 a0 1) 6148914691236517205)+(al .and .u64 a0 6148914691236517205))) 3689348814741910323))) 4)+(WK.wrap ((al .and .u64 (bO .u64 (WK.wrap ((al .and .u64 (bO .u64 a0 1) 6148914691236517205)+(al .and .u64 a0 6148914691236517205))) 2) 3689348814741910323)+(al .and .u64 (WK.wrap ((al .and .u64 (bO .u64 a0 1) 6148914691236517205)+(al .and .u64 a0 6148914691236517205))) 3689348814741910323))))) 1085102592571150095) 8)))+(bO .u64 (WK.wrap ((al .and .u64 (WK.wrap ((bO .u64 (WK.wrap ((al .and .u64 (bO .u64 (WK.wrap ((al .and .u64 (bO .u64 a0 1) 6148914691236517205)+(al .and .u64 a0 6148914691236517205))) 2) 3689348814741910323)+(al .and .u64 (WK.wrap ((al .and .u64 (bO .u64 a0 1) 6148914691236517205)+(al .and .u64 a0 6148914691236517205))) 3689348814741910323))) 4)+(WK.wrap ((al .and .u64 (bO .u64 (WK.wrap ((al .and .u64 (bO .u64 a0 1) 6148914691236517205)+(al .and .u64 a0 6148914691236517205))) 2) 3689348814741910323)+(al .and .u64 (WK.wrap ((al .and .u64 (bO .u64 a0 1) 6148914691236517205)+(al .and .u64 a0 6148914691236517205))) 3689348814741910323))))) 1085102592571150095)+(bO .u64 (al .and .u64 (WK.wrap ((bO .u64 (WK.wrap ((al .and .u64 (bO .u64 (WK.wrap ((al .and .u64 (bO .u64 a0 1) 6148914691236517205)+(al .and .u64 a0 6148914691236517205))) 2) 3689348814741910323)+(al .and .u64 (WK.wrap ((al .and .u64 (bO .u64 a0 1) 6148914691236517205)+(al .and .u64 a0 6148914691236517205))) 3689348814741910323))) 4)+(WK.wrap ((al .and .u64 (bO .u64 (WK.wrap ((al .and .u64 (bO .u64 a0 1) 6148914691236517205)+(al .and .u64 a0 6148914691236517205))) 2) 3689348814741910323)+(al .and .u64 (WK.wrap ((al .and .u64 (bO .u64 a0 1) 6148914691236517205)+(al .and .u64 a0 6148914691236517205))) 3689348814741910323))))) 1085102592571150095) 8))) 16))) 32)))) 127)
theorem Qy(N:Nat):Fo 148 (.i1 [.l (.int .u64)]) (.i1 [.l ae]) (M.ew N):=fz N [] .nil Tryz.func148
def M.bS(N:Nat)(a0:Int):Option Int:=
(M.ew N a0).bind λy1=>
some y1
theorem Mv(N:Nat):Fo 109 (.i1 [.l (.int .u64)]) (.i1 [.l ae]) (M.bS N):=fz N [ck (Qy N)] .nil Tryz.func109
def M.gx(N:Nat)(a0:aa.den)(a1:aa.den):Option (aa.den×Bool):=
((if(!Yz (a0.1=a1.1))then
some Yx
else
(M.bS N (WK.wrap (al .xor .i64 a0.2 a1.2))).bind λy2=>
(if(!Yz (y2=1))then
some Yx
else
some (Yz ((al .and .i64 (al .xor .i64 a0.2 a1.2) a0.1)=0)))):Option Bool).bind λj1=>
(if j1 then
some ((0,0),Yy)
else
some ((al .andNot .i64 a0.1 (al .xor .i64 a0.2 a1.2),al .andNot .i64 a0.2 (al .xor .i64 a0.2 a1.2)),Yx))
theorem Qz(N:Nat):Fo 104 (.i1 [.g aa, .g aa]) (.i1 [.g aa, .l .bool]) (u2 (M.gx N)):=fz N [ck (Mv N)] (.o (.o (.two (.mb 29 160) .nil))) Tryz.func104
def M.ko(N:Nat)(a0:List Int):Option Int:=
Loop (S:=Int) (X:=Int) (λs1=>
(if(Yz (s1<(a0.length:Int)))then
(idx a0 s1).bind λx2=>
(if(!Yz (x2=0))then
some (.inr x2)
else
some (.inl (WG.wrap (s1+1))))
else
some (.inr 0))) N 0
theorem QA(N:Nat):Fo 107 (.i1 [.l (.slice ae)]) (.i1 [.l ae]) (M.ko N):=fz N [] (.o (.o (.two (.o (.two (.lp 8 80 .nil) .nil)) .nil))) Tryz.func107
def M.cmp_isNaN_int(N:Nat)(a0:Int):Option Bool:=
some (!Yz (a0=a0))
theorem QB(N:Nat):Fo 146 (.i1 [.l ae]) (.i1 [.l .bool]) (M.cmp_isNaN_int N):=fz N [] .nil Tryz.func146
def M.cmp_Compare_int(N:Nat)(a0:Int)(a1:Int):Option Int:=
(M.cmp_isNaN_int N a0).bind λy1=>
(M.cmp_isNaN_int N a1).bind λy2=>
(if y1 then
(if y2 then
some 0
else
some (-1))
else
(if y2 then
some 1
else
(if(Yz (a0<a1))then
some (-1)
else
(if(Yz (a1<a0))then
some 1
else
some 0))))
theorem QC(N:Nat):Fo 108 (.i1 [.l ae, .l ae]) (.i1 [.l ae]) (u2 (M.cmp_Compare_int N)):=fz N [ck (QB N)] .nil Tryz.func108
def M.bE(N:Nat)(a0:aa.den)(a1:aa.den):Option Int:=
(M.bS N (WK.wrap a0.1)).bind λy1=>
(M.bS N (WK.wrap a1.1)).bind λy2=>
(M.cmp_Compare_int N y1 y2).bind λy3=>
(M.cmp_Compare_int N a0.1 a1.1).bind λy4=>
(M.cmp_Compare_int N a0.2 a1.2).bind λy5=>
(M.ko N ([y3,y4,y5]:List Int)).bind λy6=>
some y6
theorem QD(N:Nat):Fo 106 (.i1 [.g aa, .g aa]) (.i1 [.l ae]) (u2 (M.bE N)):=fz N [ck (QA N),ck (QC N),ck (Mv N)] .nil Tryz.func106
def M.dt(N:Nat)(a0:Int)(a1:List (aa.den×Bool)):Option (List (aa.den×Bool)):=
lc (S:=(List (aa.den×Bool))×(List (aa.den×Bool))×List aa.den) (R:=List (aa.den×Bool)) (λs1 k2=>
(if(s1.2.1).isEmpty then
Loop (S:=(List (aa.den×Bool))×List aa.den) (X:=List (aa.den×Bool)) (λs4=>
(if(Yz (0<(s4.2.length:Int)))then
(Loop (S:=Int×(List (aa.den×Bool))×List aa.den) (X:=(List (aa.den×Bool))×List aa.den) (λs6=>
(if(Yz (s6.1<(s4.2.length:Int)))then
((idx s4.2 s6.1).bind λx8=>
Loop (S:=Int×(List (aa.den×Bool))×List aa.den) (X:=(List (aa.den×Bool))×List aa.den) (λs9=>
(if(Yz (s9.1<a0))then
((oj .i64 1 s9.1).bind λxF=>
(if(!((aT aa s9.2.1 (x8.1,al .xor .i64 x8.2 xF)).getD Yy))then
some (s9.2.1,s9.2.2)
else
(M.gx N x8 (x8.1,al .xor .i64 x8.2 xF)).bind λHn=>
((if Hn.2 then
some (!((aT aa s9.2.1 Hn.1).getD Yy))
else
some Yy):Option Bool).bind λC0=>
(if C0 then
(bW s9.2.2 ([Hn.1]:List aa.den)).bind λMw=>
some (mo aa s9.2.1 Hn.1 Yx,Mw)
else
some (s9.2.1,s9.2.2))):Option ((List (aa.den×Bool))×List aa.den)).bind λrI=>
some (.inl (WG.wrap (s9.1+1),rI.1,rI.2))
else
some (.inr (s9.2.1,s9.2.2)))) N (0,s6.2.1,s6.2.2):Option ((List (aa.den×Bool))×List aa.den)).bind λj7=>
some (.inl (WG.wrap (s6.1+1),j7.1,j7.2))
else
some (.inr (s6.2.1,s6.2.2)))) N (0,s4.1,([]:List aa.den)):Option ((List (aa.den×Bool))×List aa.den)).bind λj5=>
some (.inl (j5.1,j5.2))
else
some (.inr s4.1))) N (s1.1,s1.2.2)
else
GQ (λp=>p∈s1.2.1) λx3=>
(bW s1.2.2 ([x3.1]:List aa.den)).bind λUN=>
k2 (s1.1,iD aa s1.2.1 x3.1,UN))) N (a1,a1,([]:List aa.den))
theorem Mx(N:Nat):Fo 67 (.j1 [.val Yy (.own 0), .l ae] [.smap 115 aa Yy .bool Yw] 1) (.j1 [] [.smap 115 aa Yy .bool Yw] 2) (u2 (M.dt N)):=fz N [ck (Qz N)] (.o (.two (.o (.two (.loopK ⟨[(4, .val Yy (.own 49))],[(0, .smap 115 aa Yy .bool (some 34)),(49, .own 58 aa)],[],51⟩ .nil) .nil)) (.two (.loop ⟨[(4, .val Yy (.own 83))],[(0, .smap 115 aa Yy .bool Yw),(83, .own 58 aa)],[49],85⟩ (.o (.two (.o (.meet ⟨[(6, .val Yy (.own 149))],[(0, .smap 115 aa Yy .bool Yw),(149, .own 58 aa)],[],151⟩ (.o (.two (.loop ⟨[(6, .val Yy (.own 197)),(28, .l ae)],[(0, .smap 115 aa Yy .bool Yw),(197, .own 58 aa)],[],199⟩ (.o (.o (.meet ⟨[(6, .val Yy (.own 215))],[(0, .smap 115 aa Yy .bool Yw),(215, .own 58 aa)],[197],217⟩ (.two (.o (.o (.two (.loop ⟨[(6, .val Yy (.own 311)),(33, .l ae)],[(0, .smap 115 aa Yy .bool Yw),(311, .own 58 aa)],[197],313⟩ (.o (.o (.two (.meet ⟨[(6, .val Yy (.own 329))],[(0, .smap 115 aa Yy .bool Yw),(329, .own 58 aa)],[311],331⟩ (.o (.o (.o (.o (.mb 60 729))))) .nil) .nil)))) .nil))) .nil) .nil)))) .nil)) .nil)) .nil))) .nil))) Tryz.func67
def M.aG(N:Nat)(a0:List aa.den):Option (List aa.den):=th (λa b c d=>M.bE N (a,b) (c,d)) a0
def JN(N:Nat):nq:=⟨.j1 [.val Yy (.own 0), .fn 106 []] [.own 58 aa] 1, .j1 [] [.own 58 aa] 2,M.aG N⟩
theorem JO(N:Nat):fK Tryz.prog 105 (JN N):=y0 (QD N)
def M.eB(N:Nat)(a0:Int)(a1:List (aa.den×Bool)):Option ((List (aa.den×Bool))×List aa.den):=
lc (S:=(List (aa.den×Bool))×(List (aa.den×Bool))×List aa.den) (R:=(List (aa.den×Bool))×List aa.den) (λs1 k2=>
(if(s1.2.1).isEmpty then
(M.aG N s1.2.2).bind λy4=>
some (s1.1,y4)
else
GQ (λp=>p∈s1.2.1) λx3=>
((Loop (S:=Bool×Int) (X:=Bool) (λs7=>
(if(Yz (s7.2<a0))then
((oj .i64 1 s7.2).bind λx9=>
(oj .i64 1 s7.2).bind λrJ=>
((if(!(jY aa (al .andNot .i64 x3.1.1 x9,al .andNot .i64 x3.1.2 rJ) x3.1))then
some ((aT aa s1.1 (al .andNot .i64 x3.1.1 x9,al .andNot .i64 x3.1.2 rJ)).getD Yy)
else
some Yy):Option Bool).bind λCo=>
(if Co then
some Yy
else
some s7.1):Option Bool).bind λj8=>
some (.inl (j8,WG.wrap (s7.2+1)))
else
some (.inr s7.1))) N (Yx,0):Option Bool).bind λj6=>
(if j6 then
(bW s1.2.2 ([x3.1]:List aa.den)).bind λGl=>
some Gl
else
some s1.2.2):Option (List aa.den)).bind λj5=>
k2 (s1.1,iD aa s1.2.1 x3.1,j5))) N (a1,a1,([]:List aa.den))
theorem My(N:Nat):Fo 68 (.j1 [.val Yy (.own 0), .l ae] [.smap 115 aa Yy .bool Yw] 1) (.j1 [.val Yy (.own 1)] [.smap 115 aa Yy .bool Yw, .own 58 aa] 3) (u2 (M.eB N)):=fz N [ck (JO N)] (.o (.o (.two (.o (.two (.loopK ⟨[(5, .val Yy (.own 65))],[(0, .smap 115 aa Yy .bool (some 50)),(65, .own 58 aa)],[],67⟩ (.o (.o (.meet ⟨[(5, .val Yy (.own 99))],[(99, .own 58 aa)],[65],100⟩ (.o (.o (.meet ⟨[(7, .l .bool)],[],[],179⟩ (.o (.two (.loop ⟨[(7, .l .bool),(17, .l ae)],[],[],211⟩ (.o (.o (.two (.meet ⟨[(7, .l .bool)],[],[],227⟩ (.o (.o (.mb 38 467))) .nil) .nil)))) .nil)) .nil))) .nil)))) .nil)) .nil))) Tryz.func68
def M.eW(N:Nat)(a0:List Int)(a1:Int):Option (List aa.den):=
(M.dq N a1).bind λy1=>
(oj .i64 1 y1).bind λx2=>
(Loop (S:=Int×(List (Int×Bool))×List (aa.den×Bool)) (X:=(List (Int×Bool))×List (aa.den×Bool)) (λs4=>
(if(Yz (s4.1<(a0.length:Int)))then
((idx a0 s4.1).bind λx6=>
((if(Yz (0<=x6))then
some (Yz (x6<x2))
else
some Yy):Option Bool).bind λj7=>
(if j7 then
some (jD ae s4.2.1 x6 Yx,mo aa s4.2.2 (WG.wrap (x2-1),x6) Yx)
else
some (s4.2.1,s4.2.2)):Option ((List (Int×Bool))×List (aa.den×Bool))).bind λj5=>
some (.inl (WG.wrap (s4.1+1),j5.1,j5.2))
else
some (.inr (s4.2.1,s4.2.2)))) N (0,([]:List (Int×Bool)),([]:List (aa.den×Bool))):Option ((List (Int×Bool))×List (aa.den×Bool))).bind λj3=>
(M.dt N y1 j3.2).bind λy8=>
(M.eB N y1 y8).bind λy9=>
Loop (S:=Int×(List (Int×Bool))×List aa.den) (X:=List aa.den) (λrc=>
(if(Yz (rc.1<(y9.2.length:Int)))then
(((idx y9.2 rc.1).bind λr4=>
(Loop (S:=Bool×Int×List (Int×Bool)) (X:=Bool×List (Int×Bool)) (λw5=>
(if(Yz (w5.2.1<x2))then
(((if((aT ae w5.2.2 w5.2.1).getD Yy)then
(M.cy N r4 w5.2.1).bind λUO=>
some UO
else
some Yy):Option Bool).bind λKA=>
(if KA then
some (Yx,kN ae w5.2.2 w5.2.1)
else
some (w5.1,w5.2.2)):Option (Bool×List (Int×Bool))).bind λGm=>
some (.inl (Gm.1,WG.wrap (w5.2.1+1),Gm.2))
else
some (.inr (w5.1,w5.2.2)))) N (Yy,0,rc.2.1):Option (Bool×List (Int×Bool))).bind λGn=>
(if Gn.1 then
(bW rc.2.2 ([r4]:List aa.den)).bind λUP=>
some (Gn.2,UP)
else
some (Gn.2,rc.2.2)):Option ((List (Int×Bool))×List aa.den)).bind λvk=>
some (vk.1,vk.2):Option ((List (Int×Bool))×List aa.den)).bind λCo=>
some (.inl (WG.wrap (rc.1+1),Co.1,Co.2))
else
some (.inr rc.2.2))) N (0,j3.1,([]:List aa.den))
theorem UQ(N:Nat):Fo 48 (.i1 [.l (.slice ae), .l ae]) (.w1 58 aa) (u2 (M.eW N)):=fz N [ck (NA N),ck (RV N),ck (Mx N),ck (My N)] (.o (.o (.o (.o (.o (.meet ⟨[],[(112, .map 114 ae Yy .bool),(144, .smap 115 aa Yy .bool Yw)],[],178⟩ (.o (.two (.loop ⟨[(23, .l ae)],[(112, .map 114 ae Yy .bool),(144, .smap 115 aa Yy .bool Yw)],[],226⟩ (.o (.o (.two (.meet ⟨[],[(112, .map 114 ae Yy .bool),(144, .smap 115 aa Yy .bool Yw)],[],244⟩ (.o (.mb 33 290)) .nil) .nil)))) .nil)) (.o (.o (.two (.o (.two (.loop ⟨[(10, .val Yy (.own 322)),(49, .l ae)],[(112, .map 114 ae Yy .bool),(322, .own 58 aa)],[],324⟩ (.o (.o (.meet ⟨[(10, .val Yy (.own 340))],[(112, .map 114 ae Yy .bool),(340, .own 58 aa)],[322],342⟩ (.meet ⟨[(10, .val Yy (.own 340))],[(112, .map 114 ae Yy .bool),(340, .own 58 aa)],[322],342⟩ (.o (.o (.meet ⟨[(13, .l .bool)],[(112, .map 114 ae Yy .bool)],[],421⟩ (.o (.two (.loop ⟨[(13, .l .bool),(54, .l ae)],[(112, .map 114 ae Yy .bool)],[],453⟩ (.o (.o (.two (.meet ⟨[(13, .l .bool)],[(112, .map 114 ae Yy .bool)],[],470⟩ (.o (.mb 64 501)) .nil) .nil)))) .nil)) .nil))) .nil) .nil)))) .nil)) .nil))))))))) Tryz.func48
def M.dI(N:Nat)(a0:List Int)(a1:List Int)(a2:Int):Option (List aj.den):=
(bW ([(-2),(-1)]:List Int) a1).bind λl1=>
Loop (S:=Int×List aj.den) (X:=List aj.den) (λs2=>
(if(Yz (s2.1<(l1.length:Int)))then
(((idx l1 s2.1).bind λx5=>
(Loop (S:=Int×List Int) (X:=List Int) (λs7=>
(if(Yz (s7.1<(a0.length:Int)))then
((idx a0 s7.1).bind λx9=>
(if(Yz (x9=x5))then
(bW s7.2 ([s7.1]:List Int)).bind λHl=>
some Hl
else
some s7.2):Option (List Int)).bind λj8=>
some (.inl (WG.wrap (s7.1+1),j8))
else
some (.inr s7.2))) N (0,([]:List Int)):Option (List Int)).bind λj6=>
(if(Yz ((j6.length:Int)=0))then
some s2.2
else
(M.eW N j6 a2).bind λza=>
Loop (S:=Int×List aj.den) (X:=List aj.den) (λEU=>
(if(Yz (EU.1<(za.length:Int)))then
(idx za EU.1).bind λr4=>
(bW EU.2 ([(r4,x5)]:List aj.den)).bind λMw=>
some (.inl (WG.wrap (EU.1+1),Mw))
else
some (.inr EU.2))) N (0,s2.2)):Option (List aj.den)).bind λj4=>
some j4:Option (List aj.den)).bind λj3=>
some (.inl (WG.wrap (s2.1+1),j3))
else
some (.inr s2.2))) N (0,([]:List aj.den))
theorem UR(N:Nat):Fo 27 (.i1 [.l (.slice ae), .l (.slice ae), .l ae]) (.w1 60 aj) (u3 (M.dI N)):=fz N [ck (UQ N)] (.o (.o (.o (.two (.o (.two (.loop ⟨[(8, .val Yy (.own 144)),(21, .l ae)],[(144, .own 60 aj)],[],145⟩ (.o (.o (.meet ⟨[(8, .val Yy (.own 161))],[(161, .own 60 aj)],[144],162⟩ (.meet ⟨[(8, .val Yy (.own 161))],[(161, .own 60 aj)],[144],162⟩ (.o (.o (.meet ⟨[(11, .val Yy (.own 225))],[(225, .own 3 ae)],[],226⟩ (.o (.two (.loop ⟨[(11, .val Yy (.own 273)),(27, .l ae)],[(273, .own 3 ae)],[],274⟩ (.o (.o (.two (.meet ⟨[(11, .val Yy (.own 290))],[(290, .own 3 ae)],[273],291⟩ .nil .nil) .nil)))) .nil)) (.o (.o (.two (.loop ⟨[(8, .val Yy (.own 354)),(47, .l ae)],[(354, .own 60 aj)],[144],355⟩ .nil) .nil)))))) .nil) .nil)))) .nil)) .nil)))) Tryz.func27
def M.eK(N:Nat)(a0:ig.den)(a1:Int)(a2:Int)(a3:Int):Option (Int×Int×(List (List aa.den))×(List Int)×List aj.den):=
(M.ik N a0).bind λy1=>
(if(!(jY bm y1 (0,(0,(0,0)))))then
some (0,1,([]:List (List aa.den)),([]:List Int),([]:List aj.den))
else
((if(Yz (a1<0))then
some Yx
else
some (Yz ((a0.2.2.length:Int)<=a1))):Option Bool).bind λj2=>
(if j2 then
some (0,6,([]:List (List aa.den)),([]:List Int),([]:List aj.den))
else
(idx a0.2.2 a1).bind λx3=>
((if(Yz (a2<0))then
some Yx
else
some (Yz ((x3.2.2.2.1.length:Int)<=a2))):Option Bool).bind λj4=>
(if j4 then
some (0,6,([]:List (List aa.den)),([]:List Int),([]:List aj.den))
else
((if(Yz (a3<0))then
some Yx
else
some (Yz (109572<a3))):Option Bool).bind λj5=>
(if j5 then
some (0,3,([]:List (List aa.den)),([]:List Int),([]:List aj.den))
else
(M.eV N x3 a2 a3).bind λy6=>
(sf (y6.1.length:Int) 0).bind λl7=>
(Loop (S:=Int×Int×(List Int)×(List (List aa.den))×List Int) (X:=Int×(List Int)×(List (List aa.den))×List Int) (λs9=>
(if(Yz (s9.1<(y6.1.length:Int)))then
((idx y6.1 s9.1).bind λxF=>
(idx s9.2.2.1 s9.1).bind λxG=>
(idx x3.2.2.2.2 xF).bind λr4=>
(if(Yz ((r4.2.2.2.2.2.1.length:Int)=0))then
some (s9.2.1,be s9.2.2.1 s9.1 (-1),s9.2.2.2.1,s9.2.2.2.2)
else
(M.cP N s9.2.2.2.1 r4.2.2.2.2.2.1).bind λtj=>
((if(Yz (tj<0))then
(M.aQ N r4.2.2.2.2.2.1).bind λQg=>
(bW s9.2.2.2.1 ([Qg]:List (List aa.den))).bind λUS=>
(bW s9.2.2.2.2 ([xF]:List Int)).bind λQw=>
some ((s9.2.2.2.1.length:Int),s9.2.1,US,Qw)
else
some (tj,s9.2.1,s9.2.2.2.1,s9.2.2.2.2)):Option (Int×Int×(List (List aa.den))×List Int)).bind λHo=>
(idx (be s9.2.2.1 s9.1 (-1)) s9.1).bind λMi=>
some (Ho.2.1,be (be s9.2.2.1 s9.1 (-1)) s9.1 Ho.1,Ho.2.2.1,Ho.2.2.2)):Option (Int×(List Int)×(List (List aa.den))×List Int)).bind λrI=>
some (.inl (WG.wrap (s9.1+1),rI.1,rI.2.1,rI.2.2.1,rI.2.2.2))
else
some (.inr (s9.2.1,s9.2.2.1,s9.2.2.2.1,s9.2.2.2.2)))) N (0,a2,l7,([]:List (List aa.den)),([]:List Int)):Option (Int×(List Int)×(List (List aa.den))×List Int)).bind λj8=>
(M.bu N y6.1 y6.2.1 y6.2.2 j8.2.1 (j8.2.2.1.length:Int)).bind λIB=>
(M.dI N IB y6.1 (j8.2.2.1.length:Int)).bind λKB=>
some (j8.1,0,j8.2.2.1,j8.2.2.2,KB)))))
theorem W9(N:Nat):Fo 9 (.i1 [.g ig, .l ae, .l ae, .l ae]) (.j1 [.val Yx (.pair (.leaf ae) (.pair (.own 0) (.pair (.own 1) (.own 2)))), .l ae] [.own 75 (.slice aa), .own 3 ae, .own 60 aj] 3) (u4 (M.eK N)):=fz N [ck (UC N),ck (UE N),ck (UG N),ck (UH N),ck (UM N),ck (UR N)] (.o (.o (.two (.mb 34 112) (.o (.two (.mb 49 224) (.two (.mb 56 224) (.o (.o (.o (.meet ⟨[],[(256, .box 34 (.pair (.leaf ae) (.pair (.own 528) (.pair (.own 529) .nil)))),(496, .own 3 ae),(528, .own 75 (.slice aa)),(529, .own 3 ae)],[],532⟩ (.o (.two (.loop ⟨[(73, .l ae)],[(256, .box 34 (.pair (.leaf ae) (.pair (.own 576) (.pair (.own 577) .nil)))),(496, .own 3 ae),(576, .own 75 (.slice aa)),(577, .own 3 ae)],[],580⟩ (.o (.o (.two (.meet ⟨[],[(256, .box 34 (.pair (.leaf ae) (.pair (.own 596) (.pair (.own 597) .nil)))),(496, .own 3 ae),(596, .own 75 (.slice aa)),(597, .own 3 ae)],[576,577],600⟩ (.o (.o (.o (.o (.o (.meet ⟨[(19, .l ae)],[(256, .box 34 (.pair (.leaf ae) (.pair (.own 980) (.pair (.own 981) .nil)))),(980, .own 75 (.slice aa)),(981, .own 3 ae)],[576,577],983⟩ .nil .nil)))))) .nil) .nil)))) .nil)) .nil)))))))))) Tryz.func9
def M.c9(N:Nat)(a0:bJ.den)(a1:Int):Option (Int×Bool):=
Loop (S:=Int) (X:=Int×Bool) (λs1=>
(if(Yz (s1<(a0.2.2.2.length:Int)))then
(idx a0.2.2.2 s1).bind λx2=>
(M.cy N x2.1 a1).bind λy3=>
(if y3 then
some (.inr (x2.2,Yx))
else
some (.inl (WG.wrap (s1+1))))
else
some (.inr (0,Yy)))) N 0
theorem RW(N:Nat):Fo 12 (.i1 [.g bJ, .l ae]) (.i1 [.l ae, .l .bool]) (u2 (M.c9 N)):=fz N [ck (NA N)] (.o (.two (.o (.two (.lp 11 112 .nil) .nil)) .nil)) Tryz.func12
def M.gy(N:Nat)(a0:aa.den)(a1:Int):Option Bool:=
((if(Yz (0<=a0.1))then
(M.dq N a1).bind λy2=>
(oj .i64 1 y2).bind λx3=>
(if(Yz (a0.1<x3))then
(if(Yz (0<=a0.2))then
some (Yz ((al .and .i64 a0.2 a0.1)=a0.2))
else
some Yy)
else
some Yy)
else
some Yy):Option Bool).bind λj1=>
some j1
theorem UT(N:Nat):Fo 33 (.i1 [.g aa, .l ae]) (.i1 [.l .bool]) (u2 (M.gy N)):=fz N [ck (RV N)] (.o (.mb 4 32)) Tryz.func33
def M.cB(N:Nat)(a0:List aj.den)(a1:Int):Option Int:=
bG (J:=Bool) (R:=Int) (Loop (S:=Bool×Int×Int) (X:=Bool⊕Int) (λs2=>
(if(Yz (s2.2.2<(a0.length:Int)))then
bG (J:=Bool×Int) (R:=(Bool×Int×Int)⊕(Bool⊕Int)) ((idx a0 s2.2.2).bind λx4=>
(M.cy N x4.1 a1).bind λy5=>
(if(!y5)then
some (.inl (s2.1,s2.2.1))
else
((if s2.1 then
some (!Yz (x4.2=s2.2.1))
else
some Yy):Option Bool).bind λj6=>
(if j6 then
some (.inr (.inr (.inr 11)))
else
some (.inl (Yx,x4.2))))) λj3=>
some (.inl (j3.1,j3.2,WG.wrap (s2.2.2+1)))
else
some (.inr (.inl s2.1)))) N (Yy,0,0)) λj1=>
(if(!j1)then
some 10
else
some 0)
theorem UW(N:Nat):Fo 34 (.i1 [.l (.slice aj), .l ae]) (.i1 [.l ae]) (u2 (M.cB N)):=fz N [ck (NA N)] (.o (.o (.o (.join ⟨[(5, .l .bool)],[],[],48⟩ (.o (.two (.loop ⟨[(5, .l .bool),(6, .l ae),(11, .l ae)],[],[],96⟩ (.o (.o (.two (.join ⟨[(5, .l .bool),(6, .l ae)],[],[],112⟩ (.o (.o (.two (.mb 26 256) .nil))) .nil) .nil)))) .nil)) .nil)))) Tryz.func34
def M.cR(N:Nat)(a0:bJ.den):Option Int:=
(if(Yz (8<(a0.2.1.length:Int)))then
some 4
else
bG (J:=Unit) (R:=Int) (Loop (S:=Int) (X:=Unit⊕Int) (λs2=>
(if(Yz (s2<(a0.2.2.2.length:Int)))then
(idx a0.2.2.2 s2).bind λx3=>
(M.gy N x3.1 (a0.2.1.length:Int)).bind λy4=>
(if(!y4)then
some (.inr (.inr 3))
else
some (.inl (WG.wrap (s2+1))))
else
some (.inr (.inl ())))) N 0) λj1=>
(oj .i64 1 (a0.2.1.length:Int)).bind λx5=>
Loop (S:=Int) (X:=Int) (λs6=>
(if(Yz (s6<x5))then
(M.cB N a0.2.2.2 s6).bind λy7=>
(if(!Yz (y7=0))then
some (.inr y7)
else
some (.inl (WG.wrap (s6+1))))
else
some (.inr 0))) N 0)
theorem RX(N:Nat):Fo 14 (.i1 [.g bJ]) (.i1 [.l ae]) (M.cR N):=fz N [ck (UT N),ck (UW N)] (.o (.o (.o (.join ⟨[],[],[],128⟩ (.o (.two (.lp 16 192 .nil) .nil)) (.two (.o (.two (.lp 28 176 .nil) .nil)) .nil))))) Tryz.func14
def M.oV(N:Nat):Option (List aZ.den):=
some ([((⟨#[115]⟩:ByteArray),((-1),(([((⟨#[120]⟩:ByteArray),(1,0))]:List aY.den),(([((⟨#[100]⟩:ByteArray),(2,0))]:List aY.den),([((⟨#[97]⟩:ByteArray),(0,((-1),(0,((0,109573),(([]:List aa.den),(([(2,1)]:List aa.den),Yn))))))),((⟨#[98]⟩:ByteArray),(0,(0,(0,((0,109573),(([(7,0)]:List aa.den),(([(2,2)]:List aa.den),Yn)))))))]:List cr.den)))))]:List aZ.den)
theorem UX(N:Nat):Fo 22 (.i1 []) (.j1 [.val Yx (.pair .nil (.pair .nil (.own 0)))] [.own 50 aZ] 1) (λ(x:Unit)=>M.oV N):=fz N [] .nil Tryz.func22
def M.tl(N:Nat)(a0:List Int)(a1:List Int):Option Bool:=
(if(!Yz ((a0.length:Int)=(a1.length:Int)))then
some Yy
else
Loop (S:=Int) (X:=Bool) (λs1=>
((if(Yz (s1<(a0.length:Int)))then
some (Yz (s1<(a1.length:Int)))
else
some Yy):Option Bool).bind λj2=>
(if j2 then
(idx a0 s1).bind λx3=>
(idx a1 s1).bind λx4=>
(if(!Yz (x3=x4))then
some (.inr Yy)
else
some (.inl (WG.wrap (s1+1))))
else
some (.inr Yx))) N 0)
theorem UY(N:Nat):Fo 23 (.i1 [.l (.slice ae), .l (.slice ae)]) (.i1 [.l .bool]) (u2 (M.tl N)):=fz N [] (.o (.o (.two (.o (.two (.lp 5 112 (.two (.mb 20 112) .nil)) .nil)) .nil))) Tryz.func23
def M.fF(N:Nat):Option Bool:=
(M.oV N).bind λy1=>
(M.eK N (([]:List cO.den),(([]:List cK.den),y1)) 0 0 100).bind λy2=>
(M.c9 N (y2.1,(y2.2.2.1,(y2.2.2.2.1,y2.2.2.2.2))) 0).bind λy3=>
(M.c9 N (y2.1,(y2.2.2.1,(y2.2.2.2.1,y2.2.2.2.2))) 1).bind λy4=>
((if(Yz (y2.2.1=0))then
(if(Yz ((y2.2.2.2.2.length:Int)=2))then
(if(Yz ((y2.2.2.1.length:Int)=1))then
(M.tl N y2.2.2.2.1 ([1]:List Int)).bind λy6=>
(if y6 then
(if(Yz (y3.1=0))then
(if y3.2 then
(if(Yz (y4.1=1))then
(if y4.2 then
(M.cR N (y2.1,(y2.2.2.1,(y2.2.2.2.1,y2.2.2.2.2)))).bind λy7=>
(if(Yz (y7=0))then
(M.cR N (0,(([]:List (List aa.den)),(([]:List Int),([]:List aj.den))))).bind λy8=>
some (Yz (y8=10))
else
some Yy)
else
some Yy)
else
some Yy)
else
some Yy)
else
some Yy)
else
some Yy)
else
some Yy)
else
some Yy)
else
some Yy):Option Bool).bind λj5=>
some j5
theorem W8(N:Nat):Fo 8 (.i1 []) (.i1 [.l .bool]) (λ(x:Unit)=>M.fF N):=fz N [ck (W9 N),ck (RW N),ck (RX N),ck (UX N),ck (UY N)] (.o (.o (.o (.o (.mb 0 368))))) Tryz.func8
def M.pt(N:Nat)(a0:Int):Option Bool:=
((if(Yz (97<=a0))then
some (Yz (a0<=122))
else
some Yy):Option Bool).bind λj1=>
some j1
def M.w6(N:Nat)(a0:Int):Option Bool:=
((if(Yz (48<=a0))then
some (Yz (a0<=57))
else
some Yy):Option Bool).bind λj1=>
some j1
def M.zc(N:Nat)(a0:Int):Option Bool:=
((M.pt N a0).bind λy2=>
(if y2 then
some Yx
else
(M.w6 N a0).bind λy3=>
(if y3 then
some Yx
else
some (Yz (a0=95)))):Option Bool).bind λj1=>
some j1
def M.rf(N:Nat):Option (List ByteArray):=
some ([(⟨#[105,102]⟩:ByteArray),(⟨#[116,104,101,110]⟩:ByteArray),(⟨#[101,108,115,101]⟩:ByteArray),(⟨#[111,114]⟩:ByteArray),(⟨#[97,110,100]⟩:ByteArray),(⟨#[110,111,116]⟩:ByteArray),(⟨#[116,114,117,101]⟩:ByteArray),(⟨#[102,97,108,115,101]⟩:ByteArray),(⟨#[116,111,100,97,121]⟩:ByteArray),(⟨#[115,104,97,114,101]⟩:ByteArray),(⟨#[100,105,118]⟩:ByteArray),(⟨#[114,111,117,110,100]⟩:ByteArray),(⟨#[109,105,110]⟩:ByteArray),(⟨#[109,97,120]⟩:ByteArray),(⟨#[112,108,117,115]⟩:ByteArray),(⟨#[109,111,110,116,104,115]⟩:ByteArray),(⟨#[100,97,121,115]⟩:ByteArray),(⟨#[121,101,97,114,115]⟩:ByteArray),(⟨#[121,101,97,114]⟩:ByteArray),(⟨#[109,111,110,116,104]⟩:ByteArray),(⟨#[116,97,98]⟩:ByteArray),(⟨#[98,97,110,100]⟩:ByteArray),(⟨#[99,111,117,110,116]⟩:ByteArray),(⟨#[115,117,109]⟩:ByteArray),(⟨#[97,108,108]⟩:ByteArray),(⟨#[97,110,121]⟩:ByteArray),(⟨#[109,111,115,116]⟩:ByteArray),(⟨#[101,110,117,109]⟩:ByteArray),(⟨#[116,97,98,108,101]⟩:ByteArray),(⟨#[114,111,119]⟩:ByteArray),(⟨#[115,99,111,112,101]⟩:ByteArray),(⟨#[109,101,109,98,101,114,115]⟩:ByteArray),(⟨#[105,110,112,117,116]⟩:ByteArray),(⟨#[100,101,102]⟩:ByteArray),(⟨#[114,117,108,101]⟩:ByteArray),(⟨#[111,102]⟩:ByteArray),(⟨#[111,118,101,114]⟩:ByteArray),(⟨#[112,114,105,111]⟩:ByteArray),(⟨#[102,114,111,109]⟩:ByteArray),(⟨#[116,111]⟩:ByteArray),(⟨#[101,110,100]⟩:ByteArray),(⟨#[119,104,101,110]⟩:ByteArray),(⟨#[105,115]⟩:ByteArray),(⟨#[115,114,99]⟩:ByteArray),(⟨#[98,111,111,108]⟩:ByteArray),(⟨#[105,110,116]⟩:ByteArray),(⟨#[109,111,110,101,121]⟩:ByteArray),(⟨#[114,97,116,101]⟩:ByteArray),(⟨#[100,97,116,101]⟩:ByteArray),(⟨#[100,111,119,110]⟩:ByteArray),(⟨#[117,112]⟩:ByteArray),(⟨#[122,101,114,111]⟩:ByteArray),(⟨#[97,119,97,121]⟩:ByteArray),(⟨#[104,97,108,102]⟩:ByteArray),(⟨#[101,118,101,110]⟩:ByteArray)]:List ByteArray)
def M.mW(N:Nat)(a0:ByteArray):Option Bool:=
((if(Yz ((a0.size:Int)=0))then
some Yx
else
(if(Yz (16<(a0.size:Int)))then
some Yx
else
(mv a0 0).bind λx2=>
(M.pt N x2).bind λy3=>
some (!y3))):Option Bool).bind λj1=>
(if j1 then
some Yy
else
bG (J:=Unit) (R:=Bool) (Loop (S:=Int) (X:=Unit⊕Bool) (λs5=>
(if(Yz (s5<(a0.size:Int)))then
(mv a0 s5).bind λx6=>
(M.zc N x6).bind λy7=>
(if(!y7)then
some (.inr (.inr Yy))
else
some (.inl (WG.wrap (s5+1))))
else
some (.inr (.inl ())))) N 0) λj4=>
(M.rf N).bind λy8=>
Loop (S:=Int) (X:=Bool) (λs9=>
(if(Yz (s9<(y8.length:Int)))then
(idx y8 s9).bind λrJ=>
(if(Yz (rJ=a0))then
some (.inr Yy)
else
some (.inl (WG.wrap (s9+1))))
else
some (.inr Yx))) N 0)
def M.dn(N:Nat)(a0:aa.den)(a1:List cO.den):Option Bool:=
(if(Yz (a0.1=6))then
((if(Yz (0<=a0.2))then
some (Yz (a0.2<(a1.length:Int)))
else
some Yy):Option Bool).bind λj1=>
some j1
else
((if(Yz (1<=a0.1))then
(if(Yz (a0.1<=5))then
some (Yz (a0.2=0))
else
some Yy)
else
some Yy):Option Bool).bind λj2=>
some j2)
def M.lq(N:Nat)(a0:aa.den):Option Bool:=
((if(Yz (0<=a0.1))then
(if(Yz (a0.1<=a0.2))then
some (Yz (a0.2<=109573))
else
some Yy)
else
some Yy):Option Bool).bind λj1=>
some j1
def M.kq(N:Nat)(a0:aa.den)(a1:List cO.den):Option (Int×Int):=
(M.dn N a0 a1).bind λy1=>
(if(!y1)then
some (0,(-1))
else
(if(Yz (a0.1=1))then
some (0,1)
else
(if(Yz (a0.1=2))then
some ((-1000000000000),1000000000000)
else
(if(Yz (a0.1=3))then
some ((-1000000000000000),1000000000000000)
else
(if(Yz (a0.1=4))then
some ((-1000000000),1000000000)
else
(if(Yz (a0.1=5))then
some (0,109572)
else
(idx a1 a0.2).bind λx2=>
some (0,WG.wrap ((x2.2.length:Int)-1))))))))
def M.jr(N:Nat)(a0:Int):Option Bool:=
((if(Yz (1<=a0))then
(if(Yz (a0<=8))then
some Yx
else
(if(Yz (36<=a0))then
some (Yz (a0<=39))
else
some Yy))
else
(if(Yz (36<=a0))then
some (Yz (a0<=39))
else
some Yy)):Option Bool).bind λj1=>
(if j1 then
some Yx
else
((if(Yz (a0=14))then
some Yx
else
(if(Yz (a0=15))then
some Yx
else
(if(Yz (a0=16))then
some Yx
else
(if(Yz (a0=33))then
some Yx
else
some (Yz (a0=34)))))):Option Bool).bind λj2=>
some j2)
def M.cg(N:Nat)(a0:Int):Option (aa.den):=
some (a0,0)
def M.il(N:Nat)(a0:aa.den)(a1:aR.den):Option Bool:=
((if(Yz (a0.1=1))then
some (Yz (a0.1=1))
else
(if(Yz (a0.1=2))then
some (Yz (a0.1=2))
else
(if(Yz (a0.1=3))then
some (Yz (a0.1=3))
else
(if(Yz (a0.1=4))then
some (Yz (a0.1=4))
else
some (Yz (a0.1=5)))))):Option Bool).bind λj1=>
(if j1 then
(M.cg N a0.1).bind λy2=>
(M.kq N y2 a1.1).bind λy3=>
((if(Yz (y3.1<=a0.2))then
some (Yz (a0.2<=y3.2))
else
some Yy):Option Bool).bind λj4=>
some j4
else
((if(Yz (a0.1=14))then
some (Yz (a0.1=14))
else
(if(Yz (a0.1=15))then
some (Yz (a0.1=15))
else
some (Yz (a0.1=16)))):Option Bool).bind λj5=>
(if j5 then
((if(Yz (0<=a0.2))then
some (Yz (a0.2<=5))
else
some Yy):Option Bool).bind λj6=>
some j6
else
(if(Yz (a0.1=34))then
((if(Yz (0<=a0.2))then
some (Yz ((Yd a0.2 8)<=5))
else
some Yy):Option Bool).bind λj7=>
some j7
else
(if(Yz (a0.1=6))then
some (Yz (0<=a0.2))
else
some Yx))))
def M.aJ(N:Nat)(a0:aa.den)(a1:aR.den):Option Bool:=
(if(Yz (a0.1=6))then
((if(Yz ((WG.wrap (XR a0.2 16))<(a1.1.length:Int)))then
(idx a1.1 (WG.wrap (XR a0.2 16))).bind λx2=>
some (Yz ((Yd a0.2 16)<(x2.2.length:Int)))
else
some Yy):Option Bool).bind λj1=>
some j1
else
(if(Yz (a0.1=7))then
((if(Yz (0<=a0.2))then
some (Yz (a0.2<(a1.2.2.1.length:Int)))
else
some Yy):Option Bool).bind λj3=>
some j3
else
(if(Yz (a0.1=8))then
((if(Yz (0<=a0.2))then
some (Yz (a0.2<(a1.2.2.2.1.length:Int)))
else
some Yy):Option Bool).bind λj4=>
some j4
else
(if(Yz (a0.1=33))then
((if(Yz (0<=a0.2))then
some (Yz (a0.2<(a1.2.1.length:Int)))
else
some Yy):Option Bool).bind λj5=>
some j5
else
(if(Yz (a0.1=34))then
some (Yz ((WG.wrap (XR a0.2 8))<(a1.2.1.length:Int)))
else
(if(Yz (a0.1=35))then
some a1.2.2.2.2.2
else
((if(Yz (a0.1=36))then
some (Yz (a0.1=36))
else
(if(Yz (a0.1=37))then
some (Yz (a0.1=37))
else
(if(Yz (a0.1=38))then
some (Yz (a0.1=38))
else
some (Yz (a0.1=39))))):Option Bool).bind λj6=>
(if j6 then
((if a1.2.2.2.2.2 then
(if(Yz (0<=a0.2))then
some (Yz (a0.2<(a1.2.2.2.2.1.length:Int)))
else
some Yy)
else
some Yy):Option Bool).bind λj7=>
some j7
else
some Yx)))))))
def M.fT(N:Nat)(a0:Int):Option Bool:=
((if(Yz (a0=2))then
some Yx
else
(if(Yz (a0=3))then
some Yx
else
some (Yz (a0=4)))):Option Bool).bind λj1=>
some j1
def M.ei(N:Nat)(a0:Int):Option Bool:=
((M.fT N a0).bind λy2=>
(if y2 then
some Yx
else
some (Yz (a0=5))):Option Bool).bind λj1=>
some j1
def M.bi(N:Nat)(a0:aa.den)(a1:aR.den):Option (aa.den×Bool):=
((if(Yz (a0.1=6))then
some (6,WG.wrap (XR a0.2 16))
else
(if(Yz (a0.1=7))then
(idx a1.2.2.1 a0.2).bind λx2=>
some x2
else
(if(Yz (a0.1=8))then
(idx a1.2.2.2.1 a0.2).bind λx3=>
some x3
else
(if(Yz (a0.1=9))then
(M.cg N 5).bind λy4=>
some y4
else
(if(Yz (a0.1=35))then
(M.cg N 2).bind λy5=>
some y5
else
((if(Yz (a0.1=36))then
some (Yz (a0.1=36))
else
(if(Yz (a0.1=37))then
some (Yz (a0.1=37))
else
(if(Yz (a0.1=38))then
some (Yz (a0.1=38))
else
some (Yz (a0.1=39))))):Option Bool).bind λj6=>
(if j6 then
(idx a1.2.2.2.2.1 a0.2).bind λx7=>
some x7
else
(M.cg N a0.1).bind λy8=>
some y8)))))):Option (aa.den)).bind λj1=>
(M.dn N j1 a1.1).bind λy9=>
((if(Yz (a0.1=36))then
(if y9 then
(if(Yz (j1.1=2))then
some Yx
else
some (Yz (j1.1=3)))
else
some Yy)
else
((if(Yz (a0.1=37))then
some (Yz (a0.1=37))
else
some (Yz (a0.1=38))):Option Bool).bind λCo=>
(if Co then
(if y9 then
some (Yz (j1.1=1))
else
some Yy)
else
(if(Yz (a0.1=39))then
(if y9 then
(M.ei N j1.1).bind λHn=>
some Hn
else
some Yy)
else
some y9))):Option Bool).bind λrI=>
some (j1,rI)
def M.b8(N:Nat)(a0:aa.den)(a1:aa.den)(a2:aR.den):Option (aa.den×Bool):=
(if(Yz (a0.1=10))then
(M.fT N a1.1).bind λy1=>
some (a1,y1)
else
(if(Yz (a0.1=25))then
some (a1,Yz (a1.1=1))
else
((if(Yz (a0.1=31))then
some (Yz (a0.1=31))
else
some (Yz (a0.1=32))):Option Bool).bind λj2=>
(if j2 then
(M.cg N 2).bind λy3=>
some (y3,Yz (a1.1=5))
else
(if(Yz (a0.1=33))then
(idx a2.2.1 a0.2).bind λx4=>
((M.dn N x4.2.1 a2.1).bind λy6=>
(if y6 then
(M.dn N x4.2.2.1 a2.1).bind λy7=>
(if y7 then
some ((jY aa a1 x4.2.1),x4.2.2.1)
else
some (Yy,x4.2.2.1))
else
some (Yy,x4.2.2.1)):Option (Bool×aa.den)).bind λj5=>
some (j5.2,j5.1)
else
(idx a2.2.1 (WG.wrap (XR a0.2 8))).bind λx8=>
((if(Yz (a1.1=3))then
(M.cg N 3).bind λMb=>
(if(jY aa x8.2.1 Mb)then
(M.cg N 4).bind λza=>
some ((jY aa x8.2.2.1 za),a1)
else
some (Yy,a1))
else
some (Yy,a1)):Option (Bool×aa.den)).bind λj9=>
some (j9.2,j9.1)))))
def M.fU(N:Nat)(a0:Int)(a1:Int)(a2:Int):Option (aa.den×Bool):=
(if(Yz (a0=13))then
((M.cg N a1).bind λy2=>
(if(Yz (a2=2))then
(if(Yz (a1=2))then
some (Yx,y2)
else
some (Yz (a1=3),y2))
else
some (Yy,y2)):Option (Bool×aa.den)).bind λj1=>
some (j1.2,j1.1)
else
(if(Yz (a0=14))then
((M.cg N a1).bind λy4=>
(if(Yz (a2=4))then
(if(Yz (a1=3))then
some (Yx,y4)
else
some (Yz (a1=4),y4))
else
some (Yy,y4)):Option (Bool×aa.den)).bind λj3=>
some (j3.2,j3.1)
else
((if(Yz (a1=3))then
some (Yz (a2=3))
else
some Yy):Option Bool).bind λj5=>
(if j5 then
(M.cg N 4).bind λy6=>
some (y6,Yx)
else
((M.cg N a1).bind λy8=>
(if(Yz (a2=2))then
(if(Yz (a1=2))then
some (Yx,y8)
else
some (Yz (a1=3),y8))
else
some (Yy,y8)):Option (Bool×aa.den)).bind λj7=>
some (j7.2,j7.1))))
def M.dV(N:Nat)(a0:Int)(a1:aa.den)(a2:aa.den):Option (aa.den×Bool):=
((if(Yz (a0=11))then
some (Yz (a0=11))
else
some (Yz (a0=12))):Option Bool).bind λj1=>
(if j1 then
((if(jY aa a1 a2)then
(M.fT N a1.1).bind λy3=>
some (y3,a1)
else
some (Yy,a1)):Option (Bool×aa.den)).bind λj2=>
some (j2.2,j2.1)
else
((if(Yz (a0=13))then
some (Yz (a0=13))
else
(if(Yz (a0=14))then
some (Yz (a0=14))
else
some (Yz (a0=15)))):Option Bool).bind λj4=>
(if j4 then
(M.fU N a0 a1.1 a2.1).bind λy5=>
some (y5.1,y5.2)
else
(if(Yz (a0=16))then
((if(Yz (a1.1=3))then
some (Yz (a2.1=3),a1)
else
some (Yy,a1)):Option (Bool×aa.den)).bind λj6=>
some (j6.2,j6.1)
else
((if(Yz (a0=17))then
some (Yz (a0=17))
else
some (Yz (a0=18))):Option Bool).bind λj7=>
(if j7 then
((if(jY aa a1 a2)then
(M.ei N a1.1).bind λy9=>
some (y9,a1)
else
some (Yy,a1)):Option (Bool×aa.den)).bind λj8=>
some (j8.2,j8.1)
else
((if(Yz (a0=19))then
some (Yz (a0=19))
else
some (Yz (a0=20))):Option Bool).bind λrI=>
(if rI then
(M.cg N 1).bind λza=>
some (za,(jY aa a1 a2))
else
((if(Yz (a0=21))then
some (Yz (a0=21))
else
some (Yz (a0=22))):Option Bool).bind λvk=>
(if vk then
((M.cg N 1).bind λtj=>
(if(jY aa a1 a2)then
(M.ei N a1.1).bind λIA=>
some (IA,tj)
else
some (Yy,tj)):Option (Bool×aa.den)).bind λC0=>
some (C0.2,C0.1)
else
((if(Yz (a0=23))then
some (Yz (a0=23))
else
some (Yz (a0=24))):Option Bool).bind λGm=>
(if Gm then
((if(Yz (a1.1=1))then
some (Yz (a2.1=1),a1)
else
some (Yy,a1)):Option (Bool×aa.den)).bind λKA=>
some (KA.2,KA.1)
else
((if(Yz (a0=27))then
some (Yz (a0=27))
else
some (Yz (a0=28))):Option Bool).bind λMz=>
(if Mz then
((if(Yz (a1.1=5))then
some (Yz (a2.1=2),a1)
else
some (Yy,a1)):Option (Bool×aa.den)).bind λRY=>
some (RY.2,RY.1)
else
((M.cg N 2).bind λKB=>
(if(Yz (a1.1=5))then
some (Yz (a2.1=5),KB)
else
some (Yy,KB)):Option (Bool×aa.den)).bind λKy=>
some (Ky.2,Ky.1)))))))))
def M.az(N:Nat)(a0:aa.den)(a1:List aa.den)(a2:aR.den):Option (aa.den×Int):=
((if(!Yz (a0.2=0))then
(M.jr N a0.1).bind λy2=>
some (!y2)
else
some Yy):Option Bool).bind λj1=>
(if j1 then
some ((0,0),2)
else
(M.il N a0 a2).bind λy3=>
(if(!y3)then
some ((0,0),3)
else
(M.aJ N a0 a2).bind λy4=>
(if(!y4)then
some ((0,0),6)
else
((if(Yz ((a1.length:Int)=0))then
(M.bi N a0 a2).bind λy6=>
some (y6.2,y6.1)
else
(if(Yz ((a1.length:Int)=1))then
(idx a1 0).bind λx7=>
(M.b8 N a0 x7 a2).bind λy8=>
some (y8.2,y8.1)
else
(if(Yz ((a1.length:Int)=2))then
(idx a1 0).bind λx9=>
(idx a1 1).bind λrJ=>
(M.dV N a0.1 x9 rJ).bind λza=>
some (za.2,za.1)
else
(idx a1 1).bind λxG=>
(idx a1 0).bind λr4=>
(if(Yz (r4.1=1))then
(idx a1 1).bind λHm=>
(idx a1 2).bind λGp=>
some ((jY aa Hm Gp),xG)
else
some (Yy,xG))))):Option (Bool×aa.den)).bind λj5=>
(if(!j5.1)then
some ((0,0),8)
else
some (j5.2,0)))))
end
end
section
noncomputable section
set_option maxRecDepth 100000
set_option linter.unusedVariables false
def M.iK(N:Nat)(a0:aa.den)(a1:Int):Option Bool:=
((M.lq N a0).bind λy2=>
(if y2 then
(if(Yz (a0.1<=a1))then
some (Yz (a1<a0.2))
else
some Yy)
else
some Yy):Option Bool).bind λj1=>
some j1
def M.jt(N:Nat)(a0:aZ.den)(a1:Int)(a2:Int):Option (List Int):=
Loop (S:=Int×List Int) (X:=List Int) (λs1=>
(if(Yz (s1.1<(a0.2.2.2.2.length:Int)))then
(((idx a0.2.2.2.2 s1.1).bind λx4=>
(if(Yz (x4.2.1=a1))then
(idx a0.2.2.2.2 s1.1).bind λx5=>
(M.iK N x5.2.2.2.2.1 a2).bind λy6=>
some y6
else
some Yy):Option Bool).bind λj3=>
(if j3 then
(bW s1.2 ([s1.1]:List Int)).bind λl7=>
some l7
else
some s1.2):Option (List Int)).bind λj2=>
some (.inl (WG.wrap (s1.1+1),j2))
else
some (.inr s1.2))) N (0,([]:List Int))
def M.lr(N:Nat)(a0:List Int)(a1:Int):Option Int:=
Loop (S:=Int) (X:=Int) (λs1=>
(if(Yz (s1<(a0.length:Int)))then
(idx a0 s1).bind λx2=>
(if(Yz (x2=a1))then
some (.inr s1)
else
some (.inl (WG.wrap (s1+1))))
else
some (.inr (-1)))) N 0
def M.kr(N:Nat)(a0:aZ.den)(a1:List Int)(a2:Int):Option Int:=
(idx a0.2.2.2.2 a2).bind λx1=>
Loop (S:=Int×Int) (X:=Int) (λs2=>
((if(Yz (0<=s2.2))then
some (Yz (s2.2<s2.1))
else
some Yy):Option Bool).bind λj3=>
(if j3 then
(M.lr N a1 s2.2).bind λy4=>
(if(Yz (0<=y4))then
some (.inr y4)
else
(idx a0.2.2.2.2 s2.2).bind λx5=>
some (.inl (s2.2,x5.2.2.1)))
else
some (.inr (-1)))) N (a2,x1.2.2.1)
def M.ku(N:Nat)(a0:aZ.den)(a1:Int)(a2:Int):Option ((List Int)×(List Int)×List Int):=
(M.jt N a0 a1 a2).bind λy1=>
(Loop (S:=Int×(List Int)×List Int) (X:=(List Int)×List Int) (λs3=>
(if(Yz (s3.1<(y1.length:Int)))then
(idx y1 s3.1).bind λx4=>
(M.kr N a0 y1 x4).bind λy5=>
(bW s3.2.1 ([y5]:List Int)).bind λl6=>
(idx y1 s3.1).bind λx7=>
(idx a0.2.2.2.2 x7).bind λx8=>
(bW s3.2.2 ([x8.2.2.2.1]:List Int)).bind λl9=>
some (.inl (WG.wrap (s3.1+1),l6,l9))
else
some (.inr (s3.2.1,s3.2.2)))) N (0,([]:List Int),([]:List Int)):Option ((List Int)×List Int)).bind λj2=>
some (y1,j2.1,j2.2)
def M.mX(N:Nat)(a0:List aa.den)(a1:List aa.den):Option Bool:=
(if(!Yz ((a0.length:Int)=(a1.length:Int)))then
some Yy
else
Loop (S:=Int) (X:=Bool) (λs1=>
((if(Yz (s1<(a0.length:Int)))then
some (Yz (s1<(a1.length:Int)))
else
some Yy):Option Bool).bind λj2=>
(if j2 then
(idx a0 s1).bind λx3=>
(idx a1 s1).bind λx4=>
(if(!(jY aa x3 x4))then
some (.inr Yy)
else
some (.inl (WG.wrap (s1+1))))
else
some (.inr Yx))) N 0)
def M.kw(N:Nat)(a0:List (List aa.den))(a1:List aa.den):Option Int:=
Loop (S:=Int) (X:=Int) (λs1=>
(if(Yz (s1<(a0.length:Int)))then
(idx a0 s1).bind λx2=>
(M.mX N x2 a1).bind λy3=>
(if y3 then
some (.inr s1)
else
some (.inl (WG.wrap (s1+1))))
else
some (.inr (-1)))) N 0
def M.iL(N:Nat)(a0:List Int)(a1:List Int):Option Int:=
(if(!Yz ((a0.length:Int)=(a1.length:Int)))then
some 2
else
(if(Yz (8<(a0.length:Int)))then
some 4
else
Loop (S:=Int) (X:=Int) (λs1=>
(if(Yz (s1<(a0.length:Int)))then
((idx a0 s1).bind λx3=>
(if(Yz (x3<(-1)))then
some Yx
else
(idx a0 s1).bind λx4=>
some (Yz (s1<=x4))):Option Bool).bind λj2=>
(if j2 then
some (.inr 9)
else
((idx a1 s1).bind λx6=>
(if(Yz (x6<0))then
some Yx
else
(idx a1 s1).bind λx7=>
some (Yz (9<x7))):Option Bool).bind λj5=>
(if j5 then
some (.inr 3)
else
some (.inl (WG.wrap (s1+1)))))
else
some (.inr 0))) N 0))
def M.lu(N:Nat)(a0:List Int)(a1:Int):Option (List Int):=
Loop (S:=Int×List Int) (X:=List Int) (λs1=>
(if(Yz (s1.1<(a0.length:Int)))then
((idx a0 s1.1).bind λx3=>
(if(Yz (x3=a1))then
(bW s1.2 ([s1.1]:List Int)).bind λl4=>
some l4
else
some s1.2):Option (List Int)).bind λj2=>
some (.inl (WG.wrap (s1.1+1),j2))
else
some (.inr s1.2))) N (0,([]:List Int))
mutual
def M.dJ(B:Nat):Nat->(List Int)->(List Int)->(List Bool)->Int->Option Int
 |0,_,_,_,_=>Yw
 |N+1,a0,a1,a2,a3=>
  (M.kz B N a0 a1 a2 a3).bind λy2=>
  (if(Yz ((y2.length:Int)=0))then
  some (-1)
  else
  (if(Yz (1<(y2.length:Int)))then
  some (-2)
  else
  (idx y2 0).bind λx5=>
  (M.cz B N a0 a1 a2 x5).bind λy6=>
  some y6))
def M.kz(B:Nat):Nat->(List Int)->(List Int)->(List Bool)->Int->Option (List Int)
 |0,_,_,_,_=>Yw
 |N+1,a0,a1,a2,a3=>
  (M.lu B a0 a3).bind λy2=>
  Loop (S:=Int×List Int) (X:=List Int) (λrh=>
  (if(Yz (rh.1<(y2.length:Int)))then
  ((idx y2 rh.1).bind λQE=>
  (M.cz B N a0 a1 a2 QE).bind λQF=>
  (if(Yz (QF=(-1)))then
  some rh.2
  else
  (((if(Yz (0<(rh.2.length:Int)))then
  (idx y2 rh.1).bind λQG=>
  (idx a1 QG).bind λQH=>
  (idx rh.2 0).bind λQI=>
  (idx a1 QI).bind λQJ=>
  some (Yz (QJ<QH))
  else
  some Yy):Option Bool).bind λQK=>
  (if QK then
  some ([]:List Int)
  else
  some rh.2):Option (List Int)).bind λHq=>
  ((if(Yz ((Hq.length:Int)=0))then
  some Yx
  else
  (idx y2 rh.1).bind λQL=>
  (idx a1 QL).bind λQM=>
  (idx Hq 0).bind λQN=>
  (idx a1 QN).bind λQO=>
  some (Yz (QM=QO))):Option Bool).bind λQP=>
  (if QP then
  (idx y2 rh.1).bind λQR=>
  (bW Hq ([QR]:List Int)).bind λQS=>
  some QS
  else
  some Hq)):Option (List Int)).bind λQT=>
  some (.inl (WG.wrap (rh.1+1),QT))
  else
  some (.inr rh.2))) B (0,([]:List Int))
def M.cz(B:Nat):Nat->(List Int)->(List Int)->(List Bool)->Int->Option Int
 |0,_,_,_,_=>Yw
 |N+1,a0,a1,a2,a3=>
  (M.dJ B N a0 a1 a2 a3).bind λy2=>
  ((if(Yz (y2=(-1)))then
  (idx a2 a3).bind λx7=>
  some x7
  else
  some Yy):Option Bool).bind λj6=>
  (if j6 then
  some a3
  else
  some y2)
end
def M.iM(N:Nat)(a0:List Int)(a1:List Int)(a2:List Bool)(a3:Int):Option Int:=M.dJ N N a0 a1 a2 a3
def M.fV(N:Nat)(a0:List Int)(a1:List Int)(a2:List Bool):Option Int:=
((M.iL N a0 a1).bind λy2=>
(if(!Yz (y2=0))then
some Yx
else
some (!Yz ((a2.length:Int)=(a0.length:Int)))):Option Bool).bind λj1=>
(if j1 then
some (-1)
else
(M.iM N a0 a1 a2 (-1)).bind λy3=>
some y3)
def M.fh(N:Nat)(a0:aa.den)(a1:Int):Option Bool:=
some (Yz ((al .and .i64 a1 a0.1)=a0.2))
def M.lv(N:Nat)(a0:Int):Option Int:=
(if(Yz (a0<0))then
some 0
else
(if(Yz (8<a0))then
some 8
else
some a0))
def M.mY(N:Nat)(a0:Int):Option Int:=
Loop (S:=Int×Int) (X:=Int) (λs1=>
(if(Yz (s1.2<a0))then
some (.inl (WG.wrap (s1.1*2),WG.wrap (s1.2+1)))
else
some (.inr s1.1))) N (1,0)
def M.ju(N:Nat)(a0:List Int)(a1:Int):Option (List Bool):=
(M.mY N a1).bind λy1=>
(sf y1 Yy).bind λl2=>
Loop (S:=Int×List Bool) (X:=List Bool) (λs3=>
(if(Yz (s3.1<(a0.length:Int)))then
(((idx a0 s3.1).bind λx6=>
(if(Yz (0<=x6))then
(idx a0 s3.1).bind λx7=>
some (Yz (x7<(s3.2.length:Int)))
else
some Yy):Option Bool).bind λj5=>
(if j5 then
(idx a0 s3.1).bind λx8=>
(idx s3.2 x8).bind λx9=>
some (be s3.2 x8 Yx)
else
some s3.2):Option (List Bool)).bind λj4=>
some (.inl (WG.wrap (s3.1+1),j4))
else
some (.inr s3.2))) N (0,l2)
def M.mZ(N:Nat)(a0:Int):Option Int:=
Loop (S:=Int×Int) (X:=Int) (λs1=>
(if(Yz (0<s1.1))then
some (.inl (WG.wrap (XR s1.1 2),WG.wrap (s1.2+(Yd s1.1 2))))
else
some (.inr s1.2))) N (a0,0)
def M.lz(N:Nat)(a0:aa.den)(a1:List Bool)(a2:List Bool):Option Bool:=
Loop (S:=Int) (X:=Bool) (λs1=>
(if(Yz (s1<(a1.length:Int)))then
((M.fh N a0 s1).bind λy3=>
(if y3 then
(idx a1 s1).bind λx4=>
(if x4 then
(idx a2 s1).bind λx5=>
some (!x5)
else
some Yy)
else
some Yy):Option Bool).bind λj2=>
(if j2 then
some (.inr Yx)
else
some (.inl (WG.wrap (s1+1))))
else
some (.inr Yy))) N 0
def M.fk(N:Nat)(a0:aa.den)(a1:List Bool):Option Bool:=
Loop (S:=Int) (X:=Bool) (λs1=>
(if(Yz (s1<(a1.length:Int)))then
((M.fh N a0 s1).bind λy3=>
(if y3 then
(idx a1 s1).bind λx4=>
some (!x4)
else
some Yy):Option Bool).bind λj2=>
(if j2 then
some (.inr Yy)
else
some (.inl (WG.wrap (s1+1))))
else
some (.inr Yx))) N 0
def M.lA(N:Nat)(a0:aa.den)(a1:List Bool):Option Bool:=
(M.fk N a0 a1).bind λy1=>
(if(!y1)then
some Yy
else
Loop (S:=Int) (X:=Bool) (λs2=>
(if(Yz (s2<(a1.length:Int)))then
((if(!Yz ((al .and .i64 a0.1 s2)=0))then
(M.fk N (al .andNot .i64 a0.1 s2,al .andNot .i64 a0.2 s2) a1).bind λy4=>
some y4
else
some Yy):Option Bool).bind λj3=>
(if j3 then
some (.inr Yy)
else
some (.inl (WG.wrap (s2*2))))
else
some (.inr Yx))) N 1)
def M.iN(N:Nat)(a0:List Int)(a1:Int):Option (List aa.den):=
(M.lv N a1).bind λy1=>
(M.ju N a0 y1).bind λy2=>
(sf (y2.length:Int) Yy).bind λl3=>
Loop (S:=Int×(List Bool)×List aa.den) (X:=List aa.den) (λs4=>
(if(Yz (s4.1<=y1))then
(Loop (S:=Int×(List Bool)×List aa.den) (X:=(List Bool)×List aa.den) (λs6=>
(if(Yz (s6.1<(y2.length:Int)))then
(((M.mZ N s6.1).bind λy9=>
(if(!Yz (y9=s4.1))then
some (s6.2.1,s6.2.2)
else
Loop (S:=Int×(List Bool)×List aa.den) (X:=(List Bool)×List aa.den) (λrc=>
(if(Yz (rc.1<=s6.1))then
((((if(!Yz ((al .and .i64 rc.1 s6.1)=rc.1))then
some Yx
else
(M.lz N (s6.1,rc.1) y2 rc.2.1).bind λtj=>
(if(!tj)then
some Yx
else
(M.lA N (s6.1,rc.1) y2).bind λIA=>
some (!IA))):Option Bool).bind λC0=>
(if C0 then
some (rc.2.1,rc.2.2)
else
(Loop (S:=Int×List Bool) (X:=List Bool) (λAx=>
(if(Yz (Ax.1<(y2.length:Int)))then
((idx Ax.2 Ax.1).bind λMi=>
(if Mi then
(idx Ax.2 Ax.1).bind λWe=>
some (be Ax.2 Ax.1 Yx)
else
(M.fh N (s6.1,rc.1) Ax.1).bind λKB=>
(idx Ax.2 Ax.1).bind λJD=>
some (be Ax.2 Ax.1 KB)):Option (List Bool)).bind λMz=>
some (.inl (WG.wrap (Ax.1+1),Mz))
else
some (.inr Ax.2))) N (0,rc.2.1):Option (List Bool)).bind λGm=>
(bW rc.2.2 ([(s6.1,rc.1)]:List aa.den)).bind λQU=>
some (Gm,QU)):Option ((List Bool)×List aa.den)).bind λvk=>
some (vk.1,vk.2):Option ((List Bool)×List aa.den)).bind λCo=>
some (.inl (WG.wrap (rc.1+1),Co.1,Co.2))
else
some (.inr (rc.2.1,rc.2.2)))) N (0,s6.2.1,s6.2.2)):Option ((List Bool)×List aa.den)).bind λj8=>
some (j8.1,j8.2):Option ((List Bool)×List aa.den)).bind λj7=>
some (.inl (WG.wrap (s6.1+1),j7.1,j7.2))
else
some (.inr (s6.2.1,s6.2.2)))) N (0,s4.2.1,s4.2.2):Option ((List Bool)×List aa.den)).bind λj5=>
some (.inl (WG.wrap (s4.1+1),j5.1,j5.2))
else
some (.inr s4.2.2))) N (0,l3,([]:List aa.den))
def M.gq(N:Nat)(a0:ig.den)(a1:Int)(a2:Int)(a3:Int):Option (Int×(List (List aa.den))×(List Int)×List aj.den):=
(idx a0.2.2 a1).bind λx1=>
(M.ku N x1 a2 a3).bind λy2=>
(Loop (S:=Int×Int×(List (List aa.den))×List Int) (X:=Int×(List (List aa.den))×List Int) (λs4=>
(if(Yz (s4.1<(y2.1.length:Int)))then
((idx y2.1 s4.1).bind λx6=>
(idx x1.2.2.2.2 x6).bind λx7=>
((if(Yz (0<(x7.2.2.2.2.2.1.length:Int)))then
(M.kw N s4.2.2.1 x7.2.2.2.2.2.1).bind λy9=>
some (Yz (y9<0))
else
some Yy):Option Bool).bind λj8=>
(if j8 then
(bW ([]:List aa.den) x7.2.2.2.2.2.1).bind λHl=>
(bW s4.2.2.1 ([Hl]:List (List aa.den))).bind λHp=>
(idx y2.1 s4.1).bind λxG=>
(bW s4.2.2.2 ([xG]:List Int)).bind λMl=>
some (s4.2.1,Hp,Ml)
else
some (s4.2.1,s4.2.2.1,s4.2.2.2)):Option (Int×(List (List aa.den))×List Int)).bind λj5=>
some (.inl (WG.wrap (s4.1+1),j5.1,j5.2.1,j5.2.2))
else
some (.inr (s4.2.1,s4.2.2.1,s4.2.2.2)))) N (0,a2,([]:List (List aa.den)),([]:List Int)):Option (Int×(List (List aa.den))×List Int)).bind λj3=>
(Loop (S:=Int×List Int) (X:=List Int) (λw5=>
(oj .i64 1 (j3.2.1.length:Int)).bind λMm=>
(if(Yz (w5.1<Mm))then
((Loop (S:=Int×List Bool) (X:=List Bool) (λKC=>
(if(Yz (KC.1<(y2.1.length:Int)))then
((idx y2.1 KC.1).bind λUZ=>
(idx x1.2.2.2.2 UZ).bind λJD=>
(if(Yz ((JD.2.2.2.2.2.1.length:Int)=0))then
(bW KC.2 ([Yx]:List Bool)).bind λQU=>
some QU
else
(M.kw N j3.2.1 JD.2.2.2.2.2.1).bind λU0=>
(Bf .i64 w5.1 U0).bind λQa=>
(bW KC.2 ([Yz ((al .and .i64 Qa 1)=1)]:List Bool)).bind λU1=>
some U1):Option (List Bool)).bind λKy=>
some (.inl (WG.wrap (KC.1+1),Ky))
else
some (.inr KC.2))) N (0,([]:List Bool)):Option (List Bool)).bind λMz=>
(M.fV N y2.2.1 y2.2.2 Mz).bind λQV=>
((if(Yz (0<=QV))then
(idx y2.1 QV).bind λQe=>
some Qe
else
some QV):Option Int).bind λQd=>
(bW w5.2 ([Qd]:List Int)).bind λU2=>
some U2:Option (List Int)).bind λKA=>
some (.inl (WG.wrap (w5.1+1),KA))
else
some (.inr w5.2))) N (0,([]:List Int)):Option (List Int)).bind λGn=>
(Loop (S:=Int×Int×(List (List aa.den))×(List Int)×List aj.den) (X:=Int×(List (List aa.den))×(List Int)×List aj.den) (λxH=>
(if(Yz (xH.1<(x1.2.2.2.2.length:Int)))then
(((Loop (S:=Int×List Int) (X:=List Int) (λJP=>
(if(Yz (JP.1<(Gn.length:Int)))then
((idx Gn JP.1).bind λU3=>
(if(Yz (U3=xH.1))then
(bW JP.2 ([JP.1]:List Int)).bind λU4=>
some U4
else
some JP.2):Option (List Int)).bind λU5=>
some (.inl (WG.wrap (JP.1+1),U5))
else
some (.inr JP.2))) N (0,([]:List Int)):Option (List Int)).bind λRZ=>
(if(Yz ((RZ.length:Int)=0))then
some (xH.2.1,xH.2.2.1,xH.2.2.2.1,xH.2.2.2.2)
else
(M.iN N RZ (j3.2.1.length:Int)).bind λR0=>
Loop (S:=Int×Int×(List (List aa.den))×(List Int)×List aj.den) (X:=Int×(List (List aa.den))×(List Int)×List aj.den) (λEV=>
(if(Yz (EV.1<(R0.length:Int)))then
(idx R0 EV.1).bind λU6=>
(bW EV.2.2.2.2 ([(U6,xH.1)]:List aj.den)).bind λU7=>
some (.inl (WG.wrap (EV.1+1),EV.2.1,EV.2.2.1,EV.2.2.2.1,U7))
else
some (.inr (EV.2.1,EV.2.2.1,EV.2.2.2.1,EV.2.2.2.2)))) N (0,xH.2.1,xH.2.2.1,xH.2.2.2.1,xH.2.2.2.2)):Option (Int×(List (List aa.den))×(List Int)×List aj.den)).bind λNB=>
some (NB.1,NB.2.1,NB.2.2.1,NB.2.2.2):Option (Int×(List (List aa.den))×(List Int)×List aj.den)).bind λNC=>
some (.inl (WG.wrap (xH.1+1),NC.1,NC.2.1,NC.2.2.1,NC.2.2.2))
else
some (.inr (xH.2.1,xH.2.2.1,xH.2.2.2.1,xH.2.2.2.2)))) N ((-2),j3.1,j3.2.1,j3.2.2,([]:List aj.den)):Option (Int×(List (List aa.den))×(List Int)×List aj.den)).bind λKz=>
some (Kz.1,Kz.2.1,Kz.2.2.1,Kz.2.2.2)
def M.cZ(N:Nat)(a0:bJ.den)(a1:Int):Option Bool:=
((if(Yz (8<(a0.2.1.length:Int)))then
some Yx
else
(if(Yz (300<(a0.2.2.2.length:Int)))then
some Yx
else
(M.cR N a0).bind λy2=>
some (!Yz (y2=0)))):Option Bool).bind λj1=>
(if j1 then
(M.fF N).bind λy3=>
some y3
else
(oj .i64 1 (a0.2.1.length:Int)).bind λx4=>
(GD (WG.wrap a1) x4).bind λx5=>
(M.c9 N a0 x5).bind λy6=>
bG (J:=Unit) (R:=Bool) (Loop (S:=Int) (X:=Unit⊕Bool) (λs8=>
(if(Yz (s8<(a0.2.2.2.length:Int)))then
((idx a0.2.2.2 s8).bind λrJ=>
(M.cy N rJ.1 x5).bind λza=>
(if za then
(idx a0.2.2.2 s8).bind λxG=>
some (!Yz (xG.2=y6.1))
else
some Yy):Option Bool).bind λj9=>
(if j9 then
some (.inr (.inr Yy))
else
some (.inl (WG.wrap (s8+1))))
else
some (.inr (.inl ())))) N 0) λj7=>
((if y6.2 then
(M.fF N).bind λtj=>
some tj
else
some Yy):Option Bool).bind λC0=>
some C0)
theorem W6(N:Nat):Fo 6 (.i1 [.g bJ, .l (.int .u8)]) (.i1 [.l .bool]) (u2 (M.cZ N)):=fz N [ck (W8 N),ck (RW N),ck (RX N),ck (NA N)] (.o (.o (.two (.mb 25 96) (.o (.o (.join ⟨[],[],[],320⟩ (.o (.two (.lp 9 336 (.o (.two (.two (.mb 62 416) .nil) .nil))) .nil)) (.mb 4 320))))))) Tryz.func6
end
end
section
theorem eX{n:Int}(h0: -9223372036854775808<=n)(h1:n<=9223372036854775807):WG.wrap n=n:=by
 simp[IntKind.wrap,IntKind.bits,IntKind.signed];omega
theorem aB{α:Type}{l:List α}{k:Nat}(h:k<l.length):idx l (k:Int)=some l[k]:=by
 unfold idx;rw[YB (by omega)];simp[h]
theorem nS{α:Type}{a:α}{l:List α}:idx (a::l) 0=some a:=rfl
theorem eY{α:Type}{l m:List α}(h:l.length+m.length<=4294967296):bW l m=some (l++m):=YB h
theorem oW{S X:Type}{body:S->Option (S⊕X)}(I:S->Prop)(μ:S->Nat)(Q:X->Prop)
 (step:∀s,I s->(∃s',body s=some (.inl s')/\I s'/\μ s'<μ s)\/∃x,body s=some (.inr x)/\Q x):
 ∀N s,I s->μ s<N->∃x,Loop body N s=some x/\Q x
 |0,_,_,h=>absurd h (by omega)
 |N+1,s,hi,av=>by
  rcases step s hi with⟨s',hb,gC,hm⟩|⟨x,hb,hq⟩
  .obtain⟨x,hx,hq⟩:=oW I μ Q step N s' gC (by omega);exact⟨x,by unfold Loop;rw[hb];exact hx,hq⟩
  .exact⟨x,by unfold Loop;rw[hb],hq⟩
theorem zd{S X:Type}{body:S->Option (S⊕X)}(st:Nat->S){x:X}(m:Nat)(hs:∀i,i<m->body (st i)=some (.inl (st (i+1))))(he:body (st m)=some (.inr x)){N:Nat}(hN:m<N):Loop body N (st 0)=some x:=by
 have:∀k i N,i+k=m->k<N->Loop body N (st i)=some x:=by
  intro k
  induction k with
  |zero=>rintro i (_|N) hi hN;.omega
         obtain rfl:i=m:=by omega
         unfold Loop;rw[he]
  |succ k ih=>
   rintro i (_|N) hi hN
   .omega
   .unfold Loop;rw[hs i (by omega)];exact ih (i+1) N (by omega) (by omega)
 exact this m 0 N (by omega) hN
theorem qb{S X:Type}{body:S->Option (S⊕X)}{N:Nat}{s0:S}(st:Nat->S)(m:Nat)(x:X)(h0:s0=st 0)(hs:∀i,i<m->body (st i)=some (.inl (st (i+1))))(he:body (st m)=some (.inr x))(hN:m<N):Loop body N s0=some x:=by
 rw[h0];exact zd st m hs he hN
def br:Nat:=18446744073709551616
section
variable {α:Type}
theorem gz(n:Nat)(C:Nat->α)(k:Nat)(v:α):((WM n).map C).set k v=(WM n).map (λj=>if j=k then v else C j):=by
 apply List.ext_getElem (by simp);intro i h1 h2;simp only[List.length_set,XQ,List.length_range]at h1;rw[List.getElem_set];simp only[List.getElem_map,List.getElem_range];by_cases h:k=i
 .subst h;simp
 .rw[YA h,YA (Ne.symm h)]
theorem fW(n:Nat)(p:Nat->Bool):(WM (n+1)).filter p=(WM n).filter p++(if p n=Yx then[n]else[]):=by
 rw[List.range_succ,List.filter_append]
 cases h:p n<;>simp[h]
end
end
end Go.Proofs.YtbladfbbhijpmaaGreat
