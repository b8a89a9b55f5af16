/- DectableDisjoint: the statement, closed: the argument's reading by the form, the walk (by program) and the plain law together. Written by close.py. -/
import Derived.Test.YtbladfbbhijpmaaGreatRows
import Derived.Test.YtbladfbbhijpmaaGreatU1
import Derived.Test.YtbladfbbhijpmaaGreatU5
import Derived.Test.YtbladfbbhijpmaaGreatU9
import Derived.WalkKit
import Derived.ProofKit
import Derived.OpenShut
import Derived.JoinedCond
open _root_.Bool renaming false->Yy,true->Yx
open _root_.Option renaming none->Yw
open _root_.List renaming forall_mem_cons->Yb
open _root_.Nat renaming blt->Xt
namespace Go.Proofs.YtbladfbbhijpmaaGreat.dectableDisjoint
open Go Go.RowKit Go.ChangeShapes Go.WideShapes Go.ChangeAt Go.Deep
set_option linter.unusedVariables false
theorem own:ownKnob Tryz.prog.godebug=Yw:=by kernel_rfl
theorem laidOut:laidOutB Tryz.prog=Yx:=by kernel_rfl
theorem O3:ga Tryz.prog 3 ae:=si Tryz.underlying3
theorem VB:ga Tryz.prog 58 aa:=ie Tryz.underlying58 (by kernel_rfl) (fu rfl (by kernel_rfl) O3 (iV rfl (by kernel_rfl) O3))
theorem VC:ga Tryz.prog 60 aj:=ie Tryz.underlying60 (by kernel_rfl) (fu rfl (by kernel_rfl) VB (iV rfl (by kernel_rfl) O3))
theorem VD:ga Tryz.prog 32 (.slice aj):=iU Tryz.underlying32 (by kernel_rfl) VC
theorem VE:ga Tryz.prog 31 (.slice ae):=iU Tryz.underlying31 (by kernel_rfl) O3
theorem VF:ga Tryz.prog 81 aa:=ie Tryz.underlying81 (by kernel_rfl) (fu rfl (by kernel_rfl) O3 (iV rfl (by kernel_rfl) O3))
theorem VG:ga Tryz.prog 75 (.slice aa):=iU Tryz.underlying75 (by kernel_rfl) VF
theorem VH:ga Tryz.prog 30 (.slice (.slice aa)):=iU Tryz.underlying30 (by kernel_rfl) VG
theorem VI:ga Tryz.prog 34 bJ:=ie Tryz.underlying34 (by kernel_rfl) (fu rfl (by kernel_rfl) O3 (fu rfl (by kernel_rfl) VH (fu rfl (by kernel_rfl) VE (iV rfl (by kernel_rfl) VD))))
theorem O5:ga Tryz.prog 5 (.int .u8):=si Tryz.underlying5
theorem rows:∀t∈Tryz.f6.params.toList,(Tryz.prog.readableRec t&&Xt t Tryz.prog.types.size)=Yx:=by
 rw[Tryz.params6];simp only[Yb];exact⟨by kernel_rfl,by kernel_rfl,λ_ h=>absurd h (by simp)⟩
theorem NP{P:Program}{H:Type}{enc:TypeId×Value->H}{w:World}{base:Nat}{spare:Nat->Bool}{held:Bool}{v:Value}{d:DataW H}{ps:List MemPlace}{t:TypeId}(ht:P.underlying t=some .string)(hv:Value.okWide P w .any base t v)(h:DataW.Trod enc P w 0 spare held t v d ps):∃s:ByteArray,v= .string s/\WF .str s/\b7 .str s<=Rows.uptoBulk d:=by
 obtain⟨s,rfl⟩:=okWide_string ht hv;obtain⟨fuel,hf⟩:=h;obtain⟨y,h1,h2,h3⟩:=A9 ht H enc w spare held fuel _ _ hf
 obtain rfl:y=s:=by
  have h1:[Value.string s]=[Value.string y]:=h1;cases h1;rfl
 exact⟨y,rfl,h2,h3⟩
set_option maxRecDepth 100000 in
theorem F7(H:Type)(enc:TypeId×Value->H)(W:World)(base:Nat)(args:Array Value)(ds gs:List (DataW H))(before:List MemPlace)
 (kY:∀(j:Nat)t v,Tryz.f6.params[j]? =some t->args[j]? =some v->Value.okWide Tryz.prog W .any base t v)
 (hW:DataW.Whole enc Tryz.prog Tryz.f6.params.toList Rows.dectableDisjointSpec.vars Yy W args.toList ds gs before):
 Calls Tryz.prog 6 args W λe W'=>∃v,e= .returned v/\Rows.dectableDisjointSpec.post enc Tryz.prog Tryz.f6 Yy Yx Yy Yy W args v W':=by
 have VJ:=hW
 have av:∀p∈before,p.block<W.heap.size:=λp hp=>hW.lt p hp
 obtain⟨p,q,Sp,hV,rfl,rQ,yi⟩:=hW;have hA:DataW.TrodAll enc Tryz.prog W 0 (λ_=>Yx) Yx Tryz.f6.params.toList args.toList ds p:=Sp;have VK:=hA;rw[Tryz.params6]at hA kY;obtain⟨v0,Wz,d0,WA,p0,q0,zJ,rfl,rfl,h0,r0⟩:=trodAll_cons hA;obtain⟨v1,Oz,d1,WB,p1,q1,rfl,rfl,rfl,h1,r1⟩:=trodAll_cons r0;obtain⟨rfl,rfl,rfl⟩:=trodAll_nil r1
 obtain rfl:args= #[v0,v1]:=by cases args;simp_all
 obtain⟨rfl,rfl⟩:=trodVars_none hV;clear Sp;obtain⟨WC,x0,rfl,N1,VL,R9⟩:=xN Tryz.underlying34 VI (kY 0 34 v0 rfl rfl) h0;obtain⟨x1,rfl,Ns,CX⟩:=GB Tryz.underlying5 (kY 1 5 v1 rfl rfl) h1
 refine(Cg (x:=(x0,x1)) (W6 br) (L.kT x0 x1 VL Ns) rfl (.cons (pq N1) (.cons (EN _ _ _ x1) .nil)) rfl (λ_ _ h=>by cases h)).mono λe W' ⟨he,hs⟩=>?_
 subst he
 exact⟨_,rfl,rN (pv:=[]) VJ (λ_ _ _=>trodAll_cons_mk (shut_bool Tryz.underlying4 _) trodAll_mk0)
  (λsp rM=>mr laidOut hs _ _ _ _ rows VK (λx hx=>av x (by simpa using hx)) (λx hx=>rM x (by simpa using hx))) (λ_ _=>rfl) rfl hs
  (ok_one (by kernel_rfl) rfl (okWide_bool_mk Tryz.underlying4 _))⟩
set_option maxRecDepth 100000 in
theorem lifted(os:Os)(started:os.Started)(H:Type)(enc:TypeId×Value->H):
 ReturnsInHanded {} Tryz.checked os 6 .any (Rows.dectableDisjointSpec.pre6 enc Tryz.prog Tryz.f6 Rows.dectableDisjointRow.domain Yy) (Rows.dectableDisjointSpec.post enc Tryz.prog Tryz.f6 Yy Yx Yy Yy):=by
 refine returnsInHanded_of_change (C:=Tryz.checked) own started (by kernel_rfl) Tryz.func6
  (ChangeSpec.witness6 (enc:=enc) (C:=Tryz.checked) Yy ⟨#[], #[.agg #[.int .i64 0, .slice Yw 0 0, .slice Yw 0 0, .slice Yw 0 0], .int .u8 0],[]⟩ 12 (by kernel_rfl) (by kernel_rfl) (by kernel_rfl) (by kernel_rfl)) ?_
 intro W base args ds gs before kY hW _ _;exact F7 H enc W base args ds gs before kY hW
theorem over:Rows.dectableDisjointRow.holds Tryz.pinned (OpenSpec.ofChange Rows.dectableDisjointSpec):=
 OpenClaim.holds_of_wide 6 Tryz.f6 rfl rfl rfl rfl rfl rfl rfl ⟨rfl,rfl,rfl,rfl,rfl⟩ rfl rfl rfl rfl rfl (by kernel_rfl) Tryz.func6 (by kernel_rfl)
  (of_decide_eq_true (by kernel_rfl)) (by unfold Func.isWrapper;rw[if_neg (of_decide_eq_false (by kernel_rfl))];exact⟨rfl,rfl⟩)
  (λos started H enc _=>lifted os started H enc)
theorem proved:Rows.DectableDisjointSaid:=over
end Go.Proofs.YtbladfbbhijpmaaGreat.dectableDisjoint
