/- DectableTells: the statement, closed: the argument's reading by the form, the walk (by program) and the plain law together. Written by close.py. -/
import Derived.Test.YtbladfbbhijpmaaGreatRows
import Derived.Test.YtbladfbbhijpmaaGreatU1
import Derived.Test.YtbladfbbhijpmaaGreatU6
import Derived.Test.YtbladfbbhijpmaaGreatU12
import Derived.WalkKit
import Derived.ProofKit
import Derived.OpenShut
import Derived.JoinedCond
open _root_.List renaming forall_mem_cons->Z5
open _root_.Nat renaming blt->Zl
namespace Go.Proofs.YtbladfbbhijpmaaGreat.dectableTells
open Go Go.RowKit Go.ChangeShapes Go.WideShapes Go.ChangeAt Go.Deep
set_option linter.unusedVariables false
theorem own:ownKnob Tryz.prog.godebug=none:=by kernel_rfl
theorem laidOut:laidOutB Tryz.prog=true:=by kernel_rfl
theorem O3:gI Tryz.prog 3 ae:=A8 Tryz.underlying3
theorem XB:gI Tryz.prog 58 aa:=iu Tryz.underlying58 (by kernel_rfl) (fC rfl (by kernel_rfl) O3 (jb rfl (by kernel_rfl) O3))
theorem XC:gI Tryz.prog 60 ai:=iu Tryz.underlying60 (by kernel_rfl) (fC rfl (by kernel_rfl) XB (jb rfl (by kernel_rfl) O3))
theorem XD:gI Tryz.prog 32 (.slice ai):=ja Tryz.underlying32 (by kernel_rfl) XC
theorem XE:gI Tryz.prog 31 (.slice ae):=ja Tryz.underlying31 (by kernel_rfl) O3
theorem XF:gI Tryz.prog 81 aa:=iu Tryz.underlying81 (by kernel_rfl) (fC rfl (by kernel_rfl) O3 (jb rfl (by kernel_rfl) O3))
theorem XG:gI Tryz.prog 75 (.slice aa):=ja Tryz.underlying75 (by kernel_rfl) XF
theorem XH:gI Tryz.prog 30 (.slice (.slice aa)):=ja Tryz.underlying30 (by kernel_rfl) XG
theorem XI:gI Tryz.prog 34 aH:=iu Tryz.underlying34 (by kernel_rfl) (fC rfl (by kernel_rfl) O3 (fC rfl (by kernel_rfl) XH (fC rfl (by kernel_rfl) XE (jb rfl (by kernel_rfl) XD))))
theorem rows:∀t∈Tryz.f4.params.toList,(Tryz.prog.readableRec t&&Zl t Tryz.prog.types.size)=true:=by
 rw[Tryz.params4];simp only[Z5];exact⟨by kernel_rfl,by kernel_rfl,fun _ h=>absurd h (by simp)⟩
theorem Od{P:Program}{H:Type}{enc:TypeId×Value->H}{w:World}{base:Nat}{spare:Nat->Bool}{held:Bool}{v:Value}{d:DataW H}{ps:List MemPlace}{t:TypeId}(ht:P.underlying t=some .string)(hv:Value.okWide P w .any base t v)(h:DataW.Trod enc P w 0 spare held t v d ps):∃s:ByteArray,v= .string s/\WF .str s/\b9 .str s<=Rows.uptoBulk d:=by
 obtain⟨s,rfl⟩:=okWide_string ht hv;obtain⟨fuel,hf⟩:=h;obtain⟨y,h1,h2,h3⟩:=A9 ht H enc w spare held fuel _ _ hf
 obtain rfl:y=s:=by
  have h1:[Value.string s]=[Value.string y]:=h1;cases h1;rfl
 exact⟨y,rfl,h2,h3⟩
set_option maxRecDepth 100000 in
theorem F5(H:Type)(enc:TypeId×Value->H)(W:World)(base:Nat)(args:Array Value)(ds gs:List (DataW H))(before:List MemPlace)
 (k9:∀(j:Nat)t v,Tryz.f4.params[j]? =some t->args[j]? =some v->Value.okWide Tryz.prog W .any base t v)
 (hW:DataW.Whole enc Tryz.prog Tryz.f4.params.toList Rows.dectableTellsSpec.vars false W args.toList ds gs before):
 Calls Tryz.prog 4 args W fun e W'=>∃v,e= .returned v/\Rows.dectableTellsSpec.post enc Tryz.prog Tryz.f4 false true false false W args v W':=by
 have XJ:=hW
 have av:∀p∈before,p.block<W.heap.size:=fun p hp=>hW.lt p hp
 obtain⟨p,q,TD,hV,rfl,rQ,yh⟩:=hW;have hA:DataW.TrodAll enc Tryz.prog W 0 (fun _=>true) true Tryz.f4.params.toList args.toList ds p:=TD;have XK:=hA;rw[Tryz.params4]at hA k9;obtain⟨v0,Yw,d0,Yx,p0,q0,zF,rfl,rfl,h0,r0⟩:=trodAll_cons hA;obtain⟨v1,OZ,d1,Yy,p1,q1,rfl,rfl,rfl,h1,r1⟩:=trodAll_cons r0;obtain⟨rfl,rfl,rfl⟩:=trodAll_nil r1
 obtain rfl:args= #[v0,v1]:=by cases args;simp_all
 obtain⟨rfl,rfl⟩:=trodVars_none hV;clear TD;obtain⟨Yz,x0,rfl,Ot,XL,To⟩:=xM Tryz.underlying34 XI (k9 0 34 v0 rfl rfl) h0;obtain⟨x1,rfl,NS,CZ⟩:=Gz Tryz.underlying3 (k9 1 3 v1 rfl rfl) h1
 refine(Ch (x:=(x0,x1)) (W4 bm) (L.nu x0 x1 XL NS) rfl (.cons (pu Ot) (.cons (EO _ _ _ x1) .nil)) rfl (fun _ _ h=>by cases h)).mono fun e W' ⟨he,hs⟩=>?_
 subst he
 exact⟨_,rfl,rO (pv:=[]) XJ (fun _ _ _=>trodAll_cons_mk (shut_bool Tryz.underlying4 _) trodAll_mk0)
  (fun sp rN=>mw laidOut hs _ _ _ _ rows XK (fun x hx=>av x (by simpa using hx)) (fun x hx=>rN x (by simpa using hx))) (fun _ _=>rfl) rfl hs
  (ok_one (by kernel_rfl) rfl (okWide_bool_mk Tryz.underlying4 _))⟩
set_option maxRecDepth 100000 in
theorem lifted(os:Os)(started:os.Started)(H:Type)(enc:TypeId×Value->H):
 ReturnsInHanded {} Tryz.checked os 4 .any (Rows.dectableTellsSpec.pre6 enc Tryz.prog Tryz.f4 Rows.dectableTellsRow.domain false) (Rows.dectableTellsSpec.post enc Tryz.prog Tryz.f4 false true false false):=by
 refine returnsInHanded_of_change (C:=Tryz.checked) own started (by kernel_rfl) Tryz.func4
  (ChangeSpec.witness6 (enc:=enc) (C:=Tryz.checked) false ⟨#[], #[.agg #[.int .i64 0, .slice none 0 0, .slice none 0 0, .slice none 0 0], .int .i64 0],[]⟩ 12 (by kernel_rfl) (by kernel_rfl) (by kernel_rfl) (by kernel_rfl)) ?_
 intro W base args ds gs before k9 hW _ _;exact F5 H enc W base args ds gs before k9 hW
theorem over:Rows.dectableTellsRow.holds Tryz.pinned (OpenSpec.ofChange Rows.dectableTellsSpec):=
 OpenClaim.holds_of_wide 4 Tryz.f4 rfl rfl rfl rfl rfl rfl rfl ⟨rfl,rfl,rfl,rfl,rfl⟩ rfl rfl rfl rfl rfl (by kernel_rfl) Tryz.func4 (by kernel_rfl)
  (of_decide_eq_true (by kernel_rfl)) (by unfold Func.isWrapper;rw[if_neg (of_decide_eq_false (by kernel_rfl))];exact⟨rfl,rfl⟩)
  (fun os started H enc _=>lifted os started H enc)
theorem proved:Rows.DectableTellsSaid:=over
end Go.Proofs.YtbladfbbhijpmaaGreat.dectableTells
