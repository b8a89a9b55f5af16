/- PeepholeOptimize: the statement, closed: the argument's reading by the form, the walk (by program) and the plain law together. Written by close.py. -/
import Derived.Test.YtlfjlhcigpejdaaGreatDoorRows
import Derived.Test.YtlfjlhcigpejdaaGreatDoorU1
import Derived.Test.YtlfjlhcigpejdaaGreatDoorU6
import Derived.Test.YtlfjlhcigpejdaaGreatDoorU11
import Derived.WalkKit
import Derived.ProofKit
import Derived.OpenShut
import Derived.JoinedCond
import Derived.Test.YtlfjlhcigpejdaaGreatDoorCards
import Derived.Test.YtlfjlhcigpejdaaGreatDoorTie
import Derived.SevenTiedAt
open _root_.List renaming all_eq_true->Zo
open _root_.Nat renaming blt->YM,zero_add->Yw
open _root_.Option.some renaming inj->X7
namespace Go.Proofs.YtlfjlhcigpejdaaGreatDoor.peepholeOptimize
open Go Go.RowKit Go.ChangeShapes Go.WideShapes Go.ChangeAt Go.Deep
set_option linter.unusedVariables false
theorem own:ownKnob Tryz.prog.godebug=none:=by kernel_rfl
theorem laidOut:laidOutB Tryz.prog=true:=by kernel_rfl
theorem O3:mC Tryz.prog 3 ae:=AW Tryz.underlying3
theorem Xj:mC Tryz.prog 28 aa:=tF Tryz.underlying28 (by kernel_rfl) (vc rfl (by kernel_rfl) O3 (vb rfl (by kernel_rfl) O3))
theorem Xk:mC Tryz.prog 22 (.slice aa):=u9 Tryz.underlying22 (by kernel_rfl) Xj
theorem rows:∀t∈Tryz.f3.params.toList,(Tryz.prog.readableRec t&&YM t Tryz.prog.types.size)=true:=by
 rw[Tryz.params3];simp only[List.forall_mem_cons];exact⟨by kernel_rfl,fun _ h=>absurd h (by simp)⟩
theorem g2:Tryz.prog.globalNamed "guerdon/date.monthLengths" =some 2:=by kernel_rfl
theorem t2:(Tryz.prog.globals[2]?).map (·.type)=some 122:=by kernel_rfl
theorem HC{W:World}(h:laidMetH Tryz.prog Rows.peepholeOptimizeRow.laid W):mQ (fun b=>b<W.heap.size) W:=by
 rw[MakeChecks.laidMetH_plain _ _ _ (by kernel_rfl)]at h;obtain⟨ps,⟨g0,t0,Mx,f0,p0,q0,RY,MZ,DN,LR,_,_⟩,_,_⟩:=h;obtain rfl:=X7 (g2.symm.trans RY);obtain rfl:=X7 (t2.symm.trans MZ)
 have QO:Mx.toList=([31,28,31,30,31,30,31,31,30,31,30,31]:List Int).map fun x=> .int .i64 x:=B7 Tryz.underlying122 Tryz.underlying3 (by kernel_rfl) (by kernel_rfl) LR
 intro g d hg;unfold zn at hg;rw[aw]at hg;split at hg
 .rename_i e;subst e;obtain rfl:=X7 hg
  have hc:∀j,W.cell? ⟨2,j,none⟩=(([31,28,31,30,31,30,31,31,30,31,30,31]:List Int).map fun x=>(.int .i64 x:Value))[j]? :=fun j=>by rw[World.var?_cell RY DN j,<-QO,Array.getElem?_toList]
  refine⟨GS (hc 0),_,?_,fun j u hj=>by rw[Yw,hc j];exact hj,?_⟩
  .rfl
  .exact⟨[_],_,rfl,rfl,⟨[_],_,rfl,rfl,⟨[_],_,rfl,rfl,⟨[_],_,rfl,rfl,⟨[_],_,rfl,rfl,⟨[_],_,rfl,rfl,⟨[_],_,rfl,rfl,⟨[_],_,rfl,rfl,⟨[_],_,rfl,rfl,⟨[_],_,rfl,rfl,⟨[_],_,rfl,rfl,rfl⟩⟩⟩⟩⟩⟩⟩⟩⟩⟩⟩
 .cases hg
theorem Fz(os:Os)(args:Array Value):laidMetH Tryz.prog Rows.peepholeOptimizeRow.laid ((World.doorLaid Tryz.prog 400 os).forCall (fun _ _=>0) ⟨#[],args,[]⟩).memory:=
 laidMetH_of_parts3 (fuel:=8) (laidMet_of_run' 8 (by kernel_rfl) (by kernel_rfl)) (by kernel_rfl) (by kernel_rfl)
set_option maxRecDepth 100000 in
theorem FA(H:Type)(enc:TypeId×Value->H)(W:World)(base:Nat)(args:Array Value)(ds gs:List (DataW H))(before:List MemPlace)
 (oq:∀(j:Nat)t v,Tryz.f3.params[j]? =some t->args[j]? =some v->Value.okWide Tryz.prog W .any base t v)
 (hW:DataW.Whole enc Tryz.prog Tryz.f3.params.toList Rows.peepholeOptimizeSpec.vars false W args.toList ds gs before)(hL:laidMetH Tryz.prog Rows.peepholeOptimizeRow.laid W):
 Calls Tryz.prog 3 args W fun e W'=>∃v,e= .returned v/\Rows.peepholeOptimizeSpec.post enc Tryz.prog Tryz.f3 false true false false W args v W':=by
 have Xl:=hW
 have aW:∀p∈before,p.block<W.heap.size:=fun p hp=>hW.lt p hp
 obtain⟨p,q,RZ,hV,rfl,rT,IM⟩:=hW;have hA:DataW.TrodAll enc Tryz.prog W 0 (fun _=>true) true Tryz.f3.params.toList args.toList ds p:=RZ;have Xm:=hA;rw[Tryz.params3]at hA oq;obtain⟨v0,X2,d0,X3,p0,q0,zm,rfl,rfl,h0,r0⟩:=trodAll_cons hA;obtain⟨rfl,rfl,rfl⟩:=trodAll_nil r0
 obtain rfl:args= #[v0]:=by cases args;simp_all
 obtain⟨rfl,rfl⟩:=trodVars_none hV;clear RZ;obtain⟨x0,HJ,Xn,X4⟩:=AX Tryz.underlying22 Xk (oq 0 22 v0 rfl rfl) h0
 refine(B6 (x:=x0) (W3 az) (L.lb x0 Xn) rfl (.cons (yI HJ) .nil) rfl (HC hL)).mono fun e W' ⟨he,hs⟩=>?_
 subst he
 exact⟨_,rfl,rM (pv:=[]) Xl (fun _ _ _=>trodAll_cons_mk (shut_bool Tryz.underlying4 _) trodAll_mk0)
  (fun sp rL=>mD laidOut hs _ _ _ _ rows Xm (fun x hx=>aW x (by simpa using hx)) (fun x hx=>rL x (by simpa using hx))) (fun _ _=>rfl) rfl hs
  (ok_one (by kernel_rfl) rfl (okWide_bool_mk Tryz.underlying4 _))⟩
set_option maxRecDepth 100000 in
theorem lifted(os:Os)(started:os.Started)(H:Type)(enc:TypeId×Value->H):
 ReturnsInHanded {} Tryz.checked os 3 .any (fun w args=>(Rows.peepholeOptimizeSpec.pre enc Tryz.prog Tryz.f3 Rows.peepholeOptimizeRow.domain false w args/\laidMetH Tryz.prog Rows.peepholeOptimizeRow.laid w)/\sizedMet enc Tryz.prog Tryz.f3 (OpenSpec.ofChange Rows.peepholeOptimizeSpec) false w args)
  (Rows.peepholeOptimizeSpec.post enc Tryz.prog Tryz.f3 false true false false):=by
 refine returnsInHanded_of_change_and (C:=Tryz.checked) (X:=fun w _=>laidMetH Tryz.prog Rows.peepholeOptimizeRow.laid w) (fun _ _ _ hh h=>h.of_heap hh) own started (by kernel_rfl) Tryz.func3
  (ChangeSpec.witness_shaped (enc:=enc) (C:=Tryz.checked) (os:=os) (X:=fun w _=>laidMetH Tryz.prog Rows.peepholeOptimizeRow.laid w) false (World.doorLaid Tryz.prog 400 os) #[.slice none 0 0] 12 rfl (World.shaped_of_RefB (by kernel_rfl) (by kernel_rfl)) (by kernel_rfl) (by kernel_rfl) (by kernel_rfl) (Fz os _)) ?_
 intro W base args ds gs before oq hW _ _ hL _;exact FA H enc W base args ds gs before oq hW hL
theorem over:Rows.peepholeOptimizeRow.holds Tryz.pinned (OpenSpec.ofChange Rows.peepholeOptimizeSpec):=
 OpenClaim.holds_of_wide 3 Tryz.f3 rfl rfl rfl rfl rfl rfl rfl ⟨rfl,rfl,rfl,rfl,rfl⟩ rfl rfl rfl rfl rfl (by kernel_rfl) Tryz.func3 (by kernel_rfl)
  (of_decide_eq_true (by kernel_rfl)) (by unfold Func.isWrapper;rw[if_neg (of_decide_eq_false (by kernel_rfl))];exact⟨rfl,rfl⟩)
  (fun os started H enc _=>lifted os started H enc)
theorem xw:Rows.PeepholeOptimizeCardSaid:=
 Claim7.holds_tied_plain_at .later [] [.data] true (true, "062fafc58582561806e58cd51ba47a2fac17b408599bd1b8998062a23d7467e5") false
  over (fun _ h=>by cases h) (by kernel_rfl) (fun _ h=>by cases h) peepholeOptimize_row_tie rfl ⟨rfl,rfl⟩ (by kernel_rfl) rfl
  (fun f fn hf wa=>by
    obtain rfl:f=3:=X7 ((show Tryz.prog.funcNamed "guerdon/guerdonlaw28.PeepholeOptimize" =some 3 by kernel_rfl).symm.trans hf)|>.symm
    obtain rfl:fn=Tryz.f3:=(X7 (Tryz.func3.symm.trans wa)).symm
    exact⟨by kernel_rfl,fun j t ht=>by
     rw[Tryz.params3]at ht
     have hm:t∈[22]:=by simpa using Array.mem_of_getElem? ht
     have k7:([22].all fun u=> !Tryz.prog.wantsStandIn u)=true:=by kernel_rfl
     exact(show Tryz.prog.wantsStandIn t=false by simpa using Zo.1 k7 t hm)⟩)
  (by kernel_rfl)
theorem proved:Rows.PeepholeOptimizeCardSaid:=xw
end Go.Proofs.YtlfjlhcigpejdaaGreatDoor.peepholeOptimize
