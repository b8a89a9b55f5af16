/- CompilerVerified: the statement, closed: the argument's reading by the form, the walk (by program) and the plain law together. Written by close.py. -/
import Derived.Test.YtmihpkfkbfgigaaGreatDoorRows
import Derived.Test.YtmihpkfkbfgigaaGreatDoorU1
import Derived.Test.YtmihpkfkbfgigaaGreatDoorU6
import Derived.Test.YtmihpkfkbfgigaaGreatDoorU13
import Derived.WalkKit
import Derived.ProofKit
import Derived.OpenShut
import Derived.JoinedCond
import Derived.Test.YtmihpkfkbfgigaaGreatDoorCards
import Derived.Test.YtmihpkfkbfgigaaGreatDoorTie
import Derived.SevenTiedAt
open _root_.List renaming forall_mem_cons->akY
open _root_.Nat renaming blt->akf,zero_add->ajO
open _root_.Option.some renaming inj->ajk
namespace Go.Proofs.YtmihpkfkbfgigaaGreatDoor.compilerVerified
open Go Go.RowKit Go.ChangeShapes Go.WideShapes Go.ChangeAt Go.Deep
set_option linter.unusedVariables false
theorem own:ownKnob Tryz.prog.godebug=none:=by kernel_rfl
theorem laidOut:laidOutB Tryz.prog=true:=by kernel_rfl
theorem O9:fI Tryz.prog 9 .str:=xw Tryz.underlying9
theorem O3:fI Tryz.prog 3 ae:=GK Tryz.underlying3
theorem O73:fI Tryz.prog 73 aa:=dN Tryz.underlying73 (by kernel_rfl) (bx rfl (by kernel_rfl) O3 (eG rfl (by kernel_rfl) O3))
theorem O39:fI Tryz.prog 39 (.slice aa):=gf Tryz.underlying39 (by kernel_rfl) O73
theorem O38:fI Tryz.prog 38 aa:=dN Tryz.underlying38 (by kernel_rfl) (bx rfl (by kernel_rfl) O3 (eG rfl (by kernel_rfl) O3))
theorem O41:fI Tryz.prog 41 aZ:=dN Tryz.underlying41 (by kernel_rfl) (bx rfl (by kernel_rfl) O9 (bx rfl (by kernel_rfl) O3 (bx rfl (by kernel_rfl) O3 (bx rfl (by kernel_rfl) O3 (bx rfl (by kernel_rfl) O38 (bx rfl (by kernel_rfl) O39 (bx rfl (by kernel_rfl) O39 (eG rfl (by kernel_rfl) O9))))))))
theorem O30:fI Tryz.prog 30 (.slice aZ):=gf Tryz.underlying30 (by kernel_rfl) O41
theorem O63:fI Tryz.prog 63 aa:=dN Tryz.underlying63 (by kernel_rfl) (bx rfl (by kernel_rfl) O3 (eG rfl (by kernel_rfl) O3))
theorem O95:fI Tryz.prog 95 aN:=dN Tryz.underlying95 (by kernel_rfl) (bx rfl (by kernel_rfl) O9 (eG rfl (by kernel_rfl) O63))
theorem O67:fI Tryz.prog 67 (.slice aN):=gf Tryz.underlying67 (by kernel_rfl) O95
theorem O69:fI Tryz.prog 69 aB:=dN Tryz.underlying69 (by kernel_rfl) (bx rfl (by kernel_rfl) O9 (bx rfl (by kernel_rfl) O3 (bx rfl (by kernel_rfl) O67 (bx rfl (by kernel_rfl) O67 (eG rfl (by kernel_rfl) O30)))))
theorem O24:fI Tryz.prog 24 (.slice aB):=gf Tryz.underlying24 (by kernel_rfl) O69
theorem abZ:fI Tryz.prog 169 dJ:=dN Tryz.underlying169 (by kernel_rfl) (bx rfl (by kernel_rfl) O38 (bx rfl (by kernel_rfl) O3 (bx rfl (by kernel_rfl) O3 (eG rfl (by kernel_rfl) O3))))
theorem O64:fI Tryz.prog 64 (.slice dJ):=gf Tryz.underlying64 (by kernel_rfl) abZ
theorem O66:fI Tryz.prog 66 ay:=dN Tryz.underlying66 (by kernel_rfl) (bx rfl (by kernel_rfl) O9 (bx rfl (by kernel_rfl) O63 (bx rfl (by kernel_rfl) O63 (eG rfl (by kernel_rfl) O64))))
theorem O23:fI Tryz.prog 23 (.slice ay):=gf Tryz.underlying23 (by kernel_rfl) O66
theorem O59:fI Tryz.prog 59 (.slice .str):=gf Tryz.underlying59 (by kernel_rfl) O9
theorem O61:fI Tryz.prog 61 bp:=dN Tryz.underlying61 (by kernel_rfl) (bx rfl (by kernel_rfl) O9 (eG rfl (by kernel_rfl) O59))
theorem O22:fI Tryz.prog 22 (.slice bp):=gf Tryz.underlying22 (by kernel_rfl) O61
theorem O26:fI Tryz.prog 26 cF:=dN Tryz.underlying26 (by kernel_rfl) (bx rfl (by kernel_rfl) O22 (bx rfl (by kernel_rfl) O23 (eG rfl (by kernel_rfl) O24)))
theorem rows:∀t∈Tryz.f3.params.toList,(Tryz.prog.readableRec t&&akf t Tryz.prog.types.size)=true:=by
 rw[Tryz.params3];simp only[akY];exact⟨by kernel_rfl,by kernel_rfl,by kernel_rfl,fun _ h=>absurd h (by simp)⟩
theorem g2:Tryz.prog.globalNamed "guerdon/date.monthLengths" =some 2:=by kernel_rfl
theorem t2:(Tryz.prog.globals[2]?).map (·.type)=some 305:=by kernel_rfl
theorem Ou{W:World}(h:laidMetH Tryz.prog Rows.compilerVerifiedRow.laid W):qw (fun b=>b<W.heap.size) W:=by
 rw[MakeChecks.laidMetH_plain _ _ _ (by kernel_rfl)]at h;obtain⟨ps,⟨g0,t0,Vs,f0,p0,q0,QZ,VX,Pz,hd0,_,_⟩,_,_⟩:=h;obtain rfl:=ajk (g2.symm.trans QZ);obtain rfl:=ajk (t2.symm.trans VX)
 have ab0:Vs.toList=([31,28,31,30,31,30,31,31,30,31,30,31]:List Int).map fun x=> .int .i64 x:=HQ Tryz.underlying305 Tryz.underlying3 (by kernel_rfl) (by kernel_rfl) hd0
 intro g d hg;unfold EV at hg;rw[aD]at hg;split at hg
 .rename_i e;subst e;obtain rfl:=ajk hg
  have hc:∀j,W.cell? ⟨2,j,none⟩=(([31,28,31,30,31,30,31,31,30,31,30,31]:List Int).map fun x=>(.int .i64 x:Value))[j]? :=fun j=>by rw[World.var?_cell QZ Pz j,<-ab0,Array.getElem?_toList]
  refine⟨Nr (hc 0),_,?_,fun j u hj=>by rw[ajO,hc j];exact hj,?_⟩
  .rfl
  .exact⟨[_],_,rfl,rfl,⟨[_],_,rfl,rfl,⟨[_],_,rfl,rfl,⟨[_],_,rfl,rfl,⟨[_],_,rfl,rfl,⟨[_],_,rfl,rfl,⟨[_],_,rfl,rfl,⟨[_],_,rfl,rfl,⟨[_],_,rfl,rfl,⟨[_],_,rfl,rfl,⟨[_],_,rfl,rfl,rfl⟩⟩⟩⟩⟩⟩⟩⟩⟩⟩⟩
 .cases hg
theorem L9(os:Os)(args:Array Value):laidMetH Tryz.prog Rows.compilerVerifiedRow.laid ((World.doorLaid Tryz.prog 400 os).forCall (fun _ _=>0) ⟨#[],args,[]⟩).memory:=
 laidMetH_of_parts3 (fuel:=8) (laidMet_of_run' 8 (by kernel_rfl) (by kernel_rfl)) (by kernel_rfl) (by kernel_rfl)
theorem Wa{P:Program}{H:Type}{enc:TypeId×Value->H}{w:World}{base:Nat}{spare:Nat->Bool}{held:Bool}{v:Value}{d:DataW H}{ps:List MemPlace}{t:TypeId}(ht:P.underlying t=some .string)(hv:Value.okWide P w .any base t v)(h:DataW.Trod enc P w 0 spare held t v d ps):∃s:ByteArray,v= .string s/\WF .str s/\db .str s<=Rows.uptoBulk d:=by
 obtain⟨s,rfl⟩:=okWide_string ht hv;obtain⟨fuel,hf⟩:=h;obtain⟨y,h1,h2,h3⟩:=xw ht H enc w spare held fuel _ _ hf
 obtain rfl:y=s:=by
  have h1:[Value.string s]=[Value.string y]:=h1;cases h1;rfl
 exact⟨y,rfl,h2,h3⟩
set_option maxRecDepth 100000 in
theorem Ma(H:Type)(enc:TypeId×Value->H)(W:World)(base:Nat)(args:Array Value)(ds gs:List (DataW H))(before:List MemPlace)
 (lR:∀(j:Nat)t v,Tryz.f3.params[j]? =some t->args[j]? =some v->Value.okWide Tryz.prog W .any base t v)
 (hW:DataW.Whole enc Tryz.prog Tryz.f3.params.toList Rows.compilerVerifiedSpec.vars false W args.toList ds gs before)(hL:laidMetH Tryz.prog Rows.compilerVerifiedRow.laid W):
 Calls Tryz.prog 3 args W fun e W'=>∃v,e= .returned v/\Rows.compilerVerifiedSpec.post enc Tryz.prog Tryz.f3 false true false false W args v W':=by
 have hW':=hW
 have ao:∀p∈before,p.block<W.heap.size:=fun p hp=>hW.lt p hp
 obtain⟨p,q,hA0,hV,rfl,w7,MV⟩:=hW;have hA:DataW.TrodAll enc Tryz.prog W 0 (fun _=>true) true Tryz.f3.params.toList args.toList ds p:=hA0;have hA1:=hA;rw[Tryz.params3]at hA lR;obtain⟨v0,vs0,d0,ds0,p0,q0,ET,rfl,rfl,h0,r0⟩:=trodAll_cons hA;obtain⟨v1,WE,d1,ds1,p1,q1,rfl,rfl,rfl,h1,r1⟩:=trodAll_cons r0;obtain⟨v2,vs2,d2,ds2,p2,q2,rfl,rfl,rfl,h2,r2⟩:=trodAll_cons r1;obtain⟨rfl,rfl,rfl⟩:=trodAll_nil r2
 obtain rfl:args= #[v0,v1,v2]:=by cases args;simp_all
 obtain⟨rfl,rfl⟩:=trodVars_none hV;clear hA0;obtain⟨es0,x0,rfl,Wm,hw0,Pb⟩:=Da Tryz.underlying26 O26 (lR 0 26 v0 rfl rfl) h0;obtain⟨x1,rfl,hw1,E2⟩:=ES Tryz.underlying3 (lR 1 3 v1 rfl rfl) h1;obtain⟨x2,rfl,hw2,Dl⟩:=ES Tryz.underlying3 (lR 2 3 v2 rfl rfl) h2
 refine(HP (x:=(x0,x1,x2)) (W3 aE) (L.oB x0 x1 x2 hw0 hw1 hw2) rfl (.cons (BG Wm) (.cons (BF _ _ _ x1) (.cons (BF _ _ _ x2) .nil))) rfl (Ou hL)).mono fun e W' ⟨he,hs⟩=>?_
 subst he
 exact⟨_,rfl,wX (pv:=[]) hW' (fun _ _ _=>trodAll_cons_mk (shut_bool Tryz.underlying4 _) trodAll_mk0)
  (fun sp r8=>p6 laidOut hs _ _ _ _ rows hA1 (fun x hx=>ao x (by simpa using hx)) (fun x hx=>r8 x (by simpa using hx))) (fun _ _=>rfl) rfl hs
  (ok_one (by kernel_rfl) rfl (okWide_bool_mk Tryz.underlying4 _))⟩
set_option maxRecDepth 100000 in
theorem lifted(os:Os)(started:os.Started)(H:Type)(enc:TypeId×Value->H):
 ReturnsInHanded {} Tryz.checked os 3 .any (fun w args=>(Rows.compilerVerifiedSpec.pre enc Tryz.prog Tryz.f3 Rows.compilerVerifiedRow.domain false w args/\laidMetH Tryz.prog Rows.compilerVerifiedRow.laid w)/\sizedMet enc Tryz.prog Tryz.f3 (OpenSpec.ofChange Rows.compilerVerifiedSpec) false w args)
  (Rows.compilerVerifiedSpec.post enc Tryz.prog Tryz.f3 false true false false):=by
 refine returnsInHanded_of_change_and (C:=Tryz.checked) (X:=fun w _=>laidMetH Tryz.prog Rows.compilerVerifiedRow.laid w) (fun _ _ _ hh h=>h.of_heap hh) own started (by kernel_rfl) Tryz.func3
  (ChangeSpec.witness_shaped (enc:=enc) (C:=Tryz.checked) (os:=os) (X:=fun w _=>laidMetH Tryz.prog Rows.compilerVerifiedRow.laid w) false (World.doorLaid Tryz.prog 400 os) #[.agg #[.slice none 0 0, .slice none 0 0, .slice none 0 0], .int .i64 0, .int .i64 0] 12 rfl (World.shaped_of_RefB (by kernel_rfl) (by kernel_rfl)) (by kernel_rfl) (by kernel_rfl) (by kernel_rfl) (L9 os _)) ?_
 intro W base args ds gs before lR hW _ _ hL _;exact Ma H enc W base args ds gs before lR hW hL
theorem over:Rows.compilerVerifiedRow.holds Tryz.pinned (OpenSpec.ofChange Rows.compilerVerifiedSpec):=
 OpenClaim.holds_of_wide 3 Tryz.f3 rfl rfl rfl rfl rfl rfl rfl ⟨rfl,rfl,rfl,rfl,rfl⟩ rfl rfl rfl rfl rfl (by kernel_rfl) Tryz.func3 (by kernel_rfl)
  (of_decide_eq_true (by kernel_rfl)) (by unfold Func.isWrapper;rw[if_neg (of_decide_eq_false (by kernel_rfl))];exact⟨rfl,rfl⟩)
  (fun os started H enc _=>lifted os started H enc)
theorem CO:Rows.CompilerVerifiedCardSaid:=
 Claim7.holds_tied_plain_at .later [] [.data] true (true, "46e381ab207395a4e079398249de0d533ed6868fc4a60d7ff90700a57c545728") true
  over (fun _ h=>by cases h) (by kernel_rfl) (fun _ h=>by cases h) compilerVerified_row_tie rfl ⟨rfl,rfl⟩ (by kernel_rfl) rfl
  (fun f fn hf zf=>by
    obtain rfl:f=3:=ajk ((show Tryz.prog.funcNamed "guerdon/guerdonlaw29.CompilerVerified" =some 3 by kernel_rfl).symm.trans hf)|>.symm
    obtain rfl:fn=Tryz.f3:=(ajk (Tryz.func3.symm.trans zf)).symm
    exact⟨by kernel_rfl,fun j t ht=>by
     rw[Tryz.params3]at ht
     have hm:t∈[26,3,3]:=by simpa using Array.mem_of_getElem? ht
     have gR:([26,3,3].all fun u=> !Tryz.prog.wantsStandIn u)=true:=by kernel_rfl
     exact(show Tryz.prog.wantsStandIn t=false by simpa using List.all_eq_true.1 gR t hm)⟩)
  (by kernel_rfl)
theorem proved:Rows.CompilerVerifiedCardSaid:=CO
end Go.Proofs.YtmihpkfkbfgigaaGreatDoor.compilerVerified
