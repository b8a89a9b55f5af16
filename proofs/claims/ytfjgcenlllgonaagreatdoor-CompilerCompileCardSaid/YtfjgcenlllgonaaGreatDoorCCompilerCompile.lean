/- CompilerCompile: the statement, closed: the argument's reading by the form, the walk (by program) and the plain law together. Written by close.py. -/
import Derived.Test.YtfjgcenlllgonaaGreatDoorRows
import Derived.Test.YtfjgcenlllgonaaGreatDoorU1
import Derived.Test.YtfjgcenlllgonaaGreatDoorU4
import Derived.Test.YtfjgcenlllgonaaGreatDoorU13
import Derived.WalkKit
import Derived.ProofKit
import Derived.OpenShut
import Derived.JoinedCond
import Derived.Test.YtfjgcenlllgonaaGreatDoorCards
import Derived.Test.YtfjgcenlllgonaaGreatDoorTie
import Derived.SevenTiedAt
open _root_.Bool renaming false->ag,true->af
open _root_.Option renaming none->ae,some->aa
open _root_.List renaming all_eq_true->aqf,forall_mem_cons->aqr
open _root_.Nat renaming blt->aps,zero_add->apn
open _root_.Option.some renaming inj->aoB
namespace Go.Proofs.YtfjgcenlllgonaaGreatDoor.compilerCompile
open Go Go.RowKit Go.ChangeShapes Go.WideShapes Go.ChangeAt Go.Deep
set_option linter.unusedVariables false
theorem own:ownKnob Tryz.prog.godebug=ae:=by kernel_rfl
theorem laidOut:laidOutB Tryz.prog=af:=by kernel_rfl
theorem O9:iL Tryz.prog 9 .str:=Bz Tryz.underlying9
theorem O3:iL Tryz.prog 3 aB:=Lz Tryz.underlying3
theorem O67:iL Tryz.prog 67 aA:=fC Tryz.underlying67 (by kernel_rfl) (bY rfl (by kernel_rfl) O3 (gi rfl (by kernel_rfl) O3))
theorem O68:iL Tryz.prog 68 (.slice aA):=jc Tryz.underlying68 (by kernel_rfl) O67
theorem aaY:iL Tryz.prog 100 aA:=fC Tryz.underlying100 (by kernel_rfl) (bY rfl (by kernel_rfl) O3 (gi rfl (by kernel_rfl) O3))
theorem ahE:iL Tryz.prog 102 bn:=fC Tryz.underlying102 (by kernel_rfl) (bY rfl (by kernel_rfl) O9 (bY rfl (by kernel_rfl) O3 (bY rfl (by kernel_rfl) O3 (bY rfl (by kernel_rfl) O3 (bY rfl (by kernel_rfl) aaY (bY rfl (by kernel_rfl) O68 (bY rfl (by kernel_rfl) O68 (gi rfl (by kernel_rfl) O9))))))))
theorem O45:iL Tryz.prog 45 (.slice bn):=jc Tryz.underlying45 (by kernel_rfl) ahE
theorem O57:iL Tryz.prog 57 aA:=fC Tryz.underlying57 (by kernel_rfl) (bY rfl (by kernel_rfl) O3 (gi rfl (by kernel_rfl) O3))
theorem O85:iL Tryz.prog 85 bi:=fC Tryz.underlying85 (by kernel_rfl) (bY rfl (by kernel_rfl) O9 (gi rfl (by kernel_rfl) O57))
theorem O61:iL Tryz.prog 61 (.slice bi):=jc Tryz.underlying61 (by kernel_rfl) O85
theorem O63:iL Tryz.prog 63 aU:=fC Tryz.underlying63 (by kernel_rfl) (bY rfl (by kernel_rfl) O9 (bY rfl (by kernel_rfl) O3 (bY rfl (by kernel_rfl) O61 (bY rfl (by kernel_rfl) O61 (gi rfl (by kernel_rfl) O45)))))
theorem O24:iL Tryz.prog 24 (.slice aU):=jc Tryz.underlying24 (by kernel_rfl) O63
theorem ahG:iL Tryz.prog 171 dM:=fC Tryz.underlying171 (by kernel_rfl) (bY rfl (by kernel_rfl) aaY (bY rfl (by kernel_rfl) O3 (bY rfl (by kernel_rfl) O3 (gi rfl (by kernel_rfl) O3))))
theorem O58:iL Tryz.prog 58 (.slice dM):=jc Tryz.underlying58 (by kernel_rfl) ahG
theorem O60:iL Tryz.prog 60 aP:=fC Tryz.underlying60 (by kernel_rfl) (bY rfl (by kernel_rfl) O9 (bY rfl (by kernel_rfl) O57 (bY rfl (by kernel_rfl) O57 (gi rfl (by kernel_rfl) O58))))
theorem O23:iL Tryz.prog 23 (.slice aP):=jc Tryz.underlying23 (by kernel_rfl) O60
theorem O53:iL Tryz.prog 53 (.slice .str):=jc Tryz.underlying53 (by kernel_rfl) O9
theorem O55:iL Tryz.prog 55 bA:=fC Tryz.underlying55 (by kernel_rfl) (bY rfl (by kernel_rfl) O9 (gi rfl (by kernel_rfl) O53))
theorem O22:iL Tryz.prog 22 (.slice bA):=jc Tryz.underlying22 (by kernel_rfl) O55
theorem O26:iL Tryz.prog 26 cQ:=fC Tryz.underlying26 (by kernel_rfl) (bY rfl (by kernel_rfl) O22 (bY rfl (by kernel_rfl) O23 (gi rfl (by kernel_rfl) O24)))
theorem rows:∀t∈Tryz.f4.params.toList,(Tryz.prog.readableRec t&&aps t Tryz.prog.types.size)=af:=by
 rw[Tryz.params4];simp only[aqr];exact⟨by kernel_rfl,by kernel_rfl,by kernel_rfl,λ_ h=>absurd h (by simp)⟩
theorem g2:Tryz.prog.globalNamed "guerdon/date.monthLengths" =aa 2:=by kernel_rfl
theorem t2:(Tryz.prog.globals[2]?).map (·.type)=aa 330:=by kernel_rfl
theorem T7{W:World}(h:laidMetH Tryz.prog Rows.compilerCompileRow.laid W):uX (λb=>b<W.heap.size) W:=by
 rw[MakeChecks.laidMetH_plain _ _ _ (by kernel_rfl)]at h;obtain⟨ps,⟨g0,t0,cs0,f0,p0,q0,Xy,ht0,OA,XT,_,_⟩,_,_⟩:=h;obtain rfl:=aoB (g2.symm.trans Xy);obtain rfl:=aoB (t2.symm.trans ht0)
 have ahH:cs0.toList=([31,28,31,30,31,30,31,31,30,31,30,31]:List Int).map λx=> .int .i64 x:=My Tryz.underlying330 Tryz.underlying3 (by kernel_rfl) (by kernel_rfl) XT
 intro g d hg;unfold Jx at hg;rw[bp]at hg;split at hg
 .rename_i e;subst e;obtain rfl:=aoB hg
  have hc:∀j,W.cell? ⟨2,j,ae⟩=(([31,28,31,30,31,30,31,31,30,31,30,31]:List Int).map λx=>(.int .i64 x:Value))[j]? :=λj=>by rw[World.var?_cell Xy OA j,<-ahH,Array.getElem?_toList]
  refine⟨SB (hc 0),_,?_,λj u hj=>by rw[apn,hc j];exact hj,?_⟩
  .rfl
  .exact⟨[_],_,rfl,rfl,⟨[_],_,rfl,rfl,⟨[_],_,rfl,rfl,⟨[_],_,rfl,rfl,⟨[_],_,rfl,rfl,⟨[_],_,rfl,rfl,⟨[_],_,rfl,rfl,⟨[_],_,rfl,rfl,⟨[_],_,rfl,rfl,⟨[_],_,rfl,rfl,⟨[_],_,rfl,rfl,rfl⟩⟩⟩⟩⟩⟩⟩⟩⟩⟩⟩
 .cases hg
theorem Q8(os:Os)(args:Array Value):laidMetH Tryz.prog Rows.compilerCompileRow.laid ((World.doorLaid Tryz.prog 400 os).forCall (λ_ _=>0) ⟨#[],args,[]⟩).memory:=
 laidMetH_of_parts3 (fuel:=8) (laidMet_of_run' 8 (by kernel_rfl) (by kernel_rfl)) (by kernel_rfl) (by kernel_rfl)
theorem abP{P:Program}{H:Type}{enc:TypeId×Value->H}{w:World}{base:Nat}{spare:Nat->Bool}{held:Bool}{v:Value}{d:DataW H}{ps:List MemPlace}{t:TypeId}(ht:P.underlying t=aa .string)(hv:Value.okWide P w .any base t v)(h:DataW.Trod enc P w 0 spare held t v d ps):∃s:ByteArray,v= .string s/\WF .str s/\eg .str s<=Rows.uptoBulk d:=by
 obtain⟨s,rfl⟩:=okWide_string ht hv;obtain⟨fuel,hf⟩:=h;obtain⟨y,h1,h2,h3⟩:=Bz ht H enc w spare held fuel _ _ hf
 obtain rfl:y=s:=by
  have h1:[Value.string s]=[Value.string y]:=h1;cases h1;rfl
 exact⟨y,rfl,h2,h3⟩
set_option maxRecDepth 100000 in
theorem Q9(H:Type)(enc:TypeId×Value->H)(W:World)(base:Nat)(args:Array Value)(ds gs:List (DataW H))(before:List MemPlace)
 (qC:∀(j:Nat)t v,Tryz.f4.params[j]? =aa t->args[j]? =aa v->Value.okWide Tryz.prog W .any base t v)
 (hW:DataW.Whole enc Tryz.prog Tryz.f4.params.toList Rows.compilerCompileSpec.vars ag W args.toList ds gs before)(hL:laidMetH Tryz.prog Rows.compilerCompileRow.laid W):
 Calls Tryz.prog 4 args W λe W'=>∃v,e= .returned v/\Rows.compilerCompileSpec.post enc Tryz.prog Tryz.f4 ag af ag ag W args v W':=by
 have hW':=hW
 have aJ:∀p∈before,p.block<W.heap.size:=λp hp=>hW.lt p hp
 obtain⟨p,q,hA0,hV,rfl,A4,R2⟩:=hW;have hA:DataW.TrodAll enc Tryz.prog W 0 (λ_=>af) af Tryz.f4.params.toList args.toList ds p:=hA0;have hA1:=hA;rw[Tryz.params4]at hA qC;obtain⟨v0,vs0,d0,ds0,p0,q0,Jv,rfl,rfl,h0,r0⟩:=trodAll_cons hA;obtain⟨v1,vs1,d1,ds1,p1,q1,rfl,rfl,rfl,h1,r1⟩:=trodAll_cons r0;obtain⟨v2,vs2,d2,ds2,p2,q2,rfl,rfl,rfl,h2,r2⟩:=trodAll_cons r1;obtain⟨rfl,rfl,rfl⟩:=trodAll_nil r2
 obtain rfl:args= #[v0,v1,v2]:=by cases args;simp_all
 obtain⟨rfl,rfl⟩:=trodVars_none hV;clear hA0;obtain⟨es0,x0,rfl,Ug,hw0,hb0⟩:=Hr Tryz.underlying26 O26 (qC 0 26 v0 rfl rfl) h0;obtain⟨x1,rfl,hw1,Hh⟩:=Ju Tryz.underlying3 (qC 1 3 v1 rfl rfl) h1;obtain⟨x2,rfl,hw2,AZ⟩:=Ju Tryz.underlying3 (qC 2 3 v2 rfl rfl) h2
 refine(Mx (x:=(x0,x1,x2)) (W4 aG) (L.tK x0 x1 x2 hw0 hw1 hw2) rfl (.cons (FA Ug) (.cons (Fz _ _ _ x1) (.cons (Fz _ _ _ x2) .nil))) rfl (T7 hL)).mono λe W' ⟨he,hs⟩=>?_
 subst he
 exact⟨_,rfl,AU (pv:=[]) hW' (λ_ _ _=>trodAll_cons_mk (shut_bool Tryz.underlying4 _) trodAll_mk0)
  (λsp BA=>uG laidOut hs _ _ _ _ rows hA1 (λx hx=>aJ x (by simpa using hx)) (λx hx=>BA x (by simpa using hx))) (λ_ _=>rfl) rfl hs
  (ok_one (by kernel_rfl) rfl (okWide_bool_mk Tryz.underlying4 _))⟩
set_option maxRecDepth 100000 in
theorem lifted(os:Os)(started:os.Started)(H:Type)(enc:TypeId×Value->H):
 ReturnsInHanded {} Tryz.checked os 4 .any (λw args=>(Rows.compilerCompileSpec.pre enc Tryz.prog Tryz.f4 Rows.compilerCompileRow.domain ag w args/\laidMetH Tryz.prog Rows.compilerCompileRow.laid w)/\sizedMet enc Tryz.prog Tryz.f4 (OpenSpec.ofChange Rows.compilerCompileSpec) ag w args)
  (Rows.compilerCompileSpec.post enc Tryz.prog Tryz.f4 ag af ag ag):=by
 refine returnsInHanded_of_change_and (C:=Tryz.checked) (X:=λw _=>laidMetH Tryz.prog Rows.compilerCompileRow.laid w) (λ_ _ _ hh h=>h.of_heap hh) own started (by kernel_rfl) Tryz.func4
  (ChangeSpec.witness_shaped (enc:=enc) (C:=Tryz.checked) (os:=os) (X:=λw _=>laidMetH Tryz.prog Rows.compilerCompileRow.laid w) ag (World.doorLaid Tryz.prog 400 os) #[.agg #[.slice ae 0 0, .slice ae 0 0, .slice ae 0 0], .int .i64 0, .int .i64 0] 12 rfl (World.shaped_of_RefB (by kernel_rfl) (by kernel_rfl)) (by kernel_rfl) (by kernel_rfl) (by kernel_rfl) (Q8 os _)) ?_
 intro W base args ds gs before qC hW _ _ hL _;exact Q9 H enc W base args ds gs before qC hW hL
theorem jf1:Tryz.prog.inPlace 4=Rows.compilerCompileRow.inPlace:=by kernel_rfl
theorem jf2:Tryz.prog.unfollowed 4=Rows.compilerCompileRow.unfollowed:=by kernel_rfl
theorem jf3:Tryz.prog.recurses 4=Rows.compilerCompileRow.recurses:=by kernel_rfl
theorem jf4:Tryz.prog.varsNamed 4=Rows.compilerCompileRow.named:=by kernel_rfl
theorem jf:joinedFacts Tryz.prog 4 Tryz.f4 Rows.compilerCompileSpec Rows.compilerCompileRow=af:=by
 unfold joinedFacts;rw[jf1,jf2,jf3,jf4]
 kernel_rfl
theorem jl:af=Tryz.prog.looks []:=by kernel_rfl
theorem jg:ag=Rows.compilerCompileRow.goesBy Tryz.prog:=by kernel_rfl
theorem over:Rows.compilerCompileRow.holds Tryz.pinned (OpenSpec.ofChange Rows.compilerCompileSpec):=
 OpenClaim.holds_of_wide 4 Tryz.f4 rfl rfl rfl rfl rfl rfl rfl ⟨rfl,rfl,rfl,rfl,rfl⟩ rfl rfl rfl rfl rfl (by kernel_rfl) Tryz.func4 jf
  (of_decide_eq_true (by kernel_rfl)) (by unfold Func.isWrapper;rw[if_neg (of_decide_eq_false (by kernel_rfl))];exact⟨rfl,rfl⟩)
  (λos started H enc _=>lifted os started H enc)
theorem Hc:Rows.CompilerCompileCardSaid:=
 Claim7.holds_tied_plain_at .later [] [.data] af (af, "a23270bc5c32c680b38abfdf186966875dc6e07990d70c4dcd5d12bef2bc91f3") af
  over (λ_ h=>by cases h) (by kernel_rfl) (λ_ h=>by cases h) compilerCompile_row_tie rfl ⟨rfl,rfl⟩ (by kernel_rfl) rfl
  (λf fn hf BZ=>by
    obtain rfl:f=4:=aoB ((show Tryz.prog.funcNamed "guerdon/guerdonlaw29.CompilerCompile" =aa 4 by kernel_rfl).symm.trans hf)|>.symm
    obtain rfl:fn=Tryz.f4:=(aoB (Tryz.func4.symm.trans BZ)).symm
    exact⟨jl,λj t ht=>by
     rw[Tryz.params4]at ht
     have hm:t∈[26,3,3]:=by simpa using Array.mem_of_getElem? ht
     have jJ:([26,3,3].all λu=> !Tryz.prog.wantsStandIn u)=af:=by kernel_rfl
     exact(show Tryz.prog.wantsStandIn t=ag by simpa using aqf.1 jJ t hm)⟩)
  jg
theorem proved:Rows.CompilerCompileCardSaid:=Hc
end Go.Proofs.YtfjgcenlllgonaaGreatDoor.compilerCompile
