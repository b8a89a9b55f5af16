/- TopRecoveryLimits: the statement, closed: the argument's reading by the form, the walk (by program) and the plain law together. Written by close.py. -/
import Derived.Test.YtleifhfeahnocaaGreatDoorRows
import Derived.Test.YtleifhfeahnocaaGreatDoorU1
import Derived.Test.YtleifhfeahnocaaGreatDoorU4
import Derived.Test.YtleifhfeahnocaaGreatDoorU13
import Derived.WalkKit
import Derived.ProofKit
import Derived.OpenShut
import Derived.JoinedCond
import Derived.Test.YtleifhfeahnocaaGreatDoorCards
import Derived.Test.YtleifhfeahnocaaGreatDoorTie
import Derived.SevenTiedAt
set_option linter.defProp false
open _root_.Bool renaming false->ag,true->af
open _root_.Option renaming none->ae,some->aa
open _root_.List renaming forall_mem_cons->aj6
open _root_.Nat renaming blt->ajg,zero_add->ajh
open _root_.Option.some renaming inj->aiF
namespace Go.Proofs.YtleifhfeahnocaaGreatDoor.topRecoveryLimits
open Go Go.RowKit Go.ChangeShapes Go.WideShapes Go.ChangeAt Go.Deep
set_option linter.unusedVariables false
def own:ownKnob Tryz.prog.godebug=ae:=by kernel_rfl
def laidOut:laidOutB Tryz.prog=af:=by kernel_rfl
def O9:dQ Tryz.prog 9 .str:=yA Tryz.underlying9
def O3:dQ Tryz.prog 3 aB:=Ie Tryz.underlying3
def abQ:dQ Tryz.prog 133 aD:=cw Tryz.underlying133 (by kernel_rfl) (aO rfl (by kernel_rfl) O3 (cJ rfl (by kernel_rfl) O3))
def W4:dQ Tryz.prog 128 (.slice aD):=eD Tryz.underlying128 (by kernel_rfl) abQ
def O51:dQ Tryz.prog 51 aD:=cw Tryz.underlying51 (by kernel_rfl) (aO rfl (by kernel_rfl) O3 (cJ rfl (by kernel_rfl) O3))
def abS:dQ Tryz.prog 130 da:=cw Tryz.underlying130 (by kernel_rfl) (aO rfl (by kernel_rfl) O9 (aO rfl (by kernel_rfl) O3 (aO rfl (by kernel_rfl) O3 (aO rfl (by kernel_rfl) O3 (aO rfl (by kernel_rfl) O51 (aO rfl (by kernel_rfl) W4 (aO rfl (by kernel_rfl) W4 (cJ rfl (by kernel_rfl) O9))))))))
def O79:dQ Tryz.prog 79 (.slice da):=eD Tryz.underlying79 (by kernel_rfl) abS
def O74:dQ Tryz.prog 74 aD:=cw Tryz.underlying74 (by kernel_rfl) (aO rfl (by kernel_rfl) O3 (cJ rfl (by kernel_rfl) O3))
def abU:dQ Tryz.prog 127 bA:=cw Tryz.underlying127 (by kernel_rfl) (aO rfl (by kernel_rfl) O9 (cJ rfl (by kernel_rfl) O74))
def O78:dQ Tryz.prog 78 (.slice bA):=eD Tryz.underlying78 (by kernel_rfl) abU
def O81:dQ Tryz.prog 81 aM:=cw Tryz.underlying81 (by kernel_rfl) (aO rfl (by kernel_rfl) O9 (aO rfl (by kernel_rfl) O3 (aO rfl (by kernel_rfl) O78 (aO rfl (by kernel_rfl) O78 (cJ rfl (by kernel_rfl) O79)))))
def O24:dQ Tryz.prog 24 (.slice aM):=eD Tryz.underlying24 (by kernel_rfl) O81
def abV:dQ Tryz.prog 232 ki:=cw Tryz.underlying232 (by kernel_rfl) (aO rfl (by kernel_rfl) O51 (aO rfl (by kernel_rfl) O3 (aO rfl (by kernel_rfl) O3 (cJ rfl (by kernel_rfl) O3))))
def O75:dQ Tryz.prog 75 (.slice ki):=eD Tryz.underlying75 (by kernel_rfl) abV
def O77:dQ Tryz.prog 77 bm:=cw Tryz.underlying77 (by kernel_rfl) (aO rfl (by kernel_rfl) O9 (aO rfl (by kernel_rfl) O74 (aO rfl (by kernel_rfl) O74 (cJ rfl (by kernel_rfl) O75))))
def O23:dQ Tryz.prog 23 (.slice bm):=eD Tryz.underlying23 (by kernel_rfl) O77
def O70:dQ Tryz.prog 70 (.slice .str):=eD Tryz.underlying70 (by kernel_rfl) O9
def O72:dQ Tryz.prog 72 dY:=cw Tryz.underlying72 (by kernel_rfl) (aO rfl (by kernel_rfl) O9 (cJ rfl (by kernel_rfl) O70))
def O22:dQ Tryz.prog 22 (.slice dY):=eD Tryz.underlying22 (by kernel_rfl) O72
def O26:dQ Tryz.prog 26 bV:=cw Tryz.underlying26 (by kernel_rfl) (aO rfl (by kernel_rfl) O22 (aO rfl (by kernel_rfl) O23 (cJ rfl (by kernel_rfl) O24)))
def O27:dQ Tryz.prog 27 (.slice aB):=eD Tryz.underlying27 (by kernel_rfl) O3
def O29:dQ Tryz.prog 29 cO:=cw Tryz.underlying29 (by kernel_rfl) (aO rfl (by kernel_rfl) O3 (cJ rfl (by kernel_rfl) O27))
def O31:dQ Tryz.prog 31 aS:=cw Tryz.underlying31 (by kernel_rfl) (aO rfl (by kernel_rfl) O3 (aO rfl (by kernel_rfl) O3 (aO rfl (by kernel_rfl) O3 (aO rfl (by kernel_rfl) O3 (aO rfl (by kernel_rfl) O3 (aO rfl (by kernel_rfl) O3 (aO rfl (by kernel_rfl) O3 (cJ rfl (by kernel_rfl) O29))))))))
def O49:dQ Tryz.prog 49 aE:=cw Tryz.underlying49 (by kernel_rfl) (aO rfl (by kernel_rfl) O3 (aO rfl (by kernel_rfl) O3 (cJ rfl (by kernel_rfl) O3)))
def O53:dQ Tryz.prog 53 bj:=cw Tryz.underlying53 (by kernel_rfl) (aO rfl (by kernel_rfl) O3 (aO rfl (by kernel_rfl) O3 (aO rfl (by kernel_rfl) O3 (aO rfl (by kernel_rfl) O49 (aO rfl (by kernel_rfl) O51 (cJ rfl (by kernel_rfl) O3))))))
def O32:dQ Tryz.prog 32 (.slice bj):=eD Tryz.underlying32 (by kernel_rfl) O53
def O34:dQ Tryz.prog 34 bB:=cw Tryz.underlying34 (by kernel_rfl) (aO rfl (by kernel_rfl) O3 (aO rfl (by kernel_rfl) O3 (aO rfl (by kernel_rfl) O3 (cJ rfl (by kernel_rfl) O32))))
def O55:dQ Tryz.prog 55 b7:=cw Tryz.underlying55 (by kernel_rfl) (aO rfl (by kernel_rfl) O3 (aO rfl (by kernel_rfl) O3 (aO rfl (by kernel_rfl) O3 (aO rfl (by kernel_rfl) O3 (aO rfl (by kernel_rfl) O3 (aO rfl (by kernel_rfl) O3 (aO rfl (by kernel_rfl) O3 (aO rfl (by kernel_rfl) O3 (cJ rfl (by kernel_rfl) O53)))))))))
def O35:dQ Tryz.prog 35 (.slice b7):=eD Tryz.underlying35 (by kernel_rfl) O55
def rows:∀t∈Tryz.f3.params.toList,(Tryz.prog.readableRec t&&ajg t Tryz.prog.types.size)=af:=by
 rw[Tryz.params3];simp only[aj6];exact⟨by kernel_rfl,by kernel_rfl,by kernel_rfl,by kernel_rfl,λ_ h=>absurd h (by simp)⟩
def g0:Tryz.prog.globalNamed "guerdon/date.monthLengths" =aa 0:=by kernel_rfl
def t0:(Tryz.prog.globals[0]?).map (·.type)=aa 247:=by kernel_rfl
def PC{W:World}(h:laidMetH Tryz.prog Rows.topRecoveryLimitsRow.laid W):rE (λb=>b<W.heap.size) W:=by
 rw[MakeChecks.laidMetH_plain _ _ _ (by kernel_rfl)]at h;obtain⟨ps,⟨mg0,mt0,Xe,f0,p0,q0,hg0,ht0,QO,hd0,_,_⟩,_,_⟩:=h;obtain rfl:=aiF (g0.symm.trans hg0);obtain rfl:=aiF (t0.symm.trans ht0)
 have abW:Xe.toList=([31,28,31,30,31,30,31,31,30,31,30,31]:List Int).map λx=> .int .i64 x:=Jc Tryz.underlying247 Tryz.underlying3 (by kernel_rfl) (by kernel_rfl) hd0
 intro g d hg;unfold Gv at hg;rw[ba]at hg;split at hg
 .rename_i e;subst e;obtain rfl:=aiF hg
  have hc:∀j,W.cell? ⟨0,j,ae⟩=(([31,28,31,30,31,30,31,31,30,31,30,31]:List Int).map λx=>(.int .i64 x:Value))[j]? :=λj=>by rw[World.var?_cell hg0 QO j,<-abW,Array.getElem?_toList]
  refine⟨OA (hc 0),_,?_,λj u hj=>by rw[ajh,hc j];exact hj,?_⟩
  .rfl
  .exact⟨[_],_,rfl,rfl,⟨[_],_,rfl,rfl,⟨[_],_,rfl,rfl,⟨[_],_,rfl,rfl,⟨[_],_,rfl,rfl,⟨[_],_,rfl,rfl,⟨[_],_,rfl,rfl,⟨[_],_,rfl,rfl,⟨[_],_,rfl,rfl,⟨[_],_,rfl,rfl,⟨[_],_,rfl,rfl,rfl⟩⟩⟩⟩⟩⟩⟩⟩⟩⟩⟩
 .cases hg
def Ng(os:Os)(args:Array Value):laidMetH Tryz.prog Rows.topRecoveryLimitsRow.laid ((World.doorLaid Tryz.prog 400 os).forCall (λ_ _=>0) ⟨#[],args,[]⟩).memory:=
 laidMetH_of_parts3 (fuel:=8) (laidMet_of_run' 8 (by kernel_rfl) (by kernel_rfl)) (by kernel_rfl) (by kernel_rfl)
def XT{P:Program}{H:Type}{enc:TypeId×Value->H}{w:World}{base:Nat}{spare:Nat->Bool}{held:Bool}{v:Value}{d:DataW H}{ps:List MemPlace}{t:TypeId}(ht:P.underlying t=aa .string)(hv:Value.okWide P w .any base t v)(h:DataW.Trod enc P w 0 spare held t v d ps):∃s:ByteArray,v= .string s/\WF .str s/\sj .str s<=Rows.uptoBulk d:=by
 obtain⟨s,rfl⟩:=okWide_string ht hv;obtain⟨fuel,hf⟩:=h;obtain⟨y,h1,h2,h3⟩:=yA ht H enc w spare held fuel _ _ hf
 obtain rfl:y=s:=by
  have h1:[Value.string s]=[Value.string y]:=h1;cases h1;rfl
 exact⟨y,rfl,h2,h3⟩
set_option maxRecDepth 100000 in
def Nh(H:Type)(enc:TypeId×Value->H)(W:World)(base:Nat)(args:Array Value)(ds gs:List (DataW H))(before:List MemPlace)
 (q6:∀(j:Nat)t v,Tryz.f3.params[j]? =aa t->args[j]? =aa v->Value.okWide Tryz.prog W .any base t v)
 (hW:DataW.Whole enc Tryz.prog Tryz.f3.params.toList Rows.topRecoveryLimitsSpec.vars ag W args.toList ds gs before)(hL:laidMetH Tryz.prog Rows.topRecoveryLimitsRow.laid W):
 Calls Tryz.prog 3 args W λe W'=>∃v,e= .returned v/\Rows.topRecoveryLimitsSpec.post enc Tryz.prog Tryz.f3 ag af ag ag W args v W':=by
 have Ru:=hW
 have aH:∀p∈before,p.block<W.heap.size:=λp hp=>hW.lt p hp
 obtain⟨p,q,hA0,hV,rfl,yb,N2⟩:=hW;have hA:DataW.TrodAll enc Tryz.prog W 0 (λ_=>af) af Tryz.f3.params.toList args.toList ds p:=hA0;have hA1:=hA;rw[Tryz.params3]at hA q6;obtain⟨v0,vs0,d0,ds0,p0,q0,Gt,rfl,rfl,h0,r0⟩:=trodAll_cons hA;obtain⟨v1,Yq,d1,ds1,p1,q1,rfl,rfl,rfl,h1,r1⟩:=trodAll_cons r0;obtain⟨v2,vs2,d2,ds2,p2,q2,rfl,rfl,rfl,h2,r2⟩:=trodAll_cons r1;obtain⟨v3,vs3,d3,ds3,p3,q3,rfl,rfl,rfl,h3,r3⟩:=trodAll_cons r2;obtain⟨rfl,rfl,rfl⟩:=trodAll_nil r3
 obtain rfl:args= #[v0,v1,v2,v3]:=by cases args;simp_all
 obtain⟨rfl,rfl⟩:=trodVars_none hV;clear hA0;obtain⟨es0,x0,rfl,X8,hw0,Qj⟩:=rD Tryz.underlying26 O26 (q6 0 26 v0 rfl rfl) h0;obtain⟨es1,x1,rfl,Yo,hw1,J9⟩:=rD Tryz.underlying31 O31 (q6 1 31 v1 rfl rfl) h1;obtain⟨es2,x2,rfl,hr2,hw2,Ka⟩:=rD Tryz.underlying34 O34 (q6 2 34 v2 rfl rfl) h2;obtain⟨x3,hr3,YY,Xj⟩:=If Tryz.underlying35 O35 (q6 3 35 v3 rfl rfl) h3
 refine(Jb (x:=(x0,x1,x2,x3)) (W3 aV) (L.pI x0 x1 x2 x3 hw0 hw1 hw2 YY) rfl (.cons (qf X8) (.cons (qf Yo) (.cons (qf hr2) (.cons (Fi hr3) .nil)))) rfl (PC hL)).mono λe W' ⟨he,hs⟩=>?_
 subst he
 exact⟨_,rfl,xT (pv:=[]) Ru (λ_ _ _=>trodAll_cons_mk (shut_bool Tryz.underlying4 _) trodAll_mk0)
  (λsp tE=>rf laidOut hs _ _ _ _ rows hA1 (λx hx=>aH x (by simpa using hx)) (λx hx=>tE x (by simpa using hx))) (λ_ _=>rfl) rfl hs
  (ok_one (by kernel_rfl) rfl (okWide_bool_mk Tryz.underlying4 _))⟩
set_option maxRecDepth 100000 in
def lifted(os:Os)(started:os.Started)(H:Type)(enc:TypeId×Value->H):
 ReturnsInHanded {} Tryz.checked os 3 .any (λw args=>(Rows.topRecoveryLimitsSpec.pre enc Tryz.prog Tryz.f3 Rows.topRecoveryLimitsRow.domain ag w args/\laidMetH Tryz.prog Rows.topRecoveryLimitsRow.laid w)/\sizedMet enc Tryz.prog Tryz.f3 (OpenSpec.ofChange Rows.topRecoveryLimitsSpec) ag w args)
  (Rows.topRecoveryLimitsSpec.post enc Tryz.prog Tryz.f3 ag af ag ag):=by
 refine returnsInHanded_of_change_and (C:=Tryz.checked) (X:=λw _=>laidMetH Tryz.prog Rows.topRecoveryLimitsRow.laid w) (λ_ _ _ hh h=>h.of_heap hh) own started (by kernel_rfl) Tryz.func3
  (ChangeSpec.witness_shaped (enc:=enc) (C:=Tryz.checked) (os:=os) (X:=λw _=>laidMetH Tryz.prog Rows.topRecoveryLimitsRow.laid w) ag (World.doorLaid Tryz.prog 400 os) #[.agg #[.slice ae 0 0, .slice ae 0 0, .slice ae 0 0], .agg #[.int .i64 0, .int .i64 0, .int .i64 0, .int .i64 0, .int .i64 0, .int .i64 0, .int .i64 0, .int .i64 0, .slice ae 0 0], .agg #[.int .i64 0, .int .i64 0, .int .i64 0, .slice ae 0 0], .slice ae 0 0] 12 rfl (World.shaped_of_RefB (by kernel_rfl) (by kernel_rfl)) (by kernel_rfl) (by kernel_rfl) (by kernel_rfl) (Ng os _)) ?_
 intro W base args ds gs before q6 hW _ _ hL _;exact Nh H enc W base args ds gs before q6 hW hL
def jf1:Tryz.prog.inPlace 3=Rows.topRecoveryLimitsRow.inPlace:=by kernel_rfl
def jf2:Tryz.prog.unfollowed 3=Rows.topRecoveryLimitsRow.unfollowed:=by kernel_rfl
def jf3:Tryz.prog.recurses 3=Rows.topRecoveryLimitsRow.recurses:=by kernel_rfl
def jf4:Tryz.prog.varsNamed 3=Rows.topRecoveryLimitsRow.named:=by kernel_rfl
def jf:joinedFacts Tryz.prog 3 Tryz.f3 Rows.topRecoveryLimitsSpec Rows.topRecoveryLimitsRow=af:=by
 unfold joinedFacts;rw[jf1,jf2,jf3,jf4]
 kernel_rfl
def jl:af=Tryz.prog.looks []:=by kernel_rfl
def jg:ag=Rows.topRecoveryLimitsRow.goesBy Tryz.prog:=by kernel_rfl
def over:Rows.topRecoveryLimitsRow.holds Tryz.pinned (OpenSpec.ofChange Rows.topRecoveryLimitsSpec):=
 OpenClaim.holds_of_wide 3 Tryz.f3 rfl rfl rfl rfl rfl rfl rfl ⟨rfl,rfl,rfl,rfl,rfl⟩ rfl rfl rfl rfl rfl (by kernel_rfl) Tryz.func3 jf
  (of_decide_eq_true (by kernel_rfl)) (by unfold Func.isWrapper;rw[if_neg (of_decide_eq_false (by kernel_rfl))];exact⟨rfl,rfl⟩)
  (λos started H enc _=>lifted os started H enc)
def D8:Rows.TopRecoveryLimitsCardSaid:=
 Claim7.holds_tied_plain_at .later [] [.data] af (af, "0ed26773ecdb169a01c0e575e1f335fda2f5cd03781a6b91dbce5d2821f40878") af
  over (λ_ h=>by cases h) (by kernel_rfl) (λ_ h=>by cases h) topRecoveryLimits_row_tie rfl ⟨rfl,rfl⟩ (by kernel_rfl) rfl
  (λf fn hf BJ=>by
    obtain rfl:f=3:=aiF ((show Tryz.prog.funcNamed "guerdon/guerdontop.TopRecoveryLimits" =aa 3 by kernel_rfl).symm.trans hf)|>.symm
    obtain rfl:fn=Tryz.f3:=(aiF (Tryz.func3.symm.trans BJ)).symm
    exact⟨jl,λj t ht=>by
     rw[Tryz.params3]at ht
     have hm:t∈[26,31,34,35]:=by simpa using Array.mem_of_getElem? ht
     have eV:([26,31,34,35].all λu=> !Tryz.prog.wantsStandIn u)=af:=by kernel_rfl
     exact(show Tryz.prog.wantsStandIn t=ag by simpa using List.all_eq_true.1 eV t hm)⟩)
  jg
theorem proved:Rows.TopRecoveryLimitsCardSaid:=D8
end Go.Proofs.YtleifhfeahnocaaGreatDoor.topRecoveryLimits
