/- TopCorrections: the statement, closed: the argument's reading by the form, the walk (by program) and the plain law together. Written by close.py. -/
import Derived.Test.YtleifhfeahnocaaGreatDoorRows
import Derived.Test.YtleifhfeahnocaaGreatDoorU1
import Derived.Test.YtleifhfeahnocaaGreatDoorU4
import Derived.Test.YtleifhfeahnocaaGreatDoorU13
import Derived.WalkKit
import Derived.ProofKit
import Derived.OpenShut
import Derived.JoinedCond
import Derived.Test.YtleifhfeahnocaaGreatDoorCards
import Derived.Test.YtleifhfeahnocaaGreatDoorTie
import Derived.SevenTiedAt
set_option linter.defProp false
open _root_.Bool renaming false->ag,true->af
open _root_.Option renaming none->ae,some->aa
open _root_.List renaming forall_mem_cons->akB
open _root_.Nat renaming blt->ajK,zero_add->ajL
open _root_.Option.some renaming inj->aja
namespace Go.Proofs.YtleifhfeahnocaaGreatDoor.topCorrections
open Go Go.RowKit Go.ChangeShapes Go.WideShapes Go.ChangeAt Go.Deep
set_option linter.unusedVariables false
def own:ownKnob Tryz.prog.godebug=ae:=by kernel_rfl
def laidOut:laidOutB Tryz.prog=af:=by kernel_rfl
def O9:dT Tryz.prog 9 .str:=yU Tryz.underlying9
def O3:dT Tryz.prog 3 aB:=Iv Tryz.underlying3
def acm:dT Tryz.prog 133 aD:=cw Tryz.underlying133 (by kernel_rfl) (aN rfl (by kernel_rfl) O3 (cN rfl (by kernel_rfl) O3))
def XB:dT Tryz.prog 128 (.slice aD):=eF Tryz.underlying128 (by kernel_rfl) acm
def O51:dT Tryz.prog 51 aD:=cw Tryz.underlying51 (by kernel_rfl) (aN rfl (by kernel_rfl) O3 (cN rfl (by kernel_rfl) O3))
def aco:dT Tryz.prog 130 db:=cw Tryz.underlying130 (by kernel_rfl) (aN rfl (by kernel_rfl) O9 (aN rfl (by kernel_rfl) O3 (aN rfl (by kernel_rfl) O3 (aN rfl (by kernel_rfl) O3 (aN rfl (by kernel_rfl) O51 (aN rfl (by kernel_rfl) XB (aN rfl (by kernel_rfl) XB (cN rfl (by kernel_rfl) O9))))))))
def O79:dT Tryz.prog 79 (.slice db):=eF Tryz.underlying79 (by kernel_rfl) aco
def O74:dT Tryz.prog 74 aD:=cw Tryz.underlying74 (by kernel_rfl) (aN rfl (by kernel_rfl) O3 (cN rfl (by kernel_rfl) O3))
def acq:dT Tryz.prog 127 bA:=cw Tryz.underlying127 (by kernel_rfl) (aN rfl (by kernel_rfl) O9 (cN rfl (by kernel_rfl) O74))
def O78:dT Tryz.prog 78 (.slice bA):=eF Tryz.underlying78 (by kernel_rfl) acq
def O81:dT Tryz.prog 81 aM:=cw Tryz.underlying81 (by kernel_rfl) (aN rfl (by kernel_rfl) O9 (aN rfl (by kernel_rfl) O3 (aN rfl (by kernel_rfl) O78 (aN rfl (by kernel_rfl) O78 (cN rfl (by kernel_rfl) O79)))))
def O24:dT Tryz.prog 24 (.slice aM):=eF Tryz.underlying24 (by kernel_rfl) O81
def acr:dT Tryz.prog 232 kw:=cw Tryz.underlying232 (by kernel_rfl) (aN rfl (by kernel_rfl) O51 (aN rfl (by kernel_rfl) O3 (aN rfl (by kernel_rfl) O3 (cN rfl (by kernel_rfl) O3))))
def O75:dT Tryz.prog 75 (.slice kw):=eF Tryz.underlying75 (by kernel_rfl) acr
def O77:dT Tryz.prog 77 bl:=cw Tryz.underlying77 (by kernel_rfl) (aN rfl (by kernel_rfl) O9 (aN rfl (by kernel_rfl) O74 (aN rfl (by kernel_rfl) O74 (cN rfl (by kernel_rfl) O75))))
def O23:dT Tryz.prog 23 (.slice bl):=eF Tryz.underlying23 (by kernel_rfl) O77
def O70:dT Tryz.prog 70 (.slice .str):=eF Tryz.underlying70 (by kernel_rfl) O9
def O72:dT Tryz.prog 72 ef:=cw Tryz.underlying72 (by kernel_rfl) (aN rfl (by kernel_rfl) O9 (cN rfl (by kernel_rfl) O70))
def O22:dT Tryz.prog 22 (.slice ef):=eF Tryz.underlying22 (by kernel_rfl) O72
def O26:dT Tryz.prog 26 bG:=cw Tryz.underlying26 (by kernel_rfl) (aN rfl (by kernel_rfl) O22 (aN rfl (by kernel_rfl) O23 (cN rfl (by kernel_rfl) O24)))
def O27:dT Tryz.prog 27 (.slice aB):=eF Tryz.underlying27 (by kernel_rfl) O3
def O29:dT Tryz.prog 29 cQ:=cw Tryz.underlying29 (by kernel_rfl) (aN rfl (by kernel_rfl) O3 (cN rfl (by kernel_rfl) O27))
def O31:dT Tryz.prog 31 aO:=cw Tryz.underlying31 (by kernel_rfl) (aN rfl (by kernel_rfl) O3 (aN rfl (by kernel_rfl) O3 (aN rfl (by kernel_rfl) O3 (aN rfl (by kernel_rfl) O3 (aN rfl (by kernel_rfl) O3 (aN rfl (by kernel_rfl) O3 (aN rfl (by kernel_rfl) O3 (cN rfl (by kernel_rfl) O29))))))))
def O49:dT Tryz.prog 49 aE:=cw Tryz.underlying49 (by kernel_rfl) (aN rfl (by kernel_rfl) O3 (aN rfl (by kernel_rfl) O3 (cN rfl (by kernel_rfl) O3)))
def O53:dT Tryz.prog 53 bg:=cw Tryz.underlying53 (by kernel_rfl) (aN rfl (by kernel_rfl) O3 (aN rfl (by kernel_rfl) O3 (aN rfl (by kernel_rfl) O3 (aN rfl (by kernel_rfl) O49 (aN rfl (by kernel_rfl) O51 (cN rfl (by kernel_rfl) O3))))))
def O32:dT Tryz.prog 32 (.slice bg):=eF Tryz.underlying32 (by kernel_rfl) O53
def O34:dT Tryz.prog 34 bI:=cw Tryz.underlying34 (by kernel_rfl) (aN rfl (by kernel_rfl) O3 (aN rfl (by kernel_rfl) O3 (aN rfl (by kernel_rfl) O3 (cN rfl (by kernel_rfl) O32))))
def O55:dT Tryz.prog 55 bN:=cw Tryz.underlying55 (by kernel_rfl) (aN rfl (by kernel_rfl) O3 (aN rfl (by kernel_rfl) O3 (aN rfl (by kernel_rfl) O3 (aN rfl (by kernel_rfl) O3 (aN rfl (by kernel_rfl) O3 (aN rfl (by kernel_rfl) O3 (aN rfl (by kernel_rfl) O3 (aN rfl (by kernel_rfl) O3 (cN rfl (by kernel_rfl) O53)))))))))
def O35:dT Tryz.prog 35 (.slice bN):=eF Tryz.underlying35 (by kernel_rfl) O55
def rows:∀t∈Tryz.f4.params.toList,(Tryz.prog.readableRec t&&ajK t Tryz.prog.types.size)=af:=by
 rw[Tryz.params4];simp only[akB];exact⟨by kernel_rfl,by kernel_rfl,by kernel_rfl,by kernel_rfl,λ_ h=>absurd h (by simp)⟩
def g0:Tryz.prog.globalNamed "guerdon/date.monthLengths" =aa 0:=by kernel_rfl
def t0:(Tryz.prog.globals[0]?).map (·.type)=aa 247:=by kernel_rfl
def PZ{W:World}(h:laidMetH Tryz.prog Rows.topCorrectionsRow.laid W):rW (λb=>b<W.heap.size) W:=by
 rw[MakeChecks.laidMetH_plain _ _ _ (by kernel_rfl)]at h;obtain⟨ps,⟨mg0,mt0,XG,f0,p0,q0,hg0,ht0,Re,hd0,_,_⟩,_,_⟩:=h;obtain rfl:=aja (g0.symm.trans hg0);obtain rfl:=aja (t0.symm.trans ht0)
 have acs:XG.toList=([31,28,31,30,31,30,31,31,30,31,30,31]:List Int).map λx=> .int .i64 x:=Js Tryz.underlying247 Tryz.underlying3 (by kernel_rfl) (by kernel_rfl) hd0
 intro g d hg;unfold GN at hg;rw[aZ]at hg;split at hg
 .rename_i e;subst e;obtain rfl:=aja hg
  have hc:∀j,W.cell? ⟨0,j,ae⟩=(([31,28,31,30,31,30,31,31,30,31,30,31]:List Int).map λx=>(.int .i64 x:Value))[j]? :=λj=>by rw[World.var?_cell hg0 Re j,<-acs,Array.getElem?_toList]
  refine⟨OR (hc 0),_,?_,λj u hj=>by rw[ajL,hc j];exact hj,?_⟩
  .rfl
  .exact⟨[_],_,rfl,rfl,⟨[_],_,rfl,rfl,⟨[_],_,rfl,rfl,⟨[_],_,rfl,rfl,⟨[_],_,rfl,rfl,⟨[_],_,rfl,rfl,⟨[_],_,rfl,rfl,⟨[_],_,rfl,rfl,⟨[_],_,rfl,rfl,⟨[_],_,rfl,rfl,⟨[_],_,rfl,rfl,rfl⟩⟩⟩⟩⟩⟩⟩⟩⟩⟩⟩
 .cases hg
def NB(os:Os)(args:Array Value):laidMetH Tryz.prog Rows.topCorrectionsRow.laid ((World.doorLaid Tryz.prog 400 os).forCall (λ_ _=>0) ⟨#[],args,[]⟩).memory:=
 laidMetH_of_parts3 (fuel:=8) (laidMet_of_run' 8 (by kernel_rfl) (by kernel_rfl)) (by kernel_rfl) (by kernel_rfl)
def Yn{P:Program}{H:Type}{enc:TypeId×Value->H}{w:World}{base:Nat}{spare:Nat->Bool}{held:Bool}{v:Value}{d:DataW H}{ps:List MemPlace}{t:TypeId}(ht:P.underlying t=aa .string)(hv:Value.okWide P w .any base t v)(h:DataW.Trod enc P w 0 spare held t v d ps):∃s:ByteArray,v= .string s/\WF .str s/\sK .str s<=Rows.uptoBulk d:=by
 obtain⟨s,rfl⟩:=okWide_string ht hv;obtain⟨fuel,hf⟩:=h;obtain⟨y,h1,h2,h3⟩:=yU ht H enc w spare held fuel _ _ hf
 obtain rfl:y=s:=by
  have h1:[Value.string s]=[Value.string y]:=h1;cases h1;rfl
 exact⟨y,rfl,h2,h3⟩
set_option maxRecDepth 100000 in
def NC(H:Type)(enc:TypeId×Value->H)(W:World)(base:Nat)(args:Array Value)(ds gs:List (DataW H))(before:List MemPlace)
 (rz:∀(j:Nat)t v,Tryz.f4.params[j]? =aa t->args[j]? =aa v->Value.okWide Tryz.prog W .any base t v)
 (hW:DataW.Whole enc Tryz.prog Tryz.f4.params.toList Rows.topCorrectionsSpec.vars ag W args.toList ds gs before)(hL:laidMetH Tryz.prog Rows.topCorrectionsRow.laid W):
 Calls Tryz.prog 4 args W λe W'=>∃v,e= .returned v/\Rows.topCorrectionsSpec.post enc Tryz.prog Tryz.f4 ag af ag ag W args v W':=by
 have RU:=hW
 have aG:∀p∈before,p.block<W.heap.size:=λp hp=>hW.lt p hp
 obtain⟨p,q,hA0,hV,rfl,yx,Om⟩:=hW;have hA:DataW.TrodAll enc Tryz.prog W 0 (λ_=>af) af Tryz.f4.params.toList args.toList ds p:=hA0;have hA1:=hA;rw[Tryz.params4]at hA rz;obtain⟨v0,vs0,d0,ds0,p0,q0,GL,rfl,rfl,h0,r0⟩:=trodAll_cons hA;obtain⟨v1,YU,d1,ds1,p1,q1,rfl,rfl,rfl,h1,r1⟩:=trodAll_cons r0;obtain⟨v2,vs2,d2,ds2,p2,q2,rfl,rfl,rfl,h2,r2⟩:=trodAll_cons r1;obtain⟨v3,vs3,d3,ds3,p3,q3,rfl,rfl,rfl,h3,r3⟩:=trodAll_cons r2;obtain⟨rfl,rfl,rfl⟩:=trodAll_nil r3
 obtain rfl:args= #[v0,v1,v2,v3]:=by cases args;simp_all
 obtain⟨rfl,rfl⟩:=trodVars_none hV;clear hA0;obtain⟨es0,x0,rfl,YD,hw0,QJ⟩:=rV Tryz.underlying26 O26 (rz 0 26 v0 rfl rfl) h0;obtain⟨es1,x1,rfl,YS,hw1,Ku⟩:=rV Tryz.underlying31 O31 (rz 1 31 v1 rfl rfl) h1;obtain⟨es2,x2,rfl,hr2,hw2,Kv⟩:=rV Tryz.underlying34 O34 (rz 2 34 v2 rfl rfl) h2;obtain⟨x3,hr3,Zs,XL⟩:=Iw Tryz.underlying35 O35 (rz 3 35 v3 rfl rfl) h3
 refine(Jr (x:=(x0,x1,x2,x3)) (W4 aU) (L.rD x0 x1 x2 x3 hw0 hw1 hw2 Zs) rfl (.cons (qp YD) (.cons (qp YS) (.cons (qp hr2) (.cons (FD hr3) .nil)))) rfl (PZ hL)).mono λe W' ⟨he,hs⟩=>?_
 subst he
 exact⟨_,rfl,yo (pv:=[]) RU (λ_ _ _=>trodAll_cons_mk (shut_bool Tryz.underlying4 _) trodAll_mk0)
  (λsp tT=>rF laidOut hs _ _ _ _ rows hA1 (λx hx=>aG x (by simpa using hx)) (λx hx=>tT x (by simpa using hx))) (λ_ _=>rfl) rfl hs
  (ok_one (by kernel_rfl) rfl (okWide_bool_mk Tryz.underlying4 _))⟩
set_option maxRecDepth 100000 in
def lifted(os:Os)(started:os.Started)(H:Type)(enc:TypeId×Value->H):
 ReturnsInHanded {} Tryz.checked os 4 .any (λw args=>(Rows.topCorrectionsSpec.pre enc Tryz.prog Tryz.f4 Rows.topCorrectionsRow.domain ag w args/\laidMetH Tryz.prog Rows.topCorrectionsRow.laid w)/\sizedMet enc Tryz.prog Tryz.f4 (OpenSpec.ofChange Rows.topCorrectionsSpec) ag w args)
  (Rows.topCorrectionsSpec.post enc Tryz.prog Tryz.f4 ag af ag ag):=by
 refine returnsInHanded_of_change_and (C:=Tryz.checked) (X:=λw _=>laidMetH Tryz.prog Rows.topCorrectionsRow.laid w) (λ_ _ _ hh h=>h.of_heap hh) own started (by kernel_rfl) Tryz.func4
  (ChangeSpec.witness_shaped (enc:=enc) (C:=Tryz.checked) (os:=os) (X:=λw _=>laidMetH Tryz.prog Rows.topCorrectionsRow.laid w) ag (World.doorLaid Tryz.prog 400 os) #[.agg #[.slice ae 0 0, .slice ae 0 0, .slice ae 0 0], .agg #[.int .i64 0, .int .i64 0, .int .i64 0, .int .i64 0, .int .i64 0, .int .i64 0, .int .i64 0, .int .i64 0, .slice ae 0 0], .agg #[.int .i64 0, .int .i64 0, .int .i64 0, .slice ae 0 0], .slice ae 0 0] 12 rfl (World.shaped_of_RefB (by kernel_rfl) (by kernel_rfl)) (by kernel_rfl) (by kernel_rfl) (by kernel_rfl) (NB os _)) ?_
 intro W base args ds gs before rz hW _ _ hL _;exact NC H enc W base args ds gs before rz hW hL
def jf1:Tryz.prog.inPlace 4=Rows.topCorrectionsRow.inPlace:=by kernel_rfl
def jf2:Tryz.prog.unfollowed 4=Rows.topCorrectionsRow.unfollowed:=by kernel_rfl
def jf3:Tryz.prog.recurses 4=Rows.topCorrectionsRow.recurses:=by kernel_rfl
def jf4:Tryz.prog.varsNamed 4=Rows.topCorrectionsRow.named:=by kernel_rfl
def jf:joinedFacts Tryz.prog 4 Tryz.f4 Rows.topCorrectionsSpec Rows.topCorrectionsRow=af:=by
 unfold joinedFacts;rw[jf1,jf2,jf3,jf4]
 kernel_rfl
def jl:af=Tryz.prog.looks []:=by kernel_rfl
def jg:ag=Rows.topCorrectionsRow.goesBy Tryz.prog:=by kernel_rfl
def over:Rows.topCorrectionsRow.holds Tryz.pinned (OpenSpec.ofChange Rows.topCorrectionsSpec):=
 OpenClaim.holds_of_wide 4 Tryz.f4 rfl rfl rfl rfl rfl rfl rfl ⟨rfl,rfl,rfl,rfl,rfl⟩ rfl rfl rfl rfl rfl (by kernel_rfl) Tryz.func4 jf
  (of_decide_eq_true (by kernel_rfl)) (by unfold Func.isWrapper;rw[if_neg (of_decide_eq_false (by kernel_rfl))];exact⟨rfl,rfl⟩)
  (λos started H enc _=>lifted os started H enc)
def Es:Rows.TopCorrectionsCardSaid:=
 Claim7.holds_tied_plain_at .later [] [.data] af (af, "0ed26773ecdb169a01c0e575e1f335fda2f5cd03781a6b91dbce5d2821f40878") af
  over (λ_ h=>by cases h) (by kernel_rfl) (λ_ h=>by cases h) topCorrections_row_tie rfl ⟨rfl,rfl⟩ (by kernel_rfl) rfl
  (λf fn hf BZ=>by
    obtain rfl:f=4:=aja ((show Tryz.prog.funcNamed "guerdon/guerdontop.TopCorrections" =aa 4 by kernel_rfl).symm.trans hf)|>.symm
    obtain rfl:fn=Tryz.f4:=(aja (Tryz.func4.symm.trans BZ)).symm
    exact⟨jl,λj t ht=>by
     rw[Tryz.params4]at ht
     have hm:t∈[26,31,34,35]:=by simpa using Array.mem_of_getElem? ht
     have fe:([26,31,34,35].all λu=> !Tryz.prog.wantsStandIn u)=af:=by kernel_rfl
     exact(show Tryz.prog.wantsStandIn t=ag by simpa using List.all_eq_true.1 fe t hm)⟩)
  jg
theorem proved:Rows.TopCorrectionsCardSaid:=Es
end Go.Proofs.YtleifhfeahnocaaGreatDoor.topCorrections
