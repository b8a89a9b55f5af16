/- TableevalConditions: the statement, closed: the argument's reading by the form, the walk (by program) and the plain law together. Written by close.py. -/
import Derived.Test.YtfeahmiobbjklaaGreatDoorRows
import Derived.Test.YtfeahmiobbjklaaGreatDoorU1
import Derived.Test.YtfeahmiobbjklaaGreatDoorU4
import Derived.Test.YtfeahmiobbjklaaGreatDoorU11
import Derived.WalkKit
import Derived.ProofKit
import Derived.OpenShut
import Derived.JoinedCond
import Derived.Test.YtfeahmiobbjklaaGreatDoorCards
import Derived.Test.YtfeahmiobbjklaaGreatDoorTie
import Derived.SevenTiedAt
set_option linter.defProp false
open _root_.Bool renaming false->ag,true->af
open _root_.Option renaming none->ae,some->aa
open _root_.List renaming forall_mem_cons->ahx
open _root_.Nat renaming blt->agW,zero_add->agX
open _root_.Option.some renaming inj->agq
namespace Go.Proofs.YtfeahmiobbjklaaGreatDoor.tableevalConditions
open Go Go.RowKit Go.ChangeShapes Go.WideShapes Go.ChangeAt Go.Deep
set_option linter.unusedVariables false
def own:ownKnob Tryz.prog.godebug=ae:=by kernel_rfl
def laidOut:laidOutB Tryz.prog=af:=by kernel_rfl
def O3:fe Tryz.prog 3 ay:=GB Tryz.underlying3
def ZD:fe Tryz.prog 119 az:=dE Tryz.underlying119 (by kernel_rfl) (bJ rfl (by kernel_rfl) O3 (eh rfl (by kernel_rfl) O3))
def ZE:fe Tryz.prog 121 aH:=dE Tryz.underlying121 (by kernel_rfl) (bJ rfl (by kernel_rfl) ZD (eh rfl (by kernel_rfl) O3))
def O24:fe Tryz.prog 24 (.slice aH):=ff Tryz.underlying24 (by kernel_rfl) ZE
def O23:fe Tryz.prog 23 (.slice ay):=ff Tryz.underlying23 (by kernel_rfl) O3
def O79:fe Tryz.prog 79 az:=dE Tryz.underlying79 (by kernel_rfl) (bJ rfl (by kernel_rfl) O3 (eh rfl (by kernel_rfl) O3))
def O43:fe Tryz.prog 43 (.slice az):=ff Tryz.underlying43 (by kernel_rfl) O79
def O22:fe Tryz.prog 22 (.slice (.slice az)):=ff Tryz.underlying22 (by kernel_rfl) O43
def O26:fe Tryz.prog 26 aU:=dE Tryz.underlying26 (by kernel_rfl) (bJ rfl (by kernel_rfl) O3 (bJ rfl (by kernel_rfl) O22 (bJ rfl (by kernel_rfl) O23 (eh rfl (by kernel_rfl) O24))))
def ZF:fe Tryz.prog 111 az:=dE Tryz.underlying111 (by kernel_rfl) (bJ rfl (by kernel_rfl) O3 (eh rfl (by kernel_rfl) O3))
def ZG:fe Tryz.prog 224 iE:=dE Tryz.underlying224 (by kernel_rfl) (bJ rfl (by kernel_rfl) ZF (bJ rfl (by kernel_rfl) O3 (bJ rfl (by kernel_rfl) O3 (eh rfl (by kernel_rfl) O3))))
def O75:fe Tryz.prog 75 (.slice iE):=ff Tryz.underlying75 (by kernel_rfl) ZG
def ZH:fe Tryz.prog 74 az:=dE Tryz.underlying74 (by kernel_rfl) (bJ rfl (by kernel_rfl) O3 (eh rfl (by kernel_rfl) O3))
def O9:fe Tryz.prog 9 .str:=xk Tryz.underlying9
def O77:fe Tryz.prog 77 bD:=dE Tryz.underlying77 (by kernel_rfl) (bJ rfl (by kernel_rfl) O9 (bJ rfl (by kernel_rfl) ZH (bJ rfl (by kernel_rfl) ZH (eh rfl (by kernel_rfl) O75))))
def O30:fe Tryz.prog 30 (.slice bD):=ff Tryz.underlying30 (by kernel_rfl) O77
def O29:fe Tryz.prog 29 (.slice az):=ff Tryz.underlying29 (by kernel_rfl) ZH
def O40:fe Tryz.prog 40 aA:=dE Tryz.underlying40 (by kernel_rfl) (bJ rfl (by kernel_rfl) O3 (bJ rfl (by kernel_rfl) O3 (eh rfl (by kernel_rfl) O3)))
def ZI:fe Tryz.prog 27 (.slice aA):=ff Tryz.underlying27 (by kernel_rfl) O40
def O28:fe Tryz.prog 28 (.slice (.slice aA)):=ff Tryz.underlying28 (by kernel_rfl) ZI
def O32:fe Tryz.prog 32 bl:=dE Tryz.underlying32 (by kernel_rfl) (bJ rfl (by kernel_rfl) O3 (bJ rfl (by kernel_rfl) ZI (bJ rfl (by kernel_rfl) ZI (bJ rfl (by kernel_rfl) O28 (bJ rfl (by kernel_rfl) O29 (eh rfl (by kernel_rfl) O30))))))
def rows:∀t∈Tryz.f3.params.toList,(Tryz.prog.readableRec t&&agW t Tryz.prog.types.size)=af:=by
 rw[Tryz.params3];simp only[ahx];exact⟨by kernel_rfl,by kernel_rfl,λ_ h=>absurd h (by simp)⟩
def g2:Tryz.prog.globalNamed "guerdon/date.monthLengths" =aa 2:=by kernel_rfl
def t2:(Tryz.prog.globals[2]?).map (·.type)=aa 344:=by kernel_rfl
def NT{W:World}(h:laidMetH Tryz.prog Rows.tableevalConditionsRow.laid W):pg (λb=>b<W.heap.size) W:=by
 rw[MakeChecks.laidMetH_plain _ _ _ (by kernel_rfl)]at h;obtain⟨ps,⟨g0,t0,UG,f0,p0,q0,TA,ht0,GU,Uj,_,_⟩,_,_⟩:=h;obtain rfl:=agq (g2.symm.trans TA);obtain rfl:=agq (t2.symm.trans ht0)
 have ZJ:UG.toList=([31,28,31,30,31,30,31,31,30,31,30,31]:List Int).map λx=> .int .i64 x:=HE Tryz.underlying344 Tryz.underlying3 (by kernel_rfl) (by kernel_rfl) Uj
 intro g d hg;unfold ER at hg;rw[aS]at hg;split at hg
 .rename_i e;subst e;obtain rfl:=agq hg
  have hc:∀j,W.cell? ⟨2,j,ae⟩=(([31,28,31,30,31,30,31,31,30,31,30,31]:List Int).map λx=>(.int .i64 x:Value))[j]? :=λj=>by rw[World.var?_cell TA GU j,<-ZJ,Array.getElem?_toList]
  refine⟨MY (hc 0),_,?_,λj u hj=>by rw[agX,hc j];exact hj,?_⟩
  .rfl
  .exact⟨[_],_,rfl,rfl,⟨[_],_,rfl,rfl,⟨[_],_,rfl,rfl,⟨[_],_,rfl,rfl,⟨[_],_,rfl,rfl,⟨[_],_,rfl,rfl,⟨[_],_,rfl,rfl,⟨[_],_,rfl,rfl,⟨[_],_,rfl,rfl,⟨[_],_,rfl,rfl,⟨[_],_,rfl,rfl,rfl⟩⟩⟩⟩⟩⟩⟩⟩⟩⟩⟩
 .cases hg
def LK(os:Os)(args:Array Value):laidMetH Tryz.prog Rows.tableevalConditionsRow.laid ((World.doorLaid Tryz.prog 400 os).forCall (λ_ _=>0) ⟨#[],args,[]⟩).memory:=
 laidMetH_of_parts3 (fuel:=8) (laidMet_of_run' 8 (by kernel_rfl) (by kernel_rfl)) (by kernel_rfl) (by kernel_rfl)
def U8{P:Program}{H:Type}{enc:TypeId×Value->H}{w:World}{base:Nat}{spare:Nat->Bool}{held:Bool}{v:Value}{d:DataW H}{ps:List MemPlace}{t:TypeId}(ht:P.underlying t=aa .string)(hv:Value.okWide P w .any base t v)(h:DataW.Trod enc P w 0 spare held t v d ps):∃s:ByteArray,v= .string s/\WF .str s/\sE .str s<=Rows.uptoBulk d:=by
 obtain⟨s,rfl⟩:=okWide_string ht hv;obtain⟨fuel,hf⟩:=h;obtain⟨y,h1,h2,h3⟩:=xk ht H enc w spare held fuel _ _ hf
 obtain rfl:y=s:=by
  have h1:[Value.string s]=[Value.string y]:=h1;cases h1;rfl
 exact⟨y,rfl,h2,h3⟩
set_option maxRecDepth 100000 in
def LL(H:Type)(enc:TypeId×Value->H)(W:World)(base:Nat)(args:Array Value)(ds gs:List (DataW H))(before:List MemPlace)
 (pk:∀(j:Nat)t v,Tryz.f3.params[j]? =aa t->args[j]? =aa v->Value.okWide Tryz.prog W .any base t v)
 (hW:DataW.Whole enc Tryz.prog Tryz.f3.params.toList Rows.tableevalConditionsSpec.vars ag W args.toList ds gs before)(hL:laidMetH Tryz.prog Rows.tableevalConditionsRow.laid W):
 Calls Tryz.prog 3 args W λe W'=>∃v,e= .returned v/\Rows.tableevalConditionsSpec.post enc Tryz.prog Tryz.f3 ag af ag ag W args v W':=by
 have hW':=hW
 have bi:∀p∈before,p.block<W.heap.size:=λp hp=>hW.lt p hp
 obtain⟨p,q,hA0,hV,rfl,wV,JH⟩:=hW;have hA:DataW.TrodAll enc Tryz.prog W 0 (λ_=>af) af Tryz.f3.params.toList args.toList ds p:=hA0;have hA1:=hA;rw[Tryz.params3]at hA pk;obtain⟨v0,vs0,d0,ds0,p0,q0,EQ,rfl,rfl,h0,r0⟩:=trodAll_cons hA;obtain⟨v1,VQ,d1,ds1,p1,q1,rfl,rfl,rfl,h1,r1⟩:=trodAll_cons r0;obtain⟨rfl,rfl,rfl⟩:=trodAll_nil r1
 obtain rfl:args= #[v0,v1]:=by cases args;simp_all
 obtain⟨rfl,rfl⟩:=trodVars_none hV;clear hA0;obtain⟨es0,x0,rfl,QW,hw0,ND⟩:=vb Tryz.underlying26 O26 (pk 0 26 v0 rfl rfl) h0;obtain⟨es1,x1,rfl,LV,UR,IF⟩:=vb Tryz.underlying32 O32 (pk 1 32 v1 rfl rfl) h1
 refine(HD (x:=(x0,x1)) (W3 aR) (L.nw x0 x1 hw0 UR) rfl (.cons (pA QW) (.cons (pA LV) .nil)) rfl (NT hL)).mono λe W' ⟨he,hs⟩=>?_
 subst he
 exact⟨_,rfl,wP (pv:=[]) hW' (λ_ _ _=>trodAll_cons_mk (shut_bool Tryz.underlying4 _) trodAll_mk0)
  (λsp qE=>qF laidOut hs _ _ _ _ rows hA1 (λx hx=>bi x (by simpa using hx)) (λx hx=>qE x (by simpa using hx))) (λ_ _=>rfl) rfl hs
  (ok_one (by kernel_rfl) rfl (okWide_bool_mk Tryz.underlying4 _))⟩
set_option maxRecDepth 100000 in
def lifted(os:Os)(started:os.Started)(H:Type)(enc:TypeId×Value->H):
 ReturnsInHanded {} Tryz.checked os 3 .any (λw args=>(Rows.tableevalConditionsSpec.pre enc Tryz.prog Tryz.f3 Rows.tableevalConditionsRow.domain ag w args/\laidMetH Tryz.prog Rows.tableevalConditionsRow.laid w)/\sizedMet enc Tryz.prog Tryz.f3 (OpenSpec.ofChange Rows.tableevalConditionsSpec) ag w args)
  (Rows.tableevalConditionsSpec.post enc Tryz.prog Tryz.f3 ag af ag ag):=by
 refine returnsInHanded_of_change_and (C:=Tryz.checked) (X:=λw _=>laidMetH Tryz.prog Rows.tableevalConditionsRow.laid w) (λ_ _ _ hh h=>h.of_heap hh) own started (by kernel_rfl) Tryz.func3
  (ChangeSpec.witness_shaped (enc:=enc) (C:=Tryz.checked) (os:=os) (X:=λw _=>laidMetH Tryz.prog Rows.tableevalConditionsRow.laid w) ag (World.doorLaid Tryz.prog 400 os) #[.agg #[.int .i64 0, .slice ae 0 0, .slice ae 0 0, .slice ae 0 0], .agg #[.int .i64 0, .slice ae 0 0, .slice ae 0 0, .slice ae 0 0, .slice ae 0 0, .slice ae 0 0]] 12 rfl (World.shaped_of_RefB (by kernel_rfl) (by kernel_rfl)) (by kernel_rfl) (by kernel_rfl) (by kernel_rfl) (LK os _)) ?_
 intro W base args ds gs before pk hW _ _ hL _;exact LL H enc W base args ds gs before pk hW hL
def jf1:Tryz.prog.inPlace 3=Rows.tableevalConditionsRow.inPlace:=by kernel_rfl
def jf2:Tryz.prog.unfollowed 3=Rows.tableevalConditionsRow.unfollowed:=by kernel_rfl
def jf3:Tryz.prog.recurses 3=Rows.tableevalConditionsRow.recurses:=by kernel_rfl
def jf4:Tryz.prog.varsNamed 3=Rows.tableevalConditionsRow.named:=by kernel_rfl
def jf:joinedFacts Tryz.prog 3 Tryz.f3 Rows.tableevalConditionsSpec Rows.tableevalConditionsRow=af:=by
 unfold joinedFacts;rw[jf1,jf2,jf3,jf4]
 kernel_rfl
def jl:af=Tryz.prog.looks []:=by kernel_rfl
def jg:ag=Rows.tableevalConditionsRow.goesBy Tryz.prog:=by kernel_rfl
def over:Rows.tableevalConditionsRow.holds Tryz.pinned (OpenSpec.ofChange Rows.tableevalConditionsSpec):=
 OpenClaim.holds_of_wide 3 Tryz.f3 rfl rfl rfl rfl rfl rfl rfl ⟨rfl,rfl,rfl,rfl,rfl⟩ rfl rfl rfl rfl rfl (by kernel_rfl) Tryz.func3 jf
  (of_decide_eq_true (by kernel_rfl)) (by unfold Func.isWrapper;rw[if_neg (of_decide_eq_false (by kernel_rfl))];exact⟨rfl,rfl⟩)
  (λos started H enc _=>lifted os started H enc)
def CM:Rows.TableevalConditionsCardSaid:=
 Claim7.holds_tied_plain_at .later [] [.data] af (af, "2bb41ff9245350b77ed2bee49ad86246c28bff173b01bb7057e7fb8062b7c9f4") af
  over (λ_ h=>by cases h) (by kernel_rfl) (λ_ h=>by cases h) tableevalConditions_row_tie rfl ⟨rfl,rfl⟩ (by kernel_rfl) rfl
  (λf fn hf Ac=>by
    obtain rfl:f=3:=agq ((show Tryz.prog.funcNamed "guerdon/guerdonlaw32.TableevalConditions" =aa 3 by kernel_rfl).symm.trans hf)|>.symm
    obtain rfl:fn=Tryz.f3:=(agq (Tryz.func3.symm.trans Ac)).symm
    exact⟨jl,λj t ht=>by
     rw[Tryz.params3]at ht
     have hm:t∈[26,32]:=by simpa using Array.mem_of_getElem? ht
     have fg:([26,32].all λu=> !Tryz.prog.wantsStandIn u)=af:=by kernel_rfl
     exact(show Tryz.prog.wantsStandIn t=ag by simpa using List.all_eq_true.1 fg t hm)⟩)
  jg
theorem proved:Rows.TableevalConditionsCardSaid:=CM
end Go.Proofs.YtfeahmiobbjklaaGreatDoor.tableevalConditions
