/- TableevalOutcome: the statement, closed: the argument's reading by the form, the walk (by program) and the plain law together. Written by close.py. -/
import Derived.Test.YtfeahmiobbjklaaGreatDoorRows
import Derived.Test.YtfeahmiobbjklaaGreatDoorU1
import Derived.Test.YtfeahmiobbjklaaGreatDoorU4
import Derived.Test.YtfeahmiobbjklaaGreatDoorU11
import Derived.WalkKit
import Derived.ProofKit
import Derived.OpenShut
import Derived.JoinedCond
import Derived.Test.YtfeahmiobbjklaaGreatDoorCards
import Derived.Test.YtfeahmiobbjklaaGreatDoorTie
import Derived.SevenTiedAt
set_option linter.defProp false
open _root_.Bool renaming false->ag,true->af
open _root_.Option renaming none->ae,some->aa
open _root_.List renaming forall_mem_cons->ahB
open _root_.Nat renaming blt->ag4,zero_add->ag8
open _root_.Option.some renaming inj->agx
namespace Go.Proofs.YtfeahmiobbjklaaGreatDoor.tableevalOutcome
open Go Go.RowKit Go.ChangeShapes Go.WideShapes Go.ChangeAt Go.Deep
set_option linter.unusedVariables false
def own:ownKnob Tryz.prog.godebug=ae:=by kernel_rfl
def laidOut:laidOutB Tryz.prog=af:=by kernel_rfl
def O9:eI Tryz.prog 9 .str:=xC Tryz.underlying9
def O3:eI Tryz.prog 3 az:=G1 Tryz.underlying3
def O79:eI Tryz.prog 79 ay:=c7 Tryz.underlying79 (by kernel_rfl) (bq rfl (by kernel_rfl) O3 (dw rfl (by kernel_rfl) O3))
def O43:eI Tryz.prog 43 (.slice ay):=eJ Tryz.underlying43 (by kernel_rfl) O79
def Ve:eI Tryz.prog 111 ay:=c7 Tryz.underlying111 (by kernel_rfl) (bq rfl (by kernel_rfl) O3 (dw rfl (by kernel_rfl) O3))
def ZU:eI Tryz.prog 113 cX:=c7 Tryz.underlying113 (by kernel_rfl) (bq rfl (by kernel_rfl) O9 (bq rfl (by kernel_rfl) O3 (bq rfl (by kernel_rfl) O3 (bq rfl (by kernel_rfl) O3 (bq rfl (by kernel_rfl) Ve (bq rfl (by kernel_rfl) O43 (bq rfl (by kernel_rfl) O43 (dw rfl (by kernel_rfl) O9))))))))
def O66:eI Tryz.prog 66 (.slice cX):=eJ Tryz.underlying66 (by kernel_rfl) ZU
def ZV:eI Tryz.prog 74 ay:=c7 Tryz.underlying74 (by kernel_rfl) (bq rfl (by kernel_rfl) O3 (dw rfl (by kernel_rfl) O3))
def O94:eI Tryz.prog 94 bB:=c7 Tryz.underlying94 (by kernel_rfl) (bq rfl (by kernel_rfl) O9 (dw rfl (by kernel_rfl) ZV))
def O65:eI Tryz.prog 65 (.slice bB):=eJ Tryz.underlying65 (by kernel_rfl) O94
def O68:eI Tryz.prog 68 br:=c7 Tryz.underlying68 (by kernel_rfl) (bq rfl (by kernel_rfl) O9 (bq rfl (by kernel_rfl) O3 (bq rfl (by kernel_rfl) O65 (bq rfl (by kernel_rfl) O65 (dw rfl (by kernel_rfl) O66)))))
def O46:eI Tryz.prog 46 (.slice br):=eJ Tryz.underlying46 (by kernel_rfl) O68
def ZW:eI Tryz.prog 224 jr:=c7 Tryz.underlying224 (by kernel_rfl) (bq rfl (by kernel_rfl) Ve (bq rfl (by kernel_rfl) O3 (bq rfl (by kernel_rfl) O3 (dw rfl (by kernel_rfl) O3))))
def O75:eI Tryz.prog 75 (.slice jr):=eJ Tryz.underlying75 (by kernel_rfl) ZW
def O77:eI Tryz.prog 77 bn:=c7 Tryz.underlying77 (by kernel_rfl) (bq rfl (by kernel_rfl) O9 (bq rfl (by kernel_rfl) ZV (bq rfl (by kernel_rfl) ZV (dw rfl (by kernel_rfl) O75))))
def O30:eI Tryz.prog 30 (.slice bn):=eJ Tryz.underlying30 (by kernel_rfl) O77
def O85:eI Tryz.prog 85 (.slice .str):=eJ Tryz.underlying85 (by kernel_rfl) O9
def O87:eI Tryz.prog 87 dD:=c7 Tryz.underlying87 (by kernel_rfl) (bq rfl (by kernel_rfl) O9 (dw rfl (by kernel_rfl) O85))
def O45:eI Tryz.prog 45 (.slice dD):=eJ Tryz.underlying45 (by kernel_rfl) O87
def O48:eI Tryz.prog 48 dv:=c7 Tryz.underlying48 (by kernel_rfl) (bq rfl (by kernel_rfl) O45 (bq rfl (by kernel_rfl) O30 (dw rfl (by kernel_rfl) O46)))
def O40:eI Tryz.prog 40 aA:=c7 Tryz.underlying40 (by kernel_rfl) (bq rfl (by kernel_rfl) O3 (bq rfl (by kernel_rfl) O3 (dw rfl (by kernel_rfl) O3)))
def O27:eI Tryz.prog 27 (.slice aA):=eJ Tryz.underlying27 (by kernel_rfl) O40
def O28:eI Tryz.prog 28 (.slice (.slice aA)):=eJ Tryz.underlying28 (by kernel_rfl) O27
def O50:eI Tryz.prog 50 fi:=c7 Tryz.underlying50 (by kernel_rfl) (bq rfl (by kernel_rfl) O3 (bq rfl (by kernel_rfl) O27 (dw rfl (by kernel_rfl) O28)))
def rows:∀t∈Tryz.f5.params.toList,(Tryz.prog.readableRec t&&ag4 t Tryz.prog.types.size)=af:=by
 rw[Tryz.params5];simp only[ahB];exact⟨by kernel_rfl,by kernel_rfl,by kernel_rfl,λ_ h=>absurd h (by simp)⟩
def g2:Tryz.prog.globalNamed "guerdon/date.monthLengths" =aa 2:=by kernel_rfl
def t2:(Tryz.prog.globals[2]?).map (·.type)=aa 344:=by kernel_rfl
def OL{W:World}(h:laidMetH Tryz.prog Rows.tableevalOutcomeRow.laid W):oY (λb=>b<W.heap.size) W:=by
 rw[MakeChecks.laidMetH_plain _ _ _ (by kernel_rfl)]at h;obtain⟨ps,⟨g0,t0,Vi,f0,p0,q0,Uw,ht0,PU,hd0,_,_⟩,_,_⟩:=h;obtain rfl:=agx (g2.symm.trans Uw);obtain rfl:=agx (t2.symm.trans ht0)
 have ZX:Vi.toList=([31,28,31,30,31,30,31,31,30,31,30,31]:List Int).map λx=> .int .i64 x:=Ie Tryz.underlying344 Tryz.underlying3 (by kernel_rfl) (by kernel_rfl) hd0
 intro g d hg;unfold Fu at hg;rw[aY]at hg;split at hg
 .rename_i e;subst e;obtain rfl:=agx hg
  have hc:∀j,W.cell? ⟨2,j,ae⟩=(([31,28,31,30,31,30,31,31,30,31,30,31]:List Int).map λx=>(.int .i64 x:Value))[j]? :=λj=>by rw[World.var?_cell Uw PU j,<-ZX,Array.getElem?_toList]
  refine⟨NH (hc 0),_,?_,λj u hj=>by rw[ag8,hc j];exact hj,?_⟩
  .rfl
  .exact⟨[_],_,rfl,rfl,⟨[_],_,rfl,rfl,⟨[_],_,rfl,rfl,⟨[_],_,rfl,rfl,⟨[_],_,rfl,rfl,⟨[_],_,rfl,rfl,⟨[_],_,rfl,rfl,⟨[_],_,rfl,rfl,⟨[_],_,rfl,rfl,⟨[_],_,rfl,rfl,⟨[_],_,rfl,rfl,rfl⟩⟩⟩⟩⟩⟩⟩⟩⟩⟩⟩
 .cases hg
def Mw(os:Os)(args:Array Value):laidMetH Tryz.prog Rows.tableevalOutcomeRow.laid ((World.doorLaid Tryz.prog 400 os).forCall (λ_ _=>0) ⟨#[],args,[]⟩).memory:=
 laidMetH_of_parts3 (fuel:=8) (laidMet_of_run' 8 (by kernel_rfl) (by kernel_rfl)) (by kernel_rfl) (by kernel_rfl)
def V0{P:Program}{H:Type}{enc:TypeId×Value->H}{w:World}{base:Nat}{spare:Nat->Bool}{held:Bool}{v:Value}{d:DataW H}{ps:List MemPlace}{t:TypeId}(ht:P.underlying t=aa .string)(hv:Value.okWide P w .any base t v)(h:DataW.Trod enc P w 0 spare held t v d ps):∃s:ByteArray,v= .string s/\WF .str s/\qJ .str s<=Rows.uptoBulk d:=by
 obtain⟨s,rfl⟩:=okWide_string ht hv;obtain⟨fuel,hf⟩:=h;obtain⟨y,h1,h2,h3⟩:=xC ht H enc w spare held fuel _ _ hf
 obtain rfl:y=s:=by
  have h1:[Value.string s]=[Value.string y]:=h1;cases h1;rfl
 exact⟨y,rfl,h2,h3⟩
set_option maxRecDepth 100000 in
def Mx(H:Type)(enc:TypeId×Value->H)(W:World)(base:Nat)(args:Array Value)(ds gs:List (DataW H))(before:List MemPlace)
 (oN:∀(j:Nat)t v,Tryz.f5.params[j]? =aa t->args[j]? =aa v->Value.okWide Tryz.prog W .any base t v)
 (hW:DataW.Whole enc Tryz.prog Tryz.f5.params.toList Rows.tableevalOutcomeSpec.vars ag W args.toList ds gs before)(hL:laidMetH Tryz.prog Rows.tableevalOutcomeRow.laid W):
 Calls Tryz.prog 5 args W λe W'=>∃v,e= .returned v/\Rows.tableevalOutcomeSpec.post enc Tryz.prog Tryz.f5 ag af ag ag W args v W':=by
 have hW':=hW
 have aH:∀p∈before,p.block<W.heap.size:=λp hp=>hW.lt p hp
 obtain⟨p,q,hA0,hV,rfl,xf,Hs⟩:=hW;have hA:DataW.TrodAll enc Tryz.prog W 0 (λ_=>af) af Tryz.f5.params.toList args.toList ds p:=hA0;have hA1:=hA;rw[Tryz.params5]at hA oN;obtain⟨v0,vs0,d0,ds0,p0,q0,Ft,rfl,rfl,h0,r0⟩:=trodAll_cons hA;obtain⟨v1,WL,d1,ds1,p1,q1,rfl,rfl,rfl,h1,r1⟩:=trodAll_cons r0;obtain⟨v2,vs2,d2,ds2,p2,q2,rfl,rfl,rfl,h2,r2⟩:=trodAll_cons r1;obtain⟨rfl,rfl,rfl⟩:=trodAll_nil r2
 obtain rfl:args= #[v0,v1,v2]:=by cases args;simp_all
 obtain⟨rfl,rfl⟩:=trodVars_none hV;clear hA0;obtain⟨es0,x0,rfl,Wh,hw0,Pk⟩:=vl Tryz.underlying48 O48 (oN 0 48 v0 rfl rfl) h0;obtain⟨x1,rfl,Vx,Jg⟩:=MV Tryz.underlying3 (oN 1 3 v1 rfl rfl) h1;obtain⟨es2,x2,rfl,VK,ZH,PR⟩:=vl Tryz.underlying50 O50 (oN 2 50 v2 rfl rfl) h2
 refine(Ic (x:=(x0,x1,x2)) (W5 aU) (L.oU x0 x1 x2 hw0 Vx ZH) rfl (.cons (pd Wh) (.cons (KS _ _ _ x1) (.cons (pd VK) .nil))) rfl (OL hL)).mono λe W' ⟨he,hs⟩=>?_
 subst he
 exact⟨_,rfl,w6 (pv:=[]) hW' (λ_ _ _=>trodAll_cons_mk (shut_bool Tryz.underlying4 _) trodAll_mk0)
  (λsp uk=>qw laidOut hs _ _ _ _ rows hA1 (λx hx=>aH x (by simpa using hx)) (λx hx=>uk x (by simpa using hx))) (λ_ _=>rfl) rfl hs
  (ok_one (by kernel_rfl) rfl (okWide_bool_mk Tryz.underlying4 _))⟩
set_option maxRecDepth 100000 in
def lifted(os:Os)(started:os.Started)(H:Type)(enc:TypeId×Value->H):
 ReturnsInHanded {} Tryz.checked os 5 .any (λw args=>(Rows.tableevalOutcomeSpec.pre enc Tryz.prog Tryz.f5 Rows.tableevalOutcomeRow.domain ag w args/\laidMetH Tryz.prog Rows.tableevalOutcomeRow.laid w)/\sizedMet enc Tryz.prog Tryz.f5 (OpenSpec.ofChange Rows.tableevalOutcomeSpec) ag w args)
  (Rows.tableevalOutcomeSpec.post enc Tryz.prog Tryz.f5 ag af ag ag):=by
 refine returnsInHanded_of_change_and (C:=Tryz.checked) (X:=λw _=>laidMetH Tryz.prog Rows.tableevalOutcomeRow.laid w) (λ_ _ _ hh h=>h.of_heap hh) own started (by kernel_rfl) Tryz.func5
  (ChangeSpec.witness_shaped (enc:=enc) (C:=Tryz.checked) (os:=os) (X:=λw _=>laidMetH Tryz.prog Rows.tableevalOutcomeRow.laid w) ag (World.doorLaid Tryz.prog 400 os) #[.agg #[.slice ae 0 0, .slice ae 0 0, .slice ae 0 0], .int .i64 0, .agg #[.int .i64 0, .slice ae 0 0, .slice ae 0 0]] 12 rfl (World.shaped_of_RefB (by kernel_rfl) (by kernel_rfl)) (by kernel_rfl) (by kernel_rfl) (by kernel_rfl) (Mw os _)) ?_
 intro W base args ds gs before oN hW _ _ hL _;exact Mx H enc W base args ds gs before oN hW hL
def jf1:Tryz.prog.inPlace 5=Rows.tableevalOutcomeRow.inPlace:=by kernel_rfl
def jf2:Tryz.prog.unfollowed 5=Rows.tableevalOutcomeRow.unfollowed:=by kernel_rfl
def jf3:Tryz.prog.recurses 5=Rows.tableevalOutcomeRow.recurses:=by kernel_rfl
def jf4:Tryz.prog.varsNamed 5=Rows.tableevalOutcomeRow.named:=by kernel_rfl
def jf:joinedFacts Tryz.prog 5 Tryz.f5 Rows.tableevalOutcomeSpec Rows.tableevalOutcomeRow=af:=by
 unfold joinedFacts;rw[jf1,jf2,jf3,jf4]
 kernel_rfl
def jl:af=Tryz.prog.looks []:=by kernel_rfl
def jg:ag=Rows.tableevalOutcomeRow.goesBy Tryz.prog:=by kernel_rfl
def over:Rows.tableevalOutcomeRow.holds Tryz.pinned (OpenSpec.ofChange Rows.tableevalOutcomeSpec):=
 OpenClaim.holds_of_wide 5 Tryz.f5 rfl rfl rfl rfl rfl rfl rfl ⟨rfl,rfl,rfl,rfl,rfl⟩ rfl rfl rfl rfl rfl (by kernel_rfl) Tryz.func5 jf
  (of_decide_eq_true (by kernel_rfl)) (by unfold Func.isWrapper;rw[if_neg (of_decide_eq_false (by kernel_rfl))];exact⟨rfl,rfl⟩)
  (λos started H enc _=>lifted os started H enc)
def Df:Rows.TableevalOutcomeCardSaid:=
 Claim7.holds_tied_plain_at .later [] [.data] af (af, "2bb41ff9245350b77ed2bee49ad86246c28bff173b01bb7057e7fb8062b7c9f4") af
  over (λ_ h=>by cases h) (by kernel_rfl) (λ_ h=>by cases h) tableevalOutcome_row_tie rfl ⟨rfl,rfl⟩ (by kernel_rfl) rfl
  (λf fn hf AH=>by
    obtain rfl:f=5:=agx ((show Tryz.prog.funcNamed "guerdon/guerdonlaw32.TableevalOutcome" =aa 5 by kernel_rfl).symm.trans hf)|>.symm
    obtain rfl:fn=Tryz.f5:=(agx (Tryz.func5.symm.trans AH)).symm
    exact⟨jl,λj t ht=>by
     rw[Tryz.params5]at ht
     have hm:t∈[48,3,50]:=by simpa using Array.mem_of_getElem? ht
     have fh:([48,3,50].all λu=> !Tryz.prog.wantsStandIn u)=af:=by kernel_rfl
     exact(show Tryz.prog.wantsStandIn t=ag by simpa using List.all_eq_true.1 fh t hm)⟩)
  jg
theorem proved:Rows.TableevalOutcomeCardSaid:=Df
end Go.Proofs.YtfeahmiobbjklaaGreatDoor.tableevalOutcome
