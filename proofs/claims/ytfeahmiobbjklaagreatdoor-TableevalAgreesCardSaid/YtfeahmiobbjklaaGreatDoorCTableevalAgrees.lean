/- TableevalAgrees: the statement, closed: the argument's reading by the form, the walk (by program) and the plain law together. Written by close.py. -/
import Derived.Test.YtfeahmiobbjklaaGreatDoorRows
import Derived.Test.YtfeahmiobbjklaaGreatDoorU1
import Derived.Test.YtfeahmiobbjklaaGreatDoorU4
import Derived.Test.YtfeahmiobbjklaaGreatDoorU12
import Derived.WalkKit
import Derived.ProofKit
import Derived.OpenShut
import Derived.JoinedCond
import Derived.Test.YtfeahmiobbjklaaGreatDoorCards
import Derived.Test.YtfeahmiobbjklaaGreatDoorTie
import Derived.SevenTiedAt
set_option linter.defProp false
open _root_.Bool renaming false->ah,true->af
open _root_.Option renaming none->ae,some->aa
open _root_.List renaming forall_mem_cons->ajI
open _root_.Nat renaming blt->aja,zero_add->aje
open _root_.Option.some renaming inj->aiC
namespace Go.Proofs.YtfeahmiobbjklaaGreatDoor.tableevalAgrees
open Go Go.RowKit Go.ChangeShapes Go.WideShapes Go.ChangeAt Go.Deep
set_option linter.unusedVariables false
def own:ownKnob Tryz.prog.godebug=ae:=by kernel_rfl
def laidOut:laidOutB Tryz.prog=af:=by kernel_rfl
def O9:fg Tryz.prog 9 .str:=yt Tryz.underlying9
def O3:fg Tryz.prog 3 aA:=Ik Tryz.underlying3
def O79:fg Tryz.prog 79 az:=du Tryz.underlying79 (by kernel_rfl) (bx rfl (by kernel_rfl) O3 (dK rfl (by kernel_rfl) O3))
def O43:fg Tryz.prog 43 (.slice az):=fh Tryz.underlying43 (by kernel_rfl) O79
def Xp:fg Tryz.prog 111 az:=du Tryz.underlying111 (by kernel_rfl) (bx rfl (by kernel_rfl) O3 (dK rfl (by kernel_rfl) O3))
def ab0:fg Tryz.prog 113 da:=du Tryz.underlying113 (by kernel_rfl) (bx rfl (by kernel_rfl) O9 (bx rfl (by kernel_rfl) O3 (bx rfl (by kernel_rfl) O3 (bx rfl (by kernel_rfl) O3 (bx rfl (by kernel_rfl) Xp (bx rfl (by kernel_rfl) O43 (bx rfl (by kernel_rfl) O43 (dK rfl (by kernel_rfl) O9))))))))
def O66:fg Tryz.prog 66 (.slice da):=fh Tryz.underlying66 (by kernel_rfl) ab0
def O74:fg Tryz.prog 74 az:=du Tryz.underlying74 (by kernel_rfl) (bx rfl (by kernel_rfl) O3 (dK rfl (by kernel_rfl) O3))
def O94:fg Tryz.prog 94 bF:=du Tryz.underlying94 (by kernel_rfl) (bx rfl (by kernel_rfl) O9 (dK rfl (by kernel_rfl) O74))
def O65:fg Tryz.prog 65 (.slice bF):=fh Tryz.underlying65 (by kernel_rfl) O94
def O68:fg Tryz.prog 68 aP:=du Tryz.underlying68 (by kernel_rfl) (bx rfl (by kernel_rfl) O9 (bx rfl (by kernel_rfl) O3 (bx rfl (by kernel_rfl) O65 (bx rfl (by kernel_rfl) O65 (dK rfl (by kernel_rfl) O66)))))
def O46:fg Tryz.prog 46 (.slice aP):=fh Tryz.underlying46 (by kernel_rfl) O68
def ab2:fg Tryz.prog 224 jJ:=du Tryz.underlying224 (by kernel_rfl) (bx rfl (by kernel_rfl) Xp (bx rfl (by kernel_rfl) O3 (bx rfl (by kernel_rfl) O3 (dK rfl (by kernel_rfl) O3))))
def O75:fg Tryz.prog 75 (.slice jJ):=fh Tryz.underlying75 (by kernel_rfl) ab2
def O77:fg Tryz.prog 77 aT:=du Tryz.underlying77 (by kernel_rfl) (bx rfl (by kernel_rfl) O9 (bx rfl (by kernel_rfl) O74 (bx rfl (by kernel_rfl) O74 (dK rfl (by kernel_rfl) O75))))
def O30:fg Tryz.prog 30 (.slice aT):=fh Tryz.underlying30 (by kernel_rfl) O77
def O85:fg Tryz.prog 85 (.slice .str):=fh Tryz.underlying85 (by kernel_rfl) O9
def O87:fg Tryz.prog 87 dL:=du Tryz.underlying87 (by kernel_rfl) (bx rfl (by kernel_rfl) O9 (dK rfl (by kernel_rfl) O85))
def O45:fg Tryz.prog 45 (.slice dL):=fh Tryz.underlying45 (by kernel_rfl) O87
def O48:fg Tryz.prog 48 cT:=du Tryz.underlying48 (by kernel_rfl) (bx rfl (by kernel_rfl) O45 (bx rfl (by kernel_rfl) O30 (dK rfl (by kernel_rfl) O46)))
def O40:fg Tryz.prog 40 aB:=du Tryz.underlying40 (by kernel_rfl) (bx rfl (by kernel_rfl) O3 (bx rfl (by kernel_rfl) O3 (dK rfl (by kernel_rfl) O3)))
def O27:fg Tryz.prog 27 (.slice aB):=fh Tryz.underlying27 (by kernel_rfl) O40
def O28:fg Tryz.prog 28 (.slice (.slice aB)):=fh Tryz.underlying28 (by kernel_rfl) O27
def O50:fg Tryz.prog 50 dT:=du Tryz.underlying50 (by kernel_rfl) (bx rfl (by kernel_rfl) O3 (bx rfl (by kernel_rfl) O27 (dK rfl (by kernel_rfl) O28)))
def rows:∀t∈Tryz.f6.params.toList,(Tryz.prog.readableRec t&&aja t Tryz.prog.types.size)=af:=by
 rw[Tryz.params6];simp only[ajI];exact⟨by kernel_rfl,by kernel_rfl,by kernel_rfl,λ_ h=>absurd h (by simp)⟩
def g2:Tryz.prog.globalNamed "guerdon/date.monthLengths" =aa 2:=by kernel_rfl
def t2:(Tryz.prog.globals[2]?).map (·.type)=aa 344:=by kernel_rfl
def QC{W:World}(h:laidMetH Tryz.prog Rows.tableevalAgreesRow.laid W):pG (λb=>b<W.heap.size) W:=by
 rw[MakeChecks.laidMetH_plain _ _ _ (by kernel_rfl)]at h;obtain⟨ps,⟨g0,t0,Xt,f0,p0,q0,WB,ht0,RF,hd0,_,_⟩,_,_⟩:=h;obtain rfl:=aiC (g2.symm.trans WB);obtain rfl:=aiC (t2.symm.trans ht0)
 have ab3:Xt.toList=([31,28,31,30,31,30,31,31,30,31,30,31]:List Int).map λx=> .int .i64 x:=Jq Tryz.underlying344 Tryz.underlying3 (by kernel_rfl) (by kernel_rfl) hd0
 intro g d hg;unfold Gy at hg;rw[bd]at hg;split at hg
 .rename_i e;subst e;obtain rfl:=aiC hg
  have hc:∀j,W.cell? ⟨2,j,ae⟩=(([31,28,31,30,31,30,31,31,30,31,30,31]:List Int).map λx=>(.int .i64 x:Value))[j]? :=λj=>by rw[World.var?_cell WB RF j,<-ab3,Array.getElem?_toList]
  refine⟨Pv (hc 0),_,?_,λj u hj=>by rw[aje,hc j];exact hj,?_⟩
  .rfl
  .exact⟨[_],_,rfl,rfl,⟨[_],_,rfl,rfl,⟨[_],_,rfl,rfl,⟨[_],_,rfl,rfl,⟨[_],_,rfl,rfl,⟨[_],_,rfl,rfl,⟨[_],_,rfl,rfl,⟨[_],_,rfl,rfl,⟨[_],_,rfl,rfl,⟨[_],_,rfl,rfl,⟨[_],_,rfl,rfl,rfl⟩⟩⟩⟩⟩⟩⟩⟩⟩⟩⟩
 .cases hg
def Oa(os:Os)(args:Array Value):laidMetH Tryz.prog Rows.tableevalAgreesRow.laid ((World.doorLaid Tryz.prog 400 os).forCall (λ_ _=>0) ⟨#[],args,[]⟩).memory:=
 laidMetH_of_parts3 (fuel:=8) (laidMet_of_run' 8 (by kernel_rfl) (by kernel_rfl)) (by kernel_rfl) (by kernel_rfl)
def Yb{P:Program}{H:Type}{enc:TypeId×Value->H}{w:World}{base:Nat}{spare:Nat->Bool}{held:Bool}{v:Value}{d:DataW H}{ps:List MemPlace}{t:TypeId}(ht:P.underlying t=aa .string)(hv:Value.okWide P w .any base t v)(h:DataW.Trod enc P w 0 spare held t v d ps):∃s:ByteArray,v= .string s/\WF .str s/\rz .str s<=Rows.uptoBulk d:=by
 obtain⟨s,rfl⟩:=okWide_string ht hv;obtain⟨fuel,hf⟩:=h;obtain⟨y,h1,h2,h3⟩:=yt ht H enc w spare held fuel _ _ hf
 obtain rfl:y=s:=by
  have h1:[Value.string s]=[Value.string y]:=h1;cases h1;rfl
 exact⟨y,rfl,h2,h3⟩
set_option maxRecDepth 100000 in
def Ob(H:Type)(enc:TypeId×Value->H)(W:World)(base:Nat)(args:Array Value)(ds gs:List (DataW H))(before:List MemPlace)
 (px:∀(j:Nat)t v,Tryz.f6.params[j]? =aa t->args[j]? =aa v->Value.okWide Tryz.prog W .any base t v)
 (hW:DataW.Whole enc Tryz.prog Tryz.f6.params.toList Rows.tableevalAgreesSpec.vars ah W args.toList ds gs before)(hL:laidMetH Tryz.prog Rows.tableevalAgreesRow.laid W):
 Calls Tryz.prog 6 args W λe W'=>∃v,e= .returned v/\Rows.tableevalAgreesSpec.post enc Tryz.prog Tryz.f6 ah af ah ah W args v W':=by
 have hW':=hW
 have aH:∀p∈before,p.block<W.heap.size:=λp hp=>hW.lt p hp
 obtain⟨p,q,hA0,hV,rfl,xX,EV⟩:=hW;have hA:DataW.TrodAll enc Tryz.prog W 0 (λ_=>af) af Tryz.f6.params.toList args.toList ds p:=hA0;have hA1:=hA;rw[Tryz.params6]at hA px;obtain⟨v0,vs0,d0,ds0,p0,q0,Gx,rfl,rfl,h0,r0⟩:=trodAll_cons hA;obtain⟨v1,YS,d1,ds1,p1,q1,rfl,rfl,rfl,h1,r1⟩:=trodAll_cons r0;obtain⟨v2,vs2,d2,ds2,p2,q2,rfl,rfl,rfl,h2,r2⟩:=trodAll_cons r1;obtain⟨rfl,rfl,rfl⟩:=trodAll_nil r2
 obtain rfl:args= #[v0,v1,v2]:=by cases args;simp_all
 obtain⟨rfl,rfl⟩:=trodVars_none hV;clear hA0;obtain⟨es0,x0,rfl,Yp,hw0,Q9⟩:=vT Tryz.underlying48 O48 (px 0 48 v0 rfl rfl) h0;obtain⟨x1,rfl,XG,Kw⟩:=OC Tryz.underlying3 (px 1 3 v1 rfl rfl) h1;obtain⟨es2,x2,rfl,XT,Qb,RD⟩:=vT Tryz.underlying50 O50 (px 2 50 v2 rfl rfl) h2
 refine(Jp (x:=(x0,x1,x2)) (W6 aU) (L.qt x0 x1 x2 hw0 XG Qb) rfl (.cons (pT Yp) (.cons (Md _ _ _ x1) (.cons (pT XT) .nil))) rfl (QC hL)).mono λe W' ⟨he,hs⟩=>?_
 subst he
 exact⟨_,rfl,xQ (pv:=[]) hW' (λ_ _ _=>trodAll_cons_mk (shut_bool Tryz.underlying4 _) trodAll_mk0)
  (λsp u7=>rf laidOut hs _ _ _ _ rows hA1 (λx hx=>aH x (by simpa using hx)) (λx hx=>u7 x (by simpa using hx))) (λ_ _=>rfl) rfl hs
  (ok_one (by kernel_rfl) rfl (okWide_bool_mk Tryz.underlying4 _))⟩
set_option maxRecDepth 100000 in
def lifted(os:Os)(started:os.Started)(H:Type)(enc:TypeId×Value->H):
 ReturnsInHanded {} Tryz.checked os 6 .any (λw args=>(Rows.tableevalAgreesSpec.pre enc Tryz.prog Tryz.f6 Rows.tableevalAgreesRow.domain ah w args/\laidMetH Tryz.prog Rows.tableevalAgreesRow.laid w)/\sizedMet enc Tryz.prog Tryz.f6 (OpenSpec.ofChange Rows.tableevalAgreesSpec) ah w args)
  (Rows.tableevalAgreesSpec.post enc Tryz.prog Tryz.f6 ah af ah ah):=by
 refine returnsInHanded_of_change_and (C:=Tryz.checked) (X:=λw _=>laidMetH Tryz.prog Rows.tableevalAgreesRow.laid w) (λ_ _ _ hh h=>h.of_heap hh) own started (by kernel_rfl) Tryz.func6
  (ChangeSpec.witness_shaped (enc:=enc) (C:=Tryz.checked) (os:=os) (X:=λw _=>laidMetH Tryz.prog Rows.tableevalAgreesRow.laid w) ah (World.doorLaid Tryz.prog 400 os) #[.agg #[.slice ae 0 0, .slice ae 0 0, .slice ae 0 0], .int .i64 0, .agg #[.int .i64 0, .slice ae 0 0, .slice ae 0 0]] 12 rfl (World.shaped_of_RefB (by kernel_rfl) (by kernel_rfl)) (by kernel_rfl) (by kernel_rfl) (by kernel_rfl) (Oa os _)) ?_
 intro W base args ds gs before px hW _ _ hL _;exact Ob H enc W base args ds gs before px hW hL
def jf1:Tryz.prog.inPlace 6=Rows.tableevalAgreesRow.inPlace:=by kernel_rfl
def jf2:Tryz.prog.unfollowed 6=Rows.tableevalAgreesRow.unfollowed:=by kernel_rfl
def jf3:Tryz.prog.recurses 6=Rows.tableevalAgreesRow.recurses:=by kernel_rfl
def jf4:Tryz.prog.varsNamed 6=Rows.tableevalAgreesRow.named:=by kernel_rfl
def jf:joinedFacts Tryz.prog 6 Tryz.f6 Rows.tableevalAgreesSpec Rows.tableevalAgreesRow=af:=by
 unfold joinedFacts;rw[jf1,jf2,jf3,jf4]
 kernel_rfl
def jl:af=Tryz.prog.looks []:=by kernel_rfl
def jg:ah=Rows.tableevalAgreesRow.goesBy Tryz.prog:=by kernel_rfl
def over:Rows.tableevalAgreesRow.holds Tryz.pinned (OpenSpec.ofChange Rows.tableevalAgreesSpec):=
 OpenClaim.holds_of_wide 6 Tryz.f6 rfl rfl rfl rfl rfl rfl rfl ⟨rfl,rfl,rfl,rfl,rfl⟩ rfl rfl rfl rfl rfl (by kernel_rfl) Tryz.func6 jf
  (of_decide_eq_true (by kernel_rfl)) (by unfold Func.isWrapper;rw[if_neg (of_decide_eq_false (by kernel_rfl))];exact⟨rfl,rfl⟩)
  (λos started H enc _=>lifted os started H enc)
def Ef:Rows.TableevalAgreesCardSaid:=
 Claim7.holds_tied_plain_at .later [] [.data] af (af, "2bb41ff9245350b77ed2bee49ad86246c28bff173b01bb7057e7fb8062b7c9f4") af
  over (λ_ h=>by cases h) (by kernel_rfl) (λ_ h=>by cases h) tableevalAgrees_row_tie rfl ⟨rfl,rfl⟩ (by kernel_rfl) rfl
  (λf fn hf By=>by
    obtain rfl:f=6:=aiC ((show Tryz.prog.funcNamed "guerdon/guerdonlaw32.TableevalAgrees" =aa 6 by kernel_rfl).symm.trans hf)|>.symm
    obtain rfl:fn=Tryz.f6:=(aiC (Tryz.func6.symm.trans By)).symm
    exact⟨jl,λj t ht=>by
     rw[Tryz.params6]at ht
     have hm:t∈[48,3,50]:=by simpa using Array.mem_of_getElem? ht
     have eU:([48,3,50].all λu=> !Tryz.prog.wantsStandIn u)=af:=by kernel_rfl
     exact(show Tryz.prog.wantsStandIn t=ah by simpa using List.all_eq_true.1 eU t hm)⟩)
  jg
theorem proved:Rows.TableevalAgreesCardSaid:=Ef
end Go.Proofs.YtfeahmiobbjklaaGreatDoor.tableevalAgrees
