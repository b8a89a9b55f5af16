/- TableevalRun: the statement, closed: the argument's reading by the form, the walk (by program) and the plain law together. Written by close.py. -/
import Derived.Test.YtfeahmiobbjklaaGreatDoorRows
import Derived.Test.YtfeahmiobbjklaaGreatDoorU1
import Derived.Test.YtfeahmiobbjklaaGreatDoorU4
import Derived.Test.YtfeahmiobbjklaaGreatDoorU13
import Derived.WalkKit
import Derived.ProofKit
import Derived.OpenShut
import Derived.JoinedCond
import Derived.Test.YtfeahmiobbjklaaGreatDoorCards
import Derived.Test.YtfeahmiobbjklaaGreatDoorTie
import Derived.SevenTiedAt
set_option linter.defProp false
open _root_.Bool renaming false->ag,true->af
open _root_.Option renaming none->ae,some->aa
open _root_.List renaming forall_mem_cons->ar6
open _root_.Nat renaming blt->aru,zero_add->arv
open _root_.Option.some renaming inj->aqP
namespace Go.Proofs.YtfeahmiobbjklaaGreatDoor.tableevalRun
open Go Go.RowKit Go.ChangeShapes Go.WideShapes Go.ChangeAt Go.Deep
set_option linter.unusedVariables false
def own:ownKnob Tryz.prog.godebug=ae:=by kernel_rfl
def laidOut:laidOutB Tryz.prog=af:=by kernel_rfl
def O9:gr Tryz.prog 9 .str:=B6 Tryz.underlying9
def O3:gr Tryz.prog 3 az:=ME Tryz.underlying3
def O79:gr Tryz.prog 79 aA:=ee Tryz.underlying79 (by kernel_rfl) (bI rfl (by kernel_rfl) O3 (fe rfl (by kernel_rfl) O3))
def O43:gr Tryz.prog 43 (.slice aA):=gu Tryz.underlying43 (by kernel_rfl) O79
def acR:gr Tryz.prog 111 aA:=ee Tryz.underlying111 (by kernel_rfl) (bI rfl (by kernel_rfl) O3 (fe rfl (by kernel_rfl) O3))
def ai7:gr Tryz.prog 113 dX:=ee Tryz.underlying113 (by kernel_rfl) (bI rfl (by kernel_rfl) O9 (bI rfl (by kernel_rfl) O3 (bI rfl (by kernel_rfl) O3 (bI rfl (by kernel_rfl) O3 (bI rfl (by kernel_rfl) acR (bI rfl (by kernel_rfl) O43 (bI rfl (by kernel_rfl) O43 (fe rfl (by kernel_rfl) O9))))))))
def O66:gr Tryz.prog 66 (.slice dX):=gu Tryz.underlying66 (by kernel_rfl) ai7
def O74:gr Tryz.prog 74 aA:=ee Tryz.underlying74 (by kernel_rfl) (bI rfl (by kernel_rfl) O3 (fe rfl (by kernel_rfl) O3))
def O94:gr Tryz.prog 94 bJ:=ee Tryz.underlying94 (by kernel_rfl) (bI rfl (by kernel_rfl) O9 (fe rfl (by kernel_rfl) O74))
def O65:gr Tryz.prog 65 (.slice bJ):=gu Tryz.underlying65 (by kernel_rfl) O94
def O68:gr Tryz.prog 68 bn:=ee Tryz.underlying68 (by kernel_rfl) (bI rfl (by kernel_rfl) O9 (bI rfl (by kernel_rfl) O3 (bI rfl (by kernel_rfl) O65 (bI rfl (by kernel_rfl) O65 (fe rfl (by kernel_rfl) O66)))))
def O46:gr Tryz.prog 46 (.slice bn):=gu Tryz.underlying46 (by kernel_rfl) O68
def ai9:gr Tryz.prog 224 iW:=ee Tryz.underlying224 (by kernel_rfl) (bI rfl (by kernel_rfl) acR (bI rfl (by kernel_rfl) O3 (bI rfl (by kernel_rfl) O3 (fe rfl (by kernel_rfl) O3))))
def O75:gr Tryz.prog 75 (.slice iW):=gu Tryz.underlying75 (by kernel_rfl) ai9
def O77:gr Tryz.prog 77 bj:=ee Tryz.underlying77 (by kernel_rfl) (bI rfl (by kernel_rfl) O9 (bI rfl (by kernel_rfl) O74 (bI rfl (by kernel_rfl) O74 (fe rfl (by kernel_rfl) O75))))
def O30:gr Tryz.prog 30 (.slice bj):=gu Tryz.underlying30 (by kernel_rfl) O77
def O85:gr Tryz.prog 85 (.slice .str):=gu Tryz.underlying85 (by kernel_rfl) O9
def O87:gr Tryz.prog 87 di:=ee Tryz.underlying87 (by kernel_rfl) (bI rfl (by kernel_rfl) O9 (fe rfl (by kernel_rfl) O85))
def O45:gr Tryz.prog 45 (.slice di):=gu Tryz.underlying45 (by kernel_rfl) O87
def O48:gr Tryz.prog 48 cz:=ee Tryz.underlying48 (by kernel_rfl) (bI rfl (by kernel_rfl) O45 (bI rfl (by kernel_rfl) O30 (fe rfl (by kernel_rfl) O46)))
def O40:gr Tryz.prog 40 aB:=ee Tryz.underlying40 (by kernel_rfl) (bI rfl (by kernel_rfl) O3 (bI rfl (by kernel_rfl) O3 (fe rfl (by kernel_rfl) O3)))
def O27:gr Tryz.prog 27 (.slice aB):=gu Tryz.underlying27 (by kernel_rfl) O40
def O28:gr Tryz.prog 28 (.slice (.slice aB)):=gu Tryz.underlying28 (by kernel_rfl) O27
def O50:gr Tryz.prog 50 ff:=ee Tryz.underlying50 (by kernel_rfl) (bI rfl (by kernel_rfl) O3 (bI rfl (by kernel_rfl) O27 (fe rfl (by kernel_rfl) O28)))
def rows:∀t∈Tryz.f4.params.toList,(Tryz.prog.readableRec t&&aru t Tryz.prog.types.size)=af:=by
 rw[Tryz.params4];simp only[ar6];exact⟨by kernel_rfl,by kernel_rfl,by kernel_rfl,λ_ h=>absurd h (by simp)⟩
def g2:Tryz.prog.globalNamed "guerdon/date.monthLengths" =aa 2:=by kernel_rfl
def t2:(Tryz.prog.globals[2]?).map (·.type)=aa 344:=by kernel_rfl
def VF{W:World}(h:laidMetH Tryz.prog Rows.tableevalRunRow.laid W):sU (λb=>b<W.heap.size) W:=by
 rw[MakeChecks.laidMetH_plain _ _ _ (by kernel_rfl)]at h;obtain⟨ps,⟨g0,t0,cs0,f0,p0,q0,hg0,ht0,MV,Zo,_,_⟩,_,_⟩:=h;obtain rfl:=aqP (g2.symm.trans hg0);obtain rfl:=aqP (t2.symm.trans ht0)
 have aja:cs0.toList=([31,28,31,30,31,30,31,31,30,31,30,31]:List Int).map λx=> .int .i64 x:=NJ Tryz.underlying344 Tryz.underlying3 (by kernel_rfl) (by kernel_rfl) Zo
 intro g d hg;unfold KF at hg;rw[bp]at hg;split at hg
 .rename_i e;subst e;obtain rfl:=aqP hg
  have hc:∀j,W.cell? ⟨2,j,ae⟩=(([31,28,31,30,31,30,31,31,30,31,30,31]:List Int).map λx=>(.int .i64 x:Value))[j]? :=λj=>by rw[World.var?_cell hg0 MV j,<-aja,Array.getElem?_toList]
  refine⟨Uo (hc 0),_,?_,λj u hj=>by rw[arv,hc j];exact hj,?_⟩
  .rfl
  .exact⟨[_],_,rfl,rfl,⟨[_],_,rfl,rfl,⟨[_],_,rfl,rfl,⟨[_],_,rfl,rfl,⟨[_],_,rfl,rfl,⟨[_],_,rfl,rfl,⟨[_],_,rfl,rfl,⟨[_],_,rfl,rfl,⟨[_],_,rfl,rfl,⟨[_],_,rfl,rfl,⟨[_],_,rfl,rfl,rfl⟩⟩⟩⟩⟩⟩⟩⟩⟩⟩⟩
 .cases hg
def S5(os:Os)(args:Array Value):laidMetH Tryz.prog Rows.tableevalRunRow.laid ((World.doorLaid Tryz.prog 400 os).forCall (λ_ _=>0) ⟨#[],args,[]⟩).memory:=
 laidMetH_of_parts3 (fuel:=8) (laidMet_of_run' 8 (by kernel_rfl) (by kernel_rfl)) (by kernel_rfl) (by kernel_rfl)
def adA{P:Program}{H:Type}{enc:TypeId×Value->H}{w:World}{base:Nat}{spare:Nat->Bool}{held:Bool}{v:Value}{d:DataW H}{ps:List MemPlace}{t:TypeId}(ht:P.underlying t=aa .string)(hv:Value.okWide P w .any base t v)(h:DataW.Trod enc P w 0 spare held t v d ps):∃s:ByteArray,v= .string s/\WF .str s/\u7 .str s<=Rows.uptoBulk d:=by
 obtain⟨s,rfl⟩:=okWide_string ht hv;obtain⟨fuel,hf⟩:=h;obtain⟨y,h1,h2,h3⟩:=B6 ht H enc w spare held fuel _ _ hf
 obtain rfl:y=s:=by
  have h1:[Value.string s]=[Value.string y]:=h1;cases h1;rfl
 exact⟨y,rfl,h2,h3⟩
set_option maxRecDepth 100000 in
def S6(H:Type)(enc:TypeId×Value->H)(W:World)(base:Nat)(args:Array Value)(ds gs:List (DataW H))(before:List MemPlace)
 (sH:∀(j:Nat)t v,Tryz.f4.params[j]? =aa t->args[j]? =aa v->Value.okWide Tryz.prog W .any base t v)
 (hW:DataW.Whole enc Tryz.prog Tryz.f4.params.toList Rows.tableevalRunSpec.vars ag W args.toList ds gs before)(hL:laidMetH Tryz.prog Rows.tableevalRunRow.laid W):
 Calls Tryz.prog 4 args W λe W'=>∃v,e= .returned v/\Rows.tableevalRunSpec.post enc Tryz.prog Tryz.f4 ag af ag ag W args v W':=by
 have hW':=hW
 have aF:∀p∈before,p.block<W.heap.size:=λp hp=>hW.lt p hp
 obtain⟨p,q,hA0,hV,rfl,By,M6⟩:=hW;have hA:DataW.TrodAll enc Tryz.prog W 0 (λ_=>af) af Tryz.f4.params.toList args.toList ds p:=hA0;have hA1:=hA;rw[Tryz.params4]at hA sH;obtain⟨v0,vs0,d0,ds0,p0,q0,KE,rfl,rfl,h0,r0⟩:=trodAll_cons hA;obtain⟨v1,vs1,d1,ds1,p1,q1,rfl,rfl,rfl,h1,r1⟩:=trodAll_cons r0;obtain⟨v2,vs2,d2,ds2,p2,q2,rfl,rfl,rfl,h2,r2⟩:=trodAll_cons r1;obtain⟨rfl,rfl,rfl⟩:=trodAll_nil r2
 obtain rfl:args= #[v0,v1,v2]:=by cases args;simp_all
 obtain⟨rfl,rfl⟩:=trodVars_none hV;clear hA0;obtain⟨es0,x0,rfl,Y5,hw0,Ry⟩:=zC Tryz.underlying48 O48 (sH 0 48 v0 rfl rfl) h0;obtain⟨x1,rfl,hw1,OW⟩:=Tz Tryz.underlying3 (sH 1 3 v1 rfl rfl) h1;obtain⟨es2,x2,rfl,We,hw2,WO⟩:=zC Tryz.underlying50 O50 (sH 2 50 v2 rfl rfl) h2
 refine(NI (x:=(x0,x1,x2)) (W4 aK) (L.wX x0 x1 x2 hw0 hw1 hw2) rfl (.cons (tf Y5) (.cons (QO _ _ _ x1) (.cons (tf We) .nil))) rfl (VF hL)).mono λe W' ⟨he,hs⟩=>?_
 subst he
 exact⟨_,rfl,Br (pv:=[]) hW' (λ_ _ _=>trodAll_cons_mk (shut_bool Tryz.underlying4 _) trodAll_mk0)
  (λsp uL=>uM laidOut hs _ _ _ _ rows hA1 (λx hx=>aF x (by simpa using hx)) (λx hx=>uL x (by simpa using hx))) (λ_ _=>rfl) rfl hs
  (ok_one (by kernel_rfl) rfl (okWide_bool_mk Tryz.underlying4 _))⟩
set_option maxRecDepth 100000 in
def lifted(os:Os)(started:os.Started)(H:Type)(enc:TypeId×Value->H):
 ReturnsInHanded {} Tryz.checked os 4 .any (λw args=>(Rows.tableevalRunSpec.pre enc Tryz.prog Tryz.f4 Rows.tableevalRunRow.domain ag w args/\laidMetH Tryz.prog Rows.tableevalRunRow.laid w)/\sizedMet enc Tryz.prog Tryz.f4 (OpenSpec.ofChange Rows.tableevalRunSpec) ag w args)
  (Rows.tableevalRunSpec.post enc Tryz.prog Tryz.f4 ag af ag ag):=by
 refine returnsInHanded_of_change_and (C:=Tryz.checked) (X:=λw _=>laidMetH Tryz.prog Rows.tableevalRunRow.laid w) (λ_ _ _ hh h=>h.of_heap hh) own started (by kernel_rfl) Tryz.func4
  (ChangeSpec.witness_shaped (enc:=enc) (C:=Tryz.checked) (os:=os) (X:=λw _=>laidMetH Tryz.prog Rows.tableevalRunRow.laid w) ag (World.doorLaid Tryz.prog 400 os) #[.agg #[.slice ae 0 0, .slice ae 0 0, .slice ae 0 0], .int .i64 0, .agg #[.int .i64 0, .slice ae 0 0, .slice ae 0 0]] 12 rfl (World.shaped_of_RefB (by kernel_rfl) (by kernel_rfl)) (by kernel_rfl) (by kernel_rfl) (by kernel_rfl) (S5 os _)) ?_
 intro W base args ds gs before sH hW _ _ hL _;exact S6 H enc W base args ds gs before sH hW hL
def jf1:Tryz.prog.inPlace 4=Rows.tableevalRunRow.inPlace:=by kernel_rfl
def jf2:Tryz.prog.unfollowed 4=Rows.tableevalRunRow.unfollowed:=by kernel_rfl
def jf3:Tryz.prog.recurses 4=Rows.tableevalRunRow.recurses:=by kernel_rfl
def jf4:Tryz.prog.varsNamed 4=Rows.tableevalRunRow.named:=by kernel_rfl
def jf:joinedFacts Tryz.prog 4 Tryz.f4 Rows.tableevalRunSpec Rows.tableevalRunRow=af:=by
 unfold joinedFacts;rw[jf1,jf2,jf3,jf4]
 kernel_rfl
def jl:af=Tryz.prog.looks []:=by kernel_rfl
def jg:ag=Rows.tableevalRunRow.goesBy Tryz.prog:=by kernel_rfl
def over:Rows.tableevalRunRow.holds Tryz.pinned (OpenSpec.ofChange Rows.tableevalRunSpec):=
 OpenClaim.holds_of_wide 4 Tryz.f4 rfl rfl rfl rfl rfl rfl rfl ⟨rfl,rfl,rfl,rfl,rfl⟩ rfl rfl rfl rfl rfl (by kernel_rfl) Tryz.func4 jf
  (of_decide_eq_true (by kernel_rfl)) (by unfold Func.isWrapper;rw[if_neg (of_decide_eq_false (by kernel_rfl))];exact⟨rfl,rfl⟩)
  (λos started H enc _=>lifted os started H enc)
def Ip:Rows.TableevalRunCardSaid:=
 Claim7.holds_tied_plain_at .later [] [.data] af (af, "2bb41ff9245350b77ed2bee49ad86246c28bff173b01bb7057e7fb8062b7c9f4") af
  over (λ_ h=>by cases h) (by kernel_rfl) (λ_ h=>by cases h) tableevalRun_row_tie rfl ⟨rfl,rfl⟩ (by kernel_rfl) rfl
  (λf fn hf E8=>by
    obtain rfl:f=4:=aqP ((show Tryz.prog.funcNamed "guerdon/guerdonlaw32.TableevalRun" =aa 4 by kernel_rfl).symm.trans hf)|>.symm
    obtain rfl:fn=Tryz.f4:=(aqP (Tryz.func4.symm.trans E8)).symm
    exact⟨jl,λj t ht=>by
     rw[Tryz.params4]at ht
     have hm:t∈[48,3,50]:=by simpa using Array.mem_of_getElem? ht
     have gZ:([48,3,50].all λu=> !Tryz.prog.wantsStandIn u)=af:=by kernel_rfl
     exact(show Tryz.prog.wantsStandIn t=ag by simpa using List.all_eq_true.1 gZ t hm)⟩)
  jg
theorem proved:Rows.TableevalRunCardSaid:=Ip
end Go.Proofs.YtfeahmiobbjklaaGreatDoor.tableevalRun
