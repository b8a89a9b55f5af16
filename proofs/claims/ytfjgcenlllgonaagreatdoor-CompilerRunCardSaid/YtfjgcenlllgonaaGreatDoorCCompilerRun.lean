/- CompilerRun: the statement, closed: the argument's reading by the form, the walk (by program) and the plain law together. Written by close.py. -/
import Derived.Test.YtfjgcenlllgonaaGreatDoorRows
import Derived.Test.YtfjgcenlllgonaaGreatDoorU1
import Derived.Test.YtfjgcenlllgonaaGreatDoorU4
import Derived.Test.YtfjgcenlllgonaaGreatDoorU13
import Derived.WalkKit
import Derived.ProofKit
import Derived.OpenShut
import Derived.JoinedCond
import Derived.Test.YtfjgcenlllgonaaGreatDoorCards
import Derived.Test.YtfjgcenlllgonaaGreatDoorTie
import Derived.SevenTiedAt
set_option linter.defProp false
open _root_.Bool renaming false->ah,true->af
open _root_.Option renaming none->ae,some->aa
open _root_.List renaming forall_mem_cons->asg
open _root_.Nat renaming blt->art,zero_add->arl
open _root_.Option.some renaming inj->aqL
namespace Go.Proofs.YtfjgcenlllgonaaGreatDoor.compilerRun
open Go Go.RowKit Go.ChangeShapes Go.WideShapes Go.ChangeAt Go.Deep
set_option linter.unusedVariables false
def own:ownKnob Tryz.prog.godebug=ae:=by kernel_rfl
def laidOut:laidOutB Tryz.prog=af:=by kernel_rfl
def O9:gM Tryz.prog 9 .str:=BS Tryz.underlying9
def O3:gM Tryz.prog 3 aC:=Mm Tryz.underlying3
def O67:gM Tryz.prog 67 aD:=eK Tryz.underlying67 (by kernel_rfl) (bS rfl (by kernel_rfl) O3 (fC rfl (by kernel_rfl) O3))
def O68:gM Tryz.prog 68 (.slice aD):=gN Tryz.underlying68 (by kernel_rfl) O67
def acz:gM Tryz.prog 100 aD:=eK Tryz.underlying100 (by kernel_rfl) (bS rfl (by kernel_rfl) O3 (fC rfl (by kernel_rfl) O3))
def ajh:gM Tryz.prog 102 cm:=eK Tryz.underlying102 (by kernel_rfl) (bS rfl (by kernel_rfl) O9 (bS rfl (by kernel_rfl) O3 (bS rfl (by kernel_rfl) O3 (bS rfl (by kernel_rfl) O3 (bS rfl (by kernel_rfl) acz (bS rfl (by kernel_rfl) O68 (bS rfl (by kernel_rfl) O68 (fC rfl (by kernel_rfl) O9))))))))
def O45:gM Tryz.prog 45 (.slice cm):=gN Tryz.underlying45 (by kernel_rfl) ajh
def O57:gM Tryz.prog 57 aD:=eK Tryz.underlying57 (by kernel_rfl) (bS rfl (by kernel_rfl) O3 (fC rfl (by kernel_rfl) O3))
def O85:gM Tryz.prog 85 bG:=eK Tryz.underlying85 (by kernel_rfl) (bS rfl (by kernel_rfl) O9 (fC rfl (by kernel_rfl) O57))
def O61:gM Tryz.prog 61 (.slice bG):=gN Tryz.underlying61 (by kernel_rfl) O85
def O63:gM Tryz.prog 63 bg:=eK Tryz.underlying63 (by kernel_rfl) (bS rfl (by kernel_rfl) O9 (bS rfl (by kernel_rfl) O3 (bS rfl (by kernel_rfl) O61 (bS rfl (by kernel_rfl) O61 (fC rfl (by kernel_rfl) O45)))))
def O24:gM Tryz.prog 24 (.slice bg):=gN Tryz.underlying24 (by kernel_rfl) O63
def ajj:gM Tryz.prog 171 fT:=eK Tryz.underlying171 (by kernel_rfl) (bS rfl (by kernel_rfl) acz (bS rfl (by kernel_rfl) O3 (bS rfl (by kernel_rfl) O3 (fC rfl (by kernel_rfl) O3))))
def O58:gM Tryz.prog 58 (.slice fT):=gN Tryz.underlying58 (by kernel_rfl) ajj
def O60:gM Tryz.prog 60 aP:=eK Tryz.underlying60 (by kernel_rfl) (bS rfl (by kernel_rfl) O9 (bS rfl (by kernel_rfl) O57 (bS rfl (by kernel_rfl) O57 (fC rfl (by kernel_rfl) O58))))
def O23:gM Tryz.prog 23 (.slice aP):=gN Tryz.underlying23 (by kernel_rfl) O60
def O53:gM Tryz.prog 53 (.slice .str):=gN Tryz.underlying53 (by kernel_rfl) O9
def O55:gM Tryz.prog 55 b9:=eK Tryz.underlying55 (by kernel_rfl) (bS rfl (by kernel_rfl) O9 (fC rfl (by kernel_rfl) O53))
def O22:gM Tryz.prog 22 (.slice b9):=gN Tryz.underlying22 (by kernel_rfl) O55
def O26:gM Tryz.prog 26 cC:=eK Tryz.underlying26 (by kernel_rfl) (bS rfl (by kernel_rfl) O22 (bS rfl (by kernel_rfl) O23 (fC rfl (by kernel_rfl) O24)))
def O71:gM Tryz.prog 71 aE:=eK Tryz.underlying71 (by kernel_rfl) (bS rfl (by kernel_rfl) O3 (bS rfl (by kernel_rfl) O3 (fC rfl (by kernel_rfl) O3)))
def O27:gM Tryz.prog 27 (.slice aE):=gN Tryz.underlying27 (by kernel_rfl) O71
def O28:gM Tryz.prog 28 (.slice (.slice aE)):=gN Tryz.underlying28 (by kernel_rfl) O27
def O30:gM Tryz.prog 30 gO:=eK Tryz.underlying30 (by kernel_rfl) (bS rfl (by kernel_rfl) O3 (bS rfl (by kernel_rfl) O27 (fC rfl (by kernel_rfl) O28)))
def rows:∀t∈Tryz.f3.params.toList,(Tryz.prog.readableRec t&&art t Tryz.prog.types.size)=af:=by
 rw[Tryz.params3];simp only[asg];exact⟨by kernel_rfl,by kernel_rfl,by kernel_rfl,λ_ h=>absurd h (by simp)⟩
def g2:Tryz.prog.globalNamed "guerdon/date.monthLengths" =aa 2:=by kernel_rfl
def t2:(Tryz.prog.globals[2]?).map (·.type)=aa 330:=by kernel_rfl
def VG{W:World}(h:laidMetH Tryz.prog Rows.compilerRunRow.laid W):uX (λb=>b<W.heap.size) W:=by
 rw[MakeChecks.laidMetH_plain _ _ _ (by kernel_rfl)]at h;obtain⟨ps,⟨g0,t0,cs0,f0,p0,q0,Yu,ht0,Iy,Wj,_,_⟩,_,_⟩:=h;obtain rfl:=aqL (g2.symm.trans Yu);obtain rfl:=aqL (t2.symm.trans ht0)
 have ajk:cs0.toList=([31,28,31,30,31,30,31,31,30,31,30,31]:List Int).map λx=> .int .i64 x:=Nj Tryz.underlying330 Tryz.underlying3 (by kernel_rfl) (by kernel_rfl) Wj
 intro g d hg;unfold Kd at hg;rw[bA]at hg;split at hg
 .rename_i e;subst e;obtain rfl:=aqL hg
  have hc:∀j,W.cell? ⟨2,j,ae⟩=(([31,28,31,30,31,30,31,31,30,31,30,31]:List Int).map λx=>(.int .i64 x:Value))[j]? :=λj=>by rw[World.var?_cell Yu Iy j,<-ajk,Array.getElem?_toList]
  refine⟨Uh (hc 0),_,?_,λj u hj=>by rw[arl,hc j];exact hj,?_⟩
  .rfl
  .exact⟨[_],_,rfl,rfl,⟨[_],_,rfl,rfl,⟨[_],_,rfl,rfl,⟨[_],_,rfl,rfl,⟨[_],_,rfl,rfl,⟨[_],_,rfl,rfl,⟨[_],_,rfl,rfl,⟨[_],_,rfl,rfl,⟨[_],_,rfl,rfl,⟨[_],_,rfl,rfl,⟨[_],_,rfl,rfl,rfl⟩⟩⟩⟩⟩⟩⟩⟩⟩⟩⟩
 .cases hg
def SM(os:Os)(args:Array Value):laidMetH Tryz.prog Rows.compilerRunRow.laid ((World.doorLaid Tryz.prog 400 os).forCall (λ_ _=>0) ⟨#[],args,[]⟩).memory:=
 laidMetH_of_parts3 (fuel:=8) (laidMet_of_run' 8 (by kernel_rfl) (by kernel_rfl)) (by kernel_rfl) (by kernel_rfl)
def ady{P:Program}{H:Type}{enc:TypeId×Value->H}{w:World}{base:Nat}{spare:Nat->Bool}{held:Bool}{v:Value}{d:DataW H}{ps:List MemPlace}{t:TypeId}(ht:P.underlying t=aa .string)(hv:Value.okWide P w .any base t v)(h:DataW.Trod enc P w 0 spare held t v d ps):∃s:ByteArray,v= .string s/\WF .str s/\uW .str s<=Rows.uptoBulk d:=by
 obtain⟨s,rfl⟩:=okWide_string ht hv;obtain⟨fuel,hf⟩:=h;obtain⟨y,h1,h2,h3⟩:=BS ht H enc w spare held fuel _ _ hf
 obtain rfl:y=s:=by
  have h1:[Value.string s]=[Value.string y]:=h1;cases h1;rfl
 exact⟨y,rfl,h2,h3⟩
set_option maxRecDepth 100000 in
def SN(H:Type)(enc:TypeId×Value->H)(W:World)(base:Nat)(args:Array Value)(ds gs:List (DataW H))(before:List MemPlace)
 (yC:∀(j:Nat)t v,Tryz.f3.params[j]? =aa t->args[j]? =aa v->Value.okWide Tryz.prog W .any base t v)
 (hW:DataW.Whole enc Tryz.prog Tryz.f3.params.toList Rows.compilerRunSpec.vars ah W args.toList ds gs before)(hL:laidMetH Tryz.prog Rows.compilerRunRow.laid W):
 Calls Tryz.prog 3 args W λe W'=>∃v,e= .returned v/\Rows.compilerRunSpec.post enc Tryz.prog Tryz.f3 ah af ah ah W args v W':=by
 have hW':=hW
 have aI:∀p∈before,p.block<W.heap.size:=λp hp=>hW.lt p hp
 obtain⟨p,q,hA0,hV,rfl,Bn,TK⟩:=hW;have hA:DataW.TrodAll enc Tryz.prog W 0 (λ_=>af) af Tryz.f3.params.toList args.toList ds p:=hA0;have hA1:=hA;rw[Tryz.params3]at hA yC;obtain⟨v0,vs0,d0,ds0,p0,q0,Kc,rfl,rfl,h0,r0⟩:=trodAll_cons hA;obtain⟨v1,vs1,d1,ds1,p1,q1,rfl,rfl,rfl,h1,r1⟩:=trodAll_cons r0;obtain⟨v2,vs2,d2,ds2,p2,q2,rfl,rfl,rfl,h2,r2⟩:=trodAll_cons r1;obtain⟨rfl,rfl,rfl⟩:=trodAll_nil r2
 obtain rfl:args= #[v0,v1,v2]:=by cases args;simp_all
 obtain⟨rfl,rfl⟩:=trodVars_none hV;clear hA0;obtain⟨es0,x0,rfl,Y4,YY,hb0⟩:=zn Tryz.underlying26 O26 (yC 0 26 v0 rfl rfl) h0;obtain⟨x1,rfl,hw1,Ko⟩:=Tq Tryz.underlying3 (yC 1 3 v1 rfl rfl) h1;obtain⟨es2,x2,rfl,Ya,hw2,Ix⟩:=zn Tryz.underlying30 O30 (yC 2 30 v2 rfl rfl) h2
 refine(Ni (x:=(x0,x1,x2)) (W3 aJ) (L.xR x0 x1 x2 YY hw1 hw2) rfl (.cons (yc Y4) (.cons (Qk _ _ _ x1) (.cons (yc Ya) .nil))) rfl (VG hL)).mono λe W' ⟨he,hs⟩=>?_
 subst he
 exact⟨_,rfl,Bh (pv:=[]) hW' (λ_ _ _=>trodAll_cons_mk (shut_bool Tryz.underlying4 _) trodAll_mk0)
  (λsp wT=>uI laidOut hs _ _ _ _ rows hA1 (λx hx=>aI x (by simpa using hx)) (λx hx=>wT x (by simpa using hx))) (λ_ _=>rfl) rfl hs
  (ok_one (by kernel_rfl) rfl (okWide_bool_mk Tryz.underlying4 _))⟩
set_option maxRecDepth 100000 in
def lifted(os:Os)(started:os.Started)(H:Type)(enc:TypeId×Value->H):
 ReturnsInHanded {} Tryz.checked os 3 .any (λw args=>(Rows.compilerRunSpec.pre enc Tryz.prog Tryz.f3 Rows.compilerRunRow.domain ah w args/\laidMetH Tryz.prog Rows.compilerRunRow.laid w)/\sizedMet enc Tryz.prog Tryz.f3 (OpenSpec.ofChange Rows.compilerRunSpec) ah w args)
  (Rows.compilerRunSpec.post enc Tryz.prog Tryz.f3 ah af ah ah):=by
 refine returnsInHanded_of_change_and (C:=Tryz.checked) (X:=λw _=>laidMetH Tryz.prog Rows.compilerRunRow.laid w) (λ_ _ _ hh h=>h.of_heap hh) own started (by kernel_rfl) Tryz.func3
  (ChangeSpec.witness_shaped (enc:=enc) (C:=Tryz.checked) (os:=os) (X:=λw _=>laidMetH Tryz.prog Rows.compilerRunRow.laid w) ah (World.doorLaid Tryz.prog 400 os) #[.agg #[.slice ae 0 0, .slice ae 0 0, .slice ae 0 0], .int .i64 0, .agg #[.int .i64 0, .slice ae 0 0, .slice ae 0 0]] 12 rfl (World.shaped_of_RefB (by kernel_rfl) (by kernel_rfl)) (by kernel_rfl) (by kernel_rfl) (by kernel_rfl) (SM os _)) ?_
 intro W base args ds gs before yC hW _ _ hL _;exact SN H enc W base args ds gs before yC hW hL
def jf1:Tryz.prog.inPlace 3=Rows.compilerRunRow.inPlace:=by kernel_rfl
def jf2:Tryz.prog.unfollowed 3=Rows.compilerRunRow.unfollowed:=by kernel_rfl
def jf3:Tryz.prog.recurses 3=Rows.compilerRunRow.recurses:=by kernel_rfl
def jf4:Tryz.prog.varsNamed 3=Rows.compilerRunRow.named:=by kernel_rfl
def jf:joinedFacts Tryz.prog 3 Tryz.f3 Rows.compilerRunSpec Rows.compilerRunRow=af:=by
 unfold joinedFacts;rw[jf1,jf2,jf3,jf4]
 kernel_rfl
def jl:af=Tryz.prog.looks []:=by kernel_rfl
def jg:ah=Rows.compilerRunRow.goesBy Tryz.prog:=by kernel_rfl
def over:Rows.compilerRunRow.holds Tryz.pinned (OpenSpec.ofChange Rows.compilerRunSpec):=
 OpenClaim.holds_of_wide 3 Tryz.f3 rfl rfl rfl rfl rfl rfl rfl ⟨rfl,rfl,rfl,rfl,rfl⟩ rfl rfl rfl rfl rfl (by kernel_rfl) Tryz.func3 jf
  (of_decide_eq_true (by kernel_rfl)) (by unfold Func.isWrapper;rw[if_neg (of_decide_eq_false (by kernel_rfl))];exact⟨rfl,rfl⟩)
  (λos started H enc _=>lifted os started H enc)
def HR:Rows.CompilerRunCardSaid:=
 Claim7.holds_tied_plain_at .later [] [.data] af (af, "a23270bc5c32c680b38abfdf186966875dc6e07990d70c4dcd5d12bef2bc91f3") af
  over (λ_ h=>by cases h) (by kernel_rfl) (λ_ h=>by cases h) compilerRun_row_tie rfl ⟨rfl,rfl⟩ (by kernel_rfl) rfl
  (λf fn hf Co=>by
    obtain rfl:f=3:=aqL ((show Tryz.prog.funcNamed "guerdon/guerdonlaw29.CompilerRun" =aa 3 by kernel_rfl).symm.trans hf)|>.symm
    obtain rfl:fn=Tryz.f3:=(aqL (Tryz.func3.symm.trans Co)).symm
    exact⟨jl,λj t ht=>by
     rw[Tryz.params3]at ht
     have hm:t∈[26,3,30]:=by simpa using Array.mem_of_getElem? ht
     have kt:([26,3,30].all λu=> !Tryz.prog.wantsStandIn u)=af:=by kernel_rfl
     exact(show Tryz.prog.wantsStandIn t=ah by simpa using List.all_eq_true.1 kt t hm)⟩)
  jg
theorem proved:Rows.CompilerRunCardSaid:=HR
end Go.Proofs.YtfjgcenlllgonaaGreatDoor.compilerRun
