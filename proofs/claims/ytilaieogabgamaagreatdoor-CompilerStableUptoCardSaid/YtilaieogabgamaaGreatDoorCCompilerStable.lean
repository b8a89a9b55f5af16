/- CompilerStable: the statement, closed: the argument's reading by the form, the walk (by program) and the plain law together. Written by close.py. -/
import Derived.Test.YtilaieogabgamaaGreatDoorRows
import Derived.Test.YtilaieogabgamaaGreatDoorU1
import Derived.Test.YtilaieogabgamaaGreatDoorU6
import Derived.Test.YtilaieogabgamaaGreatDoorU15
import Derived.WalkKit
import Derived.ProofKit
import Derived.OpenShut
import Derived.JoinedCond
import Derived.Test.YtilaieogabgamaaGreatDoorCards
import Derived.Test.YtilaieogabgamaaGreatDoorTie
import Derived.SevenTiedAt
open _root_.List renaming append_nil->ajW,forall_mem_cons->akH
open _root_.Nat renaming blt->ajX,zero_add->ajC
open _root_.Option.some renaming inj->ai4
namespace Go.Proofs.YtilaieogabgamaaGreatDoor.compilerStable
open Go Go.RowKit Go.ChangeShapes Go.WideShapes Go.ChangeAt Go.Deep
set_option linter.unusedVariables false
theorem own:ownKnob Tryz.prog.godebug=none:=by kernel_rfl
theorem laidOut:laidOutB Tryz.prog=true:=by kernel_rfl
theorem O9:fA Tryz.prog 9 .str:=xx Tryz.underlying9
theorem O3:fA Tryz.prog 3 ae:=Gy Tryz.underlying3
theorem O55:fA Tryz.prog 55 aa:=dE Tryz.underlying55 (by kernel_rfl) (bt rfl (by kernel_rfl) O3 (eh rfl (by kernel_rfl) O3))
theorem O56:fA Tryz.prog 56 (.slice aa):=fR Tryz.underlying56 (by kernel_rfl) O55
theorem O73:fA Tryz.prog 73 aa:=dE Tryz.underlying73 (by kernel_rfl) (bt rfl (by kernel_rfl) O3 (eh rfl (by kernel_rfl) O3))
theorem O77:fA Tryz.prog 77 aN:=dE Tryz.underlying77 (by kernel_rfl) (bt rfl (by kernel_rfl) O9 (bt rfl (by kernel_rfl) O3 (bt rfl (by kernel_rfl) O3 (bt rfl (by kernel_rfl) O3 (bt rfl (by kernel_rfl) O73 (bt rfl (by kernel_rfl) O56 (bt rfl (by kernel_rfl) O56 (eh rfl (by kernel_rfl) O9))))))))
theorem O31:fA Tryz.prog 31 (.slice aN):=fR Tryz.underlying31 (by kernel_rfl) O77
theorem O45:fA Tryz.prog 45 aa:=dE Tryz.underlying45 (by kernel_rfl) (bt rfl (by kernel_rfl) O3 (eh rfl (by kernel_rfl) O3))
theorem O93:fA Tryz.prog 93 aJ:=dE Tryz.underlying93 (by kernel_rfl) (bt rfl (by kernel_rfl) O9 (eh rfl (by kernel_rfl) O45))
theorem O49:fA Tryz.prog 49 (.slice aJ):=fR Tryz.underlying49 (by kernel_rfl) O93
theorem O51:fA Tryz.prog 51 az:=dE Tryz.underlying51 (by kernel_rfl) (bt rfl (by kernel_rfl) O9 (bt rfl (by kernel_rfl) O3 (bt rfl (by kernel_rfl) O49 (bt rfl (by kernel_rfl) O49 (eh rfl (by kernel_rfl) O31)))))
theorem O24:fA Tryz.prog 24 (.slice az):=fR Tryz.underlying24 (by kernel_rfl) O51
theorem O75:fA Tryz.prog 75 dy:=dE Tryz.underlying75 (by kernel_rfl) (bt rfl (by kernel_rfl) O73 (bt rfl (by kernel_rfl) O3 (bt rfl (by kernel_rfl) O3 (eh rfl (by kernel_rfl) O3))))
theorem O46:fA Tryz.prog 46 (.slice dy):=fR Tryz.underlying46 (by kernel_rfl) O75
theorem O48:fA Tryz.prog 48 ax:=dE Tryz.underlying48 (by kernel_rfl) (bt rfl (by kernel_rfl) O9 (bt rfl (by kernel_rfl) O45 (bt rfl (by kernel_rfl) O45 (eh rfl (by kernel_rfl) O46))))
theorem O23:fA Tryz.prog 23 (.slice ax):=fR Tryz.underlying23 (by kernel_rfl) O48
theorem O41:fA Tryz.prog 41 (.slice .str):=fR Tryz.underlying41 (by kernel_rfl) O9
theorem O43:fA Tryz.prog 43 bq:=dE Tryz.underlying43 (by kernel_rfl) (bt rfl (by kernel_rfl) O9 (eh rfl (by kernel_rfl) O41))
theorem O22:fA Tryz.prog 22 (.slice bq):=fR Tryz.underlying22 (by kernel_rfl) O43
theorem O26:fA Tryz.prog 26 cn:=dE Tryz.underlying26 (by kernel_rfl) (bt rfl (by kernel_rfl) O22 (bt rfl (by kernel_rfl) O23 (eh rfl (by kernel_rfl) O24)))
theorem rows:∀t∈Tryz.f3.params.toList,(Tryz.prog.readableRec t&&ajX t Tryz.prog.types.size)=true:=by
 rw[Tryz.params3];simp only[akH];exact⟨by kernel_rfl,by kernel_rfl,by kernel_rfl,by kernel_rfl,fun _ h=>absurd h (by simp)⟩
theorem g2:Tryz.prog.globalNamed "guerdon/date.monthLengths" =some 2:=by kernel_rfl
theorem t2:(Tryz.prog.globals[2]?).map (·.type)=some 321:=by kernel_rfl
theorem N7{W:World}(h:laidMetH Tryz.prog Rows.compilerStableUptoRow.laid W):qt (fun b=>b<W.heap.size) W:=by
 rw[MakeChecks.laidMetH_plain _ _ _ (by kernel_rfl)]at h;obtain⟨ps,⟨g0,t0,U4,f0,p0,q0,Q1,VA,O8,hd0,_,_⟩,_,_⟩:=h;obtain rfl:=ai4 (g2.symm.trans Q1);obtain rfl:=ai4 (t2.symm.trans VA)
 have abX:U4.toList=([31,28,31,30,31,30,31,31,30,31,30,31]:List Int).map fun x=> .int .i64 x:=HG Tryz.underlying321 Tryz.underlying3 (by kernel_rfl) (by kernel_rfl) hd0
 intro g d hg;unfold EU at hg;rw[aA]at hg;split at hg
 .rename_i e;subst e;obtain rfl:=ai4 hg
  have hc:∀j,W.cell? ⟨2,j,none⟩=(([31,28,31,30,31,30,31,31,30,31,30,31]:List Int).map fun x=>(.int .i64 x:Value))[j]? :=fun j=>by rw[World.var?_cell Q1 O8 j,<-abX,Array.getElem?_toList]
  refine⟨M7 (hc 0),_,?_,fun j u hj=>by rw[ajC,hc j];exact hj,?_⟩
  .rfl
  .exact⟨[_],_,rfl,rfl,⟨[_],_,rfl,rfl,⟨[_],_,rfl,rfl,⟨[_],_,rfl,rfl,⟨[_],_,rfl,rfl,⟨[_],_,rfl,rfl,⟨[_],_,rfl,rfl,⟨[_],_,rfl,rfl,⟨[_],_,rfl,rfl,⟨[_],_,rfl,rfl,⟨[_],_,rfl,rfl,rfl⟩⟩⟩⟩⟩⟩⟩⟩⟩⟩⟩
 .cases hg
theorem LV(os:Os)(args:Array Value):laidMetH Tryz.prog Rows.compilerStableUptoRow.laid ((World.doorLaid Tryz.prog 400 os).forCall (fun _ _=>0) ⟨#[],args,[]⟩).memory:=
 laidMetH_of_parts3 (fuel:=8) (laidMet_of_run' 8 (by kernel_rfl) (by kernel_rfl)) (by kernel_rfl) (by kernel_rfl)
theorem VO{P:Program}{H:Type}{enc:TypeId×Value->H}{w:World}{base:Nat}{spare:Nat->Bool}{held:Bool}{v:Value}{d:DataW H}{ps:List MemPlace}{t:TypeId}(ht:P.underlying t=some .string)(hv:Value.okWide P w .any base t v)(h:DataW.Trod enc P w 0 spare held t v d ps):∃s:ByteArray,v= .string s/\WF .str s/\cB .str s<=Rows.uptoBulk d:=by
 obtain⟨s,rfl⟩:=okWide_string ht hv;obtain⟨fuel,hf⟩:=h;obtain⟨y,h1,h2,h3⟩:=xx ht H enc w spare held fuel _ _ hf
 obtain rfl:y=s:=by
  have h1:[Value.string s]=[Value.string y]:=h1;cases h1;rfl
 exact⟨y,rfl,h2,h3⟩
set_option maxRecDepth 100000 in
theorem wH(H:Type)(enc:TypeId×Value->H)(W:World)(base:Nat)(args:Array Value)(ds gs:List (DataW H))(before:List MemPlace)
 (kK:∀(j:Nat)t v,Tryz.f3.params[j]? =some t->args[j]? =some v->Value.okWide Tryz.prog W .any base t v)
 (hW:DataW.Whole enc Tryz.prog Tryz.f3.params.toList Rows.compilerStableSpec.vars false W args.toList ds gs before)(hk:Rows.uptoSmall H (ds++gs)=true)(hL:laidMetH Tryz.prog Rows.compilerStableUptoRow.laid W):
 Calls Tryz.prog 3 args W fun e W'=>∃v,e= .returned v/\Rows.compilerStableSpec.post enc Tryz.prog Tryz.f3 false true false false W args v W':=by
 have hW':=hW
 have al:∀p∈before,p.block<W.heap.size:=fun p hp=>hW.lt p hp
 obtain⟨p,q,hA0,hV,rfl,w4,MC⟩:=hW;have hA:DataW.TrodAll enc Tryz.prog W 0 (fun _=>true) true Tryz.f3.params.toList args.toList ds p:=hA0;have hA1:=hA;rw[Tryz.params3]at hA kK;obtain⟨v0,vs0,d0,ds0,p0,q0,ES,rfl,rfl,h0,r0⟩:=trodAll_cons hA;obtain⟨v1,Wh,d1,ds1,p1,q1,rfl,rfl,rfl,h1,r1⟩:=trodAll_cons r0;obtain⟨v2,vs2,d2,ds2,p2,q2,rfl,rfl,rfl,h2,r2⟩:=trodAll_cons r1;obtain⟨v3,vs3,d3,ds3,p3,q3,rfl,rfl,rfl,h3,r3⟩:=trodAll_cons r2;obtain⟨rfl,rfl,rfl⟩:=trodAll_nil r3
 obtain rfl:args= #[v0,v1,v2,v3]:=by cases args;simp_all
 obtain⟨rfl,rfl⟩:=trodVars_none hV;clear hA0;obtain⟨es0,x0,rfl,V0,hw0,hb0⟩:=CZ Tryz.underlying26 O26 (kK 0 26 v0 rfl rfl) h0;obtain⟨x1,rfl,hw1,E1⟩:=yD Tryz.underlying3 (kK 1 3 v1 rfl rfl) h1;obtain⟨x2,rfl,hw2,Dc⟩:=yD Tryz.underlying3 (kK 2 3 v2 rfl rfl) h2;obtain⟨x3,rfl,hw3,RD⟩:=yD Tryz.underlying3 (kK 3 3 v3 rfl rfl) h3
 have mr:cB cn x0+cB (.int .i64) x1+cB (.int .i64) x2+cB (.int .i64) x3<=1048576:=by
  have Hj:=of_decide_eq_true hk;simp only[ajW,Rows.uptoBulkAll]at Hj;omega
 refine(HF (x:=(x0,x1,x2,x3)) (W3 aC) (L.p4 x0 x1 x2 x3 hw0 hw1 hw2 hw3 mr) rfl (.cons (BE V0) (.cons (vK _ _ _ x1) (.cons (vK _ _ _ x2) (.cons (vK _ _ _ x3) .nil)))) rfl (N7 hL)).mono fun e W' ⟨he,hs⟩=>?_
 subst he
 exact⟨_,rfl,wS (pv:=[]) hW' (fun _ _ _=>trodAll_cons_mk (shut_bool Tryz.underlying4 _) trodAll_mk0)
  (fun sp wR=>p6 laidOut hs _ _ _ _ rows hA1 (fun x hx=>al x (by simpa using hx)) (fun x hx=>wR x (by simpa using hx))) (fun _ _=>rfl) rfl hs
  (ok_one (by kernel_rfl) rfl (okWide_bool_mk Tryz.underlying4 _))⟩
set_option maxRecDepth 100000 in
theorem LW{H:Type}{enc:TypeId×Value->H}{a:Assume}{C:Checked}{os:Os}{f:FuncId}{fn:Func}{s:OpenSpec}{k:(H:Type)->List (DataW H)->Bool}(hk:s.cond=some k){F:Stop.Interp}{conds:List PathCond}{apart fresh handsOn again:Bool}{X:World->Array Value->Prop}
 (hX:∀(w w':World)(args:Array Value),w.heap=w'.heap->X w args->X w' args)
 (own:ownKnob C.prog.godebug=none)(started:os.Started)(Rx:C.prog.inits.idxOf? f=none)(w8:C.prog.funcs[f]? =some fn)
 (witness:∃(w:World)(tape:Tape)(i:Input),w.os=os/\(w.forCall tape i).Shaped C.prog/\i.vars=[]/\Input.okWide C.prog (w.forCall tape i) .any w.heap.size f i/\
   ((s.pre enc C.prog fn conds apart (w.forCall tape i).memory i.args/\X (w.forCall tape i).memory i.args)/\sizedMet enc C.prog fn s apart (w.forCall tape i).memory i.args)/\a.holds C.prog (lone (Frame.enter C.prog f i.args .normal) [] (w.forCall tape i)))
 (wH:∀(W:World)(base:Nat)(args:Array Value)(ds gs:List (DataW H))(before:List MemPlace),
   (∀(j:Nat)t v,fn.params[j]? =some t->args[j]? =some v->Value.okWide C.prog W .any base t v)->
   DataW.Whole enc C.prog fn.params.toList s.vars apart W args.toList ds gs before->k H (ds++gs)=true->X W args->
   Calls C.prog f args W fun e W'=>∃v,e= .returned v/\(s.at F).post enc C.prog fn apart fresh handsOn again W args v W'):
 ReturnsInHanded a C os f .any (fun w args=>(s.pre enc C.prog fn conds apart w args/\X w args)/\sizedMet enc C.prog fn s apart w args) ((s.at F).post enc C.prog fn apart fresh handsOn again):=by
 refine returnsInHanded_of_calls own started Rx witness ?_;intro w tape i _ _ _ my Rs abY;obtain⟨_,_,_,fn',abZ,_,_,_,_,kK⟩:=my;have e:fn'=fn:=ai4 (abZ.symm.trans w8);subst e;obtain⟨⟨hp,hx⟩,hz⟩:=Rs;obtain⟨ds,gs,before,hw,hc,C5⟩:=(OpenSpec.pre_some hk conds apart _ _).1 hp;have SC:=DataW.Whole.of_heap (w':=w.forCall tape i) (by rfl) hw
 refine(wH (w.forCall tape i) w.heap.size i.args ds gs before kK SC C5 (hX _ _ _ (by rfl) hx)).mono fun e W' ⟨v,he,hp⟩=>?_
 subst he;exact ChangeSpec.post_blind hp
theorem Ag{H:Type}{enc:TypeId×Value->H}{C:Checked}{os:Os}{f:FuncId}{fn:Func}{s:OpenSpec}{k:(H:Type)->List (DataW H)->Bool}(hk:s.cond=some k){conds:List PathCond}{apart:Bool}{X:World->Array Value->Prop}(modest:Bool)(w0:World)(args:Array Value)(fuel:Nat)(Kt:w0.os=os)
 (hsh:(w0.forCall (fun _ _=>0) ⟨#[],args,[]⟩).Shaped C.prog)
 (my:Input.okWideB C.prog (w0.forCall (fun _ _=>0) ⟨#[],args,[]⟩) f ⟨#[],args,[]⟩=true)
 {x:List (DataW H)×List (DataW H)×List MemPlace}(hx:DataW.whole enc C.prog (w0.forCall (fun _ _=>0) ⟨#[],args,[]⟩).memory fn.params.toList s.vars apart args.toList fuel=some x)
 (Ry:conds.all (PathCond.test C.prog ⟨fn.params.toList,x.1,s.bare.plain.varTypes C.prog,x.2.1⟩)=true)(C5:k H (x.1++x.2.1)=true)
 (kz:s.bare.sizedB enc C.prog fn apart (w0.forCall (fun _ _=>0) ⟨#[],args,[]⟩).memory args fuel=true)
 (hX:X (w0.forCall (fun _ _=>0) ⟨#[],args,[]⟩).memory args):
 ∃(w:World)(tape:Tape)(i:Input),w.os=os/\(w.forCall tape i).Shaped C.prog/\i.vars=[]/\Input.okWide C.prog (w.forCall tape i) .any w.heap.size f i/\
  ((s.pre enc C.prog fn conds apart (w.forCall tape i).memory i.args/\X (w.forCall tape i).memory i.args)/\sizedMet enc C.prog fn s apart (w.forCall tape i).memory i.args)/\({modest:=modest}:Assume).holds C.prog (lone (Frame.enter C.prog f i.args .normal) [] (w.forCall tape i)):=
 ⟨w0,fun _ _=>0,⟨#[],args,[]⟩,Kt,hsh,(Input.okWide_of_okWideB (base:=0) my).1,(Input.okWide_of_okWideB my).2,⟨⟨(OpenSpec.pre_some hk conds apart _ _).2 ⟨x.1,x.2.1,x.2.2,DataW.Whole_of_whole hx,Ry,C5⟩,hX⟩,sizedMet_of_sizedB kz⟩,by
   simp only[Assume.holds]
   exact⟨by simp,by simp,fun _=>Modest.zero,by simp,by simp⟩⟩
set_option maxRecDepth 100000 in
theorem lifted(os:Os)(started:os.Started)(H:Type)(enc:TypeId×Value->H)(F:Stop.Interp):
 ReturnsInHanded {} Tryz.checked os 3 .any (fun w args=>((Rows.OpenSpec.upto Rows.compilerStableSpec).pre enc Tryz.prog Tryz.f3 Rows.compilerStableUptoRow.domain false w args/\laidMetH Tryz.prog Rows.compilerStableUptoRow.laid w)/\sizedMet enc Tryz.prog Tryz.f3 (Rows.OpenSpec.upto Rows.compilerStableSpec) false w args)
  (((Rows.OpenSpec.upto Rows.compilerStableSpec).at F).post enc Tryz.prog Tryz.f3 false true false false):=by
 refine LW (C:=Tryz.checked) (s:=Rows.OpenSpec.upto Rows.compilerStableSpec) (k:=Rows.uptoSmall) rfl (X:=fun w _=>laidMetH Tryz.prog Rows.compilerStableUptoRow.laid w) (fun _ _ _ hh h=>h.of_heap hh) own started (by kernel_rfl) Tryz.func3
  (Ag (enc:=enc) (C:=Tryz.checked) (os:=os) (s:=Rows.OpenSpec.upto Rows.compilerStableSpec) (k:=Rows.uptoSmall) rfl (X:=fun w _=>laidMetH Tryz.prog Rows.compilerStableUptoRow.laid w) false (World.doorLaid Tryz.prog 400 os) #[.agg #[.slice none 0 0, .slice none 0 0, .slice none 0 0], .int .i64 0, .int .i64 0, .int .i64 0] 12 rfl (World.shaped_of_RefB (by kernel_rfl) (by kernel_rfl)) (by kernel_rfl)
    (x:=([.agg [.nil, .nil, .nil], .lit (.int .i64 0), .lit (.int .i64 0), .lit (.int .i64 0)],[],[])) (by kernel_rfl) rfl (by kernel_rfl) (by kernel_rfl) (LV os _)) ?_
 intro W base args ds gs before kK hW hk hL;exact wH H enc W base args ds gs before kK hW hk hL
theorem jf1:Tryz.prog.inPlace 3=Rows.compilerStableUptoRow.inPlace:=by kernel_rfl
theorem jf2:Tryz.prog.unfollowed 3=Rows.compilerStableUptoRow.unfollowed:=by kernel_rfl
theorem jf3:Tryz.prog.recurses 3=Rows.compilerStableUptoRow.recurses:=by kernel_rfl
theorem jf4:Tryz.prog.varsNamed 3=Rows.compilerStableUptoRow.named:=by kernel_rfl
theorem jf:joinedFacts Tryz.prog 3 Tryz.f3 (Rows.OpenSpec.upto Rows.compilerStableSpec).bare Rows.compilerStableUptoRow=true:=by
 unfold joinedFacts;rw[jf1,jf2,jf3,jf4]
 kernel_rfl
theorem jl:true=Tryz.prog.looks []:=by kernel_rfl
theorem jg:false=Rows.compilerStableUptoRow.goesBy Tryz.prog:=by kernel_rfl
theorem over:Rows.compilerStableUptoRow.holds Tryz.pinned (Rows.OpenSpec.upto Rows.compilerStableSpec):=
 OpenClaim.holds_of_cond 3 Tryz.f3 rfl rfl rfl rfl rfl rfl rfl ⟨rfl,rfl,rfl,rfl,rfl⟩ rfl rfl rfl rfl rfl (by kernel_rfl) Tryz.func3 jf
  (of_decide_eq_true (by kernel_rfl)) (by unfold Func.isWrapper;rw[if_neg (of_decide_eq_false (by kernel_rfl))];exact⟨rfl,rfl⟩)
  (fun os started H enc _ F=>lifted os started H enc F)
theorem CF:Rows.CompilerStableUptoCardSaid:=
 Claim7.holds_tied_plain_at .later [] [.data] true (true, "cd92131fdab7845b9e7fe324bb227f0e3fb0c667251b23c8e2620e462d7783f0") true
  over (fun _ h=>by cases h) (by kernel_rfl) (fun _ h=>by cases h) compilerStableUpto_row_tie rfl ⟨rfl,rfl⟩ (by kernel_rfl) rfl
  (fun f fn hf w8=>by
    obtain rfl:f=3:=ai4 ((show Tryz.prog.funcNamed "guerdon/guerdonlaw29.CompilerStable" =some 3 by kernel_rfl).symm.trans hf)|>.symm
    obtain rfl:fn=Tryz.f3:=(ai4 (Tryz.func3.symm.trans w8)).symm
    exact⟨jl,fun j t ht=>by
     rw[Tryz.params3]at ht
     have hm:t∈[26,3,3,3]:=by simpa using Array.mem_of_getElem? ht
     have dX:([26,3,3,3].all fun u=> !Tryz.prog.wantsStandIn u)=true:=by kernel_rfl
     exact(show Tryz.prog.wantsStandIn t=false by simpa using List.all_eq_true.1 dX t hm)⟩)
  jg
theorem proved:Rows.CompilerStableUptoCardSaid:=CF
end Go.Proofs.YtilaieogabgamaaGreatDoor.compilerStable
