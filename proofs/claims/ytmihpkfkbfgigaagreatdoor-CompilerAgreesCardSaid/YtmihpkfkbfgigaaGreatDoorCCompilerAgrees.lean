/- CompilerAgrees: the statement, closed: the argument's reading by the form, the walk (by program) and the plain law together. Written by close.py. -/
import Derived.Test.YtmihpkfkbfgigaaGreatDoorRows
import Derived.Test.YtmihpkfkbfgigaaGreatDoorU1
import Derived.Test.YtmihpkfkbfgigaaGreatDoorU6
import Derived.Test.YtmihpkfkbfgigaaGreatDoorU14
import Derived.WalkKit
import Derived.ProofKit
import Derived.OpenShut
import Derived.JoinedCond
import Derived.Test.YtmihpkfkbfgigaaGreatDoorCards
import Derived.Test.YtmihpkfkbfgigaaGreatDoorTie
import Derived.SevenTiedAt
open _root_.List renaming forall_mem_cons->anD
open _root_.Nat renaming blt->amS,zero_add->amo
open _root_.Option.some renaming inj->alU
namespace Go.Proofs.YtmihpkfkbfgigaaGreatDoor.compilerAgrees
open Go Go.RowKit Go.ChangeShapes Go.WideShapes Go.ChangeAt Go.Deep
set_option linter.unusedVariables false
theorem own:ownKnob Tryz.prog.godebug=none:=by kernel_rfl
theorem laidOut:laidOutB Tryz.prog=true:=by kernel_rfl
theorem O9:fe Tryz.prog 9 .str:=yx Tryz.underlying9
theorem O3:fe Tryz.prog 3 ae:=HI Tryz.underlying3
theorem O73:fe Tryz.prog 73 aa:=dz Tryz.underlying73 (by kernel_rfl) (bm rfl (by kernel_rfl) O3 (dN rfl (by kernel_rfl) O3))
theorem O39:fe Tryz.prog 39 (.slice aa):=ff Tryz.underlying39 (by kernel_rfl) O73
theorem O38:fe Tryz.prog 38 aa:=dz Tryz.underlying38 (by kernel_rfl) (bm rfl (by kernel_rfl) O3 (dN rfl (by kernel_rfl) O3))
theorem O41:fe Tryz.prog 41 aY:=dz Tryz.underlying41 (by kernel_rfl) (bm rfl (by kernel_rfl) O9 (bm rfl (by kernel_rfl) O3 (bm rfl (by kernel_rfl) O3 (bm rfl (by kernel_rfl) O3 (bm rfl (by kernel_rfl) O38 (bm rfl (by kernel_rfl) O39 (bm rfl (by kernel_rfl) O39 (dN rfl (by kernel_rfl) O9))))))))
theorem O30:fe Tryz.prog 30 (.slice aY):=ff Tryz.underlying30 (by kernel_rfl) O41
theorem O63:fe Tryz.prog 63 aa:=dz Tryz.underlying63 (by kernel_rfl) (bm rfl (by kernel_rfl) O3 (dN rfl (by kernel_rfl) O3))
theorem O95:fe Tryz.prog 95 aL:=dz Tryz.underlying95 (by kernel_rfl) (bm rfl (by kernel_rfl) O9 (dN rfl (by kernel_rfl) O63))
theorem O67:fe Tryz.prog 67 (.slice aL):=ff Tryz.underlying67 (by kernel_rfl) O95
theorem O69:fe Tryz.prog 69 aw:=dz Tryz.underlying69 (by kernel_rfl) (bm rfl (by kernel_rfl) O9 (bm rfl (by kernel_rfl) O3 (bm rfl (by kernel_rfl) O67 (bm rfl (by kernel_rfl) O67 (dN rfl (by kernel_rfl) O30)))))
theorem O24:fe Tryz.prog 24 (.slice aw):=ff Tryz.underlying24 (by kernel_rfl) O69
theorem ad9:fe Tryz.prog 169 dW:=dz Tryz.underlying169 (by kernel_rfl) (bm rfl (by kernel_rfl) O38 (bm rfl (by kernel_rfl) O3 (bm rfl (by kernel_rfl) O3 (dN rfl (by kernel_rfl) O3))))
theorem O64:fe Tryz.prog 64 (.slice dW):=ff Tryz.underlying64 (by kernel_rfl) ad9
theorem O66:fe Tryz.prog 66 av:=dz Tryz.underlying66 (by kernel_rfl) (bm rfl (by kernel_rfl) O9 (bm rfl (by kernel_rfl) O63 (bm rfl (by kernel_rfl) O63 (dN rfl (by kernel_rfl) O64))))
theorem O23:fe Tryz.prog 23 (.slice av):=ff Tryz.underlying23 (by kernel_rfl) O66
theorem O59:fe Tryz.prog 59 (.slice .str):=ff Tryz.underlying59 (by kernel_rfl) O9
theorem O61:fe Tryz.prog 61 bu:=dz Tryz.underlying61 (by kernel_rfl) (bm rfl (by kernel_rfl) O9 (dN rfl (by kernel_rfl) O59))
theorem O22:fe Tryz.prog 22 (.slice bu):=ff Tryz.underlying22 (by kernel_rfl) O61
theorem O26:fe Tryz.prog 26 bU:=dz Tryz.underlying26 (by kernel_rfl) (bm rfl (by kernel_rfl) O22 (bm rfl (by kernel_rfl) O23 (dN rfl (by kernel_rfl) O24)))
theorem O76:fe Tryz.prog 76 af:=dz Tryz.underlying76 (by kernel_rfl) (bm rfl (by kernel_rfl) O3 (bm rfl (by kernel_rfl) O3 (dN rfl (by kernel_rfl) O3)))
theorem O45:fe Tryz.prog 45 (.slice af):=ff Tryz.underlying45 (by kernel_rfl) O76
theorem O46:fe Tryz.prog 46 (.slice (.slice af)):=ff Tryz.underlying46 (by kernel_rfl) O45
theorem O48:fe Tryz.prog 48 eY:=dz Tryz.underlying48 (by kernel_rfl) (bm rfl (by kernel_rfl) O3 (bm rfl (by kernel_rfl) O45 (dN rfl (by kernel_rfl) O46)))
theorem rows:∀t∈Tryz.f4.params.toList,(Tryz.prog.readableRec t&&amS t Tryz.prog.types.size)=true:=by
 rw[Tryz.params4];simp only[anD];exact⟨by kernel_rfl,by kernel_rfl,by kernel_rfl,fun _ h=>absurd h (by simp)⟩
theorem g2:Tryz.prog.globalNamed "guerdon/date.monthLengths" =some 2:=by kernel_rfl
theorem t2:(Tryz.prog.globals[2]?).map (·.type)=some 305:=by kernel_rfl
theorem PY{W:World}(h:laidMetH Tryz.prog Rows.compilerAgreesRow.laid W):q7 (fun b=>b<W.heap.size) W:=by
 rw[MakeChecks.laidMetH_plain _ _ _ (by kernel_rfl)]at h;obtain⟨ps,⟨g0,t0,Xp,f0,p0,q0,SE,XT,N1,hd0,_,_⟩,_,_⟩:=h;obtain rfl:=alU (g2.symm.trans SE);obtain rfl:=alU (t2.symm.trans XT)
 have aea:Xp.toList=([31,28,31,30,31,30,31,31,30,31,30,31]:List Int).map fun x=> .int .i64 x:=IZ Tryz.underlying305 Tryz.underlying3 (by kernel_rfl) (by kernel_rfl) hd0
 intro g d hg;unfold FT at hg;rw[aG]at hg;split at hg
 .rename_i e;subst e;obtain rfl:=alU hg
  have hc:∀j,W.cell? ⟨2,j,none⟩=(([31,28,31,30,31,30,31,31,30,31,30,31]:List Int).map fun x=>(.int .i64 x:Value))[j]? :=fun j=>by rw[World.var?_cell SE N1 j,<-aea,Array.getElem?_toList]
  refine⟨OL (hc 0),_,?_,fun j u hj=>by rw[amo,hc j];exact hj,?_⟩
  .rfl
  .exact⟨[_],_,rfl,rfl,⟨[_],_,rfl,rfl,⟨[_],_,rfl,rfl,⟨[_],_,rfl,rfl,⟨[_],_,rfl,rfl,⟨[_],_,rfl,rfl,⟨[_],_,rfl,rfl,⟨[_],_,rfl,rfl,⟨[_],_,rfl,rfl,⟨[_],_,rfl,rfl,⟨[_],_,rfl,rfl,rfl⟩⟩⟩⟩⟩⟩⟩⟩⟩⟩⟩
 .cases hg
theorem No(os:Os)(args:Array Value):laidMetH Tryz.prog Rows.compilerAgreesRow.laid ((World.doorLaid Tryz.prog 400 os).forCall (fun _ _=>0) ⟨#[],args,[]⟩).memory:=
 laidMetH_of_parts3 (fuel:=8) (laidMet_of_run' 8 (by kernel_rfl) (by kernel_rfl)) (by kernel_rfl) (by kernel_rfl)
theorem X7{P:Program}{H:Type}{enc:TypeId×Value->H}{w:World}{base:Nat}{spare:Nat->Bool}{held:Bool}{v:Value}{d:DataW H}{ps:List MemPlace}{t:TypeId}(ht:P.underlying t=some .string)(hv:Value.okWide P w .any base t v)(h:DataW.Trod enc P w 0 spare held t v d ps):∃s:ByteArray,v= .string s/\WF .str s/\dy .str s<=Rows.uptoBulk d:=by
 obtain⟨s,rfl⟩:=okWide_string ht hv;obtain⟨fuel,hf⟩:=h;obtain⟨y,h1,h2,h3⟩:=yx ht H enc w spare held fuel _ _ hf
 obtain rfl:y=s:=by
  have h1:[Value.string s]=[Value.string y]:=h1;cases h1;rfl
 exact⟨y,rfl,h2,h3⟩
set_option maxRecDepth 100000 in
theorem Np(H:Type)(enc:TypeId×Value->H)(W:World)(base:Nat)(args:Array Value)(ds gs:List (DataW H))(before:List MemPlace)
 (mI:∀(j:Nat)t v,Tryz.f4.params[j]? =some t->args[j]? =some v->Value.okWide Tryz.prog W .any base t v)
 (hW:DataW.Whole enc Tryz.prog Tryz.f4.params.toList Rows.compilerAgreesSpec.vars false W args.toList ds gs before)(hL:laidMetH Tryz.prog Rows.compilerAgreesRow.laid W):
 Calls Tryz.prog 4 args W fun e W'=>∃v,e= .returned v/\Rows.compilerAgreesSpec.post enc Tryz.prog Tryz.f4 false true false false W args v W':=by
 have hW':=hW
 have aj:∀p∈before,p.block<W.heap.size:=fun p hp=>hW.lt p hp
 obtain⟨p,q,hA0,hV,rfl,xZ,Oe⟩:=hW;have hA:DataW.TrodAll enc Tryz.prog W 0 (fun _=>true) true Tryz.f4.params.toList args.toList ds p:=hA0;have hA1:=hA;rw[Tryz.params4]at hA mI;obtain⟨v0,vs0,d0,ds0,p0,q0,FP,rfl,rfl,h0,r0⟩:=trodAll_cons hA;obtain⟨v1,Yz,d1,ds1,p1,q1,rfl,rfl,rfl,h1,r1⟩:=trodAll_cons r0;obtain⟨v2,vs2,d2,ds2,p2,q2,rfl,rfl,rfl,h2,r2⟩:=trodAll_cons r1;obtain⟨rfl,rfl,rfl⟩:=trodAll_nil r2
 obtain rfl:args= #[v0,v1,v2]:=by cases args;simp_all
 obtain⟨rfl,rfl⟩:=trodVars_none hV;clear hA0;obtain⟨es0,x0,rfl,Yi,Xj,QC⟩:=vN Tryz.underlying26 O26 (mI 0 26 v0 rfl rfl) h0;obtain⟨x1,rfl,hw1,F8⟩:=NU Tryz.underlying3 (mI 1 3 v1 rfl rfl) h1;obtain⟨es2,x2,rfl,hr2,WB,Ej⟩:=vN Tryz.underlying48 O48 (mI 2 48 v2 rfl rfl) h2
 refine(IY (x:=(x0,x1,x2)) (W4 aB) (L.qG x0 x1 x2 Xj hw1 WB) rfl (.cons (uE Yi) (.cons (LN _ _ _ x1) (.cons (uE hr2) .nil))) rfl (PY hL)).mono fun e W' ⟨he,hs⟩=>?_
 subst he
 exact⟨_,rfl,xU (pv:=[]) hW' (fun _ _ _=>trodAll_cons_mk (shut_bool Tryz.underlying4 _) trodAll_mk0)
  (fun sp sV=>qI laidOut hs _ _ _ _ rows hA1 (fun x hx=>aj x (by simpa using hx)) (fun x hx=>sV x (by simpa using hx))) (fun _ _=>rfl) rfl hs
  (ok_one (by kernel_rfl) rfl (okWide_bool_mk Tryz.underlying4 _))⟩
set_option maxRecDepth 100000 in
theorem lifted(os:Os)(started:os.Started)(H:Type)(enc:TypeId×Value->H):
 ReturnsInHanded {} Tryz.checked os 4 .any (fun w args=>(Rows.compilerAgreesSpec.pre enc Tryz.prog Tryz.f4 Rows.compilerAgreesRow.domain false w args/\laidMetH Tryz.prog Rows.compilerAgreesRow.laid w)/\sizedMet enc Tryz.prog Tryz.f4 (OpenSpec.ofChange Rows.compilerAgreesSpec) false w args)
  (Rows.compilerAgreesSpec.post enc Tryz.prog Tryz.f4 false true false false):=by
 refine returnsInHanded_of_change_and (C:=Tryz.checked) (X:=fun w _=>laidMetH Tryz.prog Rows.compilerAgreesRow.laid w) (fun _ _ _ hh h=>h.of_heap hh) own started (by kernel_rfl) Tryz.func4
  (ChangeSpec.witness_shaped (enc:=enc) (C:=Tryz.checked) (os:=os) (X:=fun w _=>laidMetH Tryz.prog Rows.compilerAgreesRow.laid w) false (World.doorLaid Tryz.prog 400 os) #[.agg #[.slice none 0 0, .slice none 0 0, .slice none 0 0], .int .i64 0, .agg #[.int .i64 0, .slice none 0 0, .slice none 0 0]] 12 rfl (World.shaped_of_RefB (by kernel_rfl) (by kernel_rfl)) (by kernel_rfl) (by kernel_rfl) (by kernel_rfl) (No os _)) ?_
 intro W base args ds gs before mI hW _ _ hL _;exact Np H enc W base args ds gs before mI hW hL
theorem over:Rows.compilerAgreesRow.holds Tryz.pinned (OpenSpec.ofChange Rows.compilerAgreesSpec):=
 OpenClaim.holds_of_wide 4 Tryz.f4 rfl rfl rfl rfl rfl rfl rfl ⟨rfl,rfl,rfl,rfl,rfl⟩ rfl rfl rfl rfl rfl (by kernel_rfl) Tryz.func4 (by kernel_rfl)
  (of_decide_eq_true (by kernel_rfl)) (by unfold Func.isWrapper;rw[if_neg (of_decide_eq_false (by kernel_rfl))];exact⟨rfl,rfl⟩)
  (fun os started H enc _=>lifted os started H enc)
theorem DM:Rows.CompilerAgreesCardSaid:=
 Claim7.holds_tied_plain_at .later [] [.data] true (true, "46e381ab207395a4e079398249de0d533ed6868fc4a60d7ff90700a57c545728") true
  over (fun _ h=>by cases h) (by kernel_rfl) (fun _ h=>by cases h) compilerAgrees_row_tie rfl ⟨rfl,rfl⟩ (by kernel_rfl) rfl
  (fun f fn hf Ag=>by
    obtain rfl:f=4:=alU ((show Tryz.prog.funcNamed "guerdon/guerdonlaw29.CompilerAgrees" =some 4 by kernel_rfl).symm.trans hf)|>.symm
    obtain rfl:fn=Tryz.f4:=(alU (Tryz.func4.symm.trans Ag)).symm
    exact⟨by kernel_rfl,fun j t ht=>by
     rw[Tryz.params4]at ht
     have hm:t∈[26,3,48]:=by simpa using Array.mem_of_getElem? ht
     have hZ:([26,3,48].all fun u=> !Tryz.prog.wantsStandIn u)=true:=by kernel_rfl
     exact(show Tryz.prog.wantsStandIn t=false by simpa using List.all_eq_true.1 hZ t hm)⟩)
  (by kernel_rfl)
theorem proved:Rows.CompilerAgreesCardSaid:=DM
end Go.Proofs.YtmihpkfkbfgigaaGreatDoor.compilerAgrees
