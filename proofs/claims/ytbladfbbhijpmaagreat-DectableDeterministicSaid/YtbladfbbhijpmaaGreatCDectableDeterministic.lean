/- DectableDeterministic: the statement, closed: the argument's reading by the form, the walk (by program) and the plain law together. Written by close.py. -/
import Derived.Test.YtbladfbbhijpmaaGreatRows
import Derived.Test.YtbladfbbhijpmaaGreatU1
import Derived.Test.YtbladfbbhijpmaaGreatU5
import Derived.Test.YtbladfbbhijpmaaGreatU10
import Derived.WalkKit
import Derived.ProofKit
import Derived.OpenShut
import Derived.JoinedCond
open _root_.Bool renaming false->aaM,true->aaL
open _root_.Option renaming none->aaK
open _root_.List renaming forall_mem_cons->aap,take_append_drop->ZQ
open _root_.Nat renaming blt->ZK
namespace Go.Proofs.YtbladfbbhijpmaaGreat.dectableDeterministic
open Go Go.RowKit Go.ChangeShapes Go.WideShapes Go.ChangeAt Go.Deep
set_option linter.unusedVariables false
theorem own:ownKnob Tryz.prog.godebug=aaK:=by kernel_rfl
theorem laidOut:laidOutB Tryz.prog=aaL:=by kernel_rfl
theorem Ml{P:Program}{t e:TypeId}{r:Row}(ht:P.underlying t=some (.array 2 e))(MF:P.cellsOf t=r.size+r.size)(hc:P.cellsOf e=r.size)(he:cZ P e r):cZ P t (.pair r r):=by
 intro H enc w spare held fuel cs x hx;obtain⟨xs,m,_,rfl,hlen,vd,hf⟩:=DataW.trod_array ht hx
 match xs,vd with
 |[x0,x1],_=>
  have h0:=hf 0 (by omega);have h1:=hf 1 (by omega);rw[hc]at h0 h1;rw[MF]at hlen;obtain⟨y0,a1,a2,a3⟩:=he H enc w spare held m _ x0 h0;obtain⟨y1,b1,b2,b3⟩:=he H enc w spare held m _ x1 h1;refine⟨(y0,y1),⟨_,_,?_,a1,b1⟩,⟨a2,b2⟩,by simp only[cr,Rows.uptoBulk,List.map_cons,List.map_nil,Rows.uptoBulkAll];omega⟩;rw[Nat.zero_mul,List.drop_zero,Nat.one_mul,List.take_of_length_le (l:=cs.drop r.size) (by simp;omega),ZQ]
theorem Bl{P:Program}{t e:TypeId}{r:Row}(ht:P.underlying t=some (.array 3 e))(MF:P.cellsOf t=r.size+(r.size+r.size))(hc:P.cellsOf e=r.size)(he:cZ P e r):cZ P t (.pair r (.pair r r)):=by
 intro H enc w spare held fuel cs x hx;obtain⟨xs,m,_,rfl,hlen,vd,hf⟩:=DataW.trod_array ht hx
 match xs,vd with
 |[x0,x1,x2],_=>
  have h0:=hf 0 (by omega);have h1:=hf 1 (by omega);have h2:=hf 2 (by omega);rw[hc]at h0 h1 h2;rw[MF]at hlen;obtain⟨y0,a1,a2,a3⟩:=he H enc w spare held m _ x0 h0;obtain⟨y1,b1,b2,b3⟩:=he H enc w spare held m _ x1 h1;obtain⟨y2,c1,c2,c3⟩:=he H enc w spare held m _ x2 h2;refine⟨(y0,(y1,y2)),⟨_,_,?_,a1,_,_,rfl,b1,c1⟩,⟨a2,b2,c2⟩,by simp only[cr,Rows.uptoBulk,List.map_cons,List.map_nil,Rows.uptoBulkAll];omega⟩;rw[Nat.zero_mul,List.drop_zero,Nat.one_mul,List.take_of_length_le (l:=cs.drop (2*r.size)) (by simp;omega),show 2*r.size=r.size+r.size by omega,<-List.drop_drop,ZQ,ZQ]
theorem JO{P:Program}{H:Type}{enc:TypeId×Value->H}{w:World}{base:Nat}{spare:Nat->Bool}{held:Bool}{v:Value}{d:DataW H}{ps:List MemPlace}{t e:TypeId}{n:Nat}{r:Row}(ht:P.underlying t=some (.array n e))(ho:cZ P t r)(hv:Value.okWide P w .any base t v)(h:DataW.Trod enc P w 0 spare held t v d ps):
 ∃(es:List Value)(x:r.den),v= .agg es.toArray/\bN (here w) w r es x/\WF r x/\cr r x<=Rows.uptoBulk d:=by
 have cV:∃cs,v= .agg cs:=by
  simp only[Value.okWide,ht]at hv;obtain⟨cs,h1,_⟩:=hv;exact⟨cs,h1⟩
 obtain⟨cs,rfl⟩:=cV;obtain⟨fuel,hf⟩:=h;obtain⟨x,h1,h2,h3⟩:=ho H enc w spare held fuel _ _ hf;exact⟨cs.toList,x,by simp,by simpa[Value.cells]using h1,h2,h3⟩
theorem O9:cZ Tryz.prog 9 .str:=tP Tryz.underlying9
theorem O3:cZ Tryz.prog 3 ae:=CW Tryz.underlying3
theorem XQ:cZ Tryz.prog 81 aa:=cT Tryz.underlying81 (by kernel_rfl) (aY rfl (by kernel_rfl) O3 (dp rfl (by kernel_rfl) O3))
theorem UK:cZ Tryz.prog 75 (.slice aa):=eI Tryz.underlying75 (by kernel_rfl) XQ
theorem UL:cZ Tryz.prog 74 aa:=cT Tryz.underlying74 (by kernel_rfl) (aY rfl (by kernel_rfl) O3 (dp rfl (by kernel_rfl) O3))
theorem XR:cZ Tryz.prog 77 cB:=cT Tryz.underlying77 (by kernel_rfl) (aY rfl (by kernel_rfl) O9 (aY rfl (by kernel_rfl) O3 (aY rfl (by kernel_rfl) O3 (aY rfl (by kernel_rfl) O3 (aY rfl (by kernel_rfl) UL (aY rfl (by kernel_rfl) UK (aY rfl (by kernel_rfl) UK (dp rfl (by kernel_rfl) O9))))))))
theorem XS:cZ Tryz.prog 48 (.slice cB):=eI Tryz.underlying48 (by kernel_rfl) XR
theorem Tm:cZ Tryz.prog 66 aa:=cT Tryz.underlying66 (by kernel_rfl) (aY rfl (by kernel_rfl) O3 (dp rfl (by kernel_rfl) O3))
theorem Tn:cZ Tryz.prog 100 bi:=cT Tryz.underlying100 (by kernel_rfl) (aY rfl (by kernel_rfl) O9 (dp rfl (by kernel_rfl) Tm))
theorem UM:cZ Tryz.prog 47 (.slice bi):=eI Tryz.underlying47 (by kernel_rfl) Tn
theorem XT:cZ Tryz.prog 50 aW:=cT Tryz.underlying50 (by kernel_rfl) (aY rfl (by kernel_rfl) O9 (aY rfl (by kernel_rfl) O3 (aY rfl (by kernel_rfl) UM (aY rfl (by kernel_rfl) UM (dp rfl (by kernel_rfl) XS)))))
theorem XU:cZ Tryz.prog 24 (.slice aW):=eI Tryz.underlying24 (by kernel_rfl) XT
theorem To:cZ Tryz.prog 132 gN:=cT Tryz.underlying132 (by kernel_rfl) (aY rfl (by kernel_rfl) UL (aY rfl (by kernel_rfl) O3 (aY rfl (by kernel_rfl) O3 (dp rfl (by kernel_rfl) O3))))
theorem XV:cZ Tryz.prog 67 (.slice gN):=eI Tryz.underlying67 (by kernel_rfl) To
theorem XW:cZ Tryz.prog 69 cu:=cT Tryz.underlying69 (by kernel_rfl) (aY rfl (by kernel_rfl) O9 (aY rfl (by kernel_rfl) Tm (aY rfl (by kernel_rfl) Tm (dp rfl (by kernel_rfl) XV))))
theorem XX:cZ Tryz.prog 23 (.slice cu):=eI Tryz.underlying23 (by kernel_rfl) XW
theorem XY:cZ Tryz.prog 62 (.slice .str):=eI Tryz.underlying62 (by kernel_rfl) O9
theorem XZ:cZ Tryz.prog 64 cD:=cT Tryz.underlying64 (by kernel_rfl) (aY rfl (by kernel_rfl) O9 (dp rfl (by kernel_rfl) XY))
theorem X0:cZ Tryz.prog 22 (.slice cD):=eI Tryz.underlying22 (by kernel_rfl) XZ
theorem X1:cZ Tryz.prog 26 ew:=cT Tryz.underlying26 (by kernel_rfl) (aY rfl (by kernel_rfl) X0 (aY rfl (by kernel_rfl) XX (dp rfl (by kernel_rfl) XU)))
theorem X2:cZ Tryz.prog 27 (.pair ae aa):=Bl Tryz.underlying27 (by kernel_rfl) (by kernel_rfl) O3
theorem rows:∀t∈Tryz.f5.params.toList,(Tryz.prog.readableRec t&&ZK t Tryz.prog.types.size)=aaL:=by
 rw[Tryz.params5];simp only[aap];exact⟨by kernel_rfl,by kernel_rfl,λ_ h=>absurd h (by simp)⟩
theorem PR{P:Program}{H:Type}{enc:TypeId×Value->H}{w:World}{base:Nat}{spare:Nat->Bool}{held:Bool}{v:Value}{d:DataW H}{ps:List MemPlace}{t:TypeId}(ht:P.underlying t=some .string)(hv:Value.okWide P w .any base t v)(h:DataW.Trod enc P w 0 spare held t v d ps):∃s:ByteArray,v= .string s/\WF .str s/\cr .str s<=Rows.uptoBulk d:=by
 obtain⟨s,rfl⟩:=okWide_string ht hv;obtain⟨fuel,hf⟩:=h;obtain⟨y,h1,h2,h3⟩:=tP ht H enc w spare held fuel _ _ hf
 obtain rfl:y=s:=by
  have h1:[Value.string s]=[Value.string y]:=h1;cases h1;rfl
 exact⟨y,rfl,h2,h3⟩
set_option maxRecDepth 100000 in
theorem HV(H:Type)(enc:TypeId×Value->H)(W:World)(base:Nat)(args:Array Value)(ds gs:List (DataW H))(before:List MemPlace)
 (k9:∀(j:Nat)t v,Tryz.f5.params[j]? =some t->args[j]? =some v->Value.okWide Tryz.prog W .any base t v)
 (hW:DataW.Whole enc Tryz.prog Tryz.f5.params.toList Rows.dectableDeterministicSpec.vars aaM W args.toList ds gs before):
 Calls Tryz.prog 5 args W λe W'=>∃v,e= .returned v/\Rows.dectableDeterministicSpec.post enc Tryz.prog Tryz.f5 aaM aaL aaM aaM W args v W':=by
 have X3:=hW
 have ai:∀p∈before,p.block<W.heap.size:=λp hp=>hW.lt p hp
 obtain⟨p,q,UN,hV,rfl,tf,zS⟩:=hW;have hA:DataW.TrodAll enc Tryz.prog W 0 (λ_=>aaL) aaL Tryz.f5.params.toList args.toList ds p:=UN;have X4:=hA;rw[Tryz.params5]at hA k9;obtain⟨v0,YP,d0,YQ,p0,q0,Bn,rfl,rfl,h0,r0⟩:=trodAll_cons hA;obtain⟨v1,Qx,d1,YR,p1,q1,rfl,rfl,rfl,h1,r1⟩:=trodAll_cons r0;obtain⟨rfl,rfl,rfl⟩:=trodAll_nil r1
 obtain rfl:args= #[v0,v1]:=by cases args;simp_all
 obtain⟨rfl,rfl⟩:=trodVars_none hV;clear UN;obtain⟨YS,x0,rfl,P3,X5,Uw⟩:=zv Tryz.underlying26 X1 (k9 0 26 v0 rfl rfl) h0;obtain⟨YT,x1,rfl,Qo,Ps,EQ⟩:=JO Tryz.underlying27 X2 (k9 1 27 v1 rfl rfl) h1
 refine(D2 (x:=(x0,x1)) (W5 bd) (L.jJ x0 x1 X5 Ps) rfl (.cons (me P3) (.cons (me Qo) .nil)) rfl (λ_ _ h=>by cases h)).mono λe W' ⟨he,hs⟩=>?_
 subst he
 exact⟨_,rfl,tc (pv:=[]) X3 (λ_ _ _=>trodAll_cons_mk (shut_bool Tryz.underlying4 _) trodAll_mk0)
  (λsp ta=>nr laidOut hs _ _ _ _ rows X4 (λx hx=>ai x (by simpa using hx)) (λx hx=>ta x (by simpa using hx))) (λ_ _=>rfl) rfl hs
  (ok_one (by kernel_rfl) rfl (okWide_bool_mk Tryz.underlying4 _))⟩
set_option maxRecDepth 100000 in
theorem lifted(os:Os)(started:os.Started)(H:Type)(enc:TypeId×Value->H):
 ReturnsInHanded {} Tryz.checked os 5 .any (Rows.dectableDeterministicSpec.pre6 enc Tryz.prog Tryz.f5 Rows.dectableDeterministicRow.domain aaM) (Rows.dectableDeterministicSpec.post enc Tryz.prog Tryz.f5 aaM aaL aaM aaM):=by
 refine returnsInHanded_of_change (C:=Tryz.checked) own started (by kernel_rfl) Tryz.func5
  (ChangeSpec.witness6 (enc:=enc) (C:=Tryz.checked) aaM ⟨#[], #[.agg #[.slice aaK 0 0, .slice aaK 0 0, .slice aaK 0 0], .agg #[.int .i64 0, .int .i64 0, .int .i64 0]],[]⟩ 12 (by kernel_rfl) (by kernel_rfl) (by kernel_rfl) (by kernel_rfl)) ?_
 intro W base args ds gs before k9 hW _ _;exact HV H enc W base args ds gs before k9 hW
theorem over:Rows.dectableDeterministicRow.holds Tryz.pinned (OpenSpec.ofChange Rows.dectableDeterministicSpec):=
 OpenClaim.holds_of_wide 5 Tryz.f5 rfl rfl rfl rfl rfl rfl rfl ⟨rfl,rfl,rfl,rfl,rfl⟩ rfl rfl rfl rfl rfl (by kernel_rfl) Tryz.func5 (by kernel_rfl)
  (of_decide_eq_true (by kernel_rfl)) (by unfold Func.isWrapper;rw[if_neg (of_decide_eq_false (by kernel_rfl))];exact⟨rfl,rfl⟩)
  (λos started H enc _=>lifted os started H enc)
theorem proved:Rows.DectableDeterministicSaid:=over
end Go.Proofs.YtbladfbbhijpmaaGreat.dectableDeterministic
