/- DectableBuild: the statement, closed: the argument's reading by the form, the walk (by program) and the plain law together. Written by close.py. -/
import Derived.Test.YtbladfbbhijpmaaGreatRows
import Derived.Test.YtbladfbbhijpmaaGreatU1
import Derived.Test.YtbladfbbhijpmaaGreatU5
import Derived.Test.YtbladfbbhijpmaaGreatU11
import Derived.WalkKit
import Derived.ProofKit
import Derived.OpenShut
import Derived.JoinedCond
open _root_.Bool renaming false->acR,true->acQ
open _root_.Option renaming none->acP
open _root_.List renaming forall_mem_cons->acs,take_append_drop->abY
open _root_.Nat renaming blt->abI
namespace Go.Proofs.YtbladfbbhijpmaaGreat.dectableBuild
open Go Go.RowKit Go.ChangeShapes Go.WideShapes Go.ChangeAt Go.Deep
set_option linter.unusedVariables false
theorem own:ownKnob Tryz.prog.godebug=acP:=by kernel_rfl
theorem laidOut:laidOutB Tryz.prog=acQ:=by kernel_rfl
theorem M9{P:Program}{t e:TypeId}{r:Row}(ht:P.underlying t=some (.array 2 e))(Kn:P.cellsOf t=r.size+r.size)(hc:P.cellsOf e=r.size)(he:de P e r):de P t (.pair r r):=by
 intro H enc w spare held fuel cs x hx;obtain⟨xs,m,_,rfl,hlen,wh,hf⟩:=DataW.trod_array ht hx
 match xs,wh with
 |[x0,x1],_=>
  have h0:=hf 0 (by omega);have h1:=hf 1 (by omega);rw[hc]at h0 h1;rw[Kn]at hlen;obtain⟨y0,a1,a2,a3⟩:=he H enc w spare held m _ x0 h0;obtain⟨y1,b1,b2,b3⟩:=he H enc w spare held m _ x1 h1;refine⟨(y0,y1),⟨_,_,?_,a1,b1⟩,⟨a2,b2⟩,by simp only[cD,Rows.uptoBulk,List.map_cons,List.map_nil,Rows.uptoBulkAll];omega⟩;rw[Nat.zero_mul,List.drop_zero,Nat.one_mul,List.take_of_length_le (l:=cs.drop r.size) (by simp;omega),abY]
theorem Ca{P:Program}{t e:TypeId}{r:Row}(ht:P.underlying t=some (.array 3 e))(Kn:P.cellsOf t=r.size+(r.size+r.size))(hc:P.cellsOf e=r.size)(he:de P e r):de P t (.pair r (.pair r r)):=by
 intro H enc w spare held fuel cs x hx;obtain⟨xs,m,_,rfl,hlen,wh,hf⟩:=DataW.trod_array ht hx
 match xs,wh with
 |[x0,x1,x2],_=>
  have h0:=hf 0 (by omega);have h1:=hf 1 (by omega);have h2:=hf 2 (by omega);rw[hc]at h0 h1 h2;rw[Kn]at hlen;obtain⟨y0,a1,a2,a3⟩:=he H enc w spare held m _ x0 h0;obtain⟨y1,b1,b2,b3⟩:=he H enc w spare held m _ x1 h1;obtain⟨y2,c1,c2,c3⟩:=he H enc w spare held m _ x2 h2;refine⟨(y0,(y1,y2)),⟨_,_,?_,a1,_,_,rfl,b1,c1⟩,⟨a2,b2,c2⟩,by simp only[cD,Rows.uptoBulk,List.map_cons,List.map_nil,Rows.uptoBulkAll];omega⟩;rw[Nat.zero_mul,List.drop_zero,Nat.one_mul,List.take_of_length_le (l:=cs.drop (2*r.size)) (by simp;omega),show 2*r.size=r.size+r.size by omega,<-List.drop_drop,abY,abY]
theorem KR{P:Program}{H:Type}{enc:TypeId×Value->H}{w:World}{base:Nat}{spare:Nat->Bool}{held:Bool}{v:Value}{d:DataW H}{ps:List MemPlace}{t e:TypeId}{n:Nat}{r:Row}(ht:P.underlying t=some (.array n e))(ho:de P t r)(hv:Value.okWide P w .any base t v)(h:DataW.Trod enc P w 0 spare held t v d ps):
 ∃(es:List Value)(x:r.den),v= .agg es.toArray/\bT (here w) w r es x/\WF r x/\cD r x<=Rows.uptoBulk d:=by
 have da:∃cs,v= .agg cs:=by
  simp only[Value.okWide,ht]at hv;obtain⟨cs,h1,_⟩:=hv;exact⟨cs,h1⟩
 obtain⟨cs,rfl⟩:=da;obtain⟨fuel,hf⟩:=h;obtain⟨x,h1,h2,h3⟩:=ho H enc w spare held fuel _ _ hf;exact⟨cs.toList,x,by simp,by simpa[Value.cells]using h1,h2,h3⟩
theorem O9:de Tryz.prog 9 .str:=uV Tryz.underlying9
theorem O3:de Tryz.prog 3 ae:=DK Tryz.underlying3
theorem ZV:de Tryz.prog 81 aa:=c8 Tryz.underlying81 (by kernel_rfl) (bd rfl (by kernel_rfl) O3 (dx rfl (by kernel_rfl) O3))
theorem Wj:de Tryz.prog 75 (.slice aa):=eN Tryz.underlying75 (by kernel_rfl) ZV
theorem Wk:de Tryz.prog 74 aa:=c8 Tryz.underlying74 (by kernel_rfl) (bd rfl (by kernel_rfl) O3 (dx rfl (by kernel_rfl) O3))
theorem ZW:de Tryz.prog 77 cL:=c8 Tryz.underlying77 (by kernel_rfl) (bd rfl (by kernel_rfl) O9 (bd rfl (by kernel_rfl) O3 (bd rfl (by kernel_rfl) O3 (bd rfl (by kernel_rfl) O3 (bd rfl (by kernel_rfl) Wk (bd rfl (by kernel_rfl) Wj (bd rfl (by kernel_rfl) Wj (dx rfl (by kernel_rfl) O9))))))))
theorem ZX:de Tryz.prog 48 (.slice cL):=eN Tryz.underlying48 (by kernel_rfl) ZW
theorem U5:de Tryz.prog 66 aa:=c8 Tryz.underlying66 (by kernel_rfl) (bd rfl (by kernel_rfl) O3 (dx rfl (by kernel_rfl) O3))
theorem U6:de Tryz.prog 100 be:=c8 Tryz.underlying100 (by kernel_rfl) (bd rfl (by kernel_rfl) O9 (dx rfl (by kernel_rfl) U5))
theorem Wl:de Tryz.prog 47 (.slice be):=eN Tryz.underlying47 (by kernel_rfl) U6
theorem ZY:de Tryz.prog 50 aV:=c8 Tryz.underlying50 (by kernel_rfl) (bd rfl (by kernel_rfl) O9 (bd rfl (by kernel_rfl) O3 (bd rfl (by kernel_rfl) Wl (bd rfl (by kernel_rfl) Wl (dx rfl (by kernel_rfl) ZX)))))
theorem ZZ:de Tryz.prog 24 (.slice aV):=eN Tryz.underlying24 (by kernel_rfl) ZY
theorem U7:de Tryz.prog 132 fJ:=c8 Tryz.underlying132 (by kernel_rfl) (bd rfl (by kernel_rfl) Wk (bd rfl (by kernel_rfl) O3 (bd rfl (by kernel_rfl) O3 (dx rfl (by kernel_rfl) O3))))
theorem Z0:de Tryz.prog 67 (.slice fJ):=eN Tryz.underlying67 (by kernel_rfl) U7
theorem Z1:de Tryz.prog 69 bL:=c8 Tryz.underlying69 (by kernel_rfl) (bd rfl (by kernel_rfl) O9 (bd rfl (by kernel_rfl) U5 (bd rfl (by kernel_rfl) U5 (dx rfl (by kernel_rfl) Z0))))
theorem Z2:de Tryz.prog 23 (.slice bL):=eN Tryz.underlying23 (by kernel_rfl) Z1
theorem Z3:de Tryz.prog 62 (.slice .str):=eN Tryz.underlying62 (by kernel_rfl) O9
theorem Z4:de Tryz.prog 64 bR:=c8 Tryz.underlying64 (by kernel_rfl) (bd rfl (by kernel_rfl) O9 (dx rfl (by kernel_rfl) Z3))
theorem Z5:de Tryz.prog 22 (.slice bR):=eN Tryz.underlying22 (by kernel_rfl) Z4
theorem Z6:de Tryz.prog 26 cC:=c8 Tryz.underlying26 (by kernel_rfl) (bd rfl (by kernel_rfl) Z5 (bd rfl (by kernel_rfl) Z2 (dx rfl (by kernel_rfl) ZZ)))
theorem Z7:de Tryz.prog 27 (.pair ae aa):=Ca Tryz.underlying27 (by kernel_rfl) (by kernel_rfl) O3
theorem rows:∀t∈Tryz.f3.params.toList,(Tryz.prog.readableRec t&&abI t Tryz.prog.types.size)=acQ:=by
 rw[Tryz.params3];simp only[acs];exact⟨by kernel_rfl,by kernel_rfl,λ_ h=>absurd h (by simp)⟩
theorem QN{P:Program}{H:Type}{enc:TypeId×Value->H}{w:World}{base:Nat}{spare:Nat->Bool}{held:Bool}{v:Value}{d:DataW H}{ps:List MemPlace}{t:TypeId}(ht:P.underlying t=some .string)(hv:Value.okWide P w .any base t v)(h:DataW.Trod enc P w 0 spare held t v d ps):∃s:ByteArray,v= .string s/\WF .str s/\cD .str s<=Rows.uptoBulk d:=by
 obtain⟨s,rfl⟩:=okWide_string ht hv;obtain⟨fuel,hf⟩:=h;obtain⟨y,h1,h2,h3⟩:=uV ht H enc w spare held fuel _ _ hf
 obtain rfl:y=s:=by
  have h1:[Value.string s]=[Value.string y]:=h1;cases h1;rfl
 exact⟨y,rfl,h2,h3⟩
set_option maxRecDepth 100000 in
theorem IY(H:Type)(enc:TypeId×Value->H)(W:World)(base:Nat)(args:Array Value)(ds gs:List (DataW H))(before:List MemPlace)
 (mZ:∀(j:Nat)t v,Tryz.f3.params[j]? =some t->args[j]? =some v->Value.okWide Tryz.prog W .any base t v)
 (hW:DataW.Whole enc Tryz.prog Tryz.f3.params.toList Rows.dectableBuildSpec.vars acR W args.toList ds gs before):
 Calls Tryz.prog 3 args W λe W'=>∃v,e= .returned v/\Rows.dectableBuildSpec.post enc Tryz.prog Tryz.f3 acR acQ acR acR W args v W':=by
 have Z8:=hW
 have ag:∀p∈before,p.block<W.heap.size:=λp hp=>hW.lt p hp
 obtain⟨p,q,Wm,hV,rfl,ux,AP⟩:=hW;have hA:DataW.TrodAll enc Tryz.prog W 0 (λ_=>acQ) acQ Tryz.f3.params.toList args.toList ds p:=Wm;have Z9:=hA;rw[Tryz.params3]at hA mZ;obtain⟨v0,vs0,d0,ds0,p0,q0,Cd,rfl,rfl,h0,r0⟩:=trodAll_cons hA;obtain⟨v1,Ru,d1,ds1,p1,q1,rfl,rfl,rfl,h1,r1⟩:=trodAll_cons r0;obtain⟨rfl,rfl,rfl⟩:=trodAll_nil r1
 obtain rfl:args= #[v0,v1]:=by cases args;simp_all
 obtain⟨rfl,rfl⟩:=trodVars_none hV;clear Wm;obtain⟨es0,x0,rfl,QZ,hw0,V5⟩:=As Tryz.underlying26 Z6 (mZ 0 26 v0 rfl rfl) h0;obtain⟨es1,x1,rfl,Rl,Qq,FF⟩:=KR Tryz.underlying27 Z7 (mZ 1 27 v1 rfl rfl) h1
 refine(ER (x:=(x0,x1)) (W3 aW) (L.po x0 x1 hw0 Qq) rfl (.cons (nr QZ) (.cons (nr Rl) .nil)) rfl (λ_ _ h=>by cases h)).mono λe W' ⟨he,hs⟩=>?_
 subst he
 exact⟨_,rfl,uv (pv:=[]) Z8 (λ_ _ _=>trodAll_cons_mk (shut_bool Tryz.underlying4 _) trodAll_mk0)
  (λsp uu=>oA laidOut hs _ _ _ _ rows Z9 (λx hx=>ag x (by simpa using hx)) (λx hx=>uu x (by simpa using hx))) (λ_ _=>rfl) rfl hs
  (ok_one (by kernel_rfl) rfl (okWide_bool_mk Tryz.underlying4 _))⟩
set_option maxRecDepth 100000 in
theorem lifted(os:Os)(started:os.Started)(H:Type)(enc:TypeId×Value->H):
 ReturnsInHanded {} Tryz.checked os 3 .any (Rows.dectableBuildSpec.pre6 enc Tryz.prog Tryz.f3 Rows.dectableBuildRow.domain acR) (Rows.dectableBuildSpec.post enc Tryz.prog Tryz.f3 acR acQ acR acR):=by
 refine returnsInHanded_of_change (C:=Tryz.checked) own started (by kernel_rfl) Tryz.func3
  (ChangeSpec.witness6 (enc:=enc) (C:=Tryz.checked) acR ⟨#[], #[.agg #[.slice acP 0 0, .slice acP 0 0, .slice acP 0 0], .agg #[.int .i64 0, .int .i64 0, .int .i64 0]],[]⟩ 12 (by kernel_rfl) (by kernel_rfl) (by kernel_rfl) (by kernel_rfl)) ?_
 intro W base args ds gs before mZ hW _ _;exact IY H enc W base args ds gs before mZ hW
theorem over:Rows.dectableBuildRow.holds Tryz.pinned (OpenSpec.ofChange Rows.dectableBuildSpec):=
 OpenClaim.holds_of_wide 3 Tryz.f3 rfl rfl rfl rfl rfl rfl rfl ⟨rfl,rfl,rfl,rfl,rfl⟩ rfl rfl rfl rfl rfl (by kernel_rfl) Tryz.func3 (by kernel_rfl)
  (of_decide_eq_true (by kernel_rfl)) (by unfold Func.isWrapper;rw[if_neg (of_decide_eq_false (by kernel_rfl))];exact⟨rfl,rfl⟩)
  (λos started H enc _=>lifted os started H enc)
theorem proved:Rows.DectableBuildSaid:=over
end Go.Proofs.YtbladfbbhijpmaaGreat.dectableBuild
