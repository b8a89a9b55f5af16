/- ShardMerge: the statement, closed: the argument's reading by the form, the walk (by program) and the plain law together. Written by close.py. -/
import Derived.Test.YtncajogcgkmpmaaRows
import Derived.Test.YtncajogcgkmpmaaOpen
import Derived.Test.YtncajogcgkmpmaaWalk
import Derived.Test.YtncajogcgkmpmaaP48
import Derived.WalkKit
import Derived.ProofKit
import Derived.OpenShut
import Derived.JoinedCond
namespace Go.Proofs.Ytncajogcgkmpmaa.shardMerge
open Go Go.RowKit Go.ChangeShapes Go.WideShapes Go.ChangeAt Go.Deep
set_option linter.unusedVariables false

theorem own : ownKnob Try.prog.godebug = none := by kernel_rfl
theorem laidOut : laidOutB Try.prog = true := by kernel_rfl
theorem O3 : Opens Try.prog 3 rInt := opens_int Try.underlying3
theorem O53 : Opens Try.prog 53 rAppeal := opens_struct Try.underlying53 (by kernel_rfl) (opensF_cons rfl (by kernel_rfl) O3 (opensF_cons rfl (by kernel_rfl) O3 (opensF_cons rfl (by kernel_rfl) O3 (opensF_cons rfl (by kernel_rfl) O3 (opensF_cons rfl (by kernel_rfl) O3 (opensF_cons rfl (by kernel_rfl) O3 (opensF_last rfl (by kernel_rfl) O3)))))))
theorem O40 : Opens Try.prog 40 (Row.slice rAppeal) := opens_slice Try.underlying40 (by kernel_rfl) O53
theorem O51 : Opens Try.prog 51 rPosting := opens_struct Try.underlying51 (by kernel_rfl) (opensF_cons rfl (by kernel_rfl) O3 (opensF_cons rfl (by kernel_rfl) O3 (opensF_cons rfl (by kernel_rfl) O3 (opensF_last rfl (by kernel_rfl) O3))))
theorem O39 : Opens Try.prog 39 (Row.slice rPosting) := opens_slice Try.underlying39 (by kernel_rfl) O51
theorem O57 : Opens Try.prog 57 rDateRange := opens_struct Try.underlying57 (by kernel_rfl) (opensF_cons rfl (by kernel_rfl) O3 (opensF_last rfl (by kernel_rfl) O3))
theorem O55 : Opens Try.prog 55 rValue := opens_struct Try.underlying55 (by kernel_rfl) (opensF_cons rfl (by kernel_rfl) O3 (opensF_cons rfl (by kernel_rfl) O3 (opensF_last rfl (by kernel_rfl) O3)))
theorem O59 : Opens Try.prog 59 rFact := opens_struct Try.underlying59 (by kernel_rfl) (opensF_cons rfl (by kernel_rfl) O3 (opensF_cons rfl (by kernel_rfl) O3 (opensF_cons rfl (by kernel_rfl) O3 (opensF_cons rfl (by kernel_rfl) O55 (opensF_cons rfl (by kernel_rfl) O57 (opensF_last rfl (by kernel_rfl) O3))))))
theorem O36 : Opens Try.prog 36 (Row.slice rFact) := opens_slice Try.underlying36 (by kernel_rfl) O59
theorem O38 : Opens Try.prog 38 rHousehold := opens_struct Try.underlying38 (by kernel_rfl) (opensF_cons rfl (by kernel_rfl) O3 (opensF_cons rfl (by kernel_rfl) O3 (opensF_cons rfl (by kernel_rfl) O3 (opensF_last rfl (by kernel_rfl) O36))))
theorem O42 : Opens Try.prog 42 rAccount := opens_struct Try.underlying42 (by kernel_rfl) (opensF_cons rfl (by kernel_rfl) O38 (opensF_cons rfl (by kernel_rfl) O39 (opensF_cons rfl (by kernel_rfl) O40 (opensF_cons rfl (by kernel_rfl) O3 (opensF_last rfl (by kernel_rfl) O3)))))
theorem O26 : Opens Try.prog 26 (Row.slice rAccount) := opens_slice Try.underlying26 (by kernel_rfl) O42
theorem O25 : Opens Try.prog 25 (Row.slice rInt) := opens_slice Try.underlying25 (by kernel_rfl) O3
theorem O29 : Opens Try.prog 29 (Row.slice (Row.slice rInt)) := opens_slice Try.underlying29 (by kernel_rfl) O25
theorem O32 : Opens Try.prog 32 (Row.slice (Row.slice rAccount)) := opens_slice Try.underlying32 (by kernel_rfl) O26
theorem rows : ∀ t ∈ Try.f5.params.toList, (Try.prog.readableRec t && Nat.blt t Try.prog.types.size) = true := by
  rw [Try.params5]
  simp only [List.forall_mem_cons]
  exact ⟨by kernel_rfl, by kernel_rfl, by kernel_rfl, fun _ h => absurd h (by simp)⟩

theorem contract (H : Type) (enc : TypeId × Value → H) (W : World) (base : Nat) (args : Array Value) (ds gs : List (DataW H)) (before : List MemPlace)
    (hval : ∀ (j : Nat) t v, Try.f5.params[j]? = some t → args[j]? = some v → Value.okWide Try.prog W .any base t v)
    (hW : DataW.Whole enc Try.prog Try.f5.params.toList Rows.shardMergeSpec.vars false W args.toList ds gs before) (hk : Rows.uptoSmall H (ds ++ gs) = true) :
    Calls Try.prog 5 args W fun e W' => ∃ v, e = .returned v ∧ Rows.shardMergeSpec.post enc Try.prog Try.f5 false true false false W args v W' := by
  have hW' := hW
  have hlt : ∀ p ∈ before, p.block < W.heap.size := fun p hp => hW.lt p hp
  obtain ⟨p, q, hA0, hV, rfl, hfz, hnd⟩ := hW
  have hA : DataW.TrodAll enc Try.prog W 0 (fun _ => true) true Try.f5.params.toList args.toList ds p := hA0
  have hA1 := hA
  rw [Try.params5] at hA hval
  obtain ⟨v0, vs0, d0, ds0, p0, q0, hargs, rfl, rfl, h0, r0⟩ := trodAll_cons hA
  obtain ⟨v1, vs1, d1, ds1, p1, q1, rfl, rfl, rfl, h1, r1⟩ := trodAll_cons r0
  obtain ⟨v2, vs2, d2, ds2, p2, q2, rfl, rfl, rfl, h2, r2⟩ := trodAll_cons r1
  obtain ⟨rfl, rfl, rfl⟩ := trodAll_nil r2
  obtain rfl : args = #[v0, v1, v2] := by cases args; simp_all
  obtain ⟨rfl, rfl⟩ := trodVars_none hV
  clear hA0
  obtain ⟨x0, hr0, hw0, hb0⟩ := arg_slice Try.underlying26 O26 (hval 0 26 v0 rfl rfl) h0
  obtain ⟨x1, hr1, hw1, hb1⟩ := arg_slice Try.underlying29 O29 (hval 1 29 v1 rfl rfl) h1
  obtain ⟨x2, hr2, hw2, hb2⟩ := arg_slice Try.underlying32 O32 (hval 2 32 v2 rfl rfl) h2
  have hsm : bulk (Row.slice rAccount) x0 + bulk (Row.slice (Row.slice rInt)) x1 + bulk (Row.slice (Row.slice rAccount)) x2 ≤ 1048576 := by
    have hk1 := of_decide_eq_true hk
    simp only [List.append_nil, Rows.uptoBulkAll] at hk1
    omega
  refine (M.law48_ShardMerge_walk big W (here W) (fun _ h => h) x0 v0 hr0 x1 v1 hr1 x2 v2 hr2 true (L.ShardMerge_true x0 x1 x2 hw0 hw1 hw2 hsm)).mono fun e W' ⟨v, he, F, hs, hv⟩ => ?_
  subst he hv
  exact ⟨_, rfl, post_of_below (pv := []) hW' (fun _ _ _ => trodAll_cons_mk (shut_bool Try.underlying4 _) trodAll_mk0)
    (fun sp hsp => trodAll_stays laidOut hs.below _ _ _ _ rows hA1 (fun x hx => hlt x (by simpa using hx)) (fun x hx => hsp x (by simpa using hx))) (fun _ _ => rfl) rfl hs.below
    (ok_one (by kernel_rfl) rfl (okWide_bool_mk Try.underlying4 _))⟩

set_option maxRecDepth 100000 in
theorem lifted (os : Os) (started : os.Started) (H : Type) (enc : TypeId × Value → H) (F : Stop.Interp) :
    ReturnsInHanded {} Try.checked os 5 .any ((Rows.OpenSpec.upto Rows.shardMergeSpec).pre6 enc Try.prog Try.f5 Rows.shardMergeUptoRow.domain false) (((Rows.OpenSpec.upto Rows.shardMergeSpec).at F).post enc Try.prog Try.f5 false true false false) := by
  refine returnsInHanded_of_cond (C := Try.checked) (s := Rows.OpenSpec.upto Rows.shardMergeSpec) (k := Rows.uptoSmall) rfl own started (by kernel_rfl) Try.func5
    (OpenSpec.witness (enc := enc) (C := Try.checked) (s := Rows.OpenSpec.upto Rows.shardMergeSpec) (k := Rows.uptoSmall) rfl false ⟨#[], #[.slice none 0 0, .slice none 0 0, .slice none 0 0], []⟩ 12 (by kernel_rfl) (by kernel_rfl) (by kernel_rfl)
      (x := ([.nil, .nil, .nil], [], [])) (by kernel_rfl) rfl (by kernel_rfl)) ?_
  intro W base args ds gs before hval hW _ hk _
  exact contract H enc W base args ds gs before hval hW hk

theorem over : Rows.shardMergeUptoRow.holds Try.pinned (Rows.OpenSpec.upto Rows.shardMergeSpec) :=
  OpenClaim.holds_of_cond 5 Try.f5 rfl rfl rfl rfl rfl rfl rfl ⟨rfl, rfl, rfl, rfl, rfl⟩ rfl rfl rfl rfl rfl (by kernel_rfl) Try.func5 (by kernel_rfl)
    (of_decide_eq_true (by kernel_rfl)) (by unfold Func.isWrapper; rw [if_neg (of_decide_eq_false (by kernel_rfl))]; exact ⟨rfl, rfl⟩)
    (fun os started H enc _ F => lifted os started H enc F)

/-- The statement. -/
theorem proved : Rows.ShardMergeUptoSaid := over
end Go.Proofs.Ytncajogcgkmpmaa.shardMerge
