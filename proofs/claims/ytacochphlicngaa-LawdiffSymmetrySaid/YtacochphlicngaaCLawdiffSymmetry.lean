/- LawdiffSymmetry: the statement, closed: the argument's reading by the form, the walk (by program) and the plain law together. Written by close.py. -/
import Derived.Test.YtacochphlicngaaRows
import Derived.Test.YtacochphlicngaaOpen
import Derived.Test.YtacochphlicngaaLaw
import Derived.Test.YtacochphlicngaaP51f
import Derived.WalkKit
import Derived.ProofKit
import Derived.OpenShut
import Derived.JoinedCond
namespace Go.Proofs.Ytacochphlicngaa.lawdiffSymmetry
open Go Go.RowKit Go.ChangeShapes Go.WideShapes Go.ChangeAt Go.Deep
set_option linter.unusedVariables false

theorem own : ownKnob Try.prog.godebug = none := by kernel_rfl
theorem laidOut : laidOutB Try.prog = true := by kernel_rfl
theorem O9 : Opens Try.prog 9 .str := opens_str Try.underlying9
theorem O3 : Opens Try.prog 3 rInt := opens_int Try.underlying3
theorem O60 : Opens Try.prog 60 rType := opens_struct Try.underlying60 (by kernel_rfl) (opensF_cons rfl (by kernel_rfl) O3 (opensF_last rfl (by kernel_rfl) O3))
theorem O39 : Opens Try.prog 39 (.slice rType) := opens_slice Try.underlying39 (by kernel_rfl) O60
theorem O38 : Opens Try.prog 38 rType := opens_struct Try.underlying38 (by kernel_rfl) (opensF_cons rfl (by kernel_rfl) O3 (opensF_last rfl (by kernel_rfl) O3))
theorem O41 : Opens Try.prog 41 rRule := opens_struct Try.underlying41 (by kernel_rfl) (opensF_cons rfl (by kernel_rfl) O9 (opensF_cons rfl (by kernel_rfl) O3 (opensF_cons rfl (by kernel_rfl) O3 (opensF_cons rfl (by kernel_rfl) O3 (opensF_cons rfl (by kernel_rfl) O38 (opensF_cons rfl (by kernel_rfl) O39 (opensF_cons rfl (by kernel_rfl) O39 (opensF_last rfl (by kernel_rfl) O9))))))))
theorem O34 : Opens Try.prog 34 (.slice rRule) := opens_slice Try.underlying34 (by kernel_rfl) O41
theorem O53 : Opens Try.prog 53 rType := opens_struct Try.underlying53 (by kernel_rfl) (opensF_cons rfl (by kernel_rfl) O3 (opensF_last rfl (by kernel_rfl) O3))
theorem O82 : Opens Try.prog 82 rField := opens_struct Try.underlying82 (by kernel_rfl) (opensF_cons rfl (by kernel_rfl) O9 (opensF_last rfl (by kernel_rfl) O53))
theorem O33 : Opens Try.prog 33 (.slice rField) := opens_slice Try.underlying33 (by kernel_rfl) O82
theorem O36 : Opens Try.prog 36 rScope := opens_struct Try.underlying36 (by kernel_rfl) (opensF_cons rfl (by kernel_rfl) O9 (opensF_cons rfl (by kernel_rfl) O3 (opensF_cons rfl (by kernel_rfl) O33 (opensF_cons rfl (by kernel_rfl) O33 (opensF_last rfl (by kernel_rfl) O34)))))
theorem O24 : Opens Try.prog 24 (.slice rScope) := opens_slice Try.underlying24 (by kernel_rfl) O36
theorem O95 : Opens Try.prog 95 rRow := opens_struct Try.underlying95 (by kernel_rfl) (opensF_cons rfl (by kernel_rfl) O38 (opensF_cons rfl (by kernel_rfl) O3 (opensF_cons rfl (by kernel_rfl) O3 (opensF_last rfl (by kernel_rfl) O3))))
theorem O54 : Opens Try.prog 54 (.slice rRow) := opens_slice Try.underlying54 (by kernel_rfl) O95
theorem O56 : Opens Try.prog 56 rTable := opens_struct Try.underlying56 (by kernel_rfl) (opensF_cons rfl (by kernel_rfl) O9 (opensF_cons rfl (by kernel_rfl) O53 (opensF_cons rfl (by kernel_rfl) O53 (opensF_last rfl (by kernel_rfl) O54))))
theorem O23 : Opens Try.prog 23 (.slice rTable) := opens_slice Try.underlying23 (by kernel_rfl) O56
theorem O49 : Opens Try.prog 49 (.slice .str) := opens_slice Try.underlying49 (by kernel_rfl) O9
theorem O51 : Opens Try.prog 51 rEnum := opens_struct Try.underlying51 (by kernel_rfl) (opensF_cons rfl (by kernel_rfl) O9 (opensF_last rfl (by kernel_rfl) O49))
theorem O22 : Opens Try.prog 22 (.slice rEnum) := opens_slice Try.underlying22 (by kernel_rfl) O51
theorem O26 : Opens Try.prog 26 rLaw := opens_struct Try.underlying26 (by kernel_rfl) (opensF_cons rfl (by kernel_rfl) O22 (opensF_cons rfl (by kernel_rfl) O23 (opensF_last rfl (by kernel_rfl) O24)))
theorem rows : ∀ t ∈ Try.f6.params.toList, (Try.prog.readableRec t && Nat.blt t Try.prog.types.size) = true := by
  rw [Try.params6]
  simp only [List.forall_mem_cons]
  exact ⟨by kernel_rfl, by kernel_rfl, fun _ h => absurd h (by simp)⟩

set_option maxRecDepth 100000 in
theorem contract (H : Type) (enc : TypeId × Value → H) (W : World) (base : Nat) (args : Array Value) (ds gs : List (DataW H)) (before : List MemPlace)
    (hval : ∀ (j : Nat) t v, Try.f6.params[j]? = some t → args[j]? = some v → Value.okWide Try.prog W .any base t v)
    (hW : DataW.Whole enc Try.prog Try.f6.params.toList Rows.lawdiffSymmetrySpec.vars false W args.toList ds gs before) :
    Calls Try.prog 6 args W fun e W' => ∃ v, e = .returned v ∧ Rows.lawdiffSymmetrySpec.post enc Try.prog Try.f6 false true false false W args v W' := by
  have hW' := hW
  have hlt : ∀ p ∈ before, p.block < W.heap.size := fun p hp => hW.lt p hp
  obtain ⟨p, q, hA0, hV, rfl, hfz, hnd⟩ := hW
  have hA : DataW.TrodAll enc Try.prog W 0 (fun _ => true) true Try.f6.params.toList args.toList ds p := hA0
  have hA1 := hA
  rw [Try.params6] at hA hval
  obtain ⟨v0, vs0, d0, ds0, p0, q0, hargs, rfl, rfl, h0, r0⟩ := trodAll_cons hA
  obtain ⟨v1, vs1, d1, ds1, p1, q1, rfl, rfl, rfl, h1, r1⟩ := trodAll_cons r0
  obtain ⟨rfl, rfl, rfl⟩ := trodAll_nil r1
  obtain rfl : args = #[v0, v1] := by cases args; simp_all
  obtain ⟨rfl, rfl⟩ := trodVars_none hV
  clear hA0
  obtain ⟨es0, x0, rfl, hr0, hw0, hb0⟩ := arg_struct Try.underlying26 O26 (hval 0 26 v0 rfl rfl) h0
  obtain ⟨es1, x1, rfl, hr1, hw1, hb1⟩ := arg_struct Try.underlying26 O26 (hval 1 26 v1 rfl rfl) h1
  refine (law_calls (x := (x0, x1)) (W6 big) (L.LawdiffSymmetry_true x0 x1 hw0 hw1) rfl (.cons (argv_struct hr0) (.cons (argv_struct hr1) .nil)) rfl (fun _ _ h => by cases h)).mono fun e W' ⟨he, hs⟩ => ?_
  subst he
  exact ⟨_, rfl, post_of_below (pv := []) hW' (fun _ _ _ => trodAll_cons_mk (shut_bool Try.underlying4 _) trodAll_mk0)
    (fun sp hsp => trodAll_stays laidOut hs _ _ _ _ rows hA1 (fun x hx => hlt x (by simpa using hx)) (fun x hx => hsp x (by simpa using hx))) (fun _ _ => rfl) rfl hs
    (ok_one (by kernel_rfl) rfl (okWide_bool_mk Try.underlying4 _))⟩

set_option maxRecDepth 100000 in
theorem lifted (os : Os) (started : os.Started) (H : Type) (enc : TypeId × Value → H) :
    ReturnsInHanded {} Try.checked os 6 .any (Rows.lawdiffSymmetrySpec.pre6 enc Try.prog Try.f6 Rows.lawdiffSymmetryRow.domain false) (Rows.lawdiffSymmetrySpec.post enc Try.prog Try.f6 false true false false) := by
  refine returnsInHanded_of_change (C := Try.checked) own started (by kernel_rfl) Try.func6
    (ChangeSpec.witness6 (enc := enc) (C := Try.checked) false ⟨#[], #[.agg #[.slice none 0 0, .slice none 0 0, .slice none 0 0], .agg #[.slice none 0 0, .slice none 0 0, .slice none 0 0]], []⟩ 12 (by kernel_rfl) (by kernel_rfl) (by kernel_rfl) (by kernel_rfl)) ?_
  intro W base args ds gs before hval hW _ _
  exact contract H enc W base args ds gs before hval hW

theorem over : Rows.lawdiffSymmetryRow.holds Try.pinned (OpenSpec.ofChange Rows.lawdiffSymmetrySpec) :=
  OpenClaim.holds_of_wide 6 Try.f6 rfl rfl rfl rfl rfl rfl rfl ⟨rfl, rfl, rfl, rfl, rfl⟩ rfl rfl rfl rfl rfl (by kernel_rfl) Try.func6 (by kernel_rfl)
    (of_decide_eq_true (by kernel_rfl)) (by unfold Func.isWrapper; rw [if_neg (of_decide_eq_false (by kernel_rfl))]; exact ⟨rfl, rfl⟩)
    (fun os started H enc _ => lifted os started H enc)

/-- The statement. -/
theorem proved : Rows.LawdiffSymmetrySaid := over
end Go.Proofs.Ytacochphlicngaa.lawdiffSymmetry
