/- BalanceOf: the statement, closed: the argument's reading by the form, the walk (by program) and the plain law together. Written by close.py. -/
import Derived.Test.YtbhfmiaboidhnaaRows
import Derived.Test.YtbhfmiaboidhnaaOpen
import Derived.Test.YtbhfmiaboidhnaaLaw
import Derived.Test.YtbhfmiaboidhnaaLB
import Derived.WalkKit
import Derived.ProofKit
import Derived.OpenShut
import Derived.JoinedCond
namespace Go.Proofs.Ytbhfmiaboidhnaa.balanceOf
open Go Go.RowKit Go.ChangeShapes Go.WideShapes Go.ChangeAt Go.Deep
set_option linter.unusedVariables false

theorem own : ownKnob Try.prog.godebug = none := by kernel_rfl
theorem laidOut : laidOutB Try.prog = true := by kernel_rfl
theorem O36 : Opens Try.prog 36 rInt := opens_int Try.underlying36
theorem O3 : Opens Try.prog 3 rInt := opens_int Try.underlying3
theorem O38 : Opens Try.prog 38 rAward := opens_struct Try.underlying38 (by kernel_rfl) (opensF_cons rfl (by kernel_rfl) O3 (opensF_cons rfl (by kernel_rfl) O3 (opensF_last rfl (by kernel_rfl) O36)))
theorem O22 : Opens Try.prog 22 (.slice rAward) := opens_slice Try.underlying22 (by kernel_rfl) O38
theorem O26 : Opens Try.prog 26 rPosting := opens_struct Try.underlying26 (by kernel_rfl) (opensF_cons rfl (by kernel_rfl) O3 (opensF_cons rfl (by kernel_rfl) O3 (opensF_cons rfl (by kernel_rfl) O3 (opensF_last rfl (by kernel_rfl) O3))))
theorem O23 : Opens Try.prog 23 (.slice rPosting) := opens_slice Try.underlying23 (by kernel_rfl) O26
theorem rows : ∀ t ∈ Try.f3.params.toList, (Try.prog.readableRec t && Nat.blt t Try.prog.types.size) = true := by
  rw [Try.params3]
  simp only [List.forall_mem_cons]
  exact ⟨by kernel_rfl, by kernel_rfl, fun _ h => absurd h (by simp)⟩

set_option maxRecDepth 100000 in
theorem contract (H : Type) (enc : TypeId × Value → H) (W : World) (base : Nat) (args : Array Value) (ds gs : List (DataW H)) (before : List MemPlace)
    (hval : ∀ (j : Nat) t v, Try.f3.params[j]? = some t → args[j]? = some v → Value.okWide Try.prog W .any base t v)
    (hW : DataW.Whole enc Try.prog Try.f3.params.toList Rows.balanceOfSpec.vars false W args.toList ds gs before) :
    Calls Try.prog 3 args W fun e W' => ∃ v, e = .returned v ∧ Rows.balanceOfSpec.post enc Try.prog Try.f3 false true false false W args v W' := by
  have hW' := hW
  have hlt : ∀ p ∈ before, p.block < W.heap.size := fun p hp => hW.lt p hp
  obtain ⟨p, q, hA0, hV, rfl, hfz, hnd⟩ := hW
  have hA : DataW.TrodAll enc Try.prog W 0 (fun _ => true) true Try.f3.params.toList args.toList ds p := hA0
  have hA1 := hA
  rw [Try.params3] at hA hval
  obtain ⟨v0, vs0, d0, ds0, p0, q0, hargs, rfl, rfl, h0, r0⟩ := trodAll_cons hA
  obtain ⟨v1, vs1, d1, ds1, p1, q1, rfl, rfl, rfl, h1, r1⟩ := trodAll_cons r0
  obtain ⟨rfl, rfl, rfl⟩ := trodAll_nil r1
  obtain rfl : args = #[v0, v1] := by cases args; simp_all
  obtain ⟨rfl, rfl⟩ := trodVars_none hV
  clear hA0
  obtain ⟨x0, hr0, hw0, hb0⟩ := arg_slice Try.underlying22 O22 (hval 0 22 v0 rfl rfl) h0
  obtain ⟨x1, hr1, hw1, hb1⟩ := arg_slice Try.underlying23 O23 (hval 1 23 v1 rfl rfl) h1
  refine (law_calls (x := (x0, x1)) (W3 big) (L.BalanceOf_true x0 x1 hw0 hw1) rfl (.cons (argv_slice hr0) (.cons (argv_slice hr1) .nil)) rfl (fun _ _ h => by cases h)).mono fun e W' ⟨he, hs⟩ => ?_
  subst he
  exact ⟨_, rfl, post_of_below (pv := []) hW' (fun _ _ _ => trodAll_cons_mk (shut_bool Try.underlying4 _) trodAll_mk0)
    (fun sp hsp => trodAll_stays laidOut hs _ _ _ _ rows hA1 (fun x hx => hlt x (by simpa using hx)) (fun x hx => hsp x (by simpa using hx))) (fun _ _ => rfl) rfl hs
    (ok_one (by kernel_rfl) rfl (okWide_bool_mk Try.underlying4 _))⟩

set_option maxRecDepth 100000 in
theorem lifted (os : Os) (started : os.Started) (H : Type) (enc : TypeId × Value → H) :
    ReturnsInHanded {} Try.checked os 3 .any (Rows.balanceOfSpec.pre6 enc Try.prog Try.f3 Rows.balanceOfRow.domain false) (Rows.balanceOfSpec.post enc Try.prog Try.f3 false true false false) := by
  refine returnsInHanded_of_change (C := Try.checked) own started (by kernel_rfl) Try.func3
    (ChangeSpec.witness6 (enc := enc) (C := Try.checked) false ⟨#[], #[.slice none 0 0, .slice none 0 0], []⟩ 12 (by kernel_rfl) (by kernel_rfl) (by kernel_rfl) (by kernel_rfl)) ?_
  intro W base args ds gs before hval hW _ _
  exact contract H enc W base args ds gs before hval hW

theorem over : Rows.balanceOfRow.holds Try.pinned (OpenSpec.ofChange Rows.balanceOfSpec) :=
  OpenClaim.holds_of_wide 3 Try.f3 rfl rfl rfl rfl rfl rfl rfl ⟨rfl, rfl, rfl, rfl, rfl⟩ rfl rfl rfl rfl rfl (by kernel_rfl) Try.func3 (by kernel_rfl)
    (of_decide_eq_true (by kernel_rfl)) (by unfold Func.isWrapper; rw [if_neg (of_decide_eq_false (by kernel_rfl))]; exact ⟨rfl, rfl⟩)
    (fun os started H enc _ => lifted os started H enc)

/-- The statement. -/
theorem proved : Rows.BalanceOfSaid := over
end Go.Proofs.Ytbhfmiaboidhnaa.balanceOf
