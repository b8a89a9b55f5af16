/- LawdiffOneRule: the statement, closed: the argument's reading by the form, the walk (by program) and the plain law together. Written by close.py. -/
import Derived.Test.YtacochphlicngaaRows
import Derived.Test.YtacochphlicngaaOpen
import Derived.Test.YtacochphlicngaaLaw
import Derived.Test.YtacochphlicngaaP51g
import Derived.WalkKit
import Derived.ProofKit
import Derived.OpenShut
import Derived.JoinedCond
namespace Go.Proofs.Ytacochphlicngaa.lawdiffOneRule
open Go Go.RowKit Go.ChangeShapes Go.WideShapes Go.ChangeAt Go.Deep
set_option linter.unusedVariables false

theorem own : ownKnob Try.prog.godebug = none := by kernel_rfl
theorem laidOut : laidOutB Try.prog = true := by kernel_rfl
theorem O9 : Opens Try.prog 9 .str := opens_str Try.underlying9
theorem O3 : Opens Try.prog 3 rInt := opens_int Try.underlying3
theorem O60 : Opens Try.prog 60 rType := opens_struct Try.underlying60 (by kernel_rfl) (opensF_cons rfl (by kernel_rfl) O3 (opensF_last rfl (by kernel_rfl) O3))
theorem O39 : Opens Try.prog 39 (.slice rType) := opens_slice Try.underlying39 (by kernel_rfl) O60
theorem O38 : Opens Try.prog 38 rType := opens_struct Try.underlying38 (by kernel_rfl) (opensF_cons rfl (by kernel_rfl) O3 (opensF_last rfl (by kernel_rfl) O3))
theorem O41 : Opens Try.prog 41 rRule := opens_struct Try.underlying41 (by kernel_rfl) (opensF_cons rfl (by kernel_rfl) O9 (opensF_cons rfl (by kernel_rfl) O3 (opensF_cons rfl (by kernel_rfl) O3 (opensF_cons rfl (by kernel_rfl) O3 (opensF_cons rfl (by kernel_rfl) O38 (opensF_cons rfl (by kernel_rfl) O39 (opensF_cons rfl (by kernel_rfl) O39 (opensF_last rfl (by kernel_rfl) O9))))))))
theorem O34 : Opens Try.prog 34 (.slice rRule) := opens_slice Try.underlying34 (by kernel_rfl) O41
theorem O53 : Opens Try.prog 53 rType := opens_struct Try.underlying53 (by kernel_rfl) (opensF_cons rfl (by kernel_rfl) O3 (opensF_last rfl (by kernel_rfl) O3))
theorem O82 : Opens Try.prog 82 rField := opens_struct Try.underlying82 (by kernel_rfl) (opensF_cons rfl (by kernel_rfl) O9 (opensF_last rfl (by kernel_rfl) O53))
theorem O33 : Opens Try.prog 33 (.slice rField) := opens_slice Try.underlying33 (by kernel_rfl) O82
theorem O36 : Opens Try.prog 36 rScope := opens_struct Try.underlying36 (by kernel_rfl) (opensF_cons rfl (by kernel_rfl) O9 (opensF_cons rfl (by kernel_rfl) O3 (opensF_cons rfl (by kernel_rfl) O33 (opensF_cons rfl (by kernel_rfl) O33 (opensF_last rfl (by kernel_rfl) O34)))))
theorem O24 : Opens Try.prog 24 (.slice rScope) := opens_slice Try.underlying24 (by kernel_rfl) O36
theorem O95 : Opens Try.prog 95 rRow := opens_struct Try.underlying95 (by kernel_rfl) (opensF_cons rfl (by kernel_rfl) O38 (opensF_cons rfl (by kernel_rfl) O3 (opensF_cons rfl (by kernel_rfl) O3 (opensF_last rfl (by kernel_rfl) O3))))
theorem O54 : Opens Try.prog 54 (.slice rRow) := opens_slice Try.underlying54 (by kernel_rfl) O95
theorem O56 : Opens Try.prog 56 rTable := opens_struct Try.underlying56 (by kernel_rfl) (opensF_cons rfl (by kernel_rfl) O9 (opensF_cons rfl (by kernel_rfl) O53 (opensF_cons rfl (by kernel_rfl) O53 (opensF_last rfl (by kernel_rfl) O54))))
theorem O23 : Opens Try.prog 23 (.slice rTable) := opens_slice Try.underlying23 (by kernel_rfl) O56
theorem O49 : Opens Try.prog 49 (.slice .str) := opens_slice Try.underlying49 (by kernel_rfl) O9
theorem O51 : Opens Try.prog 51 rEnum := opens_struct Try.underlying51 (by kernel_rfl) (opensF_cons rfl (by kernel_rfl) O9 (opensF_last rfl (by kernel_rfl) O49))
theorem O22 : Opens Try.prog 22 (.slice rEnum) := opens_slice Try.underlying22 (by kernel_rfl) O51
theorem O26 : Opens Try.prog 26 rLaw := opens_struct Try.underlying26 (by kernel_rfl) (opensF_cons rfl (by kernel_rfl) O22 (opensF_cons rfl (by kernel_rfl) O23 (opensF_last rfl (by kernel_rfl) O24)))
theorem O5 : Opens Try.prog 5 (.int .u8) := opens_int Try.underlying5
theorem rows : ∀ t ∈ Try.f7.params.toList, (Try.prog.readableRec t && Nat.blt t Try.prog.types.size) = true := by
  rw [Try.params7]
  simp only [List.forall_mem_cons]
  exact ⟨by kernel_rfl, by kernel_rfl, by kernel_rfl, by kernel_rfl, fun _ h => absurd h (by simp)⟩

theorem arg_str {P : Program} {H : Type} {enc : TypeId × Value → H} {w : World} {base : Nat} {spare : Nat → Bool} {held : Bool} {v : Value} {d : DataW H} {ps : List MemPlace} {t : TypeId} (ht : P.underlying t = some .string) (hv : Value.okWide P w .any base t v) (h : DataW.Trod enc P w 0 spare held t v d ps) : ∃ s : ByteArray, v = .string s ∧ WF .str s ∧ bulk .str s ≤ Rows.uptoBulk d := by
  obtain ⟨s, rfl⟩ := okWide_string ht hv
  obtain ⟨fuel, hf⟩ := h
  obtain ⟨y, h1, h2, h3⟩ := opens_str ht H enc w spare held fuel _ _ hf
  obtain rfl : y = s := by
    have h1 : [Value.string s] = [Value.string y] := h1
    cases h1
    rfl
  exact ⟨y, rfl, h2, h3⟩

set_option maxRecDepth 100000 in
theorem contract (H : Type) (enc : TypeId × Value → H) (W : World) (base : Nat) (args : Array Value) (ds gs : List (DataW H)) (before : List MemPlace)
    (hval : ∀ (j : Nat) t v, Try.f7.params[j]? = some t → args[j]? = some v → Value.okWide Try.prog W .any base t v)
    (hW : DataW.Whole enc Try.prog Try.f7.params.toList Rows.lawdiffOneRuleSpec.vars false W args.toList ds gs before) :
    Calls Try.prog 7 args W fun e W' => ∃ v, e = .returned v ∧ Rows.lawdiffOneRuleSpec.post enc Try.prog Try.f7 false true false false W args v W' := by
  have hW' := hW
  have hlt : ∀ p ∈ before, p.block < W.heap.size := fun p hp => hW.lt p hp
  obtain ⟨p, q, hA0, hV, rfl, hfz, hnd⟩ := hW
  have hA : DataW.TrodAll enc Try.prog W 0 (fun _ => true) true Try.f7.params.toList args.toList ds p := hA0
  have hA1 := hA
  rw [Try.params7] at hA hval
  obtain ⟨v0, vs0, d0, ds0, p0, q0, hargs, rfl, rfl, h0, r0⟩ := trodAll_cons hA
  obtain ⟨v1, vs1, d1, ds1, p1, q1, rfl, rfl, rfl, h1, r1⟩ := trodAll_cons r0
  obtain ⟨v2, vs2, d2, ds2, p2, q2, rfl, rfl, rfl, h2, r2⟩ := trodAll_cons r1
  obtain ⟨v3, vs3, d3, ds3, p3, q3, rfl, rfl, rfl, h3, r3⟩ := trodAll_cons r2
  obtain ⟨rfl, rfl, rfl⟩ := trodAll_nil r3
  obtain rfl : args = #[v0, v1, v2, v3] := by cases args; simp_all
  obtain ⟨rfl, rfl⟩ := trodVars_none hV
  clear hA0
  obtain ⟨es0, x0, rfl, hr0, hw0, hb0⟩ := arg_struct Try.underlying26 O26 (hval 0 26 v0 rfl rfl) h0
  obtain ⟨x1, rfl, hw1, hb1⟩ := arg_int Try.underlying5 (hval 1 5 v1 rfl rfl) h1
  obtain ⟨x2, rfl, hw2, hb2⟩ := arg_int Try.underlying5 (hval 2 5 v2 rfl rfl) h2
  obtain ⟨x3, rfl, hw3, hb3⟩ := arg_str Try.underlying9 (hval 3 9 v3 rfl rfl) h3
  refine (law_calls (x := (x0, x1, x2, x3)) (W7 big) (L.LawdiffOneRule_true x0 x1 x2 x3 hw0 hw1 hw2 hw3) rfl (.cons (argv_struct hr0) (.cons (argv_int _ _ _ x1) (.cons (argv_int _ _ _ x2) (.cons (argv_str _ _ x3) .nil)))) rfl (fun _ _ h => by cases h)).mono fun e W' ⟨he, hs⟩ => ?_
  subst he
  exact ⟨_, rfl, post_of_below (pv := []) hW' (fun _ _ _ => trodAll_cons_mk (shut_bool Try.underlying4 _) trodAll_mk0)
    (fun sp hsp => trodAll_stays laidOut hs _ _ _ _ rows hA1 (fun x hx => hlt x (by simpa using hx)) (fun x hx => hsp x (by simpa using hx))) (fun _ _ => rfl) rfl hs
    (ok_one (by kernel_rfl) rfl (okWide_bool_mk Try.underlying4 _))⟩

set_option maxRecDepth 100000 in
theorem lifted (os : Os) (started : os.Started) (H : Type) (enc : TypeId × Value → H) :
    ReturnsInHanded {} Try.checked os 7 .any (Rows.lawdiffOneRuleSpec.pre6 enc Try.prog Try.f7 Rows.lawdiffOneRuleRow.domain false) (Rows.lawdiffOneRuleSpec.post enc Try.prog Try.f7 false true false false) := by
  refine returnsInHanded_of_change (C := Try.checked) own started (by kernel_rfl) Try.func7
    (ChangeSpec.witness6 (enc := enc) (C := Try.checked) false ⟨#[], #[.agg #[.slice none 0 0, .slice none 0 0, .slice none 0 0], .int .u8 0, .int .u8 0, .string ⟨#[]⟩], []⟩ 12 (by kernel_rfl) (by kernel_rfl) (by kernel_rfl) (by kernel_rfl)) ?_
  intro W base args ds gs before hval hW _ _
  exact contract H enc W base args ds gs before hval hW

theorem over : Rows.lawdiffOneRuleRow.holds Try.pinned (OpenSpec.ofChange Rows.lawdiffOneRuleSpec) :=
  OpenClaim.holds_of_wide 7 Try.f7 rfl rfl rfl rfl rfl rfl rfl ⟨rfl, rfl, rfl, rfl, rfl⟩ rfl rfl rfl rfl rfl (by kernel_rfl) Try.func7 (by kernel_rfl)
    (of_decide_eq_true (by kernel_rfl)) (by unfold Func.isWrapper; rw [if_neg (of_decide_eq_false (by kernel_rfl))]; exact ⟨rfl, rfl⟩)
    (fun os started H enc _ => lifted os started H enc)

/-- The statement. -/
theorem proved : Rows.LawdiffOneRuleSaid := over
end Go.Proofs.Ytacochphlicngaa.lawdiffOneRule
