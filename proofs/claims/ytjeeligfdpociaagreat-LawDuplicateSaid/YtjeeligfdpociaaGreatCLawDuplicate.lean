/- LawDuplicate: the statement, closed: the argument's reading by the form, the walk (by program) and the plain law together. Written by close.py. -/
import Derived.Test.YtjeeligfdpociaaGreatRows
import Derived.Test.YtjeeligfdpociaaGreatOpen
import Derived.Test.YtjeeligfdpociaaGreatLaw
import Derived.Test.YtjeeligfdpociaaGreatP17d
import Derived.WalkKit
import Derived.ProofKit
import Derived.OpenShut
import Derived.JoinedCond
namespace Go.Proofs.YtjeeligfdpociaaGreat.lawDuplicate
open Go Go.RowKit Go.ChangeShapes Go.WideShapes Go.ChangeAt Go.Deep
set_option linter.unusedVariables false

theorem own : ownKnob Tryz.prog.godebug = none := by kernel_rfl
theorem laidOut : laidOutB Tryz.prog = true := by kernel_rfl
theorem O9 : Opens Tryz.prog 9 .str := opens_str Tryz.underlying9
theorem O3 : Opens Tryz.prog 3 rInt := opens_int Tryz.underlying3
theorem O65 : Opens Tryz.prog 65 rType := opens_struct Tryz.underlying65 (by kernel_rfl) (opensF_cons rfl (by kernel_rfl) O3 (opensF_last rfl (by kernel_rfl) O3))
theorem O61 : Opens Tryz.prog 61 (.slice rType) := opens_slice Tryz.underlying61 (by kernel_rfl) O65
theorem O60 : Opens Tryz.prog 60 rType := opens_struct Tryz.underlying60 (by kernel_rfl) (opensF_cons rfl (by kernel_rfl) O3 (opensF_last rfl (by kernel_rfl) O3))
theorem O63 : Opens Tryz.prog 63 rRule := opens_struct Tryz.underlying63 (by kernel_rfl) (opensF_cons rfl (by kernel_rfl) O9 (opensF_cons rfl (by kernel_rfl) O3 (opensF_cons rfl (by kernel_rfl) O3 (opensF_cons rfl (by kernel_rfl) O3 (opensF_cons rfl (by kernel_rfl) O60 (opensF_cons rfl (by kernel_rfl) O61 (opensF_cons rfl (by kernel_rfl) O61 (opensF_last rfl (by kernel_rfl) O9))))))))
theorem O39 : Opens Tryz.prog 39 (.slice rRule) := opens_slice Tryz.underlying39 (by kernel_rfl) O63
theorem O43 : Opens Tryz.prog 43 rType := opens_struct Tryz.underlying43 (by kernel_rfl) (opensF_cons rfl (by kernel_rfl) O3 (opensF_last rfl (by kernel_rfl) O3))
theorem O45 : Opens Tryz.prog 45 rField := opens_struct Tryz.underlying45 (by kernel_rfl) (opensF_cons rfl (by kernel_rfl) O9 (opensF_last rfl (by kernel_rfl) O43))
theorem O38 : Opens Tryz.prog 38 (.slice rField) := opens_slice Tryz.underlying38 (by kernel_rfl) O45
theorem O41 : Opens Tryz.prog 41 rScope := opens_struct Tryz.underlying41 (by kernel_rfl) (opensF_cons rfl (by kernel_rfl) O9 (opensF_cons rfl (by kernel_rfl) O3 (opensF_cons rfl (by kernel_rfl) O38 (opensF_cons rfl (by kernel_rfl) O38 (opensF_last rfl (by kernel_rfl) O39)))))
theorem O24 : Opens Tryz.prog 24 (.slice rScope) := opens_slice Tryz.underlying24 (by kernel_rfl) O41
theorem O112 : Opens Tryz.prog 112 rRow := opens_struct Tryz.underlying112 (by kernel_rfl) (opensF_cons rfl (by kernel_rfl) O60 (opensF_cons rfl (by kernel_rfl) O3 (opensF_cons rfl (by kernel_rfl) O3 (opensF_last rfl (by kernel_rfl) O3))))
theorem O69 : Opens Tryz.prog 69 (.slice rRow) := opens_slice Tryz.underlying69 (by kernel_rfl) O112
theorem O71 : Opens Tryz.prog 71 rTable := opens_struct Tryz.underlying71 (by kernel_rfl) (opensF_cons rfl (by kernel_rfl) O9 (opensF_cons rfl (by kernel_rfl) O43 (opensF_cons rfl (by kernel_rfl) O43 (opensF_last rfl (by kernel_rfl) O69))))
theorem O23 : Opens Tryz.prog 23 (.slice rTable) := opens_slice Tryz.underlying23 (by kernel_rfl) O71
theorem O53 : Opens Tryz.prog 53 (.slice .str) := opens_slice Tryz.underlying53 (by kernel_rfl) O9
theorem O68 : Opens Tryz.prog 68 rEnum := opens_struct Tryz.underlying68 (by kernel_rfl) (opensF_cons rfl (by kernel_rfl) O9 (opensF_last rfl (by kernel_rfl) O53))
theorem O22 : Opens Tryz.prog 22 (.slice rEnum) := opens_slice Tryz.underlying22 (by kernel_rfl) O68
theorem O26 : Opens Tryz.prog 26 rLaw := opens_struct Tryz.underlying26 (by kernel_rfl) (opensF_cons rfl (by kernel_rfl) O22 (opensF_cons rfl (by kernel_rfl) O23 (opensF_last rfl (by kernel_rfl) O24)))
theorem rows : ∀ t ∈ Tryz.f5.params.toList, (Tryz.prog.readableRec t && Nat.blt t Tryz.prog.types.size) = true := by
  rw [Tryz.params5]
  simp only [List.forall_mem_cons]
  exact ⟨by kernel_rfl, by kernel_rfl, fun _ h => absurd h (by simp)⟩

theorem arg_str {P : Program} {H : Type} {enc : TypeId × Value → H} {w : World} {base : Nat} {spare : Nat → Bool} {held : Bool} {v : Value} {d : DataW H} {ps : List MemPlace} {t : TypeId} (ht : P.underlying t = some .string) (hv : Value.okWide P w .any base t v) (h : DataW.Trod enc P w 0 spare held t v d ps) : ∃ s : ByteArray, v = .string s ∧ WF .str s ∧ bulk .str s ≤ Rows.uptoBulk d := by
  obtain ⟨s, rfl⟩ := okWide_string ht hv
  obtain ⟨fuel, hf⟩ := h
  obtain ⟨y, h1, h2, h3⟩ := opens_str ht H enc w spare held fuel _ _ hf
  obtain rfl : y = s := by
    have h1 : [Value.string s] = [Value.string y] := h1
    cases h1
    rfl
  exact ⟨y, rfl, h2, h3⟩

set_option maxRecDepth 100000 in
theorem contract (H : Type) (enc : TypeId × Value → H) (W : World) (base : Nat) (args : Array Value) (ds gs : List (DataW H)) (before : List MemPlace)
    (hval : ∀ (j : Nat) t v, Tryz.f5.params[j]? = some t → args[j]? = some v → Value.okWide Tryz.prog W .any base t v)
    (hW : DataW.Whole enc Tryz.prog Tryz.f5.params.toList Rows.lawDuplicateSpec.vars false W args.toList ds gs before) :
    Calls Tryz.prog 5 args W fun e W' => ∃ v, e = .returned v ∧ Rows.lawDuplicateSpec.post enc Tryz.prog Tryz.f5 false true false false W args v W' := by
  have hW' := hW
  have hlt : ∀ p ∈ before, p.block < W.heap.size := fun p hp => hW.lt p hp
  obtain ⟨p, q, hA0, hV, rfl, hfz, hnd⟩ := hW
  have hA : DataW.TrodAll enc Tryz.prog W 0 (fun _ => true) true Tryz.f5.params.toList args.toList ds p := hA0
  have hA1 := hA
  rw [Tryz.params5] at hA hval
  obtain ⟨v0, vs0, d0, ds0, p0, q0, hargs, rfl, rfl, h0, r0⟩ := trodAll_cons hA
  obtain ⟨v1, vs1, d1, ds1, p1, q1, rfl, rfl, rfl, h1, r1⟩ := trodAll_cons r0
  obtain ⟨rfl, rfl, rfl⟩ := trodAll_nil r1
  obtain rfl : args = #[v0, v1] := by cases args; simp_all
  obtain ⟨rfl, rfl⟩ := trodVars_none hV
  clear hA0
  obtain ⟨es0, x0, rfl, hr0, hw0, hb0⟩ := arg_struct Tryz.underlying26 O26 (hval 0 26 v0 rfl rfl) h0
  obtain ⟨x1, rfl, hw1, hb1⟩ := arg_int Tryz.underlying3 (hval 1 3 v1 rfl rfl) h1
  refine (law_calls (x := (x0, x1)) (W5 big) (L.LawDuplicate_true x0 x1 hw0 hw1) rfl (.cons (argv_struct hr0) (.cons (argv_int _ _ _ x1) .nil)) rfl (fun _ _ h => by cases h)).mono fun e W' ⟨he, hs⟩ => ?_
  subst he
  exact ⟨_, rfl, post_of_below (pv := []) hW' (fun _ _ _ => trodAll_cons_mk (shut_bool Tryz.underlying4 _) trodAll_mk0)
    (fun sp hsp => trodAll_stays laidOut hs _ _ _ _ rows hA1 (fun x hx => hlt x (by simpa using hx)) (fun x hx => hsp x (by simpa using hx))) (fun _ _ => rfl) rfl hs
    (ok_one (by kernel_rfl) rfl (okWide_bool_mk Tryz.underlying4 _))⟩

set_option maxRecDepth 100000 in
theorem lifted (os : Os) (started : os.Started) (H : Type) (enc : TypeId × Value → H) :
    ReturnsInHanded {} Tryz.checked os 5 .any (Rows.lawDuplicateSpec.pre6 enc Tryz.prog Tryz.f5 Rows.lawDuplicateRow.domain false) (Rows.lawDuplicateSpec.post enc Tryz.prog Tryz.f5 false true false false) := by
  refine returnsInHanded_of_change (C := Tryz.checked) own started (by kernel_rfl) Tryz.func5
    (ChangeSpec.witness6 (enc := enc) (C := Tryz.checked) false ⟨#[], #[.agg #[.slice none 0 0, .slice none 0 0, .slice none 0 0], .int .i64 0], []⟩ 12 (by kernel_rfl) (by kernel_rfl) (by kernel_rfl) (by kernel_rfl)) ?_
  intro W base args ds gs before hval hW _ _
  exact contract H enc W base args ds gs before hval hW

theorem over : Rows.lawDuplicateRow.holds Tryz.pinned (OpenSpec.ofChange Rows.lawDuplicateSpec) :=
  OpenClaim.holds_of_wide 5 Tryz.f5 rfl rfl rfl rfl rfl rfl rfl ⟨rfl, rfl, rfl, rfl, rfl⟩ rfl rfl rfl rfl rfl (by kernel_rfl) Tryz.func5 (by kernel_rfl)
    (of_decide_eq_true (by kernel_rfl)) (by unfold Func.isWrapper; rw [if_neg (of_decide_eq_false (by kernel_rfl))]; exact ⟨rfl, rfl⟩)
    (fun os started H enc _ => lifted os started H enc)

/-- The statement. -/
theorem proved : Rows.LawDuplicateSaid := over
end Go.Proofs.YtjeeligfdpociaaGreat.lawDuplicate
