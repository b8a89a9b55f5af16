/- HouseholdKnown: the statement, closed: the argument's reading by the form, the walk (by program) and the plain law together. Written by close.py. -/
import Derived.Test.YtdpikadpkgkhkaaGreatRows
import Derived.Test.YtdpikadpkgkhkaaGreatOpen
import Derived.Test.YtdpikadpkgkhkaaGreatLaw
import Derived.Test.YtdpikadpkgkhkaaGreatHD
import Derived.WalkKit
import Derived.ProofKit
import Derived.OpenShut
import Derived.JoinedCond
namespace Go.Proofs.YtdpikadpkgkhkaaGreat.householdKnown
open Go Go.RowKit Go.ChangeShapes Go.WideShapes Go.ChangeAt Go.Deep
set_option linter.unusedVariables false

theorem own : ownKnob Tryz.prog.godebug = none := by kernel_rfl
theorem laidOut : laidOutB Tryz.prog = true := by kernel_rfl
theorem O9 : Opens Tryz.prog 9 .str := opens_str Tryz.underlying9
theorem O3 : Opens Tryz.prog 3 rInt := opens_int Tryz.underlying3
theorem O74 : Opens Tryz.prog 74 rType := opens_struct Tryz.underlying74 (by kernel_rfl) (opensF_cons rfl (by kernel_rfl) O3 (opensF_last rfl (by kernel_rfl) O3))
theorem O75 : Opens Tryz.prog 75 (.slice rType) := opens_slice Tryz.underlying75 (by kernel_rfl) O74
theorem O53 : Opens Tryz.prog 53 rType := opens_struct Tryz.underlying53 (by kernel_rfl) (opensF_cons rfl (by kernel_rfl) O3 (opensF_last rfl (by kernel_rfl) O3))
theorem O97 : Opens Tryz.prog 97 rRule := opens_struct Tryz.underlying97 (by kernel_rfl) (opensF_cons rfl (by kernel_rfl) O9 (opensF_cons rfl (by kernel_rfl) O3 (opensF_cons rfl (by kernel_rfl) O3 (opensF_cons rfl (by kernel_rfl) O3 (opensF_cons rfl (by kernel_rfl) O53 (opensF_cons rfl (by kernel_rfl) O75 (opensF_cons rfl (by kernel_rfl) O75 (opensF_last rfl (by kernel_rfl) O9))))))))
theorem O68 : Opens Tryz.prog 68 (.slice rRule) := opens_slice Tryz.underlying68 (by kernel_rfl) O97
theorem O63 : Opens Tryz.prog 63 rType := opens_struct Tryz.underlying63 (by kernel_rfl) (opensF_cons rfl (by kernel_rfl) O3 (opensF_last rfl (by kernel_rfl) O3))
theorem O80 : Opens Tryz.prog 80 rField := opens_struct Tryz.underlying80 (by kernel_rfl) (opensF_cons rfl (by kernel_rfl) O9 (opensF_last rfl (by kernel_rfl) O63))
theorem O67 : Opens Tryz.prog 67 (.slice rField) := opens_slice Tryz.underlying67 (by kernel_rfl) O80
theorem O70 : Opens Tryz.prog 70 rScope := opens_struct Tryz.underlying70 (by kernel_rfl) (opensF_cons rfl (by kernel_rfl) O9 (opensF_cons rfl (by kernel_rfl) O3 (opensF_cons rfl (by kernel_rfl) O67 (opensF_cons rfl (by kernel_rfl) O67 (opensF_last rfl (by kernel_rfl) O68)))))
theorem O24 : Opens Tryz.prog 24 (.slice rScope) := opens_slice Tryz.underlying24 (by kernel_rfl) O70
theorem O118 : Opens Tryz.prog 118 rRow := opens_struct Tryz.underlying118 (by kernel_rfl) (opensF_cons rfl (by kernel_rfl) O53 (opensF_cons rfl (by kernel_rfl) O3 (opensF_cons rfl (by kernel_rfl) O3 (opensF_last rfl (by kernel_rfl) O3))))
theorem O64 : Opens Tryz.prog 64 (.slice rRow) := opens_slice Tryz.underlying64 (by kernel_rfl) O118
theorem O66 : Opens Tryz.prog 66 rTable := opens_struct Tryz.underlying66 (by kernel_rfl) (opensF_cons rfl (by kernel_rfl) O9 (opensF_cons rfl (by kernel_rfl) O63 (opensF_cons rfl (by kernel_rfl) O63 (opensF_last rfl (by kernel_rfl) O64))))
theorem O23 : Opens Tryz.prog 23 (.slice rTable) := opens_slice Tryz.underlying23 (by kernel_rfl) O66
theorem O59 : Opens Tryz.prog 59 (.slice .str) := opens_slice Tryz.underlying59 (by kernel_rfl) O9
theorem O61 : Opens Tryz.prog 61 rEnum := opens_struct Tryz.underlying61 (by kernel_rfl) (opensF_cons rfl (by kernel_rfl) O9 (opensF_last rfl (by kernel_rfl) O59))
theorem O22 : Opens Tryz.prog 22 (.slice rEnum) := opens_slice Tryz.underlying22 (by kernel_rfl) O61
theorem O26 : Opens Tryz.prog 26 rLaw := opens_struct Tryz.underlying26 (by kernel_rfl) (opensF_cons rfl (by kernel_rfl) O22 (opensF_cons rfl (by kernel_rfl) O23 (opensF_last rfl (by kernel_rfl) O24)))
theorem O51 : Opens Tryz.prog 51 rValue := opens_struct Tryz.underlying51 (by kernel_rfl) (opensF_cons rfl (by kernel_rfl) O3 (opensF_cons rfl (by kernel_rfl) O3 (opensF_last rfl (by kernel_rfl) O3)))
theorem O55 : Opens Tryz.prog 55 rFact := opens_struct Tryz.underlying55 (by kernel_rfl) (opensF_cons rfl (by kernel_rfl) O3 (opensF_cons rfl (by kernel_rfl) O3 (opensF_cons rfl (by kernel_rfl) O3 (opensF_cons rfl (by kernel_rfl) O51 (opensF_cons rfl (by kernel_rfl) O53 (opensF_last rfl (by kernel_rfl) O3))))))
theorem O27 : Opens Tryz.prog 27 (.slice rFact) := opens_slice Tryz.underlying27 (by kernel_rfl) O55
theorem O29 : Opens Tryz.prog 29 rHousehold := opens_struct Tryz.underlying29 (by kernel_rfl) (opensF_cons rfl (by kernel_rfl) O3 (opensF_cons rfl (by kernel_rfl) O3 (opensF_cons rfl (by kernel_rfl) O3 (opensF_last rfl (by kernel_rfl) O27))))
theorem rows : ∀ t ∈ Tryz.f7.params.toList, (Tryz.prog.readableRec t && Nat.blt t Tryz.prog.types.size) = true := by
  rw [Tryz.params7]
  simp only [List.forall_mem_cons]
  exact ⟨by kernel_rfl, by kernel_rfl, by kernel_rfl, by kernel_rfl, fun _ h => absurd h (by simp)⟩

theorem arg_str {P : Program} {H : Type} {enc : TypeId × Value → H} {w : World} {base : Nat} {spare : Nat → Bool} {held : Bool} {v : Value} {d : DataW H} {ps : List MemPlace} {t : TypeId} (ht : P.underlying t = some .string) (hv : Value.okWide P w .any base t v) (h : DataW.Trod enc P w 0 spare held t v d ps) : ∃ s : ByteArray, v = .string s ∧ WF .str s ∧ bulk .str s ≤ Rows.uptoBulk d := by
  obtain ⟨s, rfl⟩ := okWide_string ht hv
  obtain ⟨fuel, hf⟩ := h
  obtain ⟨y, h1, h2, h3⟩ := opens_str ht H enc w spare held fuel _ _ hf
  obtain rfl : y = s := by
    have h1 : [Value.string s] = [Value.string y] := h1
    cases h1
    rfl
  exact ⟨y, rfl, h2, h3⟩

set_option maxRecDepth 100000 in
theorem contract (H : Type) (enc : TypeId × Value → H) (W : World) (base : Nat) (args : Array Value) (ds gs : List (DataW H)) (before : List MemPlace)
    (hval : ∀ (j : Nat) t v, Tryz.f7.params[j]? = some t → args[j]? = some v → Value.okWide Tryz.prog W .any base t v)
    (hW : DataW.Whole enc Tryz.prog Tryz.f7.params.toList Rows.householdKnownSpec.vars false W args.toList ds gs before) :
    Calls Tryz.prog 7 args W fun e W' => ∃ v, e = .returned v ∧ Rows.householdKnownSpec.post enc Tryz.prog Tryz.f7 false true false false W args v W' := by
  have hW' := hW
  have hlt : ∀ p ∈ before, p.block < W.heap.size := fun p hp => hW.lt p hp
  obtain ⟨p, q, hA0, hV, rfl, hfz, hnd⟩ := hW
  have hA : DataW.TrodAll enc Tryz.prog W 0 (fun _ => true) true Tryz.f7.params.toList args.toList ds p := hA0
  have hA1 := hA
  rw [Tryz.params7] at hA hval
  obtain ⟨v0, vs0, d0, ds0, p0, q0, hargs, rfl, rfl, h0, r0⟩ := trodAll_cons hA
  obtain ⟨v1, vs1, d1, ds1, p1, q1, rfl, rfl, rfl, h1, r1⟩ := trodAll_cons r0
  obtain ⟨v2, vs2, d2, ds2, p2, q2, rfl, rfl, rfl, h2, r2⟩ := trodAll_cons r1
  obtain ⟨v3, vs3, d3, ds3, p3, q3, rfl, rfl, rfl, h3, r3⟩ := trodAll_cons r2
  obtain ⟨rfl, rfl, rfl⟩ := trodAll_nil r3
  obtain rfl : args = #[v0, v1, v2, v3] := by cases args; simp_all
  obtain ⟨rfl, rfl⟩ := trodVars_none hV
  clear hA0
  obtain ⟨es0, x0, rfl, hr0, hw0, hb0⟩ := arg_struct Tryz.underlying26 O26 (hval 0 26 v0 rfl rfl) h0
  obtain ⟨es1, x1, rfl, hr1, hw1, hb1⟩ := arg_struct Tryz.underlying29 O29 (hval 1 29 v1 rfl rfl) h1
  obtain ⟨x2, rfl, hw2, hb2⟩ := arg_int Tryz.underlying3 (hval 2 3 v2 rfl rfl) h2
  obtain ⟨x3, rfl, hw3, hb3⟩ := arg_int Tryz.underlying3 (hval 3 3 v3 rfl rfl) h3
  refine (law_calls (x := (x0, x1, x2, x3)) (W7 big) (L.HouseholdKnown_true x0 x1 x2 x3 hw0 hw1 hw2 hw3) rfl (.cons (argv_struct hr0) (.cons (argv_struct hr1) (.cons (argv_int _ _ _ x2) (.cons (argv_int _ _ _ x3) .nil)))) rfl (fun _ _ h => by cases h)).mono fun e W' ⟨he, hs⟩ => ?_
  subst he
  exact ⟨_, rfl, post_of_below (pv := []) hW' (fun _ _ _ => trodAll_cons_mk (shut_bool Tryz.underlying4 _) trodAll_mk0)
    (fun sp hsp => trodAll_stays laidOut hs _ _ _ _ rows hA1 (fun x hx => hlt x (by simpa using hx)) (fun x hx => hsp x (by simpa using hx))) (fun _ _ => rfl) rfl hs
    (ok_one (by kernel_rfl) rfl (okWide_bool_mk Tryz.underlying4 _))⟩

set_option maxRecDepth 100000 in
theorem lifted (os : Os) (started : os.Started) (H : Type) (enc : TypeId × Value → H) :
    ReturnsInHanded {} Tryz.checked os 7 .any (Rows.householdKnownSpec.pre6 enc Tryz.prog Tryz.f7 Rows.householdKnownRow.domain false) (Rows.householdKnownSpec.post enc Tryz.prog Tryz.f7 false true false false) := by
  refine returnsInHanded_of_change (C := Tryz.checked) own started (by kernel_rfl) Tryz.func7
    (ChangeSpec.witness6 (enc := enc) (C := Tryz.checked) false ⟨#[], #[.agg #[.slice none 0 0, .slice none 0 0, .slice none 0 0], .agg #[.int .i64 0, .int .i64 0, .int .i64 0, .slice none 0 0], .int .i64 0, .int .i64 0], []⟩ 12 (by kernel_rfl) (by kernel_rfl) (by kernel_rfl) (by kernel_rfl)) ?_
  intro W base args ds gs before hval hW _ _
  exact contract H enc W base args ds gs before hval hW

theorem over : Rows.householdKnownRow.holds Tryz.pinned (OpenSpec.ofChange Rows.householdKnownSpec) :=
  OpenClaim.holds_of_wide 7 Tryz.f7 rfl rfl rfl rfl rfl rfl rfl ⟨rfl, rfl, rfl, rfl, rfl⟩ rfl rfl rfl rfl rfl (by kernel_rfl) Tryz.func7 (by kernel_rfl)
    (of_decide_eq_true (by kernel_rfl)) (by unfold Func.isWrapper; rw [if_neg (of_decide_eq_false (by kernel_rfl))]; exact ⟨rfl, rfl⟩)
    (fun os started H enc _ => lifted os started H enc)

/-- The statement. -/
theorem proved : Rows.HouseholdKnownSaid := over
end Go.Proofs.YtdpikadpkgkhkaaGreat.householdKnown
