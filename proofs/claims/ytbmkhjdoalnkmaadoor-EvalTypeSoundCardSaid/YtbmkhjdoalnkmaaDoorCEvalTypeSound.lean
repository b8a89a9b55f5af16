/- EvalTypeSound: the statement, closed: the argument's reading by the form, the walk (by program) and the plain law together. Written by close.py. -/
import Derived.Test.YtbmkhjdoalnkmaaDoorRows
import Derived.Test.YtbmkhjdoalnkmaaDoorOpen
import Derived.Test.YtbmkhjdoalnkmaaDoorLaid
import Derived.Test.YtbmkhjdoalnkmaaDoorP13d
import Derived.WalkKit
import Derived.ProofKit
import Derived.OpenShut
import Derived.JoinedCond
import Derived.Test.YtbmkhjdoalnkmaaDoorCards
import Derived.Test.YtbmkhjdoalnkmaaDoorTie
import Derived.SevenTiedAt
namespace Go.Proofs.YtbmkhjdoalnkmaaDoor.evalTypeSound
open Go Go.RowKit Go.ChangeShapes Go.WideShapes Go.ChangeAt Go.Deep
set_option linter.unusedVariables false

theorem own : ownKnob Tryd.prog.godebug = none := by kernel_rfl
theorem laidOut : laidOutB Tryd.prog = true := by kernel_rfl
theorem O3 : Opens Tryd.prog 3 rInt := opens_int Tryd.underlying3
theorem O40 : Opens Tryd.prog 40 rType := opens_struct Tryd.underlying40 (by kernel_rfl) (opensF_cons rfl (by kernel_rfl) O3 (opensF_last rfl (by kernel_rfl) O3))
theorem O22 : Opens Tryd.prog 22 (.slice rType) := opens_slice Tryd.underlying22 (by kernel_rfl) O40
theorem O4 : Opens Tryd.prog 4 .bool := opens_bool Tryd.underlying4
theorem O53 : Opens Tryd.prog 53 rType := opens_struct Tryd.underlying53 (by kernel_rfl) (opensF_cons rfl (by kernel_rfl) O3 (opensF_last rfl (by kernel_rfl) O3))
theorem O25 : Opens Tryd.prog 25 (.slice rType) := opens_slice Tryd.underlying25 (by kernel_rfl) O53
theorem O80 : Opens Tryd.prog 80 rType := opens_struct Tryd.underlying80 (by kernel_rfl) (opensF_cons rfl (by kernel_rfl) O3 (opensF_last rfl (by kernel_rfl) O3))
theorem O82 : Opens Tryd.prog 82 rRow := opens_struct Tryd.underlying82 (by kernel_rfl) (opensF_cons rfl (by kernel_rfl) O80 (opensF_cons rfl (by kernel_rfl) O3 (opensF_cons rfl (by kernel_rfl) O3 (opensF_last rfl (by kernel_rfl) O3))))
theorem O54 : Opens Tryd.prog 54 (.slice rRow) := opens_slice Tryd.underlying54 (by kernel_rfl) O82
theorem O9 : Opens Tryd.prog 9 .str := opens_str Tryd.underlying9
theorem O56 : Opens Tryd.prog 56 rTable := opens_struct Tryd.underlying56 (by kernel_rfl) (opensF_cons rfl (by kernel_rfl) O9 (opensF_cons rfl (by kernel_rfl) O53 (opensF_cons rfl (by kernel_rfl) O53 (opensF_last rfl (by kernel_rfl) O54))))
theorem O26 : Opens Tryd.prog 26 (.slice rTable) := opens_slice Tryd.underlying26 (by kernel_rfl) O56
theorem O72 : Opens Tryd.prog 72 (.slice .str) := opens_slice Tryd.underlying72 (by kernel_rfl) O9
theorem O74 : Opens Tryd.prog 74 rEnum := opens_struct Tryd.underlying74 (by kernel_rfl) (opensF_cons rfl (by kernel_rfl) O9 (opensF_last rfl (by kernel_rfl) O72))
theorem O44 : Opens Tryd.prog 44 (.slice rEnum) := opens_slice Tryd.underlying44 (by kernel_rfl) O74
theorem O46 : Opens Tryd.prog 46 rSignature := opens_struct Tryd.underlying46 (by kernel_rfl) (opensF_cons rfl (by kernel_rfl) O44 (opensF_cons rfl (by kernel_rfl) O26 (opensF_cons rfl (by kernel_rfl) O25 (opensF_cons rfl (by kernel_rfl) O25 (opensF_cons rfl (by kernel_rfl) O25 (opensF_last rfl (by kernel_rfl) O4))))))
theorem O36 : Opens Tryd.prog 36 rValue := opens_struct Tryd.underlying36 (by kernel_rfl) (opensF_cons rfl (by kernel_rfl) O3 (opensF_cons rfl (by kernel_rfl) O3 (opensF_last rfl (by kernel_rfl) O3)))
theorem O23 : Opens Tryd.prog 23 (.slice rValue) := opens_slice Tryd.underlying23 (by kernel_rfl) O36
theorem O24 : Opens Tryd.prog 24 (.slice (.slice rValue)) := opens_slice Tryd.underlying24 (by kernel_rfl) O23
theorem O28 : Opens Tryd.prog 28 rEnv := opens_struct Tryd.underlying28 (by kernel_rfl) (opensF_cons rfl (by kernel_rfl) O3 (opensF_cons rfl (by kernel_rfl) O23 (opensF_cons rfl (by kernel_rfl) O23 (opensF_cons rfl (by kernel_rfl) O24 (opensF_cons rfl (by kernel_rfl) O25 (opensF_last rfl (by kernel_rfl) O26))))))
theorem rows : ∀ t ∈ Tryd.f4.params.toList, (Tryd.prog.readableRec t && Nat.blt t Tryd.prog.types.size) = true := by
  rw [Tryd.params4]
  simp only [List.forall_mem_cons]
  exact ⟨by kernel_rfl, by kernel_rfl, by kernel_rfl, fun _ h => absurd h (by simp)⟩

theorem g2 : Tryd.prog.globalNamed "guerdon/date.monthLengths" = some 2 := by kernel_rfl
theorem t2 : (Tryd.prog.globals[2]?).map (·.type) = some 137 := by kernel_rfl
theorem glob_ok {W : World} (h : laidMetH Tryd.prog Rows.evalTypeSoundRow.laid W) : GlobOK (fun b => b < W.heap.size) W := by
  rw [MakeChecks.laidMetH_plain _ _ _ (by kernel_rfl)] at h
  obtain ⟨ps, ⟨g0, t0, cs0, f0, p0, q0, hg0, ht0, hv0, hd0, _, _⟩, _, _⟩ := h
  obtain rfl := Option.some.inj (g2.symm.trans hg0)
  obtain rfl := Option.some.inj (t2.symm.trans ht0)
  have hcs0 : cs0.toList = ([31, 28, 31, 30, 31, 30, 31, 31, 30, 31, 30, 31] : List Int).map fun x => .int .i64 x := laid_ints Tryd.underlying137 Tryd.underlying3 (by kernel_rfl) (by kernel_rfl) hd0
  intro g d hg
  unfold globs at hg
  rw [find_cons] at hg
  split at hg
  · rename_i e
    subst e
    obtain rfl := Option.some.inj hg
    have hc : ∀ j, W.cell? ⟨2, j, none⟩ = (([31, 28, 31, 30, 31, 30, 31, 31, 30, 31, 30, 31] : List Int).map fun x => (.int .i64 x : Value))[j]? := fun j => by rw [World.var?_cell hg0 hv0 j, ← hcs0, Array.getElem?_toList]
    refine ⟨cell_lt (hc 0), _, ?_, fun j u hj => by rw [Nat.zero_add, hc j]; exact hj, ?_⟩
    · rfl
    · exact ⟨[_], _, rfl, rfl, ⟨[_], _, rfl, rfl, ⟨[_], _, rfl, rfl, ⟨[_], _, rfl, rfl, ⟨[_], _, rfl, rfl, ⟨[_], _, rfl, rfl, ⟨[_], _, rfl, rfl, ⟨[_], _, rfl, rfl, ⟨[_], _, rfl, rfl, ⟨[_], _, rfl, rfl, ⟨[_], _, rfl, rfl, rfl⟩⟩⟩⟩⟩⟩⟩⟩⟩⟩⟩
  · cases hg
theorem door_met (os : Os) (args : Array Value) : laidMetH Tryd.prog Rows.evalTypeSoundRow.laid ((World.doorLaid Tryd.prog 400 os).forCall (fun _ _ => 0) ⟨#[], args, []⟩).memory :=
  laidMetH_of_parts3 (fuel := 8) (laidMet_of_run' 8 (by kernel_rfl) (by kernel_rfl)) (by kernel_rfl) (by kernel_rfl)

set_option maxRecDepth 100000 in
theorem contract (H : Type) (enc : TypeId × Value → H) (W : World) (base : Nat) (args : Array Value) (ds gs : List (DataW H)) (before : List MemPlace)
    (hval : ∀ (j : Nat) t v, Tryd.f4.params[j]? = some t → args[j]? = some v → Value.okWide Tryd.prog W .any base t v)
    (hW : DataW.Whole enc Tryd.prog Tryd.f4.params.toList Rows.evalTypeSoundSpec.vars false W args.toList ds gs before) (hL : laidMetH Tryd.prog Rows.evalTypeSoundRow.laid W) :
    Calls Tryd.prog 4 args W fun e W' => ∃ v, e = .returned v ∧ Rows.evalTypeSoundSpec.post enc Tryd.prog Tryd.f4 false true false false W args v W' := by
  have hW' := hW
  have hlt : ∀ p ∈ before, p.block < W.heap.size := fun p hp => hW.lt p hp
  obtain ⟨p, q, hA0, hV, rfl, hfz, hnd⟩ := hW
  have hA : DataW.TrodAll enc Tryd.prog W 0 (fun _ => true) true Tryd.f4.params.toList args.toList ds p := hA0
  have hA1 := hA
  rw [Tryd.params4] at hA hval
  obtain ⟨v0, vs0, d0, ds0, p0, q0, hargs, rfl, rfl, h0, r0⟩ := trodAll_cons hA
  obtain ⟨v1, vs1, d1, ds1, p1, q1, rfl, rfl, rfl, h1, r1⟩ := trodAll_cons r0
  obtain ⟨v2, vs2, d2, ds2, p2, q2, rfl, rfl, rfl, h2, r2⟩ := trodAll_cons r1
  obtain ⟨rfl, rfl, rfl⟩ := trodAll_nil r2
  obtain rfl : args = #[v0, v1, v2] := by cases args; simp_all
  obtain ⟨rfl, rfl⟩ := trodVars_none hV
  clear hA0
  obtain ⟨x0, hr0, hw0, hb0⟩ := arg_slice Tryd.underlying22 O22 (hval 0 22 v0 rfl rfl) h0
  obtain ⟨es1, x1, rfl, hr1, hw1, hb1⟩ := arg_struct Tryd.underlying46 O46 (hval 1 46 v1 rfl rfl) h1
  obtain ⟨es2, x2, rfl, hr2, hw2, hb2⟩ := arg_struct Tryd.underlying28 O28 (hval 2 28 v2 rfl rfl) h2
  refine (law_calls (x := (x0, x1, x2)) (W4 big) (L.EvalTypeSound_true x0 x1 x2 hw0 hw1 hw2) rfl (.cons (argv_slice hr0) (.cons (argv_struct hr1) (.cons (argv_struct hr2) .nil))) rfl (glob_ok hL)).mono fun e W' ⟨he, hs⟩ => ?_
  subst he
  exact ⟨_, rfl, post_of_below (pv := []) hW' (fun _ _ _ => trodAll_cons_mk (shut_bool Tryd.underlying4 _) trodAll_mk0)
    (fun sp hsp => trodAll_stays laidOut hs _ _ _ _ rows hA1 (fun x hx => hlt x (by simpa using hx)) (fun x hx => hsp x (by simpa using hx))) (fun _ _ => rfl) rfl hs
    (ok_one (by kernel_rfl) rfl (okWide_bool_mk Tryd.underlying4 _))⟩

set_option maxRecDepth 100000 in
theorem lifted (os : Os) (started : os.Started) (H : Type) (enc : TypeId × Value → H) :
    ReturnsInHanded {} Tryd.checked os 4 .any (fun w args => (Rows.evalTypeSoundSpec.pre enc Tryd.prog Tryd.f4 Rows.evalTypeSoundRow.domain false w args ∧ laidMetH Tryd.prog Rows.evalTypeSoundRow.laid w) ∧ sizedMet enc Tryd.prog Tryd.f4 (OpenSpec.ofChange Rows.evalTypeSoundSpec) false w args)
      (Rows.evalTypeSoundSpec.post enc Tryd.prog Tryd.f4 false true false false) := by
  refine returnsInHanded_of_change_and (C := Tryd.checked) (X := fun w _ => laidMetH Tryd.prog Rows.evalTypeSoundRow.laid w) (fun _ _ _ hh h => h.of_heap hh) own started (by kernel_rfl) Tryd.func4
    (ChangeSpec.witness_shaped (enc := enc) (C := Tryd.checked) (os := os) (X := fun w _ => laidMetH Tryd.prog Rows.evalTypeSoundRow.laid w) false (World.doorLaid Tryd.prog 400 os) #[.slice none 0 0, .agg #[.slice none 0 0, .slice none 0 0, .slice none 0 0, .slice none 0 0, .slice none 0 0, .bool false], .agg #[.int .i64 0, .slice none 0 0, .slice none 0 0, .slice none 0 0, .slice none 0 0, .slice none 0 0]] 12 rfl (World.shaped_of_RefB (by kernel_rfl) (by kernel_rfl)) (by kernel_rfl) (by kernel_rfl) (by kernel_rfl) (door_met os _)) ?_
  intro W base args ds gs before hval hW _ _ hL _
  exact contract H enc W base args ds gs before hval hW hL

theorem over : Rows.evalTypeSoundRow.holds Tryd.pinned (OpenSpec.ofChange Rows.evalTypeSoundSpec) :=
  OpenClaim.holds_of_wide 4 Tryd.f4 rfl rfl rfl rfl rfl rfl rfl ⟨rfl, rfl, rfl, rfl, rfl⟩ rfl rfl rfl rfl rfl (by kernel_rfl) Tryd.func4 (by kernel_rfl)
    (of_decide_eq_true (by kernel_rfl)) (by unfold Func.isWrapper; rw [if_neg (of_decide_eq_false (by kernel_rfl))]; exact ⟨rfl, rfl⟩)
    (fun os started H enc _ => lifted os started H enc)

theorem card_proved : Rows.EvalTypeSoundCardSaid :=
  Claim7.holds_tied_plain_at .later [] [.data] true (true, "8f9ebe615b8ecb1b4b357dc5a75ba293bb2b34ea53dfe675ee6fba84296ae254") false
    over (fun _ h => by cases h) (by kernel_rfl) (fun _ h => by cases h) evalTypeSound_row_tie rfl ⟨rfl, rfl⟩ (by kernel_rfl) rfl
    (fun f fn hf hfn => by
      obtain rfl : f = 4 := Option.some.inj ((show Tryd.prog.funcNamed "guerdon/guerdonlaw13.EvalTypeSound" = some 4 by kernel_rfl).symm.trans hf) |>.symm
      obtain rfl : fn = Tryd.f4 := (Option.some.inj (Tryd.func4.symm.trans hfn)).symm
      exact ⟨by kernel_rfl, fun j t ht => by
        rw [Tryd.params4] at ht
        have hm : t ∈ [22, 46, 28] := by simpa using Array.mem_of_getElem? ht
        have hall : ([22, 46, 28].all fun u => !Tryd.prog.wantsStandIn u) = true := by kernel_rfl
        exact (show Tryd.prog.wantsStandIn t = false by simpa using List.all_eq_true.1 hall t hm)⟩)
    (by kernel_rfl)

/-- The statement. -/
theorem proved : Rows.EvalTypeSoundCardSaid := card_proved
end Go.Proofs.YtbmkhjdoalnkmaaDoor.evalTypeSound
