/- VmAgrees: the statement, closed: the argument's reading by the form, the walk (by program) and the plain law together. Written by close.py. -/
import Derived.Test.YtomgmnkalommeaaGreatDoorRows
import Derived.Test.YtomgmnkalommeaaGreatDoorOpen
import Derived.Test.YtomgmnkalommeaaGreatDoorLaid
import Derived.Test.YtomgmnkalommeaaGreatDoorP27c
import Derived.WalkKit
import Derived.ProofKit
import Derived.OpenShut
import Derived.JoinedCond
import Derived.Test.YtomgmnkalommeaaGreatDoorCards
import Derived.Test.YtomgmnkalommeaaGreatDoorTie
import Derived.SevenTiedAt
namespace Go.Proofs.YtomgmnkalommeaaGreatDoor.vmAgrees
open Go Go.RowKit Go.ChangeShapes Go.WideShapes Go.ChangeAt Go.Deep
set_option linter.unusedVariables false

theorem own : ownKnob Tryz.prog.godebug = none := by kernel_rfl
theorem laidOut : laidOutB Tryz.prog = true := by kernel_rfl
theorem O3 : Opens Tryz.prog 3 rInt := opens_int Tryz.underlying3
theorem O62 : Opens Tryz.prog 62 rType := opens_struct Tryz.underlying62 (by kernel_rfl) (opensF_cons rfl (by kernel_rfl) O3 (opensF_last rfl (by kernel_rfl) O3))
theorem O22 : Opens Tryz.prog 22 (.slice rType) := opens_slice Tryz.underlying22 (by kernel_rfl) O62
theorem O4 : Opens Tryz.prog 4 .bool := opens_bool Tryz.underlying4
theorem O41 : Opens Tryz.prog 41 rType := opens_struct Tryz.underlying41 (by kernel_rfl) (opensF_cons rfl (by kernel_rfl) O3 (opensF_last rfl (by kernel_rfl) O3))
theorem O25 : Opens Tryz.prog 25 (.slice rType) := opens_slice Tryz.underlying25 (by kernel_rfl) O41
theorem O66 : Opens Tryz.prog 66 rType := opens_struct Tryz.underlying66 (by kernel_rfl) (opensF_cons rfl (by kernel_rfl) O3 (opensF_last rfl (by kernel_rfl) O3))
theorem O68 : Opens Tryz.prog 68 rRow := opens_struct Tryz.underlying68 (by kernel_rfl) (opensF_cons rfl (by kernel_rfl) O66 (opensF_cons rfl (by kernel_rfl) O3 (opensF_cons rfl (by kernel_rfl) O3 (opensF_last rfl (by kernel_rfl) O3))))
theorem O42 : Opens Tryz.prog 42 (.slice rRow) := opens_slice Tryz.underlying42 (by kernel_rfl) O68
theorem O9 : Opens Tryz.prog 9 .str := opens_str Tryz.underlying9
theorem O44 : Opens Tryz.prog 44 rTable := opens_struct Tryz.underlying44 (by kernel_rfl) (opensF_cons rfl (by kernel_rfl) O9 (opensF_cons rfl (by kernel_rfl) O41 (opensF_cons rfl (by kernel_rfl) O41 (opensF_last rfl (by kernel_rfl) O42))))
theorem O24 : Opens Tryz.prog 24 (.slice rTable) := opens_slice Tryz.underlying24 (by kernel_rfl) O44
theorem O56 : Opens Tryz.prog 56 (.slice .str) := opens_slice Tryz.underlying56 (by kernel_rfl) O9
theorem O58 : Opens Tryz.prog 58 rEnum := opens_struct Tryz.underlying58 (by kernel_rfl) (opensF_cons rfl (by kernel_rfl) O9 (opensF_last rfl (by kernel_rfl) O56))
theorem O23 : Opens Tryz.prog 23 (.slice rEnum) := opens_slice Tryz.underlying23 (by kernel_rfl) O58
theorem O27 : Opens Tryz.prog 27 rSignature := opens_struct Tryz.underlying27 (by kernel_rfl) (opensF_cons rfl (by kernel_rfl) O23 (opensF_cons rfl (by kernel_rfl) O24 (opensF_cons rfl (by kernel_rfl) O25 (opensF_cons rfl (by kernel_rfl) O25 (opensF_cons rfl (by kernel_rfl) O25 (opensF_last rfl (by kernel_rfl) O4))))))
theorem O50 : Opens Tryz.prog 50 rValue := opens_struct Tryz.underlying50 (by kernel_rfl) (opensF_cons rfl (by kernel_rfl) O3 (opensF_cons rfl (by kernel_rfl) O3 (opensF_last rfl (by kernel_rfl) O3)))
theorem O28 : Opens Tryz.prog 28 (.slice rValue) := opens_slice Tryz.underlying28 (by kernel_rfl) O50
theorem O29 : Opens Tryz.prog 29 (.slice (.slice rValue)) := opens_slice Tryz.underlying29 (by kernel_rfl) O28
theorem O31 : Opens Tryz.prog 31 rEnv := opens_struct Tryz.underlying31 (by kernel_rfl) (opensF_cons rfl (by kernel_rfl) O3 (opensF_cons rfl (by kernel_rfl) O28 (opensF_cons rfl (by kernel_rfl) O28 (opensF_cons rfl (by kernel_rfl) O29 (opensF_cons rfl (by kernel_rfl) O25 (opensF_last rfl (by kernel_rfl) O24))))))
theorem rows : ∀ t ∈ Tryz.f3.params.toList, (Tryz.prog.readableRec t && Nat.blt t Tryz.prog.types.size) = true := by
  rw [Tryz.params3]
  simp only [List.forall_mem_cons]
  exact ⟨by kernel_rfl, by kernel_rfl, by kernel_rfl, fun _ h => absurd h (by simp)⟩

theorem g2 : Tryz.prog.globalNamed "guerdon/date.monthLengths" = some 2 := by kernel_rfl
theorem t2 : (Tryz.prog.globals[2]?).map (·.type) = some 147 := by kernel_rfl
theorem glob_ok {W : World} (h : laidMetH Tryz.prog Rows.vmAgreesRow.laid W) : GlobOK (fun b => b < W.heap.size) W := by
  rw [MakeChecks.laidMetH_plain _ _ _ (by kernel_rfl)] at h
  obtain ⟨ps, ⟨g0, t0, cs0, f0, p0, q0, hg0, ht0, hv0, hd0, _, _⟩, _, _⟩ := h
  obtain rfl := Option.some.inj (g2.symm.trans hg0)
  obtain rfl := Option.some.inj (t2.symm.trans ht0)
  have hcs0 : cs0.toList = ([31, 28, 31, 30, 31, 30, 31, 31, 30, 31, 30, 31] : List Int).map fun x => .int .i64 x := laid_ints Tryz.underlying147 Tryz.underlying3 (by kernel_rfl) (by kernel_rfl) hd0
  intro g d hg
  unfold globs at hg
  rw [find_cons] at hg
  split at hg
  · rename_i e
    subst e
    obtain rfl := Option.some.inj hg
    have hc : ∀ j, W.cell? ⟨2, j, none⟩ = (([31, 28, 31, 30, 31, 30, 31, 31, 30, 31, 30, 31] : List Int).map fun x => (.int .i64 x : Value))[j]? := fun j => by rw [World.var?_cell hg0 hv0 j, ← hcs0, Array.getElem?_toList]
    refine ⟨cell_lt (hc 0), _, ?_, fun j u hj => by rw [Nat.zero_add, hc j]; exact hj, ?_⟩
    · rfl
    · exact ⟨[_], _, rfl, rfl, ⟨[_], _, rfl, rfl, ⟨[_], _, rfl, rfl, ⟨[_], _, rfl, rfl, ⟨[_], _, rfl, rfl, ⟨[_], _, rfl, rfl, ⟨[_], _, rfl, rfl, ⟨[_], _, rfl, rfl, ⟨[_], _, rfl, rfl, ⟨[_], _, rfl, rfl, ⟨[_], _, rfl, rfl, rfl⟩⟩⟩⟩⟩⟩⟩⟩⟩⟩⟩
  · cases hg
theorem door_met (os : Os) (args : Array Value) : laidMetH Tryz.prog Rows.vmAgreesRow.laid ((World.doorLaid Tryz.prog 400 os).forCall (fun _ _ => 0) ⟨#[], args, []⟩).memory :=
  laidMetH_of_parts3 (fuel := 8) (laidMet_of_run' 8 (by kernel_rfl) (by kernel_rfl)) (by kernel_rfl) (by kernel_rfl)

set_option maxRecDepth 100000 in
theorem contract (H : Type) (enc : TypeId × Value → H) (W : World) (base : Nat) (args : Array Value) (ds gs : List (DataW H)) (before : List MemPlace)
    (hval : ∀ (j : Nat) t v, Tryz.f3.params[j]? = some t → args[j]? = some v → Value.okWide Tryz.prog W .any base t v)
    (hW : DataW.Whole enc Tryz.prog Tryz.f3.params.toList Rows.vmAgreesSpec.vars false W args.toList ds gs before) (hL : laidMetH Tryz.prog Rows.vmAgreesRow.laid W) :
    Calls Tryz.prog 3 args W fun e W' => ∃ v, e = .returned v ∧ Rows.vmAgreesSpec.post enc Tryz.prog Tryz.f3 false true false false W args v W' := by
  have hW' := hW
  have hlt : ∀ p ∈ before, p.block < W.heap.size := fun p hp => hW.lt p hp
  obtain ⟨p, q, hA0, hV, rfl, hfz, hnd⟩ := hW
  have hA : DataW.TrodAll enc Tryz.prog W 0 (fun _ => true) true Tryz.f3.params.toList args.toList ds p := hA0
  have hA1 := hA
  rw [Tryz.params3] at hA hval
  obtain ⟨v0, vs0, d0, ds0, p0, q0, hargs, rfl, rfl, h0, r0⟩ := trodAll_cons hA
  obtain ⟨v1, vs1, d1, ds1, p1, q1, rfl, rfl, rfl, h1, r1⟩ := trodAll_cons r0
  obtain ⟨v2, vs2, d2, ds2, p2, q2, rfl, rfl, rfl, h2, r2⟩ := trodAll_cons r1
  obtain ⟨rfl, rfl, rfl⟩ := trodAll_nil r2
  obtain rfl : args = #[v0, v1, v2] := by cases args; simp_all
  obtain ⟨rfl, rfl⟩ := trodVars_none hV
  clear hA0
  obtain ⟨x0, hr0, hw0, hb0⟩ := arg_slice Tryz.underlying22 O22 (hval 0 22 v0 rfl rfl) h0
  obtain ⟨es1, x1, rfl, hr1, hw1, hb1⟩ := arg_struct Tryz.underlying27 O27 (hval 1 27 v1 rfl rfl) h1
  obtain ⟨es2, x2, rfl, hr2, hw2, hb2⟩ := arg_struct Tryz.underlying31 O31 (hval 2 31 v2 rfl rfl) h2
  refine (law_calls (x := (x0, x1, x2)) (W3 big) (L.VmAgrees_true x0 x1 x2 hw0 hw1 hw2) rfl (.cons (argv_slice hr0) (.cons (argv_struct hr1) (.cons (argv_struct hr2) .nil))) rfl (glob_ok hL)).mono fun e W' ⟨he, hs⟩ => ?_
  subst he
  exact ⟨_, rfl, post_of_below (pv := []) hW' (fun _ _ _ => trodAll_cons_mk (shut_bool Tryz.underlying4 _) trodAll_mk0)
    (fun sp hsp => trodAll_stays laidOut hs _ _ _ _ rows hA1 (fun x hx => hlt x (by simpa using hx)) (fun x hx => hsp x (by simpa using hx))) (fun _ _ => rfl) rfl hs
    (ok_one (by kernel_rfl) rfl (okWide_bool_mk Tryz.underlying4 _))⟩

set_option maxRecDepth 100000 in
theorem lifted (os : Os) (started : os.Started) (H : Type) (enc : TypeId × Value → H) :
    ReturnsInHanded {} Tryz.checked os 3 .any (fun w args => (Rows.vmAgreesSpec.pre enc Tryz.prog Tryz.f3 Rows.vmAgreesRow.domain false w args ∧ laidMetH Tryz.prog Rows.vmAgreesRow.laid w) ∧ sizedMet enc Tryz.prog Tryz.f3 (OpenSpec.ofChange Rows.vmAgreesSpec) false w args)
      (Rows.vmAgreesSpec.post enc Tryz.prog Tryz.f3 false true false false) := by
  refine returnsInHanded_of_change_and (C := Tryz.checked) (X := fun w _ => laidMetH Tryz.prog Rows.vmAgreesRow.laid w) (fun _ _ _ hh h => h.of_heap hh) own started (by kernel_rfl) Tryz.func3
    (ChangeSpec.witness_shaped (enc := enc) (C := Tryz.checked) (os := os) (X := fun w _ => laidMetH Tryz.prog Rows.vmAgreesRow.laid w) false (World.doorLaid Tryz.prog 400 os) #[.slice none 0 0, .agg #[.slice none 0 0, .slice none 0 0, .slice none 0 0, .slice none 0 0, .slice none 0 0, .bool false], .agg #[.int .i64 0, .slice none 0 0, .slice none 0 0, .slice none 0 0, .slice none 0 0, .slice none 0 0]] 12 rfl (World.shaped_of_RefB (by kernel_rfl) (by kernel_rfl)) (by kernel_rfl) (by kernel_rfl) (by kernel_rfl) (door_met os _)) ?_
  intro W base args ds gs before hval hW _ _ hL _
  exact contract H enc W base args ds gs before hval hW hL

theorem over : Rows.vmAgreesRow.holds Tryz.pinned (OpenSpec.ofChange Rows.vmAgreesSpec) :=
  OpenClaim.holds_of_wide 3 Tryz.f3 rfl rfl rfl rfl rfl rfl rfl ⟨rfl, rfl, rfl, rfl, rfl⟩ rfl rfl rfl rfl rfl (by kernel_rfl) Tryz.func3 (by kernel_rfl)
    (of_decide_eq_true (by kernel_rfl)) (by unfold Func.isWrapper; rw [if_neg (of_decide_eq_false (by kernel_rfl))]; exact ⟨rfl, rfl⟩)
    (fun os started H enc _ => lifted os started H enc)

theorem card_proved : Rows.VmAgreesCardSaid :=
  Claim7.holds_tied_plain_at .later [] [.data] true (true, "fd28de05c62e76a0a6e53357171f4b82717cdf0d20b8d071f9c37aab1ec09b96") false
    over (fun _ h => by cases h) (by kernel_rfl) (fun _ h => by cases h) vmAgrees_row_tie rfl ⟨rfl, rfl⟩ (by kernel_rfl) rfl
    (fun f fn hf hfn => by
      obtain rfl : f = 3 := Option.some.inj ((show Tryz.prog.funcNamed "guerdon/guerdonlaw27.VmAgrees" = some 3 by kernel_rfl).symm.trans hf) |>.symm
      obtain rfl : fn = Tryz.f3 := (Option.some.inj (Tryz.func3.symm.trans hfn)).symm
      exact ⟨by kernel_rfl, fun j t ht => by
        rw [Tryz.params3] at ht
        have hm : t ∈ [22, 27, 31] := by simpa using Array.mem_of_getElem? ht
        have hall : ([22, 27, 31].all fun u => !Tryz.prog.wantsStandIn u) = true := by kernel_rfl
        exact (show Tryz.prog.wantsStandIn t = false by simpa using List.all_eq_true.1 hall t hm)⟩)
    (by kernel_rfl)

/-- The statement. -/
theorem proved : Rows.VmAgreesCardSaid := card_proved
end Go.Proofs.YtomgmnkalommeaaGreatDoor.vmAgrees
