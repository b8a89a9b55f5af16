/- PeepholePreserves: the statement, closed: the argument's reading by the form, the walk (by program) and the plain law together. Written by close.py. -/
import Derived.Test.YtpgggmcpflgniaaDoorRows
import Derived.Test.YtpgggmcpflgniaaDoorOpen
import Derived.Test.YtpgggmcpflgniaaDoorLaid
import Derived.Test.YtpgggmcpflgniaaDoorP28
import Derived.WalkKit
import Derived.ProofKit
import Derived.OpenShut
import Derived.JoinedCond
import Derived.Test.YtpgggmcpflgniaaDoorCards
import Derived.Test.YtpgggmcpflgniaaDoorTie
import Derived.SevenTiedAt
namespace Go.Proofs.YtpgggmcpflgniaaDoor.peepholePreserves
open Go Go.RowKit Go.ChangeShapes Go.WideShapes Go.ChangeAt Go.Deep
set_option linter.unusedVariables false

theorem own : ownKnob Tryd.prog.godebug = none := by kernel_rfl
theorem laidOut : laidOutB Tryd.prog = true := by kernel_rfl
theorem O3 : Opens Tryd.prog 3 rInt := opens_int Tryd.underlying3
theorem O39 : Opens Tryd.prog 39 rNode := opens_struct Tryd.underlying39 (by kernel_rfl) (opensF_cons rfl (by kernel_rfl) O3 (opensF_last rfl (by kernel_rfl) O3))
theorem O22 : Opens Tryd.prog 22 (.slice rNode) := opens_slice Tryd.underlying22 (by kernel_rfl) O39
theorem O84 : Opens Tryd.prog 84 rNode := opens_struct Tryd.underlying84 (by kernel_rfl) (opensF_cons rfl (by kernel_rfl) O3 (opensF_last rfl (by kernel_rfl) O3))
theorem O86 : Opens Tryd.prog 86 rRow := opens_struct Tryd.underlying86 (by kernel_rfl) (opensF_cons rfl (by kernel_rfl) O84 (opensF_cons rfl (by kernel_rfl) O3 (opensF_cons rfl (by kernel_rfl) O3 (opensF_last rfl (by kernel_rfl) O3))))
theorem O72 : Opens Tryd.prog 72 (.slice rRow) := opens_slice Tryd.underlying72 (by kernel_rfl) O86
theorem O71 : Opens Tryd.prog 71 rNode := opens_struct Tryd.underlying71 (by kernel_rfl) (opensF_cons rfl (by kernel_rfl) O3 (opensF_last rfl (by kernel_rfl) O3))
theorem O9 : Opens Tryd.prog 9 .str := opens_str Tryd.underlying9
theorem O74 : Opens Tryd.prog 74 rTable := opens_struct Tryd.underlying74 (by kernel_rfl) (opensF_cons rfl (by kernel_rfl) O9 (opensF_cons rfl (by kernel_rfl) O71 (opensF_cons rfl (by kernel_rfl) O71 (opensF_last rfl (by kernel_rfl) O72))))
theorem O30 : Opens Tryd.prog 30 (.slice rTable) := opens_slice Tryd.underlying30 (by kernel_rfl) O74
theorem O29 : Opens Tryd.prog 29 (.slice rNode) := opens_slice Tryd.underlying29 (by kernel_rfl) O71
theorem O53 : Opens Tryd.prog 53 rValue := opens_struct Tryd.underlying53 (by kernel_rfl) (opensF_cons rfl (by kernel_rfl) O3 (opensF_cons rfl (by kernel_rfl) O3 (opensF_last rfl (by kernel_rfl) O3)))
theorem O27 : Opens Tryd.prog 27 (.slice rValue) := opens_slice Tryd.underlying27 (by kernel_rfl) O53
theorem O28 : Opens Tryd.prog 28 (.slice (.slice rValue)) := opens_slice Tryd.underlying28 (by kernel_rfl) O27
theorem O32 : Opens Tryd.prog 32 rEnv := opens_struct Tryd.underlying32 (by kernel_rfl) (opensF_cons rfl (by kernel_rfl) O3 (opensF_cons rfl (by kernel_rfl) O27 (opensF_cons rfl (by kernel_rfl) O27 (opensF_cons rfl (by kernel_rfl) O28 (opensF_cons rfl (by kernel_rfl) O29 (opensF_last rfl (by kernel_rfl) O30))))))
theorem rows : ∀ t ∈ Tryd.f4.params.toList, (Tryd.prog.readableRec t && Nat.blt t Tryd.prog.types.size) = true := by
  rw [Tryd.params4]
  simp only [List.forall_mem_cons]
  exact ⟨by kernel_rfl, by kernel_rfl, fun _ h => absurd h (by simp)⟩

theorem g2 : Tryd.prog.globalNamed "guerdon/date.monthLengths" = some 2 := by kernel_rfl
theorem t2 : (Tryd.prog.globals[2]?).map (·.type) = some 113 := by kernel_rfl
theorem glob_ok {W : World} (h : laidMetH Tryd.prog Rows.peepholePreservesRow.laid W) : GlobOK (fun b => b < W.heap.size) W := by
  rw [MakeChecks.laidMetH_plain _ _ _ (by kernel_rfl)] at h
  obtain ⟨ps, ⟨g0, t0, cs0, f0, p0, q0, hg0, ht0, hv0, hd0, _, _⟩, _, _⟩ := h
  obtain rfl := Option.some.inj (g2.symm.trans hg0)
  obtain rfl := Option.some.inj (t2.symm.trans ht0)
  have hcs0 : cs0.toList = ([31, 28, 31, 30, 31, 30, 31, 31, 30, 31, 30, 31] : List Int).map fun x => .int .i64 x := laid_ints Tryd.underlying113 Tryd.underlying3 (by kernel_rfl) (by kernel_rfl) hd0
  intro g d hg
  unfold globs at hg
  rw [find_cons] at hg
  split at hg
  · rename_i e
    subst e
    obtain rfl := Option.some.inj hg
    have hc : ∀ j, W.cell? ⟨2, j, none⟩ = (([31, 28, 31, 30, 31, 30, 31, 31, 30, 31, 30, 31] : List Int).map fun x => (.int .i64 x : Value))[j]? := fun j => by rw [World.var?_cell hg0 hv0 j, ← hcs0, Array.getElem?_toList]
    refine ⟨cell_lt (hc 0), _, ?_, fun j u hj => by rw [Nat.zero_add, hc j]; exact hj, ?_⟩
    · rfl
    · exact ⟨[_], _, rfl, rfl, ⟨[_], _, rfl, rfl, ⟨[_], _, rfl, rfl, ⟨[_], _, rfl, rfl, ⟨[_], _, rfl, rfl, ⟨[_], _, rfl, rfl, ⟨[_], _, rfl, rfl, ⟨[_], _, rfl, rfl, ⟨[_], _, rfl, rfl, ⟨[_], _, rfl, rfl, ⟨[_], _, rfl, rfl, rfl⟩⟩⟩⟩⟩⟩⟩⟩⟩⟩⟩
  · cases hg
theorem door_met (os : Os) (args : Array Value) : laidMetH Tryd.prog Rows.peepholePreservesRow.laid ((World.doorLaid Tryd.prog 400 os).forCall (fun _ _ => 0) ⟨#[], args, []⟩).memory :=
  laidMetH_of_parts3 (fuel := 8) (laidMet_of_run' 8 (by kernel_rfl) (by kernel_rfl)) (by kernel_rfl) (by kernel_rfl)

set_option maxRecDepth 100000 in
theorem contract (H : Type) (enc : TypeId × Value → H) (W : World) (base : Nat) (args : Array Value) (ds gs : List (DataW H)) (before : List MemPlace)
    (hval : ∀ (j : Nat) t v, Tryd.f4.params[j]? = some t → args[j]? = some v → Value.okWide Tryd.prog W .any base t v)
    (hW : DataW.Whole enc Tryd.prog Tryd.f4.params.toList Rows.peepholePreservesSpec.vars false W args.toList ds gs before) (hL : laidMetH Tryd.prog Rows.peepholePreservesRow.laid W) :
    Calls Tryd.prog 4 args W fun e W' => ∃ v, e = .returned v ∧ Rows.peepholePreservesSpec.post enc Tryd.prog Tryd.f4 false true false false W args v W' := by
  have hW' := hW
  have hlt : ∀ p ∈ before, p.block < W.heap.size := fun p hp => hW.lt p hp
  obtain ⟨p, q, hA0, hV, rfl, hfz, hnd⟩ := hW
  have hA : DataW.TrodAll enc Tryd.prog W 0 (fun _ => true) true Tryd.f4.params.toList args.toList ds p := hA0
  have hA1 := hA
  rw [Tryd.params4] at hA hval
  obtain ⟨v0, vs0, d0, ds0, p0, q0, hargs, rfl, rfl, h0, r0⟩ := trodAll_cons hA
  obtain ⟨v1, vs1, d1, ds1, p1, q1, rfl, rfl, rfl, h1, r1⟩ := trodAll_cons r0
  obtain ⟨rfl, rfl, rfl⟩ := trodAll_nil r1
  obtain rfl : args = #[v0, v1] := by cases args; simp_all
  obtain ⟨rfl, rfl⟩ := trodVars_none hV
  clear hA0
  obtain ⟨x0, hr0, hw0, hb0⟩ := arg_slice Tryd.underlying22 O22 (hval 0 22 v0 rfl rfl) h0
  obtain ⟨es1, x1, rfl, hr1, hw1, hb1⟩ := arg_struct Tryd.underlying32 O32 (hval 1 32 v1 rfl rfl) h1
  refine (law_calls (x := (x0, x1)) (W4 big) (L.PeepholePreserves_true x0 x1 hw0 hw1) rfl (.cons (argv_slice hr0) (.cons (argv_struct hr1) .nil)) rfl (glob_ok hL)).mono fun e W' ⟨he, hs⟩ => ?_
  subst he
  exact ⟨_, rfl, post_of_below (pv := []) hW' (fun _ _ _ => trodAll_cons_mk (shut_bool Tryd.underlying4 _) trodAll_mk0)
    (fun sp hsp => trodAll_stays laidOut hs _ _ _ _ rows hA1 (fun x hx => hlt x (by simpa using hx)) (fun x hx => hsp x (by simpa using hx))) (fun _ _ => rfl) rfl hs
    (ok_one (by kernel_rfl) rfl (okWide_bool_mk Tryd.underlying4 _))⟩

set_option maxRecDepth 100000 in
theorem lifted (os : Os) (started : os.Started) (H : Type) (enc : TypeId × Value → H) :
    ReturnsInHanded {} Tryd.checked os 4 .any (fun w args => (Rows.peepholePreservesSpec.pre enc Tryd.prog Tryd.f4 Rows.peepholePreservesRow.domain false w args ∧ laidMetH Tryd.prog Rows.peepholePreservesRow.laid w) ∧ sizedMet enc Tryd.prog Tryd.f4 (OpenSpec.ofChange Rows.peepholePreservesSpec) false w args)
      (Rows.peepholePreservesSpec.post enc Tryd.prog Tryd.f4 false true false false) := by
  refine returnsInHanded_of_change_and (C := Tryd.checked) (X := fun w _ => laidMetH Tryd.prog Rows.peepholePreservesRow.laid w) (fun _ _ _ hh h => h.of_heap hh) own started (by kernel_rfl) Tryd.func4
    (ChangeSpec.witness_shaped (enc := enc) (C := Tryd.checked) (os := os) (X := fun w _ => laidMetH Tryd.prog Rows.peepholePreservesRow.laid w) false (World.doorLaid Tryd.prog 400 os) #[.slice none 0 0, .agg #[.int .i64 0, .slice none 0 0, .slice none 0 0, .slice none 0 0, .slice none 0 0, .slice none 0 0]] 12 rfl (World.shaped_of_RefB (by kernel_rfl) (by kernel_rfl)) (by kernel_rfl) (by kernel_rfl) (by kernel_rfl) (door_met os _)) ?_
  intro W base args ds gs before hval hW _ _ hL _
  exact contract H enc W base args ds gs before hval hW hL

theorem over : Rows.peepholePreservesRow.holds Tryd.pinned (OpenSpec.ofChange Rows.peepholePreservesSpec) :=
  OpenClaim.holds_of_wide 4 Tryd.f4 rfl rfl rfl rfl rfl rfl rfl ⟨rfl, rfl, rfl, rfl, rfl⟩ rfl rfl rfl rfl rfl (by kernel_rfl) Tryd.func4 (by kernel_rfl)
    (of_decide_eq_true (by kernel_rfl)) (by unfold Func.isWrapper; rw [if_neg (of_decide_eq_false (by kernel_rfl))]; exact ⟨rfl, rfl⟩)
    (fun os started H enc _ => lifted os started H enc)

theorem card_proved : Rows.PeepholePreservesCardSaid :=
  Claim7.holds_tied_plain_at .later [] [.data] true (true, "f12f0efbbf7bcc7d8dfd2ed36df451d161b5fc47875fd67a8408ccf69587f76b") false
    over (fun _ h => by cases h) (by kernel_rfl) (fun _ h => by cases h) peepholePreserves_row_tie rfl ⟨rfl, rfl⟩ (by kernel_rfl) rfl
    (fun f fn hf hfn => by
      obtain rfl : f = 4 := Option.some.inj ((show Tryd.prog.funcNamed "guerdon/guerdonlaw28.PeepholePreserves" = some 4 by kernel_rfl).symm.trans hf) |>.symm
      obtain rfl : fn = Tryd.f4 := (Option.some.inj (Tryd.func4.symm.trans hfn)).symm
      exact ⟨by kernel_rfl, fun j t ht => by
        rw [Tryd.params4] at ht
        have hm : t ∈ [22, 32] := by simpa using Array.mem_of_getElem? ht
        have hall : ([22, 32].all fun u => !Tryd.prog.wantsStandIn u) = true := by kernel_rfl
        exact (show Tryd.prog.wantsStandIn t = false by simpa using List.all_eq_true.1 hall t hm)⟩)
    (by kernel_rfl)

/-- The statement. -/
theorem proved : Rows.PeepholePreservesCardSaid := card_proved
end Go.Proofs.YtpgggmcpflgniaaDoor.peepholePreserves
