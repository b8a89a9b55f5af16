/- The walks, by program (gen.py): what each function returns is what its model says. -/
import Derived.Test.YtncajogcgkmpmaaRows
import Derived.Test.YtncajogcgkmpmaaModel
namespace Go.Proofs.Ytncajogcgkmpmaa
open Go Go.RowKit

theorem T3 : TI Try.prog 3 rInt := TI.mk (k := 1) (by kernel_rfl) rfl
theorem T25 : TI Try.prog 25 (Row.slice rInt) := TI.mk (k := 1) (by kernel_rfl) rfl
theorem T26 : TI Try.prog 26 (Row.slice rAccount) := TI.mk (k := 1) (by kernel_rfl) rfl
theorem T36 : TI Try.prog 36 (Row.slice rFact) := TI.mk (k := 1) (by kernel_rfl) rfl
theorem T38 : TI Try.prog 38 rHousehold := TI.mk (k := 4) (by kernel_rfl) rfl
theorem T39 : TI Try.prog 39 (Row.slice rPosting) := TI.mk (k := 1) (by kernel_rfl) rfl
theorem T40 : TI Try.prog 40 (Row.slice rAppeal) := TI.mk (k := 1) (by kernel_rfl) rfl
theorem T42 : TI Try.prog 42 rAccount := TI.mk (k := 8) (by kernel_rfl) rfl
theorem T51 : TI Try.prog 51 rPosting := TI.mk (k := 4) (by kernel_rfl) rfl
theorem T53 : TI Try.prog 53 rAppeal := TI.mk (k := 7) (by kernel_rfl) rfl
theorem T55 : TI Try.prog 55 rValue := TI.mk (k := 3) (by kernel_rfl) rfl
theorem T57 : TI Try.prog 57 rDateRange := TI.mk (k := 2) (by kernel_rfl) rfl
theorem T59 : TI Try.prog 59 rFact := TI.mk (k := 9) (by kernel_rfl) rfl
theorem H25 : TI Try.prog 25 .hdr := TI.mk (k := 1) (by kernel_rfl) rfl
theorem E3 : EqOK Try.prog 3 rInt 1 := eqT_int Try.underlying3
theorem E3_2 : EqOK Try.prog 3 rInt 2 := E3.lift 1
theorem G55 : Try.prog.eqGuardType Try.prog.depth 55 = false := by kernel_rfl
theorem A55 : (Try.prog.underlying 55).any aggD = true := by rw [Try.underlying55]; rfl
theorem E55 : EqOK Try.prog 55 rValue 2 := eqT_struct Try.underlying55 (by kernel_rfl) (eqF_cons rfl rfl Try.underlying3 (by simp [aggD]) T3 E3 (eqF_cons rfl rfl Try.underlying3 (by simp [aggD]) T3 E3 (eqF_last rfl rfl Try.underlying3 (by simp [aggD]) T3 E3)))
theorem E55_2 : EqOK Try.prog 55 rValue 2 := E55.lift 0
theorem G57 : Try.prog.eqGuardType Try.prog.depth 57 = false := by kernel_rfl
theorem A57 : (Try.prog.underlying 57).any aggD = true := by rw [Try.underlying57]; rfl
theorem E57 : EqOK Try.prog 57 rDateRange 2 := eqT_struct Try.underlying57 (by kernel_rfl) (eqF_cons rfl rfl Try.underlying3 (by simp [aggD]) T3 E3 (eqF_last rfl rfl Try.underlying3 (by simp [aggD]) T3 E3))
theorem E57_2 : EqOK Try.prog 57 rDateRange 2 := E57.lift 0
theorem G59 : Try.prog.eqGuardType Try.prog.depth 59 = false := by kernel_rfl
theorem A59 : (Try.prog.underlying 59).any aggD = true := by rw [Try.underlying59]; rfl
theorem E59 : EqOK Try.prog 59 rFact 3 := eqT_struct Try.underlying59 (by kernel_rfl) (eqF_cons rfl rfl Try.underlying3 (by simp [aggD]) T3 E3_2 (eqF_cons rfl rfl Try.underlying3 (by simp [aggD]) T3 E3_2 (eqF_cons rfl rfl Try.underlying3 (by simp [aggD]) T3 E3_2 (eqF_cons rfl rfl Try.underlying55 (by intro h; cases h) T55 E55 (eqF_cons rfl rfl Try.underlying57 (by intro h; cases h) T57 E57 (eqF_last rfl rfl Try.underlying3 (by simp [aggD]) T3 E3_2))))))
theorem G51 : Try.prog.eqGuardType Try.prog.depth 51 = false := by kernel_rfl
theorem A51 : (Try.prog.underlying 51).any aggD = true := by rw [Try.underlying51]; rfl
theorem E51 : EqOK Try.prog 51 rPosting 2 := eqT_struct Try.underlying51 (by kernel_rfl) (eqF_cons rfl rfl Try.underlying3 (by simp [aggD]) T3 E3 (eqF_cons rfl rfl Try.underlying3 (by simp [aggD]) T3 E3 (eqF_cons rfl rfl Try.underlying3 (by simp [aggD]) T3 E3 (eqF_last rfl rfl Try.underlying3 (by simp [aggD]) T3 E3))))
theorem G53 : Try.prog.eqGuardType Try.prog.depth 53 = false := by kernel_rfl
theorem A53 : (Try.prog.underlying 53).any aggD = true := by rw [Try.underlying53]; rfl
theorem E53 : EqOK Try.prog 53 rAppeal 2 := eqT_struct Try.underlying53 (by kernel_rfl) (eqF_cons rfl rfl Try.underlying3 (by simp [aggD]) T3 E3 (eqF_cons rfl rfl Try.underlying3 (by simp [aggD]) T3 E3 (eqF_cons rfl rfl Try.underlying3 (by simp [aggD]) T3 E3 (eqF_cons rfl rfl Try.underlying3 (by simp [aggD]) T3 E3 (eqF_cons rfl rfl Try.underlying3 (by simp [aggD]) T3 E3 (eqF_cons rfl rfl Try.underlying3 (by simp [aggD]) T3 E3 (eqF_last rfl rfl Try.underlying3 (by simp [aggD]) T3 E3)))))))
theorem mixed : Try.prog.follows .mixedOrders = true := by kernel_rfl
theorem nm7 : (Try.f7.name == "runtime.NumGoroutine") = false := by kernel_rfl
theorem bd7 : Try.f7.body.isNone = false := by kernel_rfl
theorem nm8 : (Try.f8.name == "runtime.NumGoroutine") = false := by kernel_rfl
theorem bd8 : Try.f8.body.isNone = false := by kernel_rfl
theorem nm9 : (Try.f9.name == "runtime.NumGoroutine") = false := by kernel_rfl
theorem bd9 : Try.f9.body.isNone = false := by kernel_rfl
theorem nm10 : (Try.f10.name == "runtime.NumGoroutine") = false := by kernel_rfl
theorem bd10 : Try.f10.body.isNone = false := by kernel_rfl
theorem nm11 : (Try.f11.name == "runtime.NumGoroutine") = false := by kernel_rfl
theorem bd11 : Try.f11.body.isNone = false := by kernel_rfl
theorem nm12 : (Try.f12.name == "runtime.NumGoroutine") = false := by kernel_rfl
theorem bd12 : Try.f12.body.isNone = false := by kernel_rfl
theorem nm13 : (Try.f13.name == "runtime.NumGoroutine") = false := by kernel_rfl
theorem bd13 : Try.f13.body.isNone = false := by kernel_rfl
theorem nm14 : (Try.f14.name == "runtime.NumGoroutine") = false := by kernel_rfl
theorem bd14 : Try.f14.body.isNone = false := by kernel_rfl
theorem nm15 : (Try.f15.name == "runtime.NumGoroutine") = false := by kernel_rfl
theorem bd15 : Try.f15.body.isNone = false := by kernel_rfl
theorem nm16 : (Try.f16.name == "runtime.NumGoroutine") = false := by kernel_rfl
theorem bd16 : Try.f16.body.isNone = false := by kernel_rfl
theorem nm17 : (Try.f17.name == "runtime.NumGoroutine") = false := by kernel_rfl
theorem bd17 : Try.f17.body.isNone = false := by kernel_rfl
theorem nm18 : (Try.f18.name == "runtime.NumGoroutine") = false := by kernel_rfl
theorem bd18 : Try.f18.body.isNone = false := by kernel_rfl
theorem nm19 : (Try.f19.name == "runtime.NumGoroutine") = false := by kernel_rfl
theorem bd19 : Try.f19.body.isNone = false := by kernel_rfl
theorem nm20 : (Try.f20.name == "runtime.NumGoroutine") = false := by kernel_rfl
theorem bd20 : Try.f20.body.isNone = false := by kernel_rfl
theorem nm21 : (Try.f21.name == "runtime.NumGoroutine") = false := by kernel_rfl
theorem bd21 : Try.f21.body.isNone = false := by kernel_rfl
theorem nm22 : (Try.f22.name == "runtime.NumGoroutine") = false := by kernel_rfl
theorem bd22 : Try.f22.body.isNone = false := by kernel_rfl
theorem nm23 : (Try.f23.name == "runtime.NumGoroutine") = false := by kernel_rfl
theorem bd23 : Try.f23.body.isNone = false := by kernel_rfl
theorem nm24 : (Try.f24.name == "runtime.NumGoroutine") = false := by kernel_rfl
theorem bd24 : Try.f24.body.isNone = false := by kernel_rfl

set_option maxRecDepth 100000 in
set_option maxHeartbeats 1000000 in
theorem M.shard_Of_walk (N : Nat) (w0 : World) (F0 : Nat → Prop) (hF0 : ∀ b, F0 b → b < w0.heap.size) (p0_household : Int) (p1_n : Int) (r : Int) (hm : M.shard_Of N p0_household p1_n = some r) :
    Calls Try.prog 7 [(Value.int .i64 p0_household), (Value.int .i64 p1_n)].toArray w0 fun e w => ∃ v, e = .returned v ∧ ∃ F, St w0 F0 w F ∧ v = (Value.int .i64 r) := by
 refine calls_of_wpC Try.func7 rfl (Nat.le_of_ble_eq_true rfl) ?_
 intro ρ hρ
 have st0 := St.refl hF0
 rw [M.shard_Of] at hm
 refine wpC_seq ?_
 refine wpC_region ?_
 refine wpS_pure (Value.int .i64 (0 : Int)) (pure_assign rfl) rfl ?_
 refine wpS_nil ?_
 refine thn_normal ?_
 refine wpC_seq ?_
 refine wpC_seq ?_
 refine wpC_region ?_
 refine wpS_pure (Value.int .i64 p1_n) (pure_move (hρ 1 _ rfl)) rfl ?_
 refine wpS_pure (Value.bool (decide (p1_n < (1 : Int)))) (pure_lss rfl rfl) rfl ?_
 refine wpS_pure (Value.bool (decide (p1_n < (1 : Int)))) (pure_move rfl) rfl ?_
 refine wpS_gpure (dj := 7) rfl rfl rfl (Value.int .i64 p1_n) (fun hg => pure_move (hρ 1 _ rfl)) rfl ?_
 refine wpS_gpure (dj := 7) rfl rfl rfl (Value.bool (decide ((65536 : Int) < p1_n))) (fun hg => pure_gtr (gval rfl hg) rfl) rfl ?_
 refine wpS_pure (Value.bool ((decide (p1_n < (1 : Int))) || (decide ((65536 : Int) < p1_n)))) (pure_pick_or rfl rfl rfl) rfl ?_
 refine wpS_pure (Value.bool ((decide (p1_n < (1 : Int))) || (decide ((65536 : Int) < p1_n)))) (pure_move rfl) rfl ?_
 refine wpS_gpure (dj := 11) rfl rfl rfl (Value.int .i64 p0_household) (fun hg => pure_move (hρ 0 _ rfl)) rfl ?_
 refine wpS_gpure (dj := 11) rfl rfl rfl (Value.bool (decide (p0_household < (0 : Int)))) (fun hg => pure_lss (gval rfl hg) rfl) rfl ?_
 refine wpS_pure (Value.bool (((decide (p1_n < (1 : Int))) || (decide ((65536 : Int) < p1_n))) || (decide (p0_household < (0 : Int))))) (pure_pick_or rfl rfl rfl) rfl ?_
 refine wpS_nil ?_
 refine thn_normal ?_
 by_cases hc1 : (((decide (p1_n < (1 : Int))) || (decide ((65536 : Int) < p1_n))) || (decide (p0_household < (0 : Int)))) = true
 ·rw [if_pos hc1] at hm
  refine wpC_true (bval rfl hc1) ?_
  refine wpC_seq ?_
  refine wpC_region ?_
  refine wpS_pure (Value.int .i64 (0 : Int)) (pure_assign rfl) rfl ?_
  refine wpS_nil ?_
  refine thn_normal ?_
  refine wpC_ret ?_
  refine thn_ret ?_
  obtain rfl := Option.some.inj hm
  refine bodyQ_ret1 Try.results7 (Value.int .i64 (0 : Int)) rfl ?_
  exact ⟨_, st0, rfl⟩
 ·rw [if_neg hc1] at hm
  replace hc1 := Bool.eq_false_iff.2 hc1
  refine wpC_false (bval rfl hc1) ?_
  refine wpC_skip ?_
  refine thn_normal ?_
  refine wpC_seq ?_
  refine wpC_region ?_
  refine wpS_pure (Value.int .i64 p0_household) (pure_move (hρ 0 _ rfl)) rfl ?_
  refine wpS_pure (Value.int .i64 (Int.tmod p0_household (1048576 : Int))) (pure_rem rfl rfl (by decide)) rfl ?_
  refine wpS_pure (Value.int .i64 (IntKind.i64.wrap ((Int.tmod p0_household (1048576 : Int)) * (40503 : Int)))) (pure_mul rfl rfl) rfl ?_
  refine wpS_pure (Value.int .i64 (Int.tmod (IntKind.i64.wrap ((Int.tmod p0_household (1048576 : Int)) * (40503 : Int))) (65536 : Int))) (pure_rem rfl rfl (by decide)) rfl ?_
  refine wpS_pure (Value.int .i64 p1_n) (pure_move (hρ 1 _ rfl)) rfl ?_
  refine wpS_pure (Value.int .i64 (IntKind.i64.wrap ((Int.tmod (IntKind.i64.wrap ((Int.tmod p0_household (1048576 : Int)) * (40503 : Int))) (65536 : Int)) * p1_n))) (pure_mul rfl rfl) rfl ?_
  refine wpS_pure (Value.int .i64 (IntKind.i64.wrap (Int.tdiv (IntKind.i64.wrap ((Int.tmod (IntKind.i64.wrap ((Int.tmod p0_household (1048576 : Int)) * (40503 : Int))) (65536 : Int)) * p1_n)) (65536 : Int)))) (pure_quo rfl rfl (by decide)) rfl ?_
  refine wpS_pure (Value.int .i64 (IntKind.i64.wrap (Int.tdiv (IntKind.i64.wrap ((Int.tmod (IntKind.i64.wrap ((Int.tmod p0_household (1048576 : Int)) * (40503 : Int))) (65536 : Int)) * p1_n)) (65536 : Int)))) (pure_assign rfl) rfl ?_
  refine wpS_nil ?_
  refine thn_normal ?_
  refine wpC_ret ?_
  obtain rfl := Option.some.inj hm
  refine bodyQ_ret1 Try.results7 (Value.int .i64 (IntKind.i64.wrap (Int.tdiv (IntKind.i64.wrap ((Int.tmod (IntKind.i64.wrap ((Int.tmod p0_household (1048576 : Int)) * (40503 : Int))) (65536 : Int)) * p1_n)) (65536 : Int)))) rfl ?_
  exact ⟨_, st0, rfl⟩

set_option maxRecDepth 100000 in
set_option maxHeartbeats 1000000 in
theorem M.ref48_Of_walk (N : Nat) (w0 : World) (F0 : Nat → Prop) (hF0 : ∀ b, F0 b → b < w0.heap.size) (p0_household : Int) (p1_n : Int) (r : Int) (hm : M.ref48_Of N p0_household p1_n = some r) :
    Calls Try.prog 8 [(Value.int .i64 p0_household), (Value.int .i64 p1_n)].toArray w0 fun e w => ∃ v, e = .returned v ∧ ∃ F, St w0 F0 w F ∧ v = (Value.int .i64 r) := by
 refine calls_of_wpC Try.func8 rfl (Nat.le_of_ble_eq_true rfl) ?_
 intro ρ hρ
 have st0 := St.refl hF0
 rw [M.ref48_Of] at hm
 refine wpC_seq ?_
 refine wpC_region ?_
 refine wpS_pure (Value.int .i64 (0 : Int)) (pure_assign rfl) rfl ?_
 refine wpS_nil ?_
 refine thn_normal ?_
 refine wpC_seq ?_
 refine wpC_seq ?_
 refine wpC_region ?_
 refine wpS_pure (Value.int .i64 p1_n) (pure_move (hρ 1 _ rfl)) rfl ?_
 refine wpS_pure (Value.bool (decide (p1_n < (1 : Int)))) (pure_lss rfl rfl) rfl ?_
 refine wpS_pure (Value.bool (decide (p1_n < (1 : Int)))) (pure_move rfl) rfl ?_
 refine wpS_gpure (dj := 7) rfl rfl rfl (Value.int .i64 p1_n) (fun hg => pure_move (hρ 1 _ rfl)) rfl ?_
 refine wpS_gpure (dj := 7) rfl rfl rfl (Value.bool (decide ((65536 : Int) < p1_n))) (fun hg => pure_gtr (gval rfl hg) rfl) rfl ?_
 refine wpS_pure (Value.bool ((decide (p1_n < (1 : Int))) || (decide ((65536 : Int) < p1_n)))) (pure_pick_or rfl rfl rfl) rfl ?_
 refine wpS_pure (Value.bool ((decide (p1_n < (1 : Int))) || (decide ((65536 : Int) < p1_n)))) (pure_move rfl) rfl ?_
 refine wpS_gpure (dj := 11) rfl rfl rfl (Value.int .i64 p0_household) (fun hg => pure_move (hρ 0 _ rfl)) rfl ?_
 refine wpS_gpure (dj := 11) rfl rfl rfl (Value.bool (decide (p0_household < (0 : Int)))) (fun hg => pure_lss (gval rfl hg) rfl) rfl ?_
 refine wpS_pure (Value.bool (((decide (p1_n < (1 : Int))) || (decide ((65536 : Int) < p1_n))) || (decide (p0_household < (0 : Int))))) (pure_pick_or rfl rfl rfl) rfl ?_
 refine wpS_nil ?_
 refine thn_normal ?_
 by_cases hc21 : (((decide (p1_n < (1 : Int))) || (decide ((65536 : Int) < p1_n))) || (decide (p0_household < (0 : Int)))) = true
 ·rw [if_pos hc21] at hm
  refine wpC_true (bval rfl hc21) ?_
  refine wpC_seq ?_
  refine wpC_region ?_
  refine wpS_pure (Value.int .i64 (0 : Int)) (pure_assign rfl) rfl ?_
  refine wpS_nil ?_
  refine thn_normal ?_
  refine wpC_ret ?_
  refine thn_ret ?_
  obtain rfl := Option.some.inj hm
  refine bodyQ_ret1 Try.results8 (Value.int .i64 (0 : Int)) rfl ?_
  exact ⟨_, st0, rfl⟩
 ·rw [if_neg hc21] at hm
  replace hc21 := Bool.eq_false_iff.2 hc21
  refine wpC_false (bval rfl hc21) ?_
  refine wpC_skip ?_
  refine thn_normal ?_
  refine wpC_seq ?_
  refine wpC_region ?_
  refine wpS_pure (Value.int .i64 p0_household) (pure_move (hρ 0 _ rfl)) rfl ?_
  refine wpS_pure (Value.int .i64 (Int.tmod p0_household (1048576 : Int))) (pure_rem rfl rfl (by decide)) rfl ?_
  refine wpS_pure (Value.int .i64 (IntKind.i64.wrap ((Int.tmod p0_household (1048576 : Int)) * (40503 : Int)))) (pure_mul rfl rfl) rfl ?_
  refine wpS_pure (Value.int .i64 (Int.tmod (IntKind.i64.wrap ((Int.tmod p0_household (1048576 : Int)) * (40503 : Int))) (65536 : Int))) (pure_rem rfl rfl (by decide)) rfl ?_
  refine wpS_pure (Value.int .i64 p1_n) (pure_move (hρ 1 _ rfl)) rfl ?_
  refine wpS_pure (Value.int .i64 (IntKind.i64.wrap ((Int.tmod (IntKind.i64.wrap ((Int.tmod p0_household (1048576 : Int)) * (40503 : Int))) (65536 : Int)) * p1_n))) (pure_mul rfl rfl) rfl ?_
  refine wpS_pure (Value.int .i64 (IntKind.i64.wrap (Int.tdiv (IntKind.i64.wrap ((Int.tmod (IntKind.i64.wrap ((Int.tmod p0_household (1048576 : Int)) * (40503 : Int))) (65536 : Int)) * p1_n)) (65536 : Int)))) (pure_quo rfl rfl (by decide)) rfl ?_
  refine wpS_pure (Value.int .i64 (IntKind.i64.wrap (Int.tdiv (IntKind.i64.wrap ((Int.tmod (IntKind.i64.wrap ((Int.tmod p0_household (1048576 : Int)) * (40503 : Int))) (65536 : Int)) * p1_n)) (65536 : Int)))) (pure_assign rfl) rfl ?_
  refine wpS_nil ?_
  refine thn_normal ?_
  refine wpC_ret ?_
  obtain rfl := Option.some.inj hm
  refine bodyQ_ret1 Try.results8 (Value.int .i64 (IntKind.i64.wrap (Int.tdiv (IntKind.i64.wrap ((Int.tmod (IntKind.i64.wrap ((Int.tmod p0_household (1048576 : Int)) * (40503 : Int))) (65536 : Int)) * p1_n)) (65536 : Int)))) rfl ?_
  exact ⟨_, st0, rfl⟩

set_option maxRecDepth 100000 in
set_option maxHeartbeats 1000000 in
theorem M.shard_Partition_walk (N : Nat) (w0 : World) (F0 : Nat → Prop) (hF0 : ∀ b, F0 b → b < w0.heap.size) (p0_l : List rAccount.den) (vp0_l : Value) (hp0_l : Rep F0 w0 (Row.slice rAccount) [vp0_l] p0_l) (p1_n : Int) (r : List (List Int)) (hm : M.shard_Partition N p0_l p1_n = some r) :
    Calls Try.prog 12 [vp0_l, (Value.int .i64 p1_n)].toArray w0 fun e w => ∃ v, e = .returned v ∧ ∃ F, St w0 F0 w F ∧ Rep F w (Row.slice (Row.slice rInt)) [v] r := by
 refine calls_of_wpC Try.func12 rfl (Nat.le_of_ble_eq_true rfl) ?_
 intro ρ hρ
 have st0 := St.refl hF0
 rw [M.shard_Partition] at hm
 refine wpC_seq ?_
 refine wpC_region ?_
 refine wpS_pure (Value.slice none 0 0) (pure_assign rfl) rfl ?_
 refine wpS_nil ?_
 refine thn_normal ?_
 refine wpC_seq ?_
 refine wpC_seq ?_
 refine wpC_region ?_
 refine wpS_pure (Value.int .i64 p1_n) (pure_move (hρ 1 _ rfl)) rfl ?_
 refine wpS_pure (Value.bool (decide (p1_n < (1 : Int)))) (pure_lss rfl rfl) rfl ?_
 refine wpS_pure (Value.bool (decide (p1_n < (1 : Int)))) (pure_move rfl) rfl ?_
 refine wpS_gpure (dj := 11) rfl rfl rfl (Value.int .i64 p1_n) (fun hg => pure_move (hρ 1 _ rfl)) rfl ?_
 refine wpS_gpure (dj := 11) rfl rfl rfl (Value.bool (decide ((8 : Int) < p1_n))) (fun hg => pure_gtr (gval rfl hg) rfl) rfl ?_
 refine wpS_pure (Value.bool ((decide (p1_n < (1 : Int))) || (decide ((8 : Int) < p1_n)))) (pure_pick_or rfl rfl rfl) rfl ?_
 refine wpS_nil ?_
 refine thn_normal ?_
 by_cases hc510 : ((decide (p1_n < (1 : Int))) || (decide ((8 : Int) < p1_n))) = true
 ·rw [if_pos hc510] at hm
  refine wpC_true (bval rfl hc510) ?_
  refine wpC_seq ?_
  refine wpC_region ?_
  refine wpS_pure (Value.slice none 0 0) (pure_assign rfl) rfl ?_
  refine wpS_nil ?_
  refine thn_normal ?_
  refine wpC_ret ?_
  refine thn_ret ?_
  obtain rfl := Option.some.inj hm
  refine bodyQ_ret1 Try.results12 (Value.slice none 0 0) rfl ?_
  exact ⟨_, st0, (Rep.nil _ _ _)⟩
 ·rw [if_neg hc510] at hm
  replace hc510 := Bool.eq_false_iff.2 hc510
  refine wpC_false (bval rfl hc510) ?_
  refine wpC_skip ?_
  refine thn_normal ?_
  refine wpC_seq ?_
  refine wpC_region ?_
  refine wpS_pure (Value.int .i64 p1_n) (pure_move (hρ 1 _ rfl)) rfl ?_
  obtain ⟨l511, h512, hm⟩ := bind_some hm
  try dsimp only at hm
  refine wpS_make2T (r := rInt) (e := 3) (base := w0.heap.size) Try.underlying29 H25 rfl rfl h512 st0.lt st0.below.size rfl ?_
  intro v513 hs514 w515 h516 ho517 hn518
  have st519 := st0.trans h516
  refine wpS_pure v513 (pure_assign rfl) rfl ?_
  refine wpS_nil ?_
  refine thn_normal ?_
  refine wpC_seq ?_
  refine wpC_seq ?_
  refine wpC_region ?_
  refine wpS_pure vp0_l (pure_move (hρ 0 _ rfl)) rfl ?_
  refine wpS_len (v := vp0_l) Try.underlying26 rfl ((hp0_l.step (st519.step hF0))).reads rfl ?_
  refine wpS_pure (Value.int .i64 (0 : Int)) (pure_move rfl) rfl ?_
  refine wpS_nil ?_
  refine thn_normal ?_
  refine wpC_block_join (fun ρ w => ∃ (a709 : List (List Int)) (F712 : Nat → Prop) (v707 : Value) (hs708 : List Value), St w0 F0 w F712 ∧ Own2 w0.heap.size F712 w 25 3 rInt v707 hs708 hs708 a709 ∧ ρ 5 = v707 ∧ M.shard_Partition_k1 N a709 = some r) ?_ ?_
  ·skip
   obtain ⟨x852, hL853, hm854⟩ := bind_some hm
   clear hm
   refine wpC_loop (fun (s : List (List Int) × Int) ρ w => ∃ (a841 : List (List Int)) (a843 : Int) (F849 : Nat → Prop) (v839 : Value) (hs840 : List Value), (a841, a843) = s ∧ St w0 F0 w F849 ∧ Own2 w0.heap.size F849 w 25 3 rInt v839 hs840 hs840 a841 ∧ ρ 1 = (Value.int .i64 p1_n) ∧ ρ 5 = v839 ∧ ρ 17 = vp0_l ∧ ρ 18 = (Value.int .i64 (p0_l.length : Int)) ∧ ρ 19 = (Value.int .i64 a843)) hL853 ?_ ?_
   ·exact ⟨l511, (0 : Int), _, v513, hs514, rfl, st519, ho517, (hρ 1 _ rfl), rfl, rfl, rfl, rfl⟩
   ·skip
    rintro s ρ w y855 ⟨a841, a843, F849, v839, hs840, rfl, st850, ho842, r844, r845, r846, r847, r848⟩ hm856
    have hm : M.shard_Partition_k2 N p0_l p1_n a841 a843 = some y855 := hm856
    clear hm856
    rw [M.shard_Partition_k2] at hm
    refine wpC_seq ?_
    refine wpC_region ?_
    refine wpS_pure (Value.bool (decide (a843 < (p0_l.length : Int)))) (pure_lss r848 r847) rfl ?_
    refine wpS_nil ?_
    refine thn_normal ?_
    refine wpC_seq ?_
    by_cases hc857 : (decide (a843 < (p0_l.length : Int))) = true
    ·rw [if_pos hc857] at hm
     refine wpC_true (bval rfl hc857) ?_
     refine wpC_skip ?_
     refine thn_normal ?_
     refine wpC_seq ?_
     refine wpC_block ?_
     refine wpC_seq ?_
     refine wpC_region ?_
     refine wpS_pure (Value.int .i64 a843) (pure_move r848) rfl ?_
     obtain ⟨x858, h859, hm⟩ := bind_some hm
     try dsimp only at hm
     refine wpS_indexT (v := vp0_l) Try.underlying26 T42 r846 r848 ((hp0_l.step (st850.step hF0))).reads h859 rfl ?_
     intro b860 o861 ha862
     refine wpS_load_rowT Try.underlying42 rfl T42 rfl ha862 rfl ?_
     intro es863 hr864
     refine wpS_allocT (base := w0.heap.size) rAccount T42 st850.lt st850.below.size rfl ?_
     intro b865 w866 h867 hb868 hn869
     have hn870 : ∀ k, is b865 k → _ ≤ k := fun k hk => hk ▸ hn869
     have st871 := st850.trans h867
     refine wpS_pure (Value.int .i64 a843) (pure_assign rfl) rfl ?_
     refine wpS_store_boxT (v := (Value.agg es863.toArray)) (.here) T42 rfl rfl rfl rfl (hr864.step (h867.step st850.lt)) hb868 st871.lt ?_
     intro w873 he874 hb876
     have hb875 : BoxO w0.heap.size _ w873 b865 42 rAccount (x858) := hb876
     have st877 := st871.ext he874 (hb868).ge
     refine wpS_nil ?_
     refine thn_normal ?_
     refine wpC_seq ?_
     refine wpC_region ?_
     refine wpS_pure (Value.pointer (some ⟨b865, 0 + 0, none⟩)) (pure_fieldT 0 Try.underlying42 rfl T38 rfl rfl) rfl ?_
     refine wpS_pure (Value.pointer (some ⟨b865, 0 + 0 + 0, none⟩)) (pure_fieldT 0 Try.underlying38 rfl T3 rfl rfl) rfl ?_
     have ha878 : At _ _ rHousehold b865 (0 + 0) (x858.1) := (hb875).at.path (.fst (.here)) 0 rfl
     have ha879 : At _ _ rInt b865 (0 + 0 + 0) (x858.1.1) := ha878.path (.fst (.here)) 0 rfl
     refine wpS_load_int Try.underlying3 rfl rfl ha879 rfl ?_
     refine wpS_pure (Value.int .i64 p1_n) (pure_move r844) rfl ?_
     obtain ⟨y880, h881, hm⟩ := bind_some hm
     try dsimp only at hm
     refine wpS_call (vs := [(Value.int .i64 x858.1.1), (Value.int .i64 p1_n)]) Try.func7 nm7 bd7 (m_cons rfl (m_cons rfl m_nil)) (M.shard_Of_walk N _ _ st877.lt x858.1.1 p1_n y880 h881) rfl ?_
     rintro v882 w883 ⟨F884, h885, hv886⟩
     have h887 := h885.narrow st877.lt
     have st888 := st877.trans h887
     obtain rfl := hv886
     refine wpS_pure (Value.int .i64 y880) (pure_assign rfl) rfl ?_
     refine wpS_nil ?_
     refine thn_normal ?_
     refine wpC_region ?_
     refine wpS_pure v839 (pure_move r845) rfl ?_
     refine wpS_pure (Value.int .i64 y880) (pure_move rfl) rfl ?_
     refine wpS_pure v839 (pure_move r845) rfl ?_
     refine wpS_pure (Value.int .i64 y880) (pure_move rfl) rfl ?_
     obtain ⟨x889, h890, hm⟩ := bind_some hm
     try dsimp only at hm
     refine wpS_elem2T (v := v839) Try.underlying29 H25 rfl rfl (((ho842.st st850.lt h867).ext st871.lt he874 (hb868).no (ap_new (ho842).lt hn870)).st st877.lt h887) ((((ho842.st st850.lt h867).ext st871.lt he874 (hb868).no (ap_new (ho842).lt hn870)).st st877.lt h887)).2.1.1 h890 rfl ?_
     intro g891 q892 hg893 hq894
     refine wpS_load2T Try.underlying25 rfl rfl (((ho842.st st850.lt h867).ext st871.lt he874 (hb868).no (ap_new (ho842).lt hn870)).st st877.lt h887) hg893 hq894 h890 rfl ?_
     intro u895 hu896 ho897 hs898
     refine wpS_pure (Value.int .i64 a843) (pure_move rfl) rfl ?_
     refine wpS_oneT (base := w0.heap.size) (v := (Value.int .i64 a843)) Try.underlying25 T3 rfl rfl rfl rfl st888.lt st888.below.size rfl ?_
     intro v899 w900 h901 ho902 hn903
     have st904 := st888.trans h901
     obtain ⟨l906, h907, hm⟩ := bind_some hm
     try dsimp only at hm
     refine wpS_append2T (v := v839) (u := u895) (z := v899) Try.underlying25 T3 rfl rfl ((((ho842.st st850.lt h867).ext st871.lt he874 (hb868).no (ap_new (ho842).lt hn870)).st st877.lt h887).st st888.lt h901) hu896 h890 (ho902).reads h907 st904.lt st904.below.size rfl ?_
     intro v908 w909 he910 ho911 hr912 hn913
     have st914 := st904.ext he910 (((((ho842.st st850.lt h867).ext st871.lt he874 (hb868).no (ap_new (ho842).lt hn870)).st st877.lt h887).st st888.lt h901)).ge
     obtain ⟨x915, h916, hm⟩ := bind_some hm
     try dsimp only at hm
     refine wpS_elem2T (v := v839) Try.underlying29 H25 rfl rfl ho911 (by simpa [setL] using (ho911).2.1.1) h916 rfl ?_
     intro g917 q918 hg919 hq920
     refine wpS_store2T (v := v839) (u := v908) H25 rfl rfl hr912 ho911 hg919 hq920 h916 st914.lt rfl ?_
     intro w921 he922 ho923
     have st924 := st914.ext he922 (ho911).ge
     refine wpS_nil ?_
     refine inB_normal ?_
     refine thn_normal ?_
     refine wpC_region ?_
     refine wpS_pure (Value.int .i64 (IntKind.i64.wrap (a843 + (1 : Int)))) (pure_add r848 rfl) rfl ?_
     refine wpS_pure (Value.int .i64 (IntKind.i64.wrap (a843 + (1 : Int)))) (pure_move rfl) rfl ?_
     refine wpS_nil ?_
     obtain rfl := Option.some.inj hm
     refine loopQ_in ?_
     exact ⟨(setL a841 y880 l906), (IntKind.i64.wrap (a843 + (1 : Int))), _, v839, (setL hs840 y880 v908), rfl, st924, ho923, r844, r845, r846, r847, rfl⟩
    ·rw [if_neg hc857] at hm
     replace hc857 := Bool.eq_false_iff.2 hc857
     refine wpC_false (bval rfl hc857) ?_
     refine wpC_exit ?_
     refine thn_exit ?_
     obtain rfl := Option.some.inj hm
     refine loopQ_exit (fun hx => ?_)
     subst hx
     have hm925 : M.shard_Partition_k1 N a841 = some r := hm854
     refine joinQ_same ?_
     exact ⟨a841, _, v839, hs840, st850, ho842, r845, hm925⟩
  ·skip
   rintro ρ w ⟨a709, F712, v707, hs708, st713, ho710, r711, hm⟩
   rw [M.shard_Partition_k1] at hm
   refine thn_normal ?_
   refine wpC_seq ?_
   refine wpC_region ?_
   refine wpS_pure v707 (pure_move r711) rfl ?_
   refine wpS_pure v707 (pure_assign rfl) rfl ?_
   refine wpS_nil ?_
   refine thn_normal ?_
   refine wpC_ret ?_
   have hr927 := (ho710).freeze
   have st926 := Own2.freezeSt st713 ho710
   obtain rfl := Option.some.inj hm
   refine bodyQ_ret1 Try.results12 v707 rfl ?_
   exact ⟨_, st926, hr927⟩

set_option maxRecDepth 100000 in
set_option maxHeartbeats 1000000 in
theorem M.same_Ints_walk (N : Nat) (w0 : World) (F0 : Nat → Prop) (hF0 : ∀ b, F0 b → b < w0.heap.size) (p0_a : List Int) (vp0_a : Value) (hp0_a : Rep F0 w0 (Row.slice rInt) [vp0_a] p0_a) (p1_b : List Int) (vp1_b : Value) (hp1_b : Rep F0 w0 (Row.slice rInt) [vp1_b] p1_b) (r : Bool) (hm : M.same_Ints N p0_a p1_b = some r) :
    Calls Try.prog 18 [vp0_a, vp1_b].toArray w0 fun e w => ∃ v, e = .returned v ∧ ∃ F, St w0 F0 w F ∧ v = (Value.bool r) := by
 refine calls_of_wpC Try.func18 rfl (Nat.le_of_ble_eq_true rfl) ?_
 intro ρ hρ
 have st0 := St.refl hF0
 rw [M.same_Ints] at hm
 refine wpC_seq ?_
 refine wpC_region ?_
 refine wpS_pure (Value.bool false) (pure_assign rfl) rfl ?_
 refine wpS_nil ?_
 refine thn_normal ?_
 refine wpC_seq ?_
 refine wpC_seq ?_
 refine wpC_region ?_
 refine wpS_pure vp0_a (pure_move (hρ 0 _ rfl)) rfl ?_
 refine wpS_len (v := vp0_a) Try.underlying25 rfl ((hp0_a.step (st0.step hF0))).reads rfl ?_
 refine wpS_pure vp1_b (pure_move (hρ 1 _ rfl)) rfl ?_
 refine wpS_len (v := vp1_b) Try.underlying25 rfl ((hp1_b.step (st0.step hF0))).reads rfl ?_
 refine wpS_pure (Value.bool (!decide ((p0_a.length : Int) = (p1_b.length : Int)))) (pure_neq rfl rfl) rfl ?_
 refine wpS_nil ?_
 refine thn_normal ?_
 by_cases hc978 : (!decide ((p0_a.length : Int) = (p1_b.length : Int))) = true
 ·rw [if_pos hc978] at hm
  refine wpC_true (bval rfl hc978) ?_
  refine wpC_seq ?_
  refine wpC_region ?_
  refine wpS_pure (Value.bool false) (pure_assign rfl) rfl ?_
  refine wpS_nil ?_
  refine thn_normal ?_
  refine wpC_ret ?_
  refine thn_ret ?_
  obtain rfl := Option.some.inj hm
  refine bodyQ_ret1 Try.results18 (Value.bool false) rfl ?_
  exact ⟨_, st0, rfl⟩
 ·rw [if_neg hc978] at hm
  replace hc978 := Bool.eq_false_iff.2 hc978
  refine wpC_false (bval rfl hc978) ?_
  refine wpC_skip ?_
  refine thn_normal ?_
  refine wpC_seq ?_
  refine wpC_seq ?_
  refine wpC_region ?_
  refine wpS_pure (Value.int .i64 (0 : Int)) (pure_assign rfl) rfl ?_
  refine wpS_nil ?_
  refine thn_normal ?_
  refine wpC_block_join (fun ρ w => ∃ (F1009 : Nat → Prop), St w0 F0 w F1009 ∧ M.same_Ints_k1 N = some r) ?_ ?_
  ·skip
   obtain ⟨x1039, hL1040, hm1041⟩ := bind_some hm
   clear hm
   refine wpC_loop (fun (s : Int) ρ w => ∃ (a1032 : Int) (F1036 : Nat → Prop), a1032 = s ∧ St w0 F0 w F1036 ∧ ρ 0 = vp0_a ∧ ρ 1 = vp1_b ∧ ρ 5 = (Value.int .i64 a1032)) hL1040 ?_ ?_
   ·exact ⟨(0 : Int), _, rfl, st0, (hρ 0 _ rfl), (hρ 1 _ rfl), rfl⟩
   ·skip
    rintro s ρ w y1044 ⟨a1032, F1036, rfl, st1037, r1033, r1034, r1035⟩ hm1045
    have hm : M.same_Ints_k2 N p0_a p1_b a1032 = some y1044 := hm1045
    clear hm1045
    rw [M.same_Ints_k2] at hm
    refine wpC_seq_join (fun ρ w => ∃ (F1049 : Nat → Prop), St w0 F0 w F1049 ∧ ρ 0 = vp0_a ∧ ρ 1 = vp1_b ∧ ρ 5 = (Value.int .i64 a1032) ∧ M.same_Ints_k3 N p0_a p1_b a1032 = some y1044) ?_ ?_
    ·skip
     refine wpC_seq ?_
     refine wpC_region ?_
     refine wpS_pure (Value.int .i64 a1032) (pure_move r1035) rfl ?_
     refine wpS_pure vp0_a (pure_move r1033) rfl ?_
     refine wpS_len (v := vp0_a) Try.underlying25 rfl ((hp0_a.step (st1037.step hF0))).reads rfl ?_
     refine wpS_pure (Value.bool (decide (a1032 < (p0_a.length : Int)))) (pure_lss rfl rfl) rfl ?_
     refine wpS_pure (Value.bool (decide (a1032 < (p0_a.length : Int)))) (pure_move rfl) rfl ?_
     by_cases hc1052 : (decide (a1032 < (p0_a.length : Int))) = true
     ·rw [if_pos hc1052] at hm
      refine wpS_on 15 rfl rfl (bval' rfl hc1052) ?_
      refine wpS_pure (Value.int .i64 a1032) (pure_move r1035) rfl ?_
      refine wpS_on 15 rfl rfl (bval' rfl hc1052) ?_
      refine wpS_pure vp1_b (pure_move r1034) rfl ?_
      refine wpS_on 15 rfl rfl (bval' rfl hc1052) ?_
      refine wpS_len (v := vp1_b) Try.underlying25 rfl ((hp1_b.step (st1037.step hF0))).reads rfl ?_
      refine wpS_on 15 rfl rfl (bval' rfl hc1052) ?_
      refine wpS_pure (Value.bool (decide (a1032 < (p1_b.length : Int)))) (pure_lss rfl rfl) rfl ?_
      refine wpS_pure (Value.bool (decide (a1032 < (p1_b.length : Int)))) (pure_pick_true (bval rfl hc1052) rfl) rfl ?_
      refine wpS_nil ?_
      refine thn_normal ?_
      by_cases hc1053 : (decide (a1032 < (p1_b.length : Int))) = true
      ·rw [if_pos hc1053] at hm
       refine wpC_true (bval rfl hc1053) ?_
       refine wpC_skip ?_
       refine thn_normal ?_
       exact ⟨_, st1037, r1033, r1034, r1035, hm⟩
      ·rw [if_neg hc1053] at hm
       replace hc1053 := Bool.eq_false_iff.2 hc1053
       refine wpC_false (bval rfl hc1053) ?_
       refine wpC_exit ?_
       refine thn_exit ?_
       obtain rfl := Option.some.inj hm
       refine loopQ_exit (fun hx => ?_)
       subst hx
       have hm1054 : M.same_Ints_k1 N = some r := hm1041
       refine joinQ_same ?_
       exact ⟨_, st1037, hm1054⟩
     ·rw [if_neg hc1052] at hm
      replace hc1052 := Bool.eq_false_iff.2 hc1052
      refine wpS_off 15 rfl rfl (bval' rfl hc1052) (by decide) rfl ?_
      refine wpS_off 15 rfl rfl (bval' rfl hc1052) (by decide) rfl ?_
      refine wpS_off 15 rfl rfl (bval' rfl hc1052) (by decide) rfl ?_
      refine wpS_off 15 rfl rfl (bval' rfl hc1052) (by decide) rfl ?_
      refine wpS_pure (Value.bool false) (pure_pick_false (bval rfl hc1052) rfl) rfl ?_
      refine wpS_nil ?_
      refine thn_normal ?_
      refine wpC_false rfl ?_
      refine wpC_exit ?_
      refine thn_exit ?_
      obtain rfl := Option.some.inj hm
      refine loopQ_exit (fun hx => ?_)
      subst hx
      have hm1055 : M.same_Ints_k1 N = some r := hm1041
      refine joinQ_same ?_
      exact ⟨_, st1037, hm1055⟩
    ·skip
     rintro ρ w ⟨F1049, st1050, r1046, r1047, r1048, hm⟩
     rw [M.same_Ints_k3] at hm
     refine wpC_seq ?_
     refine wpC_block ?_
     refine wpC_seq ?_
     refine wpC_draw st1050.lt mixed (by kernel_rfl) ?_
     refine wpQ_pure vp0_a (pure_move r1046) rfl ?_
     refine wpQ_pure (Value.int .i64 a1032) (pure_move r1048) rfl ?_
     obtain ⟨x1056, h1057, hm⟩ := bind_some hm
     try dsimp only at hm
     refine wpQ_indexT (v := vp0_a) Try.underlying25 T3 rfl rfl ((hp0_a.step (st1050.step hF0))).reads h1057 rfl ?_
     intro b1058 o1059 ha1060
     refine wpQ_load_int st1050.lt Try.underlying3 rfl rfl ha1060 rfl ?_
     refine wpQ_pure vp1_b (pure_move r1047) rfl ?_
     refine wpQ_pure (Value.int .i64 a1032) (pure_move r1048) rfl ?_
     obtain ⟨x1061, h1062, hm⟩ := bind_some hm
     try dsimp only at hm
     refine wpQ_indexT (v := vp1_b) Try.underlying25 T3 rfl rfl ((hp1_b.step (st1050.step hF0))).reads h1062 rfl ?_
     intro b1063 o1064 ha1065
     refine wpQ_load_int st1050.lt Try.underlying3 rfl rfl ha1065 rfl ?_
     refine wpQ_pure (Value.bool (!decide (x1056 = x1061))) (pure_neq rfl rfl) rfl ?_
     refine wpQ_nil ?_
     intro w1067 h1066
     have st1068 := st1050.trans h1066
     refine thn_normal ?_
     by_cases hc1069 : (!decide (x1056 = x1061)) = true
     ·rw [if_pos hc1069] at hm
      refine wpC_true (bval rfl hc1069) ?_
      refine wpC_seq ?_
      refine wpC_region ?_
      refine wpS_pure (Value.bool false) (pure_assign rfl) rfl ?_
      refine wpS_nil ?_
      refine thn_normal ?_
      refine wpC_ret ?_
      refine inB_ret ?_
      refine thn_ret ?_
      obtain rfl := Option.some.inj hm
      refine loopQ_ret (fun hx => ?_)
      subst hx
      have hm1070 : some (false) = some r := hm1041
      refine joinQ_ret ?_
      refine thn_ret ?_
      obtain rfl := Option.some.inj hm1070
      refine bodyQ_ret1 Try.results18 (Value.bool false) rfl ?_
      exact ⟨_, st1068, rfl⟩
     ·rw [if_neg hc1069] at hm
      replace hc1069 := Bool.eq_false_iff.2 hc1069
      refine wpC_false (bval rfl hc1069) ?_
      refine wpC_skip ?_
      refine inB_normal ?_
      refine thn_normal ?_
      refine wpC_region ?_
      refine wpS_pure (Value.int .i64 a1032) (pure_move r1048) rfl ?_
      refine wpS_pure (Value.int .i64 (IntKind.i64.wrap (a1032 + (1 : Int)))) (pure_add rfl rfl) rfl ?_
      refine wpS_pure (Value.int .i64 (IntKind.i64.wrap (a1032 + (1 : Int)))) (pure_assign rfl) rfl ?_
      refine wpS_nil ?_
      obtain rfl := Option.some.inj hm
      refine loopQ_in ?_
      exact ⟨(IntKind.i64.wrap (a1032 + (1 : Int))), _, rfl, st1068, r1046, r1047, rfl⟩
  ·skip
   rintro ρ w ⟨F1009, st1010, hm⟩
   rw [M.same_Ints_k1] at hm
   refine thn_normal ?_
   refine wpC_seq ?_
   refine wpC_region ?_
   refine wpS_pure (Value.bool true) (pure_assign rfl) rfl ?_
   refine wpS_nil ?_
   refine thn_normal ?_
   refine wpC_ret ?_
   obtain rfl := Option.some.inj hm
   refine bodyQ_ret1 Try.results18 (Value.bool true) rfl ?_
   exact ⟨_, st1010, rfl⟩

set_option maxRecDepth 100000 in
set_option maxHeartbeats 1000000 in
theorem M.same_IntLists_walk (N : Nat) (w0 : World) (F0 : Nat → Prop) (hF0 : ∀ b, F0 b → b < w0.heap.size) (p0_a : List (List Int)) (vp0_a : Value) (hp0_a : Rep F0 w0 (Row.slice (Row.slice rInt)) [vp0_a] p0_a) (p1_b : List (List Int)) (vp1_b : Value) (hp1_b : Rep F0 w0 (Row.slice (Row.slice rInt)) [vp1_b] p1_b) (r : Bool) (hm : M.same_IntLists N p0_a p1_b = some r) :
    Calls Try.prog 11 [vp0_a, vp1_b].toArray w0 fun e w => ∃ v, e = .returned v ∧ ∃ F, St w0 F0 w F ∧ v = (Value.bool r) := by
 refine calls_of_wpC Try.func11 rfl (Nat.le_of_ble_eq_true rfl) ?_
 intro ρ hρ
 have st0 := St.refl hF0
 rw [M.same_IntLists] at hm
 refine wpC_seq ?_
 refine wpC_region ?_
 refine wpS_pure (Value.bool false) (pure_assign rfl) rfl ?_
 refine wpS_nil ?_
 refine thn_normal ?_
 refine wpC_seq ?_
 refine wpC_seq ?_
 refine wpC_region ?_
 refine wpS_pure vp0_a (pure_move (hρ 0 _ rfl)) rfl ?_
 refine wpS_len (v := vp0_a) Try.underlying29 rfl ((hp0_a.step (st0.step hF0))).reads rfl ?_
 refine wpS_pure vp1_b (pure_move (hρ 1 _ rfl)) rfl ?_
 refine wpS_len (v := vp1_b) Try.underlying29 rfl ((hp1_b.step (st0.step hF0))).reads rfl ?_
 refine wpS_pure (Value.bool (!decide ((p0_a.length : Int) = (p1_b.length : Int)))) (pure_neq rfl rfl) rfl ?_
 refine wpS_nil ?_
 refine thn_normal ?_
 by_cases hc963 : (!decide ((p0_a.length : Int) = (p1_b.length : Int))) = true
 ·rw [if_pos hc963] at hm
  refine wpC_true (bval rfl hc963) ?_
  refine wpC_seq ?_
  refine wpC_region ?_
  refine wpS_pure (Value.bool false) (pure_assign rfl) rfl ?_
  refine wpS_nil ?_
  refine thn_normal ?_
  refine wpC_ret ?_
  refine thn_ret ?_
  obtain rfl := Option.some.inj hm
  refine bodyQ_ret1 Try.results11 (Value.bool false) rfl ?_
  exact ⟨_, st0, rfl⟩
 ·rw [if_neg hc963] at hm
  replace hc963 := Bool.eq_false_iff.2 hc963
  refine wpC_false (bval rfl hc963) ?_
  refine wpC_skip ?_
  refine thn_normal ?_
  refine wpC_seq ?_
  refine wpC_seq ?_
  refine wpC_region ?_
  refine wpS_pure (Value.int .i64 (0 : Int)) (pure_assign rfl) rfl ?_
  refine wpS_nil ?_
  refine thn_normal ?_
  refine wpC_block_join (fun ρ w => ∃ (F1126 : Nat → Prop), St w0 F0 w F1126 ∧ M.same_IntLists_k1 N = some r) ?_ ?_
  ·skip
   obtain ⟨x1182, hL1183, hm1184⟩ := bind_some hm
   clear hm
   refine wpC_loop (fun (s : Int) ρ w => ∃ (a1175 : Int) (F1179 : Nat → Prop), a1175 = s ∧ St w0 F0 w F1179 ∧ ρ 0 = vp0_a ∧ ρ 1 = vp1_b ∧ ρ 5 = (Value.int .i64 a1175)) hL1183 ?_ ?_
   ·exact ⟨(0 : Int), _, rfl, st0, (hρ 0 _ rfl), (hρ 1 _ rfl), rfl⟩
   ·skip
    rintro s ρ w y1187 ⟨a1175, F1179, rfl, st1180, r1176, r1177, r1178⟩ hm1188
    have hm : M.same_IntLists_k2 N p0_a p1_b a1175 = some y1187 := hm1188
    clear hm1188
    rw [M.same_IntLists_k2] at hm
    refine wpC_seq_join (fun ρ w => ∃ (F1192 : Nat → Prop), St w0 F0 w F1192 ∧ ρ 0 = vp0_a ∧ ρ 1 = vp1_b ∧ ρ 5 = (Value.int .i64 a1175) ∧ M.same_IntLists_k3 N p0_a p1_b a1175 = some y1187) ?_ ?_
    ·skip
     refine wpC_seq ?_
     refine wpC_region ?_
     refine wpS_pure (Value.int .i64 a1175) (pure_move r1178) rfl ?_
     refine wpS_pure vp0_a (pure_move r1176) rfl ?_
     refine wpS_len (v := vp0_a) Try.underlying29 rfl ((hp0_a.step (st1180.step hF0))).reads rfl ?_
     refine wpS_pure (Value.bool (decide (a1175 < (p0_a.length : Int)))) (pure_lss rfl rfl) rfl ?_
     refine wpS_pure (Value.bool (decide (a1175 < (p0_a.length : Int)))) (pure_move rfl) rfl ?_
     by_cases hc1195 : (decide (a1175 < (p0_a.length : Int))) = true
     ·rw [if_pos hc1195] at hm
      refine wpS_on 15 rfl rfl (bval' rfl hc1195) ?_
      refine wpS_pure (Value.int .i64 a1175) (pure_move r1178) rfl ?_
      refine wpS_on 15 rfl rfl (bval' rfl hc1195) ?_
      refine wpS_pure vp1_b (pure_move r1177) rfl ?_
      refine wpS_on 15 rfl rfl (bval' rfl hc1195) ?_
      refine wpS_len (v := vp1_b) Try.underlying29 rfl ((hp1_b.step (st1180.step hF0))).reads rfl ?_
      refine wpS_on 15 rfl rfl (bval' rfl hc1195) ?_
      refine wpS_pure (Value.bool (decide (a1175 < (p1_b.length : Int)))) (pure_lss rfl rfl) rfl ?_
      refine wpS_pure (Value.bool (decide (a1175 < (p1_b.length : Int)))) (pure_pick_true (bval rfl hc1195) rfl) rfl ?_
      refine wpS_nil ?_
      refine thn_normal ?_
      by_cases hc1196 : (decide (a1175 < (p1_b.length : Int))) = true
      ·rw [if_pos hc1196] at hm
       refine wpC_true (bval rfl hc1196) ?_
       refine wpC_skip ?_
       refine thn_normal ?_
       exact ⟨_, st1180, r1176, r1177, r1178, hm⟩
      ·rw [if_neg hc1196] at hm
       replace hc1196 := Bool.eq_false_iff.2 hc1196
       refine wpC_false (bval rfl hc1196) ?_
       refine wpC_exit ?_
       refine thn_exit ?_
       obtain rfl := Option.some.inj hm
       refine loopQ_exit (fun hx => ?_)
       subst hx
       have hm1197 : M.same_IntLists_k1 N = some r := hm1184
       refine joinQ_same ?_
       exact ⟨_, st1180, hm1197⟩
     ·rw [if_neg hc1195] at hm
      replace hc1195 := Bool.eq_false_iff.2 hc1195
      refine wpS_off 15 rfl rfl (bval' rfl hc1195) (by decide) rfl ?_
      refine wpS_off 15 rfl rfl (bval' rfl hc1195) (by decide) rfl ?_
      refine wpS_off 15 rfl rfl (bval' rfl hc1195) (by decide) rfl ?_
      refine wpS_off 15 rfl rfl (bval' rfl hc1195) (by decide) rfl ?_
      refine wpS_pure (Value.bool false) (pure_pick_false (bval rfl hc1195) rfl) rfl ?_
      refine wpS_nil ?_
      refine thn_normal ?_
      refine wpC_false rfl ?_
      refine wpC_exit ?_
      refine thn_exit ?_
      obtain rfl := Option.some.inj hm
      refine loopQ_exit (fun hx => ?_)
      subst hx
      have hm1198 : M.same_IntLists_k1 N = some r := hm1184
      refine joinQ_same ?_
      exact ⟨_, st1180, hm1198⟩
    ·skip
     rintro ρ w ⟨F1192, st1193, r1189, r1190, r1191, hm⟩
     rw [M.same_IntLists_k3] at hm
     refine wpC_seq ?_
     refine wpC_block ?_
     refine wpC_seq ?_
     refine wpC_draw st1193.lt mixed (by kernel_rfl) ?_
     refine wpQ_pure vp0_a (pure_move r1189) rfl ?_
     refine wpQ_pure (Value.int .i64 a1175) (pure_move r1191) rfl ?_
     obtain ⟨x1199, h1200, hm⟩ := bind_some hm
     try dsimp only at hm
     refine wpQ_indexT (v := vp0_a) Try.underlying29 T25 rfl rfl ((hp0_a.step (st1193.step hF0))).reads h1200 rfl ?_
     intro b1201 o1202 ha1203
     refine wpQ_load_slice st1193.lt Try.underlying25 rfl rfl ha1203 rfl ?_
     intro v1204 hr1205
     refine wpQ_pure vp1_b (pure_move r1190) rfl ?_
     refine wpQ_pure (Value.int .i64 a1175) (pure_move r1191) rfl ?_
     obtain ⟨x1206, h1207, hm⟩ := bind_some hm
     try dsimp only at hm
     refine wpQ_indexT (v := vp1_b) Try.underlying29 T25 rfl rfl ((hp1_b.step (st1193.step hF0))).reads h1207 rfl ?_
     intro b1208 o1209 ha1210
     refine wpQ_load_slice st1193.lt Try.underlying25 rfl rfl ha1210 rfl ?_
     intro v1211 hr1212
     obtain ⟨y1213, h1214, hm⟩ := bind_some hm
     try dsimp only at hm
     refine wpQ_call (vs := [v1204, v1211]) (Value.bool y1213) Try.func18 nm18 bd18 (m_cons rfl (m_cons rfl m_nil)) (fun _ hs => M.same_Ints_walk N _ _ hs.lt x1199 v1204 (hr1205.step (hs.step st1193.lt)) x1206 v1211 (hr1212.step (hs.step st1193.lt)) y1213 h1214) (by rintro _ _ _ hs ⟨F, h2, hv⟩; subst hv; exact ⟨rfl, hs.trans (h2.narrow hs.lt)⟩) rfl ?_
     refine wpQ_pure (Value.bool (!y1213)) (pure_not rfl) rfl ?_
     refine wpQ_nil ?_
     intro w1216 h1215
     have st1217 := st1193.trans h1215
     refine thn_normal ?_
     by_cases hc1218 : (!y1213) = true
     ·rw [if_pos hc1218] at hm
      refine wpC_true (bval rfl hc1218) ?_
      refine wpC_seq ?_
      refine wpC_region ?_
      refine wpS_pure (Value.bool false) (pure_assign rfl) rfl ?_
      refine wpS_nil ?_
      refine thn_normal ?_
      refine wpC_ret ?_
      refine inB_ret ?_
      refine thn_ret ?_
      obtain rfl := Option.some.inj hm
      refine loopQ_ret (fun hx => ?_)
      subst hx
      have hm1219 : some (false) = some r := hm1184
      refine joinQ_ret ?_
      refine thn_ret ?_
      obtain rfl := Option.some.inj hm1219
      refine bodyQ_ret1 Try.results11 (Value.bool false) rfl ?_
      exact ⟨_, st1217, rfl⟩
     ·rw [if_neg hc1218] at hm
      replace hc1218 := Bool.eq_false_iff.2 hc1218
      refine wpC_false (bval rfl hc1218) ?_
      refine wpC_skip ?_
      refine inB_normal ?_
      refine thn_normal ?_
      refine wpC_region ?_
      refine wpS_pure (Value.int .i64 a1175) (pure_move r1191) rfl ?_
      refine wpS_pure (Value.int .i64 (IntKind.i64.wrap (a1175 + (1 : Int)))) (pure_add rfl rfl) rfl ?_
      refine wpS_pure (Value.int .i64 (IntKind.i64.wrap (a1175 + (1 : Int)))) (pure_assign rfl) rfl ?_
      refine wpS_nil ?_
      obtain rfl := Option.some.inj hm
      refine loopQ_in ?_
      exact ⟨(IntKind.i64.wrap (a1175 + (1 : Int))), _, rfl, st1217, r1189, r1190, rfl⟩
  ·skip
   rintro ρ w ⟨F1126, st1127, hm⟩
   rw [M.same_IntLists_k1] at hm
   refine thn_normal ?_
   refine wpC_seq ?_
   refine wpC_region ?_
   refine wpS_pure (Value.bool true) (pure_assign rfl) rfl ?_
   refine wpS_nil ?_
   refine thn_normal ?_
   refine wpC_ret ?_
   obtain rfl := Option.some.inj hm
   refine bodyQ_ret1 Try.results11 (Value.bool true) rfl ?_
   exact ⟨_, st1127, rfl⟩

set_option maxRecDepth 100000 in
set_option maxHeartbeats 1000000 in
theorem M.law48_awake_walk (N : Nat) (w0 : World) (F0 : Nat → Prop) (hF0 : ∀ b, F0 b → b < w0.heap.size)  (r : Bool) (hm : M.law48_awake N = some r) :
    Calls Try.prog 9 [].toArray w0 fun e w => ∃ v, e = .returned v ∧ ∃ F, St w0 F0 w F ∧ v = (Value.bool r) := by
 refine calls_of_wpC Try.func9 rfl (Nat.le_of_ble_eq_true rfl) ?_
 intro ρ hρ
 have st0 := St.refl hF0
 rw [M.law48_awake] at hm
 refine wpC_seq ?_
 refine wpC_region ?_
 refine wpS_pure (Value.bool false) (pure_assign rfl) rfl ?_
 refine wpS_nil ?_
 refine thn_normal ?_
 refine wpC_seq ?_
 refine wpC_region ?_
 obtain ⟨l32, h33, hm⟩ := bind_some hm
 try dsimp only at hm
 refine wpS_makeT (base := w0.heap.size) Try.underlying26 T42 rfl rfl h33 st0.lt st0.below.size rfl ?_
 intro v34 w35 h36 ho37 hn38
 have st39 := st0.trans h36
 refine wpS_pure v34 (pure_assign rfl) rfl ?_
 refine wpS_nil ?_
 refine thn_normal ?_
 refine wpC_seq ?_
 refine wpC_region ?_
 refine wpS_pure v34 (pure_move rfl) rfl ?_
 obtain ⟨x41, h42, hm⟩ := bind_some hm
 try dsimp only at hm
 refine wpS_elemT (v := v34) Try.underlying26 T42 rfl rfl ho37 h42 rfl ?_
 intro g43 q44 hg45 hq46
 refine wpS_pure (Value.pointer (some ⟨g43, q44 * Row.size rAccount + 0, none⟩)) (pure_fieldT 0 Try.underlying42 rfl T38 rfl rfl) rfl ?_
 refine wpS_pure (Value.pointer (some ⟨g43, q44 * Row.size rAccount + 0 + 0, none⟩)) (pure_fieldT 0 Try.underlying38 rfl T3 rfl rfl) rfl ?_
 refine wpS_store_elemT (v := v34) (val := (Value.int .i64 (1 : Int))) (.fst (.fst (.here))) T3 rfl (by simp [Path.off]) rfl rfl rfl ho37 hg45 hq46 h42 st39.lt ?_
 intro w47 he48 ho49
 have ho50 : Own w0.heap.size _ w47 42 rAccount v34 (setL l32 (0 : Int) (((1 : Int), x41.1.2), x41.2)) := ho49
 have st51 := st39.ext he48 (ho37).ge
 refine wpS_nil ?_
 refine thn_normal ?_
 refine wpC_seq ?_
 refine wpC_region ?_
 refine wpS_pure v34 (pure_move rfl) rfl ?_
 obtain ⟨x52, h53, hm⟩ := bind_some hm
 try dsimp only at hm
 refine wpS_elemT (v := v34) Try.underlying26 T42 rfl rfl ho50 h53 rfl ?_
 intro g54 q55 hg56 hq57
 refine wpS_pure (Value.pointer (some ⟨g54, q55 * Row.size rAccount + 0, none⟩)) (pure_fieldT 0 Try.underlying42 rfl T38 rfl rfl) rfl ?_
 refine wpS_pure (Value.pointer (some ⟨g54, q55 * Row.size rAccount + 0 + 0, none⟩)) (pure_fieldT 0 Try.underlying38 rfl T3 rfl rfl) rfl ?_
 refine wpS_store_elemT (v := v34) (val := (Value.int .i64 (2 : Int))) (.fst (.fst (.here))) T3 rfl (by simp [Path.off]) rfl rfl rfl ho50 hg56 hq57 h53 st51.lt ?_
 intro w58 he59 ho60
 have ho61 : Own w0.heap.size _ w58 42 rAccount v34 (setL (setL l32 (0 : Int) (((1 : Int), x41.1.2), x41.2)) (1 : Int) (((2 : Int), x52.1.2), x52.2)) := ho60
 have st62 := st51.ext he59 (ho50).ge
 refine wpS_nil ?_
 refine thn_normal ?_
 refine wpC_seq ?_
 refine wpC_region ?_
 refine wpS_pure v34 (pure_move rfl) rfl ?_
 obtain ⟨x63, h64, hm⟩ := bind_some hm
 try dsimp only at hm
 refine wpS_elemT (v := v34) Try.underlying26 T42 rfl rfl ho61 h64 rfl ?_
 intro g65 q66 hg67 hq68
 refine wpS_pure (Value.pointer (some ⟨g65, q66 * Row.size rAccount + 0, none⟩)) (pure_fieldT 0 Try.underlying42 rfl T38 rfl rfl) rfl ?_
 refine wpS_pure (Value.pointer (some ⟨g65, q66 * Row.size rAccount + 0 + 0, none⟩)) (pure_fieldT 0 Try.underlying38 rfl T3 rfl rfl) rfl ?_
 refine wpS_store_elemT (v := v34) (val := (Value.int .i64 (1 : Int))) (.fst (.fst (.here))) T3 rfl (by simp [Path.off]) rfl rfl rfl ho61 hg67 hq68 h64 st62.lt ?_
 intro w69 he70 ho71
 have ho72 : Own w0.heap.size _ w69 42 rAccount v34 (setL (setL (setL l32 (0 : Int) (((1 : Int), x41.1.2), x41.2)) (1 : Int) (((2 : Int), x52.1.2), x52.2)) (2 : Int) (((1 : Int), x63.1.2), x63.2)) := ho71
 have st73 := st62.ext he70 (ho61).ge
 refine wpS_nil ?_
 refine thn_normal ?_
 refine wpC_seq ?_
 refine wpC_region ?_
 obtain ⟨y74, h75, hm⟩ := bind_some hm
 try dsimp only at hm
 refine wpS_call (vs := [(Value.int .i64 (1 : Int)), (Value.int .i64 (2 : Int))]) Try.func7 nm7 bd7 (m_cons rfl (m_cons rfl m_nil)) (M.shard_Of_walk N _ _ st73.lt (1 : Int) (2 : Int) y74 h75) rfl ?_
 rintro v76 w77 ⟨F78, h79, hv80⟩
 have h81 := h79.narrow st73.lt
 have st82 := st73.trans h81
 obtain rfl := hv80
 refine wpS_pure (Value.bool (decide (y74 = (1 : Int)))) (pure_eql rfl rfl) rfl ?_
 refine wpS_pure (Value.bool (decide (y74 = (1 : Int)))) (pure_move rfl) rfl ?_
 by_cases hc83 : (decide (y74 = (1 : Int))) = true
 ·rw [if_pos hc83] at hm
  refine wpS_on 17 rfl rfl (bval' rfl hc83) ?_
  obtain ⟨y84, h85, hm⟩ := bind_some hm
  try dsimp only at hm
  refine wpS_call (vs := [(Value.int .i64 (2 : Int)), (Value.int .i64 (2 : Int))]) Try.func7 nm7 bd7 (m_cons rfl (m_cons rfl m_nil)) (M.shard_Of_walk N _ _ st82.lt (2 : Int) (2 : Int) y84 h85) rfl ?_
  rintro v86 w87 ⟨F88, h89, hv90⟩
  have h91 := h89.narrow st82.lt
  have st92 := st82.trans h91
  obtain rfl := hv90
  refine wpS_on 17 rfl rfl (bval' rfl hc83) ?_
  refine wpS_pure (Value.bool (decide (y84 = (0 : Int)))) (pure_eql rfl rfl) rfl ?_
  refine wpS_pure (Value.bool (decide (y84 = (0 : Int)))) (pure_pick_true (bval rfl hc83) rfl) rfl ?_
  refine wpS_pure (Value.bool (decide (y84 = (0 : Int)))) (pure_move rfl) rfl ?_
  by_cases hc93 : (decide (y84 = (0 : Int))) = true
  ·rw [if_pos hc93] at hm
   refine wpS_on 21 rfl rfl (bval' rfl hc93) ?_
   refine wpS_pure v34 (pure_move rfl) rfl ?_
   refine wpS_on 21 rfl rfl (bval' rfl hc93) ?_
   have hr929 := (((ho72.st st73.lt h81).st st82.lt h91)).freeze
   have st928 := st92.fz ((ho72.st st73.lt h81).st st82.lt h91)
   obtain ⟨y930, h931, hm⟩ := bind_some hm
   try dsimp only at hm
   refine wpS_call (vs := [v34, (Value.int .i64 (2 : Int))]) Try.func12 nm12 bd12 (m_cons rfl (m_cons rfl m_nil)) (M.shard_Partition_walk N _ _ st928.lt (setL (setL (setL l32 (0 : Int) (((1 : Int), x41.1.2), x41.2)) (1 : Int) (((2 : Int), x52.1.2), x52.2)) (2 : Int) (((1 : Int), x63.1.2), x63.2)) v34 hr929 (2 : Int) y930 h931) rfl ?_
   rintro v932 w933 ⟨F934, h935, hv936⟩
   have st937 := st928.trans h935
   refine wpS_on 21 rfl rfl (bval' rfl hc93) ?_
   refine wpS_oneT (base := w0.heap.size) (v := (Value.int .i64 (1 : Int))) Try.underlying25 T3 rfl rfl rfl rfl st937.lt st937.below.size rfl ?_
   intro v938 w939 h940 ho941 hn942
   have st943 := st937.trans h940
   refine wpS_on 21 rfl rfl (bval' rfl hc93) ?_
   refine wpS_buildT (base := w0.heap.size) (xs := [.const (Value.int .i64 (0 : Int)), .const (Value.int .i64 (2 : Int))]) (vs := [(Value.int .i64 (0 : Int)), (Value.int .i64 (2 : Int))]) Try.underlying25 T3 rfl rfl rfl (m_cons rfl (m_cons rfl m_nil)) (Lits.cons rfl rfl (Lits.cons rfl rfl Lits.nil)) st943.lt st943.below.size rfl ?_
   intro v945 w946 h947 ho948 hn949
   have st950 := st943.trans h947
   refine wpS_on 21 rfl rfl (bval' rfl hc93) ?_
   have hr953 := ((ho941.st st943.lt h947)).freeze
   have st952 := st950.fz (ho941.st st943.lt h947)
   have hr955 := ((ho948.fz (ap_symm (ap_new (ho941).lt hn949)))).freeze
   have st954 := st952.fz (ho948.fz (ap_symm (ap_new (ho941).lt hn949)))
   refine wpS_buildT (base := w0.heap.size) (xs := [.tmp 24, .tmp 25]) (vs := [v938, v945]) Try.underlying29 T25 rfl rfl rfl (m_cons rfl (m_cons rfl m_nil)) (Lits.cons (cells_one hr953) (hr953.step (Step.freeze _ _ _)) (Lits.cons (cells_one hr955) hr955 Lits.nil)) st954.lt st954.below.size rfl ?_
   intro v956 w957 h958 ho959 hn960
   have st961 := st954.trans h958
   refine wpS_on 21 rfl rfl (bval' rfl hc93) ?_
   have st1220 := st961.fz ho959
   have hr1221 := (ho959).freeze
   obtain ⟨y1222, h1223, hm⟩ := bind_some hm
   try dsimp only at hm
   refine wpS_call (vs := [v932, v956]) Try.func11 nm11 bd11 (m_cons rfl (m_cons rfl m_nil)) (M.same_IntLists_walk N _ _ st1220.lt y930 v932 ((((((hv936.step (h940.step st937.lt)).step (h947.step st943.lt)).step (Step.freeze _ _ _)).step (Step.freeze _ _ _)).step (h958.step st954.lt)).step (Step.freeze _ _ _)) ([[(1 : Int)], ([(0 : Int), (2 : Int)] : List Int)] : List (List Int)) v956 hr1221 y1222 h1223) rfl ?_
   rintro v1224 w1225 ⟨F1226, h1227, hv1228⟩
   have h1229 := h1227.narrow st961.lt
   have st1230 := st961.trans h1229
   obtain rfl := hv1228
   refine wpS_pure (Value.bool y1222) (pure_pick_true (bval rfl hc93) rfl) rfl ?_
   refine wpS_pure (Value.bool y1222) (pure_assign rfl) rfl ?_
   refine wpS_nil ?_
   refine thn_normal ?_
   refine wpC_ret ?_
   obtain rfl := Option.some.inj hm
   refine bodyQ_ret1 Try.results9 (Value.bool y1222) rfl ?_
   exact ⟨_, st1230, rfl⟩
  ·rw [if_neg hc93] at hm
   replace hc93 := Bool.eq_false_iff.2 hc93
   refine wpS_off 21 rfl rfl (bval' rfl hc93) (by decide) rfl ?_
   refine wpS_off 21 rfl rfl (bval' rfl hc93) (by decide) rfl ?_
   refine wpS_off 21 rfl rfl (bval' rfl hc93) (by decide) rfl ?_
   refine wpS_off 21 rfl rfl (bval' rfl hc93) (by decide) rfl ?_
   refine wpS_off 21 rfl rfl (bval' rfl hc93) (by decide) rfl ?_
   refine wpS_off 21 rfl rfl (bval' rfl hc93) (by decide) rfl ?_
   refine wpS_pure (Value.bool false) (pure_pick_false (bval rfl hc93) rfl) rfl ?_
   refine wpS_pure (Value.bool false) (pure_assign rfl) rfl ?_
   refine wpS_nil ?_
   refine thn_normal ?_
   refine wpC_ret ?_
   obtain rfl := Option.some.inj hm
   refine bodyQ_ret1 Try.results9 (Value.bool false) rfl ?_
   exact ⟨_, st92, rfl⟩
 ·rw [if_neg hc83] at hm
  replace hc83 := Bool.eq_false_iff.2 hc83
  refine wpS_off 17 rfl rfl (bval' rfl hc83) (by decide) rfl ?_
  refine wpS_off 17 rfl rfl (bval' rfl hc83) (by decide) rfl ?_
  refine wpS_pure (Value.bool false) (pure_pick_false (bval rfl hc83) rfl) rfl ?_
  refine wpS_pure (Value.bool false) (pure_move rfl) rfl ?_
  refine wpS_off 21 rfl rfl rfl (by decide) rfl ?_
  refine wpS_off 21 rfl rfl rfl (by decide) rfl ?_
  refine wpS_off 21 rfl rfl rfl (by decide) rfl ?_
  refine wpS_off 21 rfl rfl rfl (by decide) rfl ?_
  refine wpS_off 21 rfl rfl rfl (by decide) rfl ?_
  refine wpS_off 21 rfl rfl rfl (by decide) rfl ?_
  refine wpS_pure (Value.bool false) (pure_pick_false rfl rfl) rfl ?_
  refine wpS_pure (Value.bool false) (pure_assign rfl) rfl ?_
  refine wpS_nil ?_
  refine thn_normal ?_
  refine wpC_ret ?_
  obtain rfl := Option.some.inj hm
  refine bodyQ_ret1 Try.results9 (Value.bool false) rfl ?_
  exact ⟨_, st82, rfl⟩

set_option maxRecDepth 100000 in
set_option maxHeartbeats 1000000 in
theorem M.law48_ShardOf_walk (N : Nat) (w0 : World) (F0 : Nat → Prop) (hF0 : ∀ b, F0 b → b < w0.heap.size) (p0_household : Int) (p1_n : Int) (r : Bool) (hm : M.law48_ShardOf N p0_household p1_n = some r) :
    Calls Try.prog 3 [(Value.int .i64 p0_household), (Value.int .i64 p1_n)].toArray w0 fun e w => ∃ v, e = .returned v ∧ ∃ F, St w0 F0 w F ∧ v = (Value.bool r) := by
 refine calls_of_wpC Try.func3 rfl (Nat.le_of_ble_eq_true rfl) ?_
 intro ρ hρ
 have st0 := St.refl hF0
 rw [M.law48_ShardOf] at hm
 refine wpC_seq ?_
 refine wpC_region ?_
 refine wpS_pure (Value.bool false) (pure_assign rfl) rfl ?_
 refine wpS_nil ?_
 refine thn_normal ?_
 refine wpC_seq ?_
 refine wpC_region ?_
 refine wpS_pure (Value.int .i64 p0_household) (pure_move (hρ 0 _ rfl)) rfl ?_
 refine wpS_pure (Value.int .i64 p1_n) (pure_move (hρ 1 _ rfl)) rfl ?_
 obtain ⟨y2, h3, hm⟩ := bind_some hm
 try dsimp only at hm
 refine wpS_call (vs := [(Value.int .i64 p0_household), (Value.int .i64 p1_n)]) Try.func7 nm7 bd7 (m_cons rfl (m_cons rfl m_nil)) (M.shard_Of_walk N _ _ st0.lt p0_household p1_n y2 h3) rfl ?_
 rintro v4 w5 ⟨F6, h7, hv8⟩
 have h9 := h7.narrow st0.lt
 have st10 := st0.trans h9
 obtain rfl := hv8
 refine wpS_pure (Value.int .i64 y2) (pure_assign rfl) rfl ?_
 refine wpS_nil ?_
 refine thn_normal ?_
 refine wpC_seq_join (fun ρ w => ∃ (F14 : Nat → Prop), St w0 F0 w F14 ∧ ρ 0 = (Value.int .i64 p0_household) ∧ ρ 1 = (Value.int .i64 p1_n) ∧ ρ 5 = (Value.int .i64 y2) ∧ M.law48_ShardOf_k1 N p0_household p1_n y2 = some r) ?_ ?_
 ·skip
  refine wpC_seq ?_
  refine wpC_region ?_
  refine wpS_pure (Value.int .i64 p1_n) (pure_move (hρ 1 _ rfl)) rfl ?_
  refine wpS_pure (Value.bool (decide ((1 : Int) ≤ p1_n))) (pure_geq rfl rfl) rfl ?_
  refine wpS_pure (Value.bool (decide ((1 : Int) ≤ p1_n))) (pure_move rfl) rfl ?_
  by_cases hc17 : (decide ((1 : Int) ≤ p1_n)) = true
  ·rw [if_pos hc17] at hm
   refine wpS_on 11 rfl rfl (bval' rfl hc17) ?_
   refine wpS_pure (Value.int .i64 p1_n) (pure_move (hρ 1 _ rfl)) rfl ?_
   refine wpS_on 11 rfl rfl (bval' rfl hc17) ?_
   refine wpS_pure (Value.bool (decide (p1_n ≤ (65536 : Int)))) (pure_leq rfl rfl) rfl ?_
   refine wpS_pure (Value.bool (decide (p1_n ≤ (65536 : Int)))) (pure_pick_true (bval rfl hc17) rfl) rfl ?_
   refine wpS_pure (Value.bool (decide (p1_n ≤ (65536 : Int)))) (pure_move rfl) rfl ?_
   by_cases hc18 : (decide (p1_n ≤ (65536 : Int))) = true
   ·rw [if_pos hc18] at hm
    refine wpS_on 15 rfl rfl (bval' rfl hc18) ?_
    refine wpS_pure (Value.int .i64 y2) (pure_move rfl) rfl ?_
    refine wpS_on 15 rfl rfl (bval' rfl hc18) ?_
    refine wpS_pure (Value.bool (decide (y2 < (0 : Int)))) (pure_lss rfl rfl) rfl ?_
    refine wpS_on 15 rfl rfl (bval' rfl hc18) ?_
    refine wpS_pure (Value.bool (decide (y2 < (0 : Int)))) (pure_move rfl) rfl ?_
    by_cases hc19 : (decide (y2 < (0 : Int))) = true
    ·rw [if_pos hc19] at hm
     refine wpS_off 18 rfl rfl (bval' rfl hc19) (by decide) rfl ?_
     refine wpS_off 18 rfl rfl (bval' rfl hc19) (by decide) rfl ?_
     refine wpS_off 18 rfl rfl (bval' rfl hc19) (by decide) rfl ?_
     refine wpS_on 15 rfl rfl (bval' rfl hc18) ?_
     refine wpS_pure (Value.bool true) (pure_pick_true (bval rfl hc19) rfl) rfl ?_
     refine wpS_pure (Value.bool true) (pure_pick_true (bval rfl hc18) rfl) rfl ?_
     refine wpS_nil ?_
     refine thn_normal ?_
     refine wpC_true rfl ?_
     refine wpC_seq ?_
     refine wpC_region ?_
     refine wpS_pure (Value.bool false) (pure_assign rfl) rfl ?_
     refine wpS_nil ?_
     refine thn_normal ?_
     refine wpC_ret ?_
     refine thn_ret ?_
     obtain rfl := Option.some.inj hm
     refine bodyQ_ret1 Try.results3 (Value.bool false) rfl ?_
     exact ⟨_, st10, rfl⟩
    ·rw [if_neg hc19] at hm
     replace hc19 := Bool.eq_false_iff.2 hc19
     refine wpS_on 18 rfl rfl (bval' rfl hc19) ?_
     refine wpS_pure (Value.int .i64 y2) (pure_move rfl) rfl ?_
     refine wpS_on 18 rfl rfl (bval' rfl hc19) ?_
     refine wpS_pure (Value.int .i64 p1_n) (pure_move (hρ 1 _ rfl)) rfl ?_
     refine wpS_on 18 rfl rfl (bval' rfl hc19) ?_
     refine wpS_pure (Value.bool (decide (p1_n ≤ y2))) (pure_geq rfl rfl) rfl ?_
     refine wpS_on 15 rfl rfl (bval' rfl hc18) ?_
     refine wpS_pure (Value.bool (decide (p1_n ≤ y2))) (pure_pick_false (bval rfl hc19) rfl) rfl ?_
     refine wpS_pure (Value.bool (decide (p1_n ≤ y2))) (pure_pick_true (bval rfl hc18) rfl) rfl ?_
     refine wpS_nil ?_
     refine thn_normal ?_
     by_cases hc20 : (decide (p1_n ≤ y2)) = true
     ·rw [if_pos hc20] at hm
      refine wpC_true (bval rfl hc20) ?_
      refine wpC_seq ?_
      refine wpC_region ?_
      refine wpS_pure (Value.bool false) (pure_assign rfl) rfl ?_
      refine wpS_nil ?_
      refine thn_normal ?_
      refine wpC_ret ?_
      refine thn_ret ?_
      obtain rfl := Option.some.inj hm
      refine bodyQ_ret1 Try.results3 (Value.bool false) rfl ?_
      exact ⟨_, st10, rfl⟩
     ·rw [if_neg hc20] at hm
      replace hc20 := Bool.eq_false_iff.2 hc20
      refine wpC_false (bval rfl hc20) ?_
      refine wpC_skip ?_
      refine thn_normal ?_
      exact ⟨_, st10, (hρ 0 _ rfl), (hρ 1 _ rfl), rfl, hm⟩
   ·rw [if_neg hc18] at hm
    replace hc18 := Bool.eq_false_iff.2 hc18
    refine wpS_off 15 rfl rfl (bval' rfl hc18) (by decide) rfl ?_
    refine wpS_off 15 rfl rfl (bval' rfl hc18) (by decide) rfl ?_
    refine wpS_off 15 rfl rfl (bval' rfl hc18) (by decide) rfl ?_
    refine wpS_offu 18 rfl rfl rfl rfl ?_
    refine wpS_offu 18 rfl rfl rfl rfl ?_
    refine wpS_offu 18 rfl rfl rfl rfl ?_
    refine wpS_off 15 rfl rfl (bval' rfl hc18) (by decide) rfl ?_
    refine wpS_pure (Value.bool false) (pure_pick_false (bval rfl hc18) rfl) rfl ?_
    refine wpS_nil ?_
    refine thn_normal ?_
    refine wpC_false rfl ?_
    refine wpC_skip ?_
    refine thn_normal ?_
    exact ⟨_, st10, (hρ 0 _ rfl), (hρ 1 _ rfl), rfl, hm⟩
  ·rw [if_neg hc17] at hm
   replace hc17 := Bool.eq_false_iff.2 hc17
   refine wpS_off 11 rfl rfl (bval' rfl hc17) (by decide) rfl ?_
   refine wpS_off 11 rfl rfl (bval' rfl hc17) (by decide) rfl ?_
   refine wpS_pure (Value.bool false) (pure_pick_false (bval rfl hc17) rfl) rfl ?_
   refine wpS_pure (Value.bool false) (pure_move rfl) rfl ?_
   refine wpS_off 15 rfl rfl rfl (by decide) rfl ?_
   refine wpS_off 15 rfl rfl rfl (by decide) rfl ?_
   refine wpS_off 15 rfl rfl rfl (by decide) rfl ?_
   refine wpS_offu 18 rfl rfl rfl rfl ?_
   refine wpS_offu 18 rfl rfl rfl rfl ?_
   refine wpS_offu 18 rfl rfl rfl rfl ?_
   refine wpS_off 15 rfl rfl rfl (by decide) rfl ?_
   refine wpS_pure (Value.bool false) (pure_pick_false rfl rfl) rfl ?_
   refine wpS_nil ?_
   refine thn_normal ?_
   refine wpC_false rfl ?_
   refine wpC_skip ?_
   refine thn_normal ?_
   exact ⟨_, st10, (hρ 0 _ rfl), (hρ 1 _ rfl), rfl, hm⟩
 ·skip
  rintro ρ w ⟨F14, st15, r11, r12, r13, hm⟩
  rw [M.law48_ShardOf_k1] at hm
  refine wpC_seq ?_
  refine wpC_region ?_
  refine wpS_pure (Value.int .i64 y2) (pure_move r13) rfl ?_
  refine wpS_pure (Value.int .i64 p0_household) (pure_move r11) rfl ?_
  refine wpS_pure (Value.int .i64 p1_n) (pure_move r12) rfl ?_
  obtain ⟨y22, h23, hm⟩ := bind_some hm
  try dsimp only at hm
  refine wpS_call (vs := [(Value.int .i64 p0_household), (Value.int .i64 p1_n)]) Try.func8 nm8 bd8 (m_cons rfl (m_cons rfl m_nil)) (M.ref48_Of_walk N _ _ st15.lt p0_household p1_n y22 h23) rfl ?_
  rintro v24 w25 ⟨F26, h27, hv28⟩
  have h29 := h27.narrow st15.lt
  have st30 := st15.trans h29
  obtain rfl := hv28
  refine wpS_pure (Value.bool (decide (y2 = y22))) (pure_eql rfl rfl) rfl ?_
  refine wpS_pure (Value.bool (decide (y2 = y22))) (pure_move rfl) rfl ?_
  by_cases hc31 : (decide (y2 = y22)) = true
  ·rw [if_pos hc31] at hm
   refine wpS_on 29 rfl rfl (bval' rfl hc31) ?_
   obtain ⟨y1231, h1232, hm⟩ := bind_some hm
   try dsimp only at hm
   refine wpS_call (vs := []) Try.func9 nm9 bd9 m_nil (M.law48_awake_walk N _ _ st30.lt y1231 h1232) rfl ?_
   rintro v1233 w1234 ⟨F1235, h1236, hv1237⟩
   have h1238 := h1236.narrow st30.lt
   have st1239 := st30.trans h1238
   obtain rfl := hv1237
   refine wpS_pure (Value.bool y1231) (pure_pick_true (bval rfl hc31) rfl) rfl ?_
   refine wpS_pure (Value.bool y1231) (pure_assign rfl) rfl ?_
   refine wpS_nil ?_
   refine thn_normal ?_
   refine wpC_ret ?_
   obtain rfl := Option.some.inj hm
   refine bodyQ_ret1 Try.results3 (Value.bool y1231) rfl ?_
   exact ⟨_, st1239, rfl⟩
  ·rw [if_neg hc31] at hm
   replace hc31 := Bool.eq_false_iff.2 hc31
   refine wpS_off 29 rfl rfl (bval' rfl hc31) (by decide) rfl ?_
   refine wpS_pure (Value.bool false) (pure_pick_false (bval rfl hc31) rfl) rfl ?_
   refine wpS_pure (Value.bool false) (pure_assign rfl) rfl ?_
   refine wpS_nil ?_
   refine thn_normal ?_
   refine wpC_ret ?_
   obtain rfl := Option.some.inj hm
   refine bodyQ_ret1 Try.results3 (Value.bool false) rfl ?_
   exact ⟨_, st30, rfl⟩

set_option maxRecDepth 100000 in
set_option maxHeartbeats 1000000 in
theorem M.law48_accounts_walk (N : Nat) (w0 : World) (F0 : Nat → Prop) (hF0 : ∀ b, F0 b → b < w0.heap.size) (p0_ids : List Int) (vp0_ids : Value) (hp0_ids : Rep F0 w0 (Row.slice rInt) [vp0_ids] p0_ids) (r : List rAccount.den) (hm : M.law48_accounts N p0_ids = some r) :
    Calls Try.prog 10 [vp0_ids].toArray w0 fun e w => ∃ v, e = .returned v ∧ ∃ F, St w0 F0 w F ∧ Own w0.heap.size F w 42 rAccount v r ∧ ∀ k, mine v k → w0.heap.size ≤ k := by
 refine calls_of_wpC Try.func10 rfl (Nat.le_of_ble_eq_true rfl) ?_
 intro ρ hρ
 have st0 := St.refl hF0
 rw [M.law48_accounts] at hm
 refine wpC_seq ?_
 refine wpC_region ?_
 refine wpS_pure (Value.slice none 0 0) (pure_assign rfl) rfl ?_
 refine wpS_nil ?_
 refine thn_normal ?_
 refine wpC_seq ?_
 refine wpC_region ?_
 refine wpS_pure vp0_ids (pure_move (hρ 0 _ rfl)) rfl ?_
 refine wpS_len (v := vp0_ids) Try.underlying25 rfl ((hp0_ids.step (st0.step hF0))).reads rfl ?_
 obtain ⟨l1250, h1251, hm⟩ := bind_some hm
 try dsimp only at hm
 refine wpS_makeT (base := w0.heap.size) Try.underlying26 T42 rfl rfl h1251 st0.lt st0.below.size rfl ?_
 intro v1252 w1253 h1254 ho1255 hn1256
 have st1257 := st0.trans h1254
 refine wpS_pure v1252 (pure_assign rfl) rfl ?_
 refine wpS_nil ?_
 refine thn_normal ?_
 refine wpC_seq ?_
 refine wpC_seq ?_
 refine wpC_region ?_
 refine wpS_pure (Value.int .i64 (0 : Int)) (pure_assign rfl) rfl ?_
 refine wpS_nil ?_
 refine thn_normal ?_
 refine wpC_block_join (fun ρ w => ∃ (a1335 : List rAccount.den) (F1338 : Nat → Prop) (v1334 : Value), St w0 F0 w F1338 ∧ Own w0.heap.size F1338 w 42 rAccount v1334 a1335 ∧ ρ 3 = v1334 ∧ M.law48_accounts_k1 N a1335 = some r) ?_ ?_
 ·skip
  obtain ⟨x1401, hL1402, hm1403⟩ := bind_some hm
  clear hm
  refine wpC_loop (fun (s : List rAccount.den × Int) ρ w => ∃ (a1392 : List rAccount.den) (a1394 : Int) (F1398 : Nat → Prop) (v1391 : Value), (a1392, a1394) = s ∧ St w0 F0 w F1398 ∧ Own w0.heap.size F1398 w 42 rAccount v1391 a1392 ∧ ρ 0 = vp0_ids ∧ ρ 3 = v1391 ∧ ρ 4 = (Value.int .i64 a1394)) hL1402 ?_ ?_
  ·exact ⟨l1250, (0 : Int), _, v1252, rfl, st1257, ho1255, (hρ 0 _ rfl), rfl, rfl⟩
  ·skip
   rintro s ρ w y1404 ⟨a1392, a1394, F1398, v1391, rfl, st1399, ho1393, r1395, r1396, r1397⟩ hm1405
   have hm : M.law48_accounts_k2 N p0_ids a1392 a1394 = some y1404 := hm1405
   clear hm1405
   rw [M.law48_accounts_k2] at hm
   refine wpC_seq ?_
   refine wpC_seq ?_
   refine wpC_region ?_
   refine wpS_pure (Value.int .i64 a1394) (pure_move r1397) rfl ?_
   refine wpS_pure vp0_ids (pure_move r1395) rfl ?_
   refine wpS_len (v := vp0_ids) Try.underlying25 rfl ((hp0_ids.step (st1399.step hF0))).reads rfl ?_
   refine wpS_pure (Value.bool (decide (a1394 < (p0_ids.length : Int)))) (pure_lss rfl rfl) rfl ?_
   refine wpS_nil ?_
   refine thn_normal ?_
   by_cases hc1406 : (decide (a1394 < (p0_ids.length : Int))) = true
   ·rw [if_pos hc1406] at hm
    refine wpC_true (bval rfl hc1406) ?_
    refine wpC_skip ?_
    refine thn_normal ?_
    refine wpC_seq ?_
    refine wpC_block ?_
    refine wpC_seq ?_
    refine wpC_region ?_
    refine wpS_pure v1391 (pure_move r1396) rfl ?_
    refine wpS_pure (Value.int .i64 a1394) (pure_move r1397) rfl ?_
    refine wpS_pure vp0_ids (pure_move r1395) rfl ?_
    refine wpS_pure (Value.int .i64 a1394) (pure_move r1397) rfl ?_
    obtain ⟨x1407, h1408, hm⟩ := bind_some hm
    try dsimp only at hm
    refine wpS_indexT (v := vp0_ids) Try.underlying25 T3 rfl rfl ((hp0_ids.step (st1399.step hF0))).reads h1408 rfl ?_
    intro b1409 o1410 ha1411
    refine wpS_load_int Try.underlying3 rfl rfl ha1411 rfl ?_
    obtain ⟨x1412, h1413, hm⟩ := bind_some hm
    try dsimp only at hm
    refine wpS_elemT (v := v1391) Try.underlying26 T42 rfl rfl ho1393 h1413 rfl ?_
    intro g1414 q1415 hg1416 hq1417
    refine wpS_pure (Value.pointer (some ⟨g1414, q1415 * Row.size rAccount + 0, none⟩)) (pure_fieldT 0 Try.underlying42 rfl T38 rfl rfl) rfl ?_
    refine wpS_pure (Value.pointer (some ⟨g1414, q1415 * Row.size rAccount + 0 + 0, none⟩)) (pure_fieldT 0 Try.underlying38 rfl T3 rfl rfl) rfl ?_
    refine wpS_store_elemT (v := v1391) (val := (Value.int .i64 x1407)) (.fst (.fst (.here))) T3 rfl (by simp [Path.off]) rfl rfl rfl ho1393 hg1416 hq1417 h1413 st1399.lt ?_
    intro w1418 he1419 ho1420
    have ho1421 : Own w0.heap.size _ w1418 42 rAccount v1391 (setL a1392 a1394 ((x1407, x1412.1.2), x1412.2)) := ho1420
    have st1422 := st1399.ext he1419 (ho1393).ge
    refine wpS_nil ?_
    refine thn_normal ?_
    refine wpC_region ?_
    refine wpS_pure v1391 (pure_move r1396) rfl ?_
    refine wpS_pure (Value.int .i64 a1394) (pure_move r1397) rfl ?_
    refine wpS_pure (Value.int .i64 a1394) (pure_move r1397) rfl ?_
    obtain ⟨x1423, h1424, hm⟩ := bind_some hm
    try dsimp only at hm
    refine wpS_elemT (v := v1391) Try.underlying26 T42 rfl rfl ho1421 h1424 rfl ?_
    intro g1425 q1426 hg1427 hq1428
    refine wpS_pure (Value.pointer (some ⟨g1425, q1426 * Row.size rAccount + 6, none⟩)) (pure_fieldT 6 Try.underlying42 rfl T3 rfl rfl) rfl ?_
    refine wpS_store_elemT (v := v1391) (val := (Value.int .i64 a1394)) (.snd (.snd (.snd (.fst (.here))))) T3 rfl (by simp [Path.off]) rfl rfl rfl ho1421 hg1427 hq1428 h1424 st1422.lt ?_
    intro w1429 he1430 ho1431
    have ho1432 : Own w0.heap.size _ w1429 42 rAccount v1391 (setL (setL a1392 a1394 ((x1407, x1412.1.2), x1412.2)) a1394 (x1423.1, (x1423.2.1, (x1423.2.2.1, (a1394, x1423.2.2.2.2))))) := ho1431
    have st1433 := st1422.ext he1430 (ho1421).ge
    refine wpS_nil ?_
    refine inB_normal ?_
    refine thn_normal ?_
    refine wpC_region ?_
    refine wpS_pure (Value.int .i64 a1394) (pure_move r1397) rfl ?_
    refine wpS_pure (Value.int .i64 (IntKind.i64.wrap (a1394 + (1 : Int)))) (pure_add rfl rfl) rfl ?_
    refine wpS_pure (Value.int .i64 (IntKind.i64.wrap (a1394 + (1 : Int)))) (pure_assign rfl) rfl ?_
    refine wpS_nil ?_
    obtain rfl := Option.some.inj hm
    refine loopQ_in ?_
    exact ⟨(setL (setL a1392 a1394 ((x1407, x1412.1.2), x1412.2)) a1394 (x1423.1, (x1423.2.1, (x1423.2.2.1, (a1394, x1423.2.2.2.2))))), (IntKind.i64.wrap (a1394 + (1 : Int))), _, v1391, rfl, st1433, ho1432, r1395, r1396, rfl⟩
   ·rw [if_neg hc1406] at hm
    replace hc1406 := Bool.eq_false_iff.2 hc1406
    refine wpC_false (bval rfl hc1406) ?_
    refine wpC_exit ?_
    refine thn_exit ?_
    obtain rfl := Option.some.inj hm
    refine loopQ_exit (fun hx => ?_)
    subst hx
    have hm1434 : M.law48_accounts_k1 N a1392 = some r := hm1403
    refine joinQ_same ?_
    exact ⟨a1392, _, v1391, st1399, ho1393, r1396, hm1434⟩
 ·skip
  rintro ρ w ⟨a1335, F1338, v1334, st1339, ho1336, r1337, hm⟩
  rw [M.law48_accounts_k1] at hm
  refine thn_normal ?_
  refine wpC_seq ?_
  refine wpC_region ?_
  refine wpS_pure v1334 (pure_move r1337) rfl ?_
  refine wpS_pure v1334 (pure_assign rfl) rfl ?_
  refine wpS_nil ?_
  refine thn_normal ?_
  refine wpC_ret ?_
  obtain rfl := Option.some.inj hm
  refine bodyQ_ret1 Try.results10 v1334 rfl ?_
  exact ⟨_, st1339, ⟨ho1336, (ho1336).ge⟩⟩

set_option maxRecDepth 100000 in
set_option maxHeartbeats 1000000 in
theorem M.ref48_Partition_walk (N : Nat) (w0 : World) (F0 : Nat → Prop) (hF0 : ∀ b, F0 b → b < w0.heap.size) (p0_l : List rAccount.den) (vp0_l : Value) (hp0_l : Rep F0 w0 (Row.slice rAccount) [vp0_l] p0_l) (p1_n : Int) (r : List (List Int)) (hm : M.ref48_Partition N p0_l p1_n = some r) :
    Calls Try.prog 13 [vp0_l, (Value.int .i64 p1_n)].toArray w0 fun e w => ∃ v, e = .returned v ∧ ∃ F, St w0 F0 w F ∧ Own w0.heap.size F w 25 (Row.slice rInt) v r ∧ ∀ k, mine v k → w0.heap.size ≤ k := by
 refine calls_of_wpC Try.func13 rfl (Nat.le_of_ble_eq_true rfl) ?_
 intro ρ hρ
 have st0 := St.refl hF0
 rw [M.ref48_Partition] at hm
 refine wpC_seq ?_
 refine wpC_region ?_
 refine wpS_pure (Value.slice none 0 0) (pure_assign rfl) rfl ?_
 refine wpS_nil ?_
 refine thn_normal ?_
 refine wpC_seq ?_
 refine wpC_seq ?_
 refine wpC_region ?_
 refine wpS_pure (Value.int .i64 p1_n) (pure_move (hρ 1 _ rfl)) rfl ?_
 refine wpS_pure (Value.bool (decide (p1_n < (1 : Int)))) (pure_lss rfl rfl) rfl ?_
 refine wpS_pure (Value.bool (decide (p1_n < (1 : Int)))) (pure_move rfl) rfl ?_
 refine wpS_gpure (dj := 11) rfl rfl rfl (Value.int .i64 p1_n) (fun hg => pure_move (hρ 1 _ rfl)) rfl ?_
 refine wpS_gpure (dj := 11) rfl rfl rfl (Value.bool (decide ((8 : Int) < p1_n))) (fun hg => pure_gtr (gval rfl hg) rfl) rfl ?_
 refine wpS_pure (Value.bool ((decide (p1_n < (1 : Int))) || (decide ((8 : Int) < p1_n)))) (pure_pick_or rfl rfl rfl) rfl ?_
 refine wpS_nil ?_
 refine thn_normal ?_
 by_cases hc1457 : ((decide (p1_n < (1 : Int))) || (decide ((8 : Int) < p1_n))) = true
 ·rw [if_pos hc1457] at hm
  refine wpC_true (bval rfl hc1457) ?_
  refine wpC_seq ?_
  refine wpC_region ?_
  refine wpS_pure (Value.slice none 0 0) (pure_assign rfl) rfl ?_
  refine wpS_nil ?_
  refine thn_normal ?_
  refine wpC_ret ?_
  refine thn_ret ?_
  obtain rfl := Option.some.inj hm
  refine bodyQ_ret1 Try.results13 (Value.slice none 0 0) rfl ?_
  exact ⟨_, st0, ⟨Own.nil _ _ _ _ _, fun k hk => by simp [mine, Value.ownBlock] at hk⟩⟩
 ·rw [if_neg hc1457] at hm
  replace hc1457 := Bool.eq_false_iff.2 hc1457
  refine wpC_false (bval rfl hc1457) ?_
  refine wpC_skip ?_
  refine thn_normal ?_
  refine wpC_seq ?_
  refine wpC_region ?_
  refine wpS_pure (Value.slice none 0 0) (pure_assign rfl) rfl ?_
  refine wpS_nil ?_
  refine thn_normal ?_
  refine wpC_seq ?_
  refine wpC_seq ?_
  refine wpC_region ?_
  refine wpS_pure (Value.int .i64 (0 : Int)) (pure_assign rfl) rfl ?_
  refine wpS_nil ?_
  refine thn_normal ?_
  refine wpC_block_join (fun ρ w => ∃ (a2023 : List (List Int)) (F2027 : Nat → Prop) (v2022 : Value), St w0 F0 w F2027 ∧ Own w0.heap.size F2027 w 25 (Row.slice rInt) v2022 a2023 ∧ ρ 5 = v2022 ∧ M.ref48_Partition_k1 N a2023 = some r) ?_ ?_
  ·skip
   obtain ⟨x2466, hL2467, hm2468⟩ := bind_some hm
   clear hm
   refine wpC_loop (fun (s : List (List Int) × Int) ρ w => ∃ (a2455 : List (List Int)) (a2458 : Int) (F2463 : Nat → Prop) (v2454 : Value), (a2455, a2458) = s ∧ St w0 F0 w F2463 ∧ Own w0.heap.size F2463 w 25 (Row.slice rInt) v2454 a2455 ∧ ρ 0 = vp0_l ∧ ρ 1 = (Value.int .i64 p1_n) ∧ ρ 5 = v2454 ∧ ρ 6 = (Value.int .i64 a2458)) hL2467 ?_ ?_
   ·exact ⟨[], (0 : Int), _, (Value.slice none 0 0), rfl, st0, (Own.nil _ _ _ _ _), (hρ 0 _ rfl), (hρ 1 _ rfl), rfl, rfl⟩
   ·skip
    rintro s ρ w y2469 ⟨a2455, a2458, F2463, v2454, rfl, st2464, ho2457, r2459, r2460, r2461, r2462⟩ hm2470
    have hm : M.ref48_Partition_k2 N p0_l p1_n a2455 a2458 = some y2469 := hm2470
    clear hm2470
    rw [M.ref48_Partition_k2] at hm
    refine wpC_seq ?_
    refine wpC_seq ?_
    refine wpC_region ?_
    refine wpS_pure (Value.int .i64 a2458) (pure_move r2462) rfl ?_
    refine wpS_pure (Value.int .i64 p1_n) (pure_move r2460) rfl ?_
    refine wpS_pure (Value.bool (decide (a2458 < p1_n))) (pure_lss rfl rfl) rfl ?_
    refine wpS_nil ?_
    refine thn_normal ?_
    by_cases hc2471 : (decide (a2458 < p1_n)) = true
    ·rw [if_pos hc2471] at hm
     refine wpC_true (bval rfl hc2471) ?_
     refine wpC_skip ?_
     refine thn_normal ?_
     refine wpC_seq ?_
     refine wpC_block ?_
     refine wpC_seq ?_
     refine wpC_region ?_
     refine wpS_pure (Value.slice none 0 0) (pure_assign rfl) rfl ?_
     refine wpS_nil ?_
     refine thn_normal ?_
     refine wpC_seq ?_
     refine wpC_seq ?_
     refine wpC_region ?_
     refine wpS_pure (Value.int .i64 (0 : Int)) (pure_assign rfl) rfl ?_
     refine wpS_nil ?_
     refine thn_normal ?_
     refine wpC_block_join (fun ρ w => ∃ (a2599 : List Int) (F2607 : Nat → Prop) (v2596 : Value) (v2598 : Value), St w0 F0 w F2607 ∧ Own w0.heap.size F2607 w 25 (Row.slice rInt) v2596 a2455 ∧ Own w0.heap.size F2607 w 3 rInt v2598 a2599 ∧ (∀ k, mine v2596 k → ¬ mine v2598 k) ∧ ρ 0 = vp0_l ∧ ρ 1 = (Value.int .i64 p1_n) ∧ ρ 5 = v2596 ∧ ρ 6 = (Value.int .i64 a2458) ∧ ρ 7 = v2598 ∧ M.ref48_Partition_k3 N a2455 a2458 a2599 = some y2469) ?_ ?_
     ·skip
      obtain ⟨x2722, hL2723, hm2724⟩ := bind_some hm
      clear hm
      refine wpC_loop (fun (s : List Int × Int) ρ w => ∃ (a2708 : List Int) (a2711 : Int) (F2718 : Nat → Prop) (v2705 : Value) (v2707 : Value), (a2708, a2711) = s ∧ St w0 F0 w F2718 ∧ Own w0.heap.size F2718 w 25 (Row.slice rInt) v2705 a2455 ∧ Own w0.heap.size F2718 w 3 rInt v2707 a2708 ∧ (∀ k, mine v2705 k → ¬ mine v2707 k) ∧ ρ 0 = vp0_l ∧ ρ 1 = (Value.int .i64 p1_n) ∧ ρ 5 = v2705 ∧ ρ 6 = (Value.int .i64 a2458) ∧ ρ 7 = v2707 ∧ ρ 8 = (Value.int .i64 a2711)) hL2723 ?_ ?_
      ·exact ⟨[], (0 : Int), _, v2454, (Value.slice none 0 0), rfl, st2464, ho2457, (Own.nil _ _ _ _ _), (fun k _ hk => by simp [mine, Value.ownBlock] at hk), r2459, r2460, r2461, r2462, rfl, rfl⟩
      ·skip
       rintro s ρ w y2725 ⟨a2708, a2711, F2718, v2705, v2707, rfl, st2719, ho2706, ho2710, ap2720, r2712, r2713, r2714, r2715, r2716, r2717⟩ hm2726
       have hm : M.ref48_Partition_k4 N p0_l p1_n a2458 a2708 a2711 = some y2725 := hm2726
       clear hm2726
       rw [M.ref48_Partition_k4] at hm
       refine wpC_seq ?_
       refine wpC_seq ?_
       refine wpC_region ?_
       refine wpS_pure (Value.int .i64 a2711) (pure_move r2717) rfl ?_
       refine wpS_pure vp0_l (pure_move r2712) rfl ?_
       refine wpS_len (v := vp0_l) Try.underlying26 rfl ((hp0_l.step (st2719.step hF0))).reads rfl ?_
       refine wpS_pure (Value.bool (decide (a2711 < (p0_l.length : Int)))) (pure_lss rfl rfl) rfl ?_
       refine wpS_nil ?_
       refine thn_normal ?_
       by_cases hc2727 : (decide (a2711 < (p0_l.length : Int))) = true
       ·rw [if_pos hc2727] at hm
        refine wpC_true (bval rfl hc2727) ?_
        refine wpC_skip ?_
        refine thn_normal ?_
        refine wpC_seq ?_
        refine wpC_block ?_
        refine wpC_seq ?_
        refine wpC_region ?_
        refine wpS_pure vp0_l (pure_move r2712) rfl ?_
        refine wpS_pure (Value.int .i64 a2711) (pure_move r2717) rfl ?_
        obtain ⟨x2728, h2729, hm⟩ := bind_some hm
        try dsimp only at hm
        refine wpS_indexT (v := vp0_l) Try.underlying26 T42 rfl rfl ((hp0_l.step (st2719.step hF0))).reads h2729 rfl ?_
        intro b2730 o2731 ha2732
        have ha2733 : At _ _ rHousehold b2730 (o2731 + 0) (x2728.1) := ha2732.path (.fst (.here)) 0 rfl
        refine wpS_pure (Value.pointer (some ⟨b2730, o2731 + 0, none⟩)) (pure_fieldT 0 Try.underlying42 rfl T38 rfl rfl) rfl ?_
        have ha2734 : At _ _ rInt b2730 (o2731 + 0 + 0) (x2728.1.1) := ha2733.path (.fst (.here)) 0 rfl
        refine wpS_pure (Value.pointer (some ⟨b2730, o2731 + 0 + 0, none⟩)) (pure_fieldT 0 Try.underlying38 rfl T3 rfl rfl) rfl ?_
        refine wpS_load_int Try.underlying3 rfl rfl ha2734 rfl ?_
        refine wpS_pure (Value.int .i64 p1_n) (pure_move r2713) rfl ?_
        obtain ⟨y2735, h2736, hm⟩ := bind_some hm
        try dsimp only at hm
        refine wpS_call (vs := [(Value.int .i64 x2728.1.1), (Value.int .i64 p1_n)]) Try.func8 nm8 bd8 (m_cons rfl (m_cons rfl m_nil)) (M.ref48_Of_walk N _ _ st2719.lt x2728.1.1 p1_n y2735 h2736) rfl ?_
        rintro v2737 w2738 ⟨F2739, h2740, hv2741⟩
        have h2742 := h2740.narrow st2719.lt
        have st2743 := st2719.trans h2742
        obtain rfl := hv2741
        refine wpS_pure (Value.int .i64 a2458) (pure_move r2715) rfl ?_
        refine wpS_pure (Value.bool (decide (y2735 = a2458))) (pure_eql rfl rfl) rfl ?_
        refine wpS_nil ?_
        refine thn_normal ?_
        by_cases hc2744 : (decide (y2735 = a2458)) = true
        ·rw [if_pos hc2744] at hm
         refine wpC_true (bval rfl hc2744) ?_
         refine wpC_region ?_
         refine wpS_pure v2707 (pure_move r2716) rfl ?_
         refine wpS_pure (Value.int .i64 a2711) (pure_move r2717) rfl ?_
         refine wpS_oneT (base := w0.heap.size) (v := (Value.int .i64 a2711)) Try.underlying25 T3 rfl rfl rfl rfl st2743.lt st2743.below.size rfl ?_
         intro v2745 w2746 h2747 ho2748 hn2749
         have st2750 := st2743.trans h2747
         obtain ⟨l2752, h2753, hm⟩ := bind_some hm
         try dsimp only at hm
         refine wpS_appendT (v := v2707) (u := v2745) Try.underlying25 T3 rfl rfl ((ho2710.st st2719.lt h2742).st st2743.lt h2747) (ho2748).reads h2753 st2750.lt st2750.below.size rfl ?_
         intro v2754 w2755 he2756 ho2757 hn2758
         have st2759 := st2750.ext he2756 (((ho2710.st st2719.lt h2742).st st2743.lt h2747)).ge
         refine wpS_pure v2754 (pure_assign rfl) rfl ?_
         refine wpS_nil ?_
         refine inB_normal ?_
         refine thn_normal ?_
         refine wpC_region ?_
         refine wpS_pure (Value.int .i64 a2711) (pure_move r2717) rfl ?_
         refine wpS_pure (Value.int .i64 (IntKind.i64.wrap (a2711 + (1 : Int)))) (pure_add rfl rfl) rfl ?_
         refine wpS_pure (Value.int .i64 (IntKind.i64.wrap (a2711 + (1 : Int)))) (pure_assign rfl) rfl ?_
         refine wpS_nil ?_
         obtain rfl := Option.some.inj hm
         refine loopQ_in ?_
         exact ⟨l2752, (IntKind.i64.wrap (a2711 + (1 : Int))), _, v2705, v2754, rfl, st2759, (((ho2706.st st2719.lt h2742).st st2743.lt h2747).ext st2750.lt he2756 (((ho2710.st st2719.lt h2742).st st2743.lt h2747)).no (ap_symm ap2720)), ho2757, (ap_symm (ap_app hn2758 (ap_symm ap2720) (((ho2706.st st2719.lt h2742).st st2743.lt h2747)).lt)), r2712, r2713, r2714, r2715, rfl, rfl⟩
        ·rw [if_neg hc2744] at hm
         replace hc2744 := Bool.eq_false_iff.2 hc2744
         refine wpC_false (bval rfl hc2744) ?_
         refine wpC_skip ?_
         refine inB_normal ?_
         refine thn_normal ?_
         refine wpC_region ?_
         refine wpS_pure (Value.int .i64 a2711) (pure_move r2717) rfl ?_
         refine wpS_pure (Value.int .i64 (IntKind.i64.wrap (a2711 + (1 : Int)))) (pure_add rfl rfl) rfl ?_
         refine wpS_pure (Value.int .i64 (IntKind.i64.wrap (a2711 + (1 : Int)))) (pure_assign rfl) rfl ?_
         refine wpS_nil ?_
         obtain rfl := Option.some.inj hm
         refine loopQ_in ?_
         exact ⟨a2708, (IntKind.i64.wrap (a2711 + (1 : Int))), _, v2705, v2707, rfl, st2743, (ho2706.st st2719.lt h2742), (ho2710.st st2719.lt h2742), ap2720, r2712, r2713, r2714, r2715, r2716, rfl⟩
       ·rw [if_neg hc2727] at hm
        replace hc2727 := Bool.eq_false_iff.2 hc2727
        refine wpC_false (bval rfl hc2727) ?_
        refine wpC_exit ?_
        refine thn_exit ?_
        obtain rfl := Option.some.inj hm
        refine loopQ_exit (fun hx => ?_)
        subst hx
        have hm2760 : M.ref48_Partition_k3 N a2455 a2458 a2708 = some y2469 := hm2724
        refine joinQ_same ?_
        exact ⟨a2708, _, v2705, v2707, st2719, ho2706, ho2710, ap2720, r2712, r2713, r2714, r2715, r2716, hm2760⟩
     ·skip
      rintro ρ w ⟨a2599, F2607, v2596, v2598, st2608, ho2597, ho2601, ap2609, r2602, r2603, r2604, r2605, r2606, hm⟩
      rw [M.ref48_Partition_k3] at hm
      refine thn_normal ?_
      refine wpC_region ?_
      refine wpS_pure v2596 (pure_move r2604) rfl ?_
      refine wpS_pure v2598 (pure_move r2606) rfl ?_
      have hr2762 := (ho2601).freeze
      have st2761 := st2608.fz ho2601
      refine wpS_oneT (base := w0.heap.size) (v := v2598) Try.underlying29 T25 rfl rfl (cells_one hr2762) hr2762 st2761.lt st2761.below.size rfl ?_
      intro v2763 w2764 h2765 ho2766 hn2767
      have st2768 := st2761.trans h2765
      obtain ⟨l2770, h2771, hm⟩ := bind_some hm
      try dsimp only at hm
      refine wpS_appendT (v := v2596) (u := v2763) Try.underlying29 T25 rfl rfl ((ho2597.fz (ap_symm ap2609)).st st2761.lt h2765) (ho2766).reads h2771 st2768.lt st2768.below.size rfl ?_
      intro v2772 w2773 he2774 ho2775 hn2776
      have st2777 := st2768.ext he2774 (((ho2597.fz (ap_symm ap2609)).st st2761.lt h2765)).ge
      refine wpS_pure v2772 (pure_assign rfl) rfl ?_
      refine wpS_nil ?_
      refine inB_normal ?_
      refine thn_normal ?_
      refine wpC_region ?_
      refine wpS_pure (Value.int .i64 a2458) (pure_move r2605) rfl ?_
      refine wpS_pure (Value.int .i64 (IntKind.i64.wrap (a2458 + (1 : Int)))) (pure_add rfl rfl) rfl ?_
      refine wpS_pure (Value.int .i64 (IntKind.i64.wrap (a2458 + (1 : Int)))) (pure_assign rfl) rfl ?_
      refine wpS_nil ?_
      obtain rfl := Option.some.inj hm
      refine loopQ_in ?_
      exact ⟨l2770, (IntKind.i64.wrap (a2458 + (1 : Int))), _, v2772, rfl, st2777, ho2775, r2602, r2603, rfl, rfl⟩
    ·rw [if_neg hc2471] at hm
     replace hc2471 := Bool.eq_false_iff.2 hc2471
     refine wpC_false (bval rfl hc2471) ?_
     refine wpC_exit ?_
     refine thn_exit ?_
     obtain rfl := Option.some.inj hm
     refine loopQ_exit (fun hx => ?_)
     subst hx
     have hm2778 : M.ref48_Partition_k1 N a2455 = some r := hm2468
     refine joinQ_same ?_
     exact ⟨a2455, _, v2454, st2464, ho2457, r2461, hm2778⟩
  ·skip
   rintro ρ w ⟨a2023, F2027, v2022, st2028, ho2025, r2026, hm⟩
   rw [M.ref48_Partition_k1] at hm
   refine thn_normal ?_
   refine wpC_seq ?_
   refine wpC_region ?_
   refine wpS_pure v2022 (pure_move r2026) rfl ?_
   refine wpS_pure v2022 (pure_assign rfl) rfl ?_
   refine wpS_nil ?_
   refine thn_normal ?_
   refine wpC_ret ?_
   obtain rfl := Option.some.inj hm
   refine bodyQ_ret1 Try.results13 v2022 rfl ?_
   exact ⟨_, st2028, ⟨ho2025, (ho2025).ge⟩⟩

set_option maxRecDepth 100000 in
set_option maxHeartbeats 1000000 in
theorem M.law48_ShardLists_walk (N : Nat) (w0 : World) (F0 : Nat → Prop) (hF0 : ∀ b, F0 b → b < w0.heap.size) (p0_ids : List Int) (vp0_ids : Value) (hp0_ids : Rep F0 w0 (Row.slice rInt) [vp0_ids] p0_ids) (p1_n : Int) (r : Bool) (hm : M.law48_ShardLists N p0_ids p1_n = some r) :
    Calls Try.prog 4 [vp0_ids, (Value.int .i64 p1_n)].toArray w0 fun e w => ∃ v, e = .returned v ∧ ∃ F, St w0 F0 w F ∧ v = (Value.bool r) := by
 refine calls_of_wpC Try.func4 rfl (Nat.le_of_ble_eq_true rfl) ?_
 intro ρ hρ
 have st0 := St.refl hF0
 rw [M.law48_ShardLists] at hm
 refine wpC_seq ?_
 refine wpC_region ?_
 refine wpS_pure (Value.bool false) (pure_assign rfl) rfl ?_
 refine wpS_nil ?_
 refine thn_normal ?_
 refine wpC_seq ?_
 refine wpC_seq ?_
 refine wpC_region ?_
 refine wpS_pure vp0_ids (pure_move (hρ 0 _ rfl)) rfl ?_
 refine wpS_len (v := vp0_ids) Try.underlying25 rfl ((hp0_ids.step (st0.step hF0))).reads rfl ?_
 refine wpS_pure (Value.bool (decide ((200 : Int) < (p0_ids.length : Int)))) (pure_gtr rfl rfl) rfl ?_
 refine wpS_nil ?_
 refine thn_normal ?_
 by_cases hc1240 : (decide ((200 : Int) < (p0_ids.length : Int))) = true
 ·rw [if_pos hc1240] at hm
  refine wpC_true (bval rfl hc1240) ?_
  refine wpC_seq ?_
  refine wpC_region ?_
  obtain ⟨y1241, h1242, hm⟩ := bind_some hm
  try dsimp only at hm
  refine wpS_call (vs := []) Try.func9 nm9 bd9 m_nil (M.law48_awake_walk N _ _ st0.lt y1241 h1242) rfl ?_
  rintro v1243 w1244 ⟨F1245, h1246, hv1247⟩
  have h1248 := h1246.narrow st0.lt
  have st1249 := st0.trans h1248
  obtain rfl := hv1247
  refine wpS_pure (Value.bool y1241) (pure_assign rfl) rfl ?_
  refine wpS_nil ?_
  refine thn_normal ?_
  refine wpC_ret ?_
  refine thn_ret ?_
  obtain rfl := Option.some.inj hm
  refine bodyQ_ret1 Try.results4 (Value.bool y1241) rfl ?_
  exact ⟨_, st1249, rfl⟩
 ·rw [if_neg hc1240] at hm
  replace hc1240 := Bool.eq_false_iff.2 hc1240
  refine wpC_false (bval rfl hc1240) ?_
  refine wpC_skip ?_
  refine thn_normal ?_
  refine wpC_seq ?_
  refine wpC_region ?_
  refine wpS_pure vp0_ids (pure_move (hρ 0 _ rfl)) rfl ?_
  obtain ⟨y1435, h1436, hm⟩ := bind_some hm
  try dsimp only at hm
  refine wpS_call (vs := [vp0_ids]) Try.func10 nm10 bd10 (m_cons rfl m_nil) (M.law48_accounts_walk N _ _ st0.lt p0_ids vp0_ids (hp0_ids.step (st0.step hF0)) y1435 h1436) rfl ?_
  rintro v1437 w1438 ⟨F1439, h1440, hv1441⟩
  have st1442 := st0.trans h1440
  obtain ⟨ho1443, hn1444⟩ := hv1441
  have ho1445 := ho1443.lower st0.below.size
  refine wpS_pure v1437 (pure_assign rfl) rfl ?_
  refine wpS_nil ?_
  refine thn_normal ?_
  refine wpC_seq ?_
  refine wpC_region ?_
  refine wpS_pure v1437 (pure_move rfl) rfl ?_
  refine wpS_pure (Value.int .i64 p1_n) (pure_move (hρ 1 _ rfl)) rfl ?_
  have hr1448 := (ho1445).freeze
  have st1447 := st1442.fz ho1445
  obtain ⟨y1449, h1450, hm⟩ := bind_some hm
  try dsimp only at hm
  refine wpS_call (vs := [v1437, (Value.int .i64 p1_n)]) Try.func12 nm12 bd12 (m_cons rfl (m_cons rfl m_nil)) (M.shard_Partition_walk N _ _ st1447.lt y1435 v1437 hr1448 p1_n y1449 h1450) rfl ?_
  rintro v1451 w1452 ⟨F1453, h1454, hv1455⟩
  have st1456 := st1447.trans h1454
  refine wpS_pure v1437 (pure_move rfl) rfl ?_
  refine wpS_pure (Value.int .i64 p1_n) (pure_move (hρ 1 _ rfl)) rfl ?_
  obtain ⟨y2779, h2780, hm⟩ := bind_some hm
  try dsimp only at hm
  refine wpS_call (vs := [v1437, (Value.int .i64 p1_n)]) Try.func13 nm13 bd13 (m_cons rfl (m_cons rfl m_nil)) (M.ref48_Partition_walk N _ _ st1456.lt y1435 v1437 (hr1448.step (h1454.step st1447.lt)) p1_n y2779 h2780) rfl ?_
  rintro v2781 w2782 ⟨F2783, h2784, hv2785⟩
  have st2786 := st1456.trans h2784
  obtain ⟨ho2787, hn2788⟩ := hv2785
  have ho2789 := ho2787.lower st1456.below.size
  have st2791 := st2786.fz ho2789
  have hr2792 := (ho2789).freeze
  obtain ⟨y2793, h2794, hm⟩ := bind_some hm
  try dsimp only at hm
  refine wpS_call (vs := [v1451, v2781]) Try.func11 nm11 bd11 (m_cons rfl (m_cons rfl m_nil)) (M.same_IntLists_walk N _ _ st2791.lt y1449 v1451 ((hv1455.step (h2784.step st1456.lt)).step (Step.freeze _ _ _)) y2779 v2781 hr2792 y2793 h2794) rfl ?_
  rintro v2795 w2796 ⟨F2797, h2798, hv2799⟩
  have h2800 := h2798.narrow st2786.lt
  have st2801 := st2786.trans h2800
  obtain rfl := hv2799
  refine wpS_pure (Value.bool y2793) (pure_move rfl) rfl ?_
  by_cases hc2802 : y2793 = true
  ·rw [if_pos hc2802] at hm
   refine wpS_on 19 rfl rfl (bval' rfl hc2802) ?_
   obtain ⟨y2803, h2804, hm⟩ := bind_some hm
   try dsimp only at hm
   refine wpS_call (vs := []) Try.func9 nm9 bd9 m_nil (M.law48_awake_walk N _ _ st2801.lt y2803 h2804) rfl ?_
   rintro v2805 w2806 ⟨F2807, h2808, hv2809⟩
   have h2810 := h2808.narrow st2801.lt
   have st2811 := st2801.trans h2810
   obtain rfl := hv2809
   refine wpS_pure (Value.bool y2803) (pure_pick_true (bval rfl hc2802) rfl) rfl ?_
   refine wpS_pure (Value.bool y2803) (pure_assign rfl) rfl ?_
   refine wpS_nil ?_
   refine thn_normal ?_
   refine wpC_ret ?_
   obtain rfl := Option.some.inj hm
   refine bodyQ_ret1 Try.results4 (Value.bool y2803) rfl ?_
   exact ⟨_, st2811, rfl⟩
  ·rw [if_neg hc2802] at hm
   replace hc2802 := Bool.eq_false_iff.2 hc2802
   refine wpS_off 19 rfl rfl (bval' rfl hc2802) (by decide) rfl ?_
   refine wpS_pure (Value.bool false) (pure_pick_false (bval rfl hc2802) rfl) rfl ?_
   refine wpS_pure (Value.bool false) (pure_assign rfl) rfl ?_
   refine wpS_nil ?_
   refine thn_normal ?_
   refine wpC_ret ?_
   obtain rfl := Option.some.inj hm
   refine bodyQ_ret1 Try.results4 (Value.bool false) rfl ?_
   exact ⟨_, st2801, rfl⟩

set_option maxRecDepth 100000 in
set_option maxHeartbeats 1000000 in
theorem M.ref48_Light_walk (N : Nat) (w0 : World) (F0 : Nat → Prop) (hF0 : ∀ b, F0 b → b < w0.heap.size) (p0_l : List rAccount.den) (vp0_l : Value) (hp0_l : Rep F0 w0 (Row.slice rAccount) [vp0_l] p0_l) (p1_parts : List (List Int)) (vp1_parts : Value) (hp1_parts : Rep F0 w0 (Row.slice (Row.slice rInt)) [vp1_parts] p1_parts) (p2_done : List (List rAccount.den)) (vp2_done : Value) (hp2_done : Rep F0 w0 (Row.slice (Row.slice rAccount)) [vp2_done] p2_done) (r : Bool) (hm : M.ref48_Light N p0_l p1_parts p2_done = some r) :
    Calls Try.prog 14 [vp0_l, vp1_parts, vp2_done].toArray w0 fun e w => ∃ v, e = .returned v ∧ ∃ F, St w0 F0 w F ∧ v = (Value.bool r) := by
 refine calls_of_wpC Try.func14 rfl (Nat.le_of_ble_eq_true rfl) ?_
 intro ρ hρ
 have st0 := St.refl hF0
 rw [M.ref48_Light] at hm
 refine wpC_seq ?_
 refine wpC_region ?_
 refine wpS_pure (Value.bool false) (pure_assign rfl) rfl ?_
 refine wpS_nil ?_
 refine thn_normal ?_
 refine wpC_seq_join (fun ρ w => ∃ (F2814 : Nat → Prop), St w0 F0 w F2814 ∧ ρ 1 = vp1_parts ∧ ρ 2 = vp2_done ∧ M.ref48_Light_k1 N p1_parts p2_done = some r) ?_ ?_
 ·skip
  refine wpC_seq ?_
  refine wpC_region ?_
  refine wpS_pure vp0_l (pure_move (hρ 0 _ rfl)) rfl ?_
  refine wpS_len (v := vp0_l) Try.underlying26 rfl ((hp0_l.step (st0.step hF0))).reads rfl ?_
  refine wpS_pure (Value.bool (decide ((40 : Int) < (p0_l.length : Int)))) (pure_gtr rfl rfl) rfl ?_
  refine wpS_pure (Value.bool (decide ((40 : Int) < (p0_l.length : Int)))) (pure_move rfl) rfl ?_
  by_cases hc2817 : (decide ((40 : Int) < (p0_l.length : Int))) = true
  ·rw [if_pos hc2817] at hm
   refine wpS_off 12 rfl rfl (bval' rfl hc2817) (by decide) rfl ?_
   refine wpS_off 12 rfl rfl (bval' rfl hc2817) (by decide) rfl ?_
   refine wpS_off 12 rfl rfl (bval' rfl hc2817) (by decide) rfl ?_
   refine wpS_pure (Value.bool true) (pure_pick_true (bval rfl hc2817) rfl) rfl ?_
   refine wpS_pure (Value.bool true) (pure_move rfl) rfl ?_
   refine wpS_off 17 rfl rfl rfl (by decide) rfl ?_
   refine wpS_off 17 rfl rfl rfl (by decide) rfl ?_
   refine wpS_off 17 rfl rfl rfl (by decide) rfl ?_
   refine wpS_pure (Value.bool true) (pure_pick_true rfl rfl) rfl ?_
   refine wpS_nil ?_
   refine thn_normal ?_
   refine wpC_true rfl ?_
   refine wpC_seq ?_
   refine wpC_region ?_
   refine wpS_pure (Value.bool false) (pure_assign rfl) rfl ?_
   refine wpS_nil ?_
   refine thn_normal ?_
   refine wpC_ret ?_
   refine thn_ret ?_
   obtain rfl := Option.some.inj hm
   refine bodyQ_ret1 Try.results14 (Value.bool false) rfl ?_
   exact ⟨_, st0, rfl⟩
  ·rw [if_neg hc2817] at hm
   replace hc2817 := Bool.eq_false_iff.2 hc2817
   refine wpS_on 12 rfl rfl (bval' rfl hc2817) ?_
   refine wpS_pure vp1_parts (pure_move (hρ 1 _ rfl)) rfl ?_
   refine wpS_on 12 rfl rfl (bval' rfl hc2817) ?_
   refine wpS_len (v := vp1_parts) Try.underlying29 rfl ((hp1_parts.step (st0.step hF0))).reads rfl ?_
   refine wpS_on 12 rfl rfl (bval' rfl hc2817) ?_
   refine wpS_pure (Value.bool (decide ((12 : Int) < (p1_parts.length : Int)))) (pure_gtr rfl rfl) rfl ?_
   refine wpS_pure (Value.bool (decide ((12 : Int) < (p1_parts.length : Int)))) (pure_pick_false (bval rfl hc2817) rfl) rfl ?_
   refine wpS_pure (Value.bool (decide ((12 : Int) < (p1_parts.length : Int)))) (pure_move rfl) rfl ?_
   by_cases hc2818 : (decide ((12 : Int) < (p1_parts.length : Int))) = true
   ·rw [if_pos hc2818] at hm
    refine wpS_off 17 rfl rfl (bval' rfl hc2818) (by decide) rfl ?_
    refine wpS_off 17 rfl rfl (bval' rfl hc2818) (by decide) rfl ?_
    refine wpS_off 17 rfl rfl (bval' rfl hc2818) (by decide) rfl ?_
    refine wpS_pure (Value.bool true) (pure_pick_true (bval rfl hc2818) rfl) rfl ?_
    refine wpS_nil ?_
    refine thn_normal ?_
    refine wpC_true rfl ?_
    refine wpC_seq ?_
    refine wpC_region ?_
    refine wpS_pure (Value.bool false) (pure_assign rfl) rfl ?_
    refine wpS_nil ?_
    refine thn_normal ?_
    refine wpC_ret ?_
    refine thn_ret ?_
    obtain rfl := Option.some.inj hm
    refine bodyQ_ret1 Try.results14 (Value.bool false) rfl ?_
    exact ⟨_, st0, rfl⟩
   ·rw [if_neg hc2818] at hm
    replace hc2818 := Bool.eq_false_iff.2 hc2818
    refine wpS_on 17 rfl rfl (bval' rfl hc2818) ?_
    refine wpS_pure vp2_done (pure_move (hρ 2 _ rfl)) rfl ?_
    refine wpS_on 17 rfl rfl (bval' rfl hc2818) ?_
    refine wpS_len (v := vp2_done) Try.underlying32 rfl ((hp2_done.step (st0.step hF0))).reads rfl ?_
    refine wpS_on 17 rfl rfl (bval' rfl hc2818) ?_
    refine wpS_pure (Value.bool (decide ((12 : Int) < (p2_done.length : Int)))) (pure_gtr rfl rfl) rfl ?_
    refine wpS_pure (Value.bool (decide ((12 : Int) < (p2_done.length : Int)))) (pure_pick_false (bval rfl hc2818) rfl) rfl ?_
    refine wpS_nil ?_
    refine thn_normal ?_
    by_cases hc2819 : (decide ((12 : Int) < (p2_done.length : Int))) = true
    ·rw [if_pos hc2819] at hm
     refine wpC_true (bval rfl hc2819) ?_
     refine wpC_seq ?_
     refine wpC_region ?_
     refine wpS_pure (Value.bool false) (pure_assign rfl) rfl ?_
     refine wpS_nil ?_
     refine thn_normal ?_
     refine wpC_ret ?_
     refine thn_ret ?_
     obtain rfl := Option.some.inj hm
     refine bodyQ_ret1 Try.results14 (Value.bool false) rfl ?_
     exact ⟨_, st0, rfl⟩
    ·rw [if_neg hc2819] at hm
     replace hc2819 := Bool.eq_false_iff.2 hc2819
     refine wpC_false (bval rfl hc2819) ?_
     refine wpC_skip ?_
     refine thn_normal ?_
     exact ⟨_, st0, (hρ 1 _ rfl), (hρ 2 _ rfl), hm⟩
 ·skip
  rintro ρ w ⟨F2814, st2815, r2812, r2813, hm⟩
  rw [M.ref48_Light_k1] at hm
  refine wpC_seq ?_
  refine wpC_seq ?_
  refine wpC_region ?_
  refine wpS_pure (Value.int .i64 (0 : Int)) (pure_assign rfl) rfl ?_
  refine wpS_nil ?_
  refine thn_normal ?_
  refine wpC_block_join (fun ρ w => ∃ (F2842 : Nat → Prop), St w0 F0 w F2842 ∧ ρ 2 = vp2_done ∧ M.ref48_Light_k2 N p2_done = some r) ?_ ?_
  ·skip
   obtain ⟨x2866, hL2867, hm2868⟩ := bind_some hm
   clear hm
   refine wpC_loop (fun (s : Int) ρ w => ∃ (a2859 : Int) (F2863 : Nat → Prop), a2859 = s ∧ St w0 F0 w F2863 ∧ ρ 1 = vp1_parts ∧ ρ 2 = vp2_done ∧ ρ 7 = (Value.int .i64 a2859)) hL2867 ?_ ?_
   ·exact ⟨(0 : Int), _, rfl, st2815, r2812, r2813, rfl⟩
   ·skip
    rintro s ρ w y2871 ⟨a2859, F2863, rfl, st2864, r2860, r2861, r2862⟩ hm2872
    have hm : M.ref48_Light_k3 N p1_parts a2859 = some y2871 := hm2872
    clear hm2872
    rw [M.ref48_Light_k3] at hm
    refine wpC_seq ?_
    refine wpC_seq ?_
    refine wpC_region ?_
    refine wpS_pure (Value.int .i64 a2859) (pure_move r2862) rfl ?_
    refine wpS_pure vp1_parts (pure_move r2860) rfl ?_
    refine wpS_len (v := vp1_parts) Try.underlying29 rfl ((hp1_parts.step (st2864.step hF0))).reads rfl ?_
    refine wpS_pure (Value.bool (decide (a2859 < (p1_parts.length : Int)))) (pure_lss rfl rfl) rfl ?_
    refine wpS_nil ?_
    refine thn_normal ?_
    by_cases hc2873 : (decide (a2859 < (p1_parts.length : Int))) = true
    ·rw [if_pos hc2873] at hm
     refine wpC_true (bval rfl hc2873) ?_
     refine wpC_skip ?_
     refine thn_normal ?_
     refine wpC_seq ?_
     refine wpC_block ?_
     refine wpC_seq ?_
     refine wpC_region ?_
     refine wpS_pure vp1_parts (pure_move r2860) rfl ?_
     refine wpS_pure (Value.int .i64 a2859) (pure_move r2862) rfl ?_
     obtain ⟨x2874, h2875, hm⟩ := bind_some hm
     try dsimp only at hm
     refine wpS_indexT (v := vp1_parts) Try.underlying29 T25 rfl rfl ((hp1_parts.step (st2864.step hF0))).reads h2875 rfl ?_
     intro b2876 o2877 ha2878
     refine wpS_load_slice Try.underlying25 rfl rfl ha2878 rfl ?_
     intro v2879 hr2880
     refine wpS_len (v := v2879) Try.underlying25 rfl (hr2880).reads rfl ?_
     refine wpS_pure (Value.bool (decide ((40 : Int) < (x2874.length : Int)))) (pure_gtr rfl rfl) rfl ?_
     refine wpS_nil ?_
     refine thn_normal ?_
     by_cases hc2881 : (decide ((40 : Int) < (x2874.length : Int))) = true
     ·rw [if_pos hc2881] at hm
      refine wpC_true (bval rfl hc2881) ?_
      refine wpC_seq ?_
      refine wpC_region ?_
      refine wpS_pure (Value.bool false) (pure_assign rfl) rfl ?_
      refine wpS_nil ?_
      refine thn_normal ?_
      refine wpC_ret ?_
      refine inB_ret ?_
      refine thn_ret ?_
      obtain rfl := Option.some.inj hm
      refine loopQ_ret (fun hx => ?_)
      subst hx
      have hm2882 : some (false) = some r := hm2868
      refine joinQ_ret ?_
      refine thn_ret ?_
      obtain rfl := Option.some.inj hm2882
      refine bodyQ_ret1 Try.results14 (Value.bool false) rfl ?_
      exact ⟨_, st2864, rfl⟩
     ·rw [if_neg hc2881] at hm
      replace hc2881 := Bool.eq_false_iff.2 hc2881
      refine wpC_false (bval rfl hc2881) ?_
      refine wpC_skip ?_
      refine inB_normal ?_
      refine thn_normal ?_
      refine wpC_region ?_
      refine wpS_pure (Value.int .i64 a2859) (pure_move r2862) rfl ?_
      refine wpS_pure (Value.int .i64 (IntKind.i64.wrap (a2859 + (1 : Int)))) (pure_add rfl rfl) rfl ?_
      refine wpS_pure (Value.int .i64 (IntKind.i64.wrap (a2859 + (1 : Int)))) (pure_assign rfl) rfl ?_
      refine wpS_nil ?_
      obtain rfl := Option.some.inj hm
      refine loopQ_in ?_
      exact ⟨(IntKind.i64.wrap (a2859 + (1 : Int))), _, rfl, st2864, r2860, r2861, rfl⟩
    ·rw [if_neg hc2873] at hm
     replace hc2873 := Bool.eq_false_iff.2 hc2873
     refine wpC_false (bval rfl hc2873) ?_
     refine wpC_exit ?_
     refine thn_exit ?_
     obtain rfl := Option.some.inj hm
     refine loopQ_exit (fun hx => ?_)
     subst hx
     have hm2883 : M.ref48_Light_k2 N p2_done = some r := hm2868
     refine joinQ_same ?_
     exact ⟨_, st2864, r2861, hm2883⟩
  ·skip
   rintro ρ w ⟨F2842, st2843, r2841, hm⟩
   rw [M.ref48_Light_k2] at hm
   refine thn_normal ?_
   refine wpC_seq ?_
   refine wpC_seq ?_
   refine wpC_region ?_
   refine wpS_pure (Value.int .i64 (0 : Int)) (pure_assign rfl) rfl ?_
   refine wpS_nil ?_
   refine thn_normal ?_
   refine wpC_block_join (fun ρ w => ∃ (F2905 : Nat → Prop), St w0 F0 w F2905 ∧ M.ref48_Light_k4 N = some r) ?_ ?_
   ·skip
    obtain ⟨x2928, hL2929, hm2930⟩ := bind_some hm
    clear hm
    refine wpC_loop (fun (s : Int) ρ w => ∃ (a2922 : Int) (F2925 : Nat → Prop), a2922 = s ∧ St w0 F0 w F2925 ∧ ρ 2 = vp2_done ∧ ρ 8 = (Value.int .i64 a2922)) hL2929 ?_ ?_
    ·exact ⟨(0 : Int), _, rfl, st2843, r2841, rfl⟩
    ·skip
     rintro s ρ w y2933 ⟨a2922, F2925, rfl, st2926, r2923, r2924⟩ hm2934
     have hm : M.ref48_Light_k5 N p2_done a2922 = some y2933 := hm2934
     clear hm2934
     rw [M.ref48_Light_k5] at hm
     refine wpC_seq ?_
     refine wpC_seq ?_
     refine wpC_region ?_
     refine wpS_pure (Value.int .i64 a2922) (pure_move r2924) rfl ?_
     refine wpS_pure vp2_done (pure_move r2923) rfl ?_
     refine wpS_len (v := vp2_done) Try.underlying32 rfl ((hp2_done.step (st2926.step hF0))).reads rfl ?_
     refine wpS_pure (Value.bool (decide (a2922 < (p2_done.length : Int)))) (pure_lss rfl rfl) rfl ?_
     refine wpS_nil ?_
     refine thn_normal ?_
     by_cases hc2935 : (decide (a2922 < (p2_done.length : Int))) = true
     ·rw [if_pos hc2935] at hm
      refine wpC_true (bval rfl hc2935) ?_
      refine wpC_skip ?_
      refine thn_normal ?_
      refine wpC_seq ?_
      refine wpC_block ?_
      refine wpC_seq ?_
      refine wpC_region ?_
      refine wpS_pure vp2_done (pure_move r2923) rfl ?_
      refine wpS_pure (Value.int .i64 a2922) (pure_move r2924) rfl ?_
      obtain ⟨x2936, h2937, hm⟩ := bind_some hm
      try dsimp only at hm
      refine wpS_indexT (v := vp2_done) Try.underlying32 T26 rfl rfl ((hp2_done.step (st2926.step hF0))).reads h2937 rfl ?_
      intro b2938 o2939 ha2940
      refine wpS_load_slice Try.underlying26 rfl rfl ha2940 rfl ?_
      intro v2941 hr2942
      refine wpS_len (v := v2941) Try.underlying26 rfl (hr2942).reads rfl ?_
      refine wpS_pure (Value.bool (decide ((40 : Int) < (x2936.length : Int)))) (pure_gtr rfl rfl) rfl ?_
      refine wpS_nil ?_
      refine thn_normal ?_
      by_cases hc2943 : (decide ((40 : Int) < (x2936.length : Int))) = true
      ·rw [if_pos hc2943] at hm
       refine wpC_true (bval rfl hc2943) ?_
       refine wpC_seq ?_
       refine wpC_region ?_
       refine wpS_pure (Value.bool false) (pure_assign rfl) rfl ?_
       refine wpS_nil ?_
       refine thn_normal ?_
       refine wpC_ret ?_
       refine inB_ret ?_
       refine thn_ret ?_
       obtain rfl := Option.some.inj hm
       refine loopQ_ret (fun hx => ?_)
       subst hx
       have hm2944 : some (false) = some r := hm2930
       refine joinQ_ret ?_
       refine thn_ret ?_
       obtain rfl := Option.some.inj hm2944
       refine bodyQ_ret1 Try.results14 (Value.bool false) rfl ?_
       exact ⟨_, st2926, rfl⟩
      ·rw [if_neg hc2943] at hm
       replace hc2943 := Bool.eq_false_iff.2 hc2943
       refine wpC_false (bval rfl hc2943) ?_
       refine wpC_skip ?_
       refine inB_normal ?_
       refine thn_normal ?_
       refine wpC_region ?_
       refine wpS_pure (Value.int .i64 a2922) (pure_move r2924) rfl ?_
       refine wpS_pure (Value.int .i64 (IntKind.i64.wrap (a2922 + (1 : Int)))) (pure_add rfl rfl) rfl ?_
       refine wpS_pure (Value.int .i64 (IntKind.i64.wrap (a2922 + (1 : Int)))) (pure_assign rfl) rfl ?_
       refine wpS_nil ?_
       obtain rfl := Option.some.inj hm
       refine loopQ_in ?_
       exact ⟨(IntKind.i64.wrap (a2922 + (1 : Int))), _, rfl, st2926, r2923, rfl⟩
     ·rw [if_neg hc2935] at hm
      replace hc2935 := Bool.eq_false_iff.2 hc2935
      refine wpC_false (bval rfl hc2935) ?_
      refine wpC_exit ?_
      refine thn_exit ?_
      obtain rfl := Option.some.inj hm
      refine loopQ_exit (fun hx => ?_)
      subst hx
      have hm2945 : M.ref48_Light_k4 N = some r := hm2930
      refine joinQ_same ?_
      exact ⟨_, st2926, hm2945⟩
   ·skip
    rintro ρ w ⟨F2905, st2906, hm⟩
    rw [M.ref48_Light_k4] at hm
    refine thn_normal ?_
    refine wpC_seq ?_
    refine wpC_region ?_
    refine wpS_pure (Value.bool true) (pure_assign rfl) rfl ?_
    refine wpS_nil ?_
    refine thn_normal ?_
    refine wpC_ret ?_
    obtain rfl := Option.some.inj hm
    refine bodyQ_ret1 Try.results14 (Value.bool true) rfl ?_
    exact ⟨_, st2906, rfl⟩

set_option maxRecDepth 100000 in
set_option maxHeartbeats 1000000 in
theorem M.shard_clone_walk (N : Nat) (w0 : World) (F0 : Nat → Prop) (hF0 : ∀ b, F0 b → b < w0.heap.size) (p0_s : rAccount.den) (vp0_s : List Value) (hp0_s : Rep F0 w0 rAccount vp0_s p0_s) (r : rAccount.den) (hm : M.shard_clone N p0_s = some r) :
    Calls Try.prog 20 [(Value.agg vp0_s.toArray)].toArray w0 fun e w => ∃ v, e = .returned v ∧ ∃ F, St w0 F0 w F ∧ ∃ es, v = .agg es.toArray ∧ Rep F w rAccount es r := by
 refine calls_of_wpC Try.func20 rfl (Nat.le_of_ble_eq_true rfl) ?_
 intro ρ hρ
 have st0 := St.refl hF0
 rw [M.shard_clone] at hm
 refine wpC_seq ?_
 refine wpC_region ?_
 refine wpS_box (base := w0.heap.size) (hρ 0 _ rfl) (hp0_s.step (st0.step hF0)) st0.lt st0.below.size rfl ?_
 intro b4155 w4156 h4157 hb4158 hn4159
 have hn4160 : ∀ k, is b4155 k → _ ≤ k := fun k hk => hk ▸ hn4159
 have st4161 := st0.trans h4157
 refine wpS_allocT (base := w0.heap.size) rAccount T42 st4161.lt st4161.below.size rfl ?_
 intro b4163 w4164 h4165 hb4166 hn4167
 have hn4168 : ∀ k, is b4163 k → _ ≤ k := fun k hk => hk ▸ hn4167
 have st4169 := st4161.trans h4165
 refine wpS_nil ?_
 refine thn_normal ?_
 refine wpC_seq ?_
 refine wpC_region ?_
 refine wpS_pure (Value.pointer (some ⟨b4155, 0 + 0, none⟩)) (pure_fieldT 0 Try.underlying42 rfl T38 rfl rfl) rfl ?_
 refine wpS_pure (Value.pointer (some ⟨b4155, 0 + 0 + 3, none⟩)) (pure_fieldT 3 Try.underlying38 rfl T36 rfl rfl) rfl ?_
 have ha4171 : At _ _ rHousehold b4155 (0 + 0) (p0_s.1) := ((hb4158.st st4161.lt h4165)).at.path (.fst (.here)) 0 rfl
 have ha4172 : At _ _ (Row.slice rFact) b4155 (0 + 0 + 3) (p0_s.1.2.2.2) := ha4171.path (.snd (.snd (.snd (.here)))) 3 rfl
 refine wpS_load_slice Try.underlying36 rfl rfl ha4172 rfl ?_
 intro v4173 hr4174
 obtain ⟨l4175, h4176, hm⟩ := bind_some hm
 try dsimp only at hm
 refine wpS_appendT (v := (Value.slice none 0 0)) (u := v4173) Try.underlying36 T59 rfl rfl (Own.nil w0.heap.size _ _ 59 rFact) (hr4174).reads h4176 st4169.lt st4169.below.size rfl ?_
 intro v4177 w4178 he4179 ho4180 hn4181
 have h4182 : St _ _ _ _ := (St.refl st4169.lt).ext he4179 (fun k hk => by simp [mine, Value.ownBlock] at hk)
 have hn4183 : ∀ k, mine v4177 k → _ ≤ k := fun k hk => (hn4181 k hk).resolve_left (by simp [mine, Value.ownBlock])
 have st4184 := st4169.trans h4182
 refine wpS_pure (Value.pointer (some ⟨b4155, 0 + 0, none⟩)) (pure_fieldT 0 Try.underlying42 rfl T38 rfl rfl) rfl ?_
 refine wpS_pure (Value.pointer (some ⟨b4155, 0 + 0 + 3, none⟩)) (pure_fieldT 3 Try.underlying38 rfl T36 rfl rfl) rfl ?_
 have hr4187 := (ho4180).freeze
 have st4186 := st4184.fz ho4180
 refine wpS_store_boxT (v := v4177) (.fst (.snd (.snd (.snd (.here))))) T36 rfl rfl rfl (cells_one hr4187) hr4187 (((hb4158.st st4161.lt h4165).st st4169.lt h4182).fz (ap_new ((hb4158.st st4161.lt h4165)).lt hn4183)) st4186.lt ?_
 intro w4188 he4189 hb4191
 have hb4190 : BoxO w0.heap.size _ w4188 b4155 42 rAccount (((p0_s.1.1, (p0_s.1.2.1, (p0_s.1.2.2.1, l4175))), p0_s.2)) := hb4191
 have st4192 := st4186.ext he4189 ((((hb4158.st st4161.lt h4165).st st4169.lt h4182).fz (ap_new ((hb4158.st st4161.lt h4165)).lt hn4183))).ge
 refine wpS_nil ?_
 refine thn_normal ?_
 refine wpC_seq ?_
 refine wpC_region ?_
 refine wpS_pure (Value.pointer (some ⟨b4155, 0 + 4, none⟩)) (pure_fieldT 4 Try.underlying42 rfl T39 rfl rfl) rfl ?_
 have ha4193 : At _ _ (Row.slice rPosting) b4155 (0 + 4) (((p0_s.1.1, (p0_s.1.2.1, (p0_s.1.2.2.1, l4175))), p0_s.2).2.1) := (hb4190).at.path (.snd (.fst (.here))) 4 rfl
 refine wpS_load_slice Try.underlying39 rfl rfl ha4193 rfl ?_
 intro v4194 hr4195
 obtain ⟨l4196, h4197, hm⟩ := bind_some hm
 try dsimp only at hm
 refine wpS_appendT (v := (Value.slice none 0 0)) (u := v4194) Try.underlying39 T51 rfl rfl (Own.nil w0.heap.size _ _ 51 rPosting) (hr4195).reads h4197 st4192.lt st4192.below.size rfl ?_
 intro v4198 w4199 he4200 ho4201 hn4202
 have h4203 : St _ _ _ _ := (St.refl st4192.lt).ext he4200 (fun k hk => by simp [mine, Value.ownBlock] at hk)
 have hn4204 : ∀ k, mine v4198 k → _ ≤ k := fun k hk => (hn4202 k hk).resolve_left (by simp [mine, Value.ownBlock])
 have st4205 := st4192.trans h4203
 refine wpS_pure (Value.pointer (some ⟨b4155, 0 + 4, none⟩)) (pure_fieldT 4 Try.underlying42 rfl T39 rfl rfl) rfl ?_
 have hr4208 := (ho4201).freeze
 have st4207 := st4205.fz ho4201
 refine wpS_store_boxT (v := v4198) (.snd (.fst (.here))) T39 rfl rfl rfl (cells_one hr4208) hr4208 ((hb4190.st st4192.lt h4203).fz (ap_new (hb4190).lt hn4204)) st4207.lt ?_
 intro w4209 he4210 hb4212
 have hb4211 : BoxO w0.heap.size _ w4209 b4155 42 rAccount ((((p0_s.1.1, (p0_s.1.2.1, (p0_s.1.2.2.1, l4175))), p0_s.2).1, (l4196, (((p0_s.1.1, (p0_s.1.2.1, (p0_s.1.2.2.1, l4175))), p0_s.2).2).2))) := hb4212
 have st4213 := st4207.ext he4210 (((hb4190.st st4192.lt h4203).fz (ap_new (hb4190).lt hn4204))).ge
 refine wpS_nil ?_
 refine thn_normal ?_
 refine wpC_seq ?_
 refine wpC_region ?_
 refine wpS_pure (Value.pointer (some ⟨b4155, 0 + 5, none⟩)) (pure_fieldT 5 Try.underlying42 rfl T40 rfl rfl) rfl ?_
 have ha4214 : At _ _ (Row.slice rAppeal) b4155 (0 + 5) ((((p0_s.1.1, (p0_s.1.2.1, (p0_s.1.2.2.1, l4175))), p0_s.2).1, (l4196, (((p0_s.1.1, (p0_s.1.2.1, (p0_s.1.2.2.1, l4175))), p0_s.2).2).2)).2.2.1) := (hb4211).at.path (.snd (.snd (.fst (.here)))) 5 rfl
 refine wpS_load_slice Try.underlying40 rfl rfl ha4214 rfl ?_
 intro v4215 hr4216
 obtain ⟨l4217, h4218, hm⟩ := bind_some hm
 try dsimp only at hm
 refine wpS_appendT (v := (Value.slice none 0 0)) (u := v4215) Try.underlying40 T53 rfl rfl (Own.nil w0.heap.size _ _ 53 rAppeal) (hr4216).reads h4218 st4213.lt st4213.below.size rfl ?_
 intro v4219 w4220 he4221 ho4222 hn4223
 have h4224 : St _ _ _ _ := (St.refl st4213.lt).ext he4221 (fun k hk => by simp [mine, Value.ownBlock] at hk)
 have hn4225 : ∀ k, mine v4219 k → _ ≤ k := fun k hk => (hn4223 k hk).resolve_left (by simp [mine, Value.ownBlock])
 have st4226 := st4213.trans h4224
 refine wpS_pure (Value.pointer (some ⟨b4155, 0 + 5, none⟩)) (pure_fieldT 5 Try.underlying42 rfl T40 rfl rfl) rfl ?_
 have hr4229 := (ho4222).freeze
 have st4228 := st4226.fz ho4222
 refine wpS_store_boxT (v := v4219) (.snd (.snd (.fst (.here)))) T40 rfl rfl rfl (cells_one hr4229) hr4229 ((hb4211.st st4213.lt h4224).fz (ap_new (hb4211).lt hn4225)) st4228.lt ?_
 intro w4230 he4231 hb4233
 have hb4232 : BoxO w0.heap.size _ w4230 b4155 42 rAccount (((((p0_s.1.1, (p0_s.1.2.1, (p0_s.1.2.2.1, l4175))), p0_s.2).1, (l4196, (((p0_s.1.1, (p0_s.1.2.1, (p0_s.1.2.2.1, l4175))), p0_s.2).2).2)).1, (((((p0_s.1.1, (p0_s.1.2.1, (p0_s.1.2.2.1, l4175))), p0_s.2).1, (l4196, (((p0_s.1.1, (p0_s.1.2.1, (p0_s.1.2.2.1, l4175))), p0_s.2).2).2)).2).1, (l4217, (((((p0_s.1.1, (p0_s.1.2.1, (p0_s.1.2.2.1, l4175))), p0_s.2).1, (l4196, (((p0_s.1.1, (p0_s.1.2.1, (p0_s.1.2.2.1, l4175))), p0_s.2).2).2)).2).2).2)))) := hb4233
 have st4234 := st4228.ext he4231 (((hb4211.st st4213.lt h4224).fz (ap_new (hb4211).lt hn4225))).ge
 refine wpS_nil ?_
 refine thn_normal ?_
 refine wpC_seq ?_
 refine wpC_region ?_
 refine wpS_load_rowT Try.underlying42 rfl T42 rfl (hb4232).at rfl ?_
 intro es4235 hr4236
 refine wpS_store_boxT (v := (Value.agg es4235.toArray)) (.here) T42 rfl rfl rfl rfl hr4236 (((((((((hb4166.st st4169.lt h4182).fz (ap_new (hb4166).lt hn4183)).ext st4186.lt he4189 ((((hb4158.st st4161.lt h4165).st st4169.lt h4182).fz (ap_new ((hb4158.st st4161.lt h4165)).lt hn4183))).no (ap_symm (ap_new (hb4158).lt hn4168))).st st4192.lt h4203).fz (ap_new ((((hb4166.st st4169.lt h4182).fz (ap_new (hb4166).lt hn4183)).ext st4186.lt he4189 ((((hb4158.st st4161.lt h4165).st st4169.lt h4182).fz (ap_new ((hb4158.st st4161.lt h4165)).lt hn4183))).no (ap_symm (ap_new (hb4158).lt hn4168)))).lt hn4204)).ext st4207.lt he4210 (((hb4190.st st4192.lt h4203).fz (ap_new (hb4190).lt hn4204))).no (ap_symm (ap_new (hb4158).lt hn4168))).st st4213.lt h4224).fz (ap_new (((((((hb4166.st st4169.lt h4182).fz (ap_new (hb4166).lt hn4183)).ext st4186.lt he4189 ((((hb4158.st st4161.lt h4165).st st4169.lt h4182).fz (ap_new ((hb4158.st st4161.lt h4165)).lt hn4183))).no (ap_symm (ap_new (hb4158).lt hn4168))).st st4192.lt h4203).fz (ap_new ((((hb4166.st st4169.lt h4182).fz (ap_new (hb4166).lt hn4183)).ext st4186.lt he4189 ((((hb4158.st st4161.lt h4165).st st4169.lt h4182).fz (ap_new ((hb4158.st st4161.lt h4165)).lt hn4183))).no (ap_symm (ap_new (hb4158).lt hn4168)))).lt hn4204)).ext st4207.lt he4210 (((hb4190.st st4192.lt h4203).fz (ap_new (hb4190).lt hn4204))).no (ap_symm (ap_new (hb4158).lt hn4168)))).lt hn4225)).ext st4228.lt he4231 (((hb4211.st st4213.lt h4224).fz (ap_new (hb4211).lt hn4225))).no (ap_symm (ap_new (hb4158).lt hn4168))) st4234.lt ?_
 intro w4237 he4238 hb4240
 have hb4239 : BoxO w0.heap.size _ w4237 b4163 42 rAccount (((((p0_s.1.1, (p0_s.1.2.1, (p0_s.1.2.2.1, l4175))), p0_s.2).1, (l4196, (((p0_s.1.1, (p0_s.1.2.1, (p0_s.1.2.2.1, l4175))), p0_s.2).2).2)).1, (((((p0_s.1.1, (p0_s.1.2.1, (p0_s.1.2.2.1, l4175))), p0_s.2).1, (l4196, (((p0_s.1.1, (p0_s.1.2.1, (p0_s.1.2.2.1, l4175))), p0_s.2).2).2)).2).1, (l4217, (((((p0_s.1.1, (p0_s.1.2.1, (p0_s.1.2.2.1, l4175))), p0_s.2).1, (l4196, (((p0_s.1.1, (p0_s.1.2.1, (p0_s.1.2.2.1, l4175))), p0_s.2).2).2)).2).2).2)))) := hb4240
 have st4241 := st4234.ext he4238 ((((((((((hb4166.st st4169.lt h4182).fz (ap_new (hb4166).lt hn4183)).ext st4186.lt he4189 ((((hb4158.st st4161.lt h4165).st st4169.lt h4182).fz (ap_new ((hb4158.st st4161.lt h4165)).lt hn4183))).no (ap_symm (ap_new (hb4158).lt hn4168))).st st4192.lt h4203).fz (ap_new ((((hb4166.st st4169.lt h4182).fz (ap_new (hb4166).lt hn4183)).ext st4186.lt he4189 ((((hb4158.st st4161.lt h4165).st st4169.lt h4182).fz (ap_new ((hb4158.st st4161.lt h4165)).lt hn4183))).no (ap_symm (ap_new (hb4158).lt hn4168)))).lt hn4204)).ext st4207.lt he4210 (((hb4190.st st4192.lt h4203).fz (ap_new (hb4190).lt hn4204))).no (ap_symm (ap_new (hb4158).lt hn4168))).st st4213.lt h4224).fz (ap_new (((((((hb4166.st st4169.lt h4182).fz (ap_new (hb4166).lt hn4183)).ext st4186.lt he4189 ((((hb4158.st st4161.lt h4165).st st4169.lt h4182).fz (ap_new ((hb4158.st st4161.lt h4165)).lt hn4183))).no (ap_symm (ap_new (hb4158).lt hn4168))).st st4192.lt h4203).fz (ap_new ((((hb4166.st st4169.lt h4182).fz (ap_new (hb4166).lt hn4183)).ext st4186.lt he4189 ((((hb4158.st st4161.lt h4165).st st4169.lt h4182).fz (ap_new ((hb4158.st st4161.lt h4165)).lt hn4183))).no (ap_symm (ap_new (hb4158).lt hn4168)))).lt hn4204)).ext st4207.lt he4210 (((hb4190.st st4192.lt h4203).fz (ap_new (hb4190).lt hn4204))).no (ap_symm (ap_new (hb4158).lt hn4168)))).lt hn4225)).ext st4228.lt he4231 (((hb4211.st st4213.lt h4224).fz (ap_new (hb4211).lt hn4225))).no (ap_symm (ap_new (hb4158).lt hn4168)))).ge
 refine wpS_nil ?_
 refine thn_normal ?_
 refine wpC_ret ?_
 obtain rfl := Option.some.inj hm
 refine bodyQ_cell Try.results20 Try.underlying42 rfl T42 rfl hb4239 ?_
 exact fun es hr => ⟨_, st4241, es, rfl, hr⟩

set_option maxRecDepth 100000 in
set_option maxHeartbeats 1000000 in
theorem M.shard_Merge_walk (N : Nat) (w0 : World) (F0 : Nat → Prop) (hF0 : ∀ b, F0 b → b < w0.heap.size) (p0_l : List rAccount.den) (vp0_l : Value) (hp0_l : Rep F0 w0 (Row.slice rAccount) [vp0_l] p0_l) (p1_parts : List (List Int)) (vp1_parts : Value) (hp1_parts : Rep F0 w0 (Row.slice (Row.slice rInt)) [vp1_parts] p1_parts) (p2_done : List (List rAccount.den)) (vp2_done : Value) (hp2_done : Rep F0 w0 (Row.slice (Row.slice rAccount)) [vp2_done] p2_done) (r : List rAccount.den) (hm : M.shard_Merge N p0_l p1_parts p2_done = some r) :
    Calls Try.prog 16 [vp0_l, vp1_parts, vp2_done].toArray w0 fun e w => ∃ v, e = .returned v ∧ ∃ F, St w0 F0 w F ∧ Own w0.heap.size F w 42 rAccount v r ∧ ∀ k, mine v k → w0.heap.size ≤ k := by
 refine calls_of_wpC Try.func16 rfl (Nat.le_of_ble_eq_true rfl) ?_
 intro ρ hρ
 have st0 := St.refl hF0
 rw [M.shard_Merge] at hm
 refine wpC_seq ?_
 refine wpC_region ?_
 refine wpS_pure (Value.slice none 0 0) (pure_assign rfl) rfl ?_
 refine wpS_nil ?_
 refine thn_normal ?_
 refine wpC_seq ?_
 refine wpC_seq ?_
 refine wpC_region ?_
 refine wpS_pure vp0_l (pure_move (hρ 0 _ rfl)) rfl ?_
 refine wpS_len (v := vp0_l) Try.underlying26 rfl ((hp0_l.step (st0.step hF0))).reads rfl ?_
 refine wpS_pure (Value.bool (decide ((p0_l.length : Int) = (0 : Int)))) (pure_eql rfl rfl) rfl ?_
 refine wpS_nil ?_
 refine thn_normal ?_
 by_cases hc2965 : (decide ((p0_l.length : Int) = (0 : Int))) = true
 ·rw [if_pos hc2965] at hm
  refine wpC_true (bval rfl hc2965) ?_
  refine wpC_seq ?_
  refine wpC_region ?_
  refine wpS_pure (Value.slice none 0 0) (pure_assign rfl) rfl ?_
  refine wpS_nil ?_
  refine thn_normal ?_
  refine wpC_ret ?_
  refine thn_ret ?_
  obtain rfl := Option.some.inj hm
  refine bodyQ_ret1 Try.results16 (Value.slice none 0 0) rfl ?_
  exact ⟨_, st0, ⟨Own.nil _ _ _ _ _, fun k hk => by simp [mine, Value.ownBlock] at hk⟩⟩
 ·rw [if_neg hc2965] at hm
  replace hc2965 := Bool.eq_false_iff.2 hc2965
  refine wpC_false (bval rfl hc2965) ?_
  refine wpC_skip ?_
  refine thn_normal ?_
  refine wpC_seq ?_
  refine wpC_region ?_
  refine wpS_pure vp0_l (pure_move (hρ 0 _ rfl)) rfl ?_
  obtain ⟨l2966, h2967, hm⟩ := bind_some hm
  try dsimp only at hm
  refine wpS_appendT (v := (Value.slice none 0 0)) (u := vp0_l) Try.underlying26 T42 rfl rfl (Own.nil w0.heap.size _ _ 42 rAccount) ((hp0_l.step (st0.step hF0))).reads h2967 st0.lt st0.below.size rfl ?_
  intro v2968 w2969 he2970 ho2971 hn2972
  have h2973 : St _ _ _ _ := (St.refl st0.lt).ext he2970 (fun k hk => by simp [mine, Value.ownBlock] at hk)
  have hn2974 : ∀ k, mine v2968 k → _ ≤ k := fun k hk => (hn2972 k hk).resolve_left (by simp [mine, Value.ownBlock])
  have st2975 := st0.trans h2973
  refine wpS_pure v2968 (pure_assign rfl) rfl ?_
  refine wpS_nil ?_
  refine thn_normal ?_
  refine wpC_seq ?_
  refine wpC_seq ?_
  refine wpC_region ?_
  refine wpS_pure (Value.int .i64 (0 : Int)) (pure_assign rfl) rfl ?_
  refine wpS_nil ?_
  refine thn_normal ?_
  refine wpC_block_join (fun ρ w => ∃ (a3428 : List rAccount.den) (F3431 : Nat → Prop) (v3427 : Value), St w0 F0 w F3431 ∧ Own w0.heap.size F3431 w 42 rAccount v3427 a3428 ∧ ρ 7 = v3427 ∧ M.shard_Merge_k1 N a3428 = some r) ?_ ?_
  ·skip
   obtain ⟨x3745, hL3746, hm3747⟩ := bind_some hm
   clear hm
   refine wpC_loop (fun (s : List rAccount.den × Int) ρ w => ∃ (a3735 : List rAccount.den) (a3737 : Int) (F3742 : Nat → Prop) (v3734 : Value), (a3735, a3737) = s ∧ St w0 F0 w F3742 ∧ Own w0.heap.size F3742 w 42 rAccount v3734 a3735 ∧ ρ 1 = vp1_parts ∧ ρ 2 = vp2_done ∧ ρ 7 = v3734 ∧ ρ 8 = (Value.int .i64 a3737)) hL3746 ?_ ?_
   ·exact ⟨l2966, (0 : Int), _, v2968, rfl, st2975, ho2971, (hρ 1 _ rfl), (hρ 2 _ rfl), rfl, rfl⟩
   ·skip
    rintro s ρ w y3748 ⟨a3735, a3737, F3742, v3734, rfl, st3743, ho3736, r3738, r3739, r3740, r3741⟩ hm3749
    have hm : M.shard_Merge_k2 N p1_parts p2_done a3735 a3737 = some y3748 := hm3749
    clear hm3749
    rw [M.shard_Merge_k2] at hm
    refine wpC_seq_join (fun ρ w => ∃ (F3756 : Nat → Prop) (v3750 : Value), St w0 F0 w F3756 ∧ Own w0.heap.size F3756 w 42 rAccount v3750 a3735 ∧ ρ 1 = vp1_parts ∧ ρ 2 = vp2_done ∧ ρ 7 = v3750 ∧ ρ 8 = (Value.int .i64 a3737) ∧ M.shard_Merge_k3 N p1_parts p2_done a3735 a3737 = some y3748) ?_ ?_
    ·skip
     refine wpC_seq ?_
     refine wpC_region ?_
     refine wpS_pure (Value.int .i64 a3737) (pure_move r3741) rfl ?_
     refine wpS_pure vp1_parts (pure_move r3738) rfl ?_
     refine wpS_len (v := vp1_parts) Try.underlying29 rfl ((hp1_parts.step (st3743.step hF0))).reads rfl ?_
     refine wpS_pure (Value.bool (decide (a3737 < (p1_parts.length : Int)))) (pure_lss rfl rfl) rfl ?_
     refine wpS_pure (Value.bool (decide (a3737 < (p1_parts.length : Int)))) (pure_move rfl) rfl ?_
     by_cases hc3759 : (decide (a3737 < (p1_parts.length : Int))) = true
     ·rw [if_pos hc3759] at hm
      refine wpS_on 22 rfl rfl (bval' rfl hc3759) ?_
      refine wpS_pure (Value.int .i64 a3737) (pure_move r3741) rfl ?_
      refine wpS_on 22 rfl rfl (bval' rfl hc3759) ?_
      refine wpS_pure vp2_done (pure_move r3739) rfl ?_
      refine wpS_on 22 rfl rfl (bval' rfl hc3759) ?_
      refine wpS_len (v := vp2_done) Try.underlying32 rfl ((hp2_done.step (st3743.step hF0))).reads rfl ?_
      refine wpS_on 22 rfl rfl (bval' rfl hc3759) ?_
      refine wpS_pure (Value.bool (decide (a3737 < (p2_done.length : Int)))) (pure_lss rfl rfl) rfl ?_
      refine wpS_pure (Value.bool (decide (a3737 < (p2_done.length : Int)))) (pure_pick_true (bval rfl hc3759) rfl) rfl ?_
      refine wpS_nil ?_
      refine thn_normal ?_
      by_cases hc3760 : (decide (a3737 < (p2_done.length : Int))) = true
      ·rw [if_pos hc3760] at hm
       refine wpC_true (bval rfl hc3760) ?_
       refine wpC_skip ?_
       refine thn_normal ?_
       exact ⟨_, v3734, st3743, ho3736, r3738, r3739, r3740, r3741, hm⟩
      ·rw [if_neg hc3760] at hm
       replace hc3760 := Bool.eq_false_iff.2 hc3760
       refine wpC_false (bval rfl hc3760) ?_
       refine wpC_exit ?_
       refine thn_exit ?_
       obtain rfl := Option.some.inj hm
       refine loopQ_exit (fun hx => ?_)
       subst hx
       have hm3761 : M.shard_Merge_k1 N a3735 = some r := hm3747
       refine joinQ_same ?_
       exact ⟨a3735, _, v3734, st3743, ho3736, r3740, hm3761⟩
     ·rw [if_neg hc3759] at hm
      replace hc3759 := Bool.eq_false_iff.2 hc3759
      refine wpS_off 22 rfl rfl (bval' rfl hc3759) (by decide) rfl ?_
      refine wpS_off 22 rfl rfl (bval' rfl hc3759) (by decide) rfl ?_
      refine wpS_off 22 rfl rfl (bval' rfl hc3759) (by decide) rfl ?_
      refine wpS_off 22 rfl rfl (bval' rfl hc3759) (by decide) rfl ?_
      refine wpS_pure (Value.bool false) (pure_pick_false (bval rfl hc3759) rfl) rfl ?_
      refine wpS_nil ?_
      refine thn_normal ?_
      refine wpC_false rfl ?_
      refine wpC_exit ?_
      refine thn_exit ?_
      obtain rfl := Option.some.inj hm
      refine loopQ_exit (fun hx => ?_)
      subst hx
      have hm3762 : M.shard_Merge_k1 N a3735 = some r := hm3747
      refine joinQ_same ?_
      exact ⟨a3735, _, v3734, st3743, ho3736, r3740, hm3762⟩
    ·skip
     rintro ρ w ⟨F3756, v3750, st3757, ho3751, r3752, r3753, r3754, r3755, hm⟩
     rw [M.shard_Merge_k3] at hm
     refine wpC_seq ?_
     refine wpC_block ?_
     refine wpC_seq ?_
     refine wpC_region ?_
     refine wpS_pure (Value.int .i64 (0 : Int)) (pure_assign rfl) rfl ?_
     refine wpS_nil ?_
     refine thn_normal ?_
     refine wpC_block_join (fun ρ w => ∃ (a3914 : List rAccount.den) (F3920 : Nat → Prop) (v3913 : Value), St w0 F0 w F3920 ∧ Own w0.heap.size F3920 w 42 rAccount v3913 a3914 ∧ ρ 1 = vp1_parts ∧ ρ 2 = vp2_done ∧ ρ 7 = v3913 ∧ ρ 8 = (Value.int .i64 a3737) ∧ M.shard_Merge_k4 N a3737 a3914 = some y3748) ?_ ?_
     ·skip
      obtain ⟨x4035, hL4036, hm4037⟩ := bind_some hm
      clear hm
      refine wpC_loop (fun (s : List rAccount.den × Int) ρ w => ∃ (a4024 : List rAccount.den) (a4026 : Int) (F4032 : Nat → Prop) (v4023 : Value), (a4024, a4026) = s ∧ St w0 F0 w F4032 ∧ Own w0.heap.size F4032 w 42 rAccount v4023 a4024 ∧ ρ 1 = vp1_parts ∧ ρ 2 = vp2_done ∧ ρ 7 = v4023 ∧ ρ 8 = (Value.int .i64 a3737) ∧ ρ 9 = (Value.int .i64 a4026)) hL4036 ?_ ?_
      ·exact ⟨a3735, (0 : Int), _, v3750, rfl, st3757, ho3751, r3752, r3753, r3754, r3755, rfl⟩
      ·skip
       rintro s ρ w y4038 ⟨a4024, a4026, F4032, v4023, rfl, st4033, ho4025, r4027, r4028, r4029, r4030, r4031⟩ hm4039
       have hm : M.shard_Merge_k5 N p1_parts p2_done a3737 a4024 a4026 = some y4038 := hm4039
       clear hm4039
       rw [M.shard_Merge_k5] at hm
       refine wpC_seq_join (fun ρ w => ∃ (F4061 : Nat → Prop) (v4054 : Value), St w0 F0 w F4061 ∧ Own w0.heap.size F4061 w 42 rAccount v4054 a4024 ∧ ρ 1 = vp1_parts ∧ ρ 2 = vp2_done ∧ ρ 7 = v4054 ∧ ρ 8 = (Value.int .i64 a3737) ∧ ρ 9 = (Value.int .i64 a4026) ∧ M.shard_Merge_k6 N p1_parts p2_done a3737 a4024 a4026 = some y4038) ?_ ?_
       ·skip
        refine wpC_seq ?_
        refine wpC_region ?_
        refine wpS_pure (Value.int .i64 a4026) (pure_move r4031) rfl ?_
        refine wpS_pure vp1_parts (pure_move r4027) rfl ?_
        refine wpS_pure (Value.int .i64 a3737) (pure_move r4030) rfl ?_
        obtain ⟨x4064, h4065, hm⟩ := bind_some hm
        try dsimp only at hm
        refine wpS_indexT (v := vp1_parts) Try.underlying29 T25 rfl rfl ((hp1_parts.step (st4033.step hF0))).reads h4065 rfl ?_
        intro b4066 o4067 ha4068
        refine wpS_load_slice Try.underlying25 rfl rfl ha4068 rfl ?_
        intro v4069 hr4070
        refine wpS_len (v := v4069) Try.underlying25 rfl (hr4070).reads rfl ?_
        refine wpS_pure (Value.bool (decide (a4026 < (x4064.length : Int)))) (pure_lss rfl rfl) rfl ?_
        refine wpS_pure (Value.bool (decide (a4026 < (x4064.length : Int)))) (pure_move rfl) rfl ?_
        by_cases hc4071 : (decide (a4026 < (x4064.length : Int))) = true
        ·rw [if_pos hc4071] at hm
         refine wpS_on 37 rfl rfl (bval' rfl hc4071) ?_
         refine wpS_pure (Value.int .i64 a4026) (pure_move r4031) rfl ?_
         refine wpS_on 37 rfl rfl (bval' rfl hc4071) ?_
         refine wpS_pure vp2_done (pure_move r4028) rfl ?_
         refine wpS_on 37 rfl rfl (bval' rfl hc4071) ?_
         refine wpS_pure (Value.int .i64 a3737) (pure_move r4030) rfl ?_
         refine wpS_on 37 rfl rfl (bval' rfl hc4071) ?_
         obtain ⟨x4072, h4073, hm⟩ := bind_some hm
         try dsimp only at hm
         refine wpS_indexT (v := vp2_done) Try.underlying32 T26 rfl rfl ((hp2_done.step (st4033.step hF0))).reads h4073 rfl ?_
         intro b4074 o4075 ha4076
         refine wpS_on 37 rfl rfl (bval' rfl hc4071) ?_
         refine wpS_load_slice Try.underlying26 rfl rfl ha4076 rfl ?_
         intro v4077 hr4078
         refine wpS_on 37 rfl rfl (bval' rfl hc4071) ?_
         refine wpS_len (v := v4077) Try.underlying26 rfl (hr4078).reads rfl ?_
         refine wpS_on 37 rfl rfl (bval' rfl hc4071) ?_
         refine wpS_pure (Value.bool (decide (a4026 < (x4072.length : Int)))) (pure_lss rfl rfl) rfl ?_
         refine wpS_pure (Value.bool (decide (a4026 < (x4072.length : Int)))) (pure_pick_true (bval rfl hc4071) rfl) rfl ?_
         refine wpS_nil ?_
         refine thn_normal ?_
         by_cases hc4079 : (decide (a4026 < (x4072.length : Int))) = true
         ·rw [if_pos hc4079] at hm
          refine wpC_true (bval rfl hc4079) ?_
          refine wpC_skip ?_
          refine thn_normal ?_
          exact ⟨_, v4023, st4033, ho4025, r4027, r4028, r4029, r4030, r4031, hm⟩
         ·rw [if_neg hc4079] at hm
          replace hc4079 := Bool.eq_false_iff.2 hc4079
          refine wpC_false (bval rfl hc4079) ?_
          refine wpC_exit ?_
          refine thn_exit ?_
          obtain rfl := Option.some.inj hm
          refine loopQ_exit (fun hx => ?_)
          subst hx
          have hm4080 : M.shard_Merge_k4 N a3737 a4024 = some y3748 := hm4037
          refine joinQ_same ?_
          exact ⟨a4024, _, v4023, st4033, ho4025, r4027, r4028, r4029, r4030, hm4080⟩
        ·rw [if_neg hc4071] at hm
         replace hc4071 := Bool.eq_false_iff.2 hc4071
         refine wpS_off 37 rfl rfl (bval' rfl hc4071) (by decide) rfl ?_
         refine wpS_off 37 rfl rfl (bval' rfl hc4071) (by decide) rfl ?_
         refine wpS_off 37 rfl rfl (bval' rfl hc4071) (by decide) rfl ?_
         refine wpS_off 37 rfl rfl (bval' rfl hc4071) (by decide) rfl ?_
         refine wpS_off 37 rfl rfl (bval' rfl hc4071) (by decide) rfl ?_
         refine wpS_off 37 rfl rfl (bval' rfl hc4071) (by decide) rfl ?_
         refine wpS_off 37 rfl rfl (bval' rfl hc4071) (by decide) rfl ?_
         refine wpS_pure (Value.bool false) (pure_pick_false (bval rfl hc4071) rfl) rfl ?_
         refine wpS_nil ?_
         refine thn_normal ?_
         refine wpC_false rfl ?_
         refine wpC_exit ?_
         refine thn_exit ?_
         obtain rfl := Option.some.inj hm
         refine loopQ_exit (fun hx => ?_)
         subst hx
         have hm4081 : M.shard_Merge_k4 N a3737 a4024 = some y3748 := hm4037
         refine joinQ_same ?_
         exact ⟨a4024, _, v4023, st4033, ho4025, r4027, r4028, r4029, r4030, hm4081⟩
       ·skip
        rintro ρ w ⟨F4061, v4054, st4062, ho4055, r4056, r4057, r4058, r4059, r4060, hm⟩
        rw [M.shard_Merge_k6] at hm
        refine wpC_seq ?_
        refine wpC_block ?_
        refine wpC_seq ?_
        refine wpC_region ?_
        refine wpS_pure vp1_parts (pure_move r4056) rfl ?_
        refine wpS_pure (Value.int .i64 a3737) (pure_move r4059) rfl ?_
        obtain ⟨x4082, h4083, hm⟩ := bind_some hm
        try dsimp only at hm
        refine wpS_indexT (v := vp1_parts) Try.underlying29 T25 rfl rfl ((hp1_parts.step (st4062.step hF0))).reads h4083 rfl ?_
        intro b4084 o4085 ha4086
        refine wpS_load_slice Try.underlying25 rfl rfl ha4086 rfl ?_
        intro v4087 hr4088
        refine wpS_pure (Value.int .i64 a4026) (pure_move r4060) rfl ?_
        obtain ⟨x4089, h4090, hm⟩ := bind_some hm
        try dsimp only at hm
        refine wpS_indexT (v := v4087) Try.underlying25 T3 rfl rfl (hr4088).reads h4090 rfl ?_
        intro b4091 o4092 ha4093
        refine wpS_load_int Try.underlying3 rfl rfl ha4093 rfl ?_
        refine wpS_pure (Value.int .i64 x4089) (pure_assign rfl) rfl ?_
        refine wpS_nil ?_
        refine thn_normal ?_
        refine wpC_seq_join (fun ρ w => ∃ (a4096 : Bool) (F4104 : Nat → Prop) (v4094 : Value), St w0 F0 w F4104 ∧ Own w0.heap.size F4104 w 42 rAccount v4094 a4024 ∧ ρ 1 = vp1_parts ∧ ρ 2 = vp2_done ∧ ρ 7 = v4094 ∧ ρ 8 = (Value.int .i64 a3737) ∧ ρ 9 = (Value.int .i64 a4026) ∧ ρ 10 = (Value.int .i64 x4089) ∧ ρ 62 = (Value.bool a4096) ∧ M.shard_Merge_k7 N p2_done a3737 a4024 a4026 x4089 a4096 = some y4038) ?_ ?_
        ·skip
         refine wpC_region ?_
         refine wpS_pure (Value.int .i64 x4089) (pure_move rfl) rfl ?_
         refine wpS_pure (Value.bool (decide ((0 : Int) ≤ x4089))) (pure_geq rfl rfl) rfl ?_
         refine wpS_pure (Value.bool (decide ((0 : Int) ≤ x4089))) (pure_move rfl) rfl ?_
         by_cases hc4107 : (decide ((0 : Int) ≤ x4089)) = true
         ·rw [if_pos hc4107] at hm
          refine wpS_on 57 rfl rfl (bval' rfl hc4107) ?_
          refine wpS_pure (Value.int .i64 x4089) (pure_move rfl) rfl ?_
          refine wpS_on 57 rfl rfl (bval' rfl hc4107) ?_
          refine wpS_pure v4054 (pure_move r4058) rfl ?_
          refine wpS_on 57 rfl rfl (bval' rfl hc4107) ?_
          refine wpS_len (v := v4054) Try.underlying26 rfl (ho4055).reads rfl ?_
          refine wpS_on 57 rfl rfl (bval' rfl hc4107) ?_
          refine wpS_pure (Value.bool (decide (x4089 < (a4024.length : Int)))) (pure_lss rfl rfl) rfl ?_
          refine wpS_pure (Value.bool (decide (x4089 < (a4024.length : Int)))) (pure_pick_true (bval rfl hc4107) rfl) rfl ?_
          refine wpS_nil ?_
          refine thn_normal ?_
          exact ⟨(decide (x4089 < (a4024.length : Int))), _, v4054, st4062, ho4055, r4056, r4057, r4058, r4059, r4060, rfl, rfl, hm⟩
         ·rw [if_neg hc4107] at hm
          replace hc4107 := Bool.eq_false_iff.2 hc4107
          refine wpS_off 57 rfl rfl (bval' rfl hc4107) (by decide) rfl ?_
          refine wpS_off 57 rfl rfl (bval' rfl hc4107) (by decide) rfl ?_
          refine wpS_off 57 rfl rfl (bval' rfl hc4107) (by decide) rfl ?_
          refine wpS_off 57 rfl rfl (bval' rfl hc4107) (by decide) rfl ?_
          refine wpS_pure (Value.bool false) (pure_pick_false (bval rfl hc4107) rfl) rfl ?_
          refine wpS_nil ?_
          refine thn_normal ?_
          exact ⟨false, _, v4054, st4062, ho4055, r4056, r4057, r4058, r4059, r4060, rfl, rfl, hm⟩
        ·skip
         rintro ρ w ⟨a4096, F4104, v4094, st4105, ho4095, r4097, r4098, r4099, r4100, r4101, r4102, r4103, hm⟩
         rw [M.shard_Merge_k7] at hm
         by_cases hc4108 : a4096 = true
         ·rw [if_pos hc4108] at hm
          refine wpC_true (bval r4103 hc4108) ?_
          refine wpC_region ?_
          refine wpS_pure v4094 (pure_move r4099) rfl ?_
          refine wpS_pure (Value.int .i64 x4089) (pure_move r4102) rfl ?_
          refine wpS_pure vp2_done (pure_move r4098) rfl ?_
          refine wpS_pure (Value.int .i64 a3737) (pure_move r4100) rfl ?_
          obtain ⟨x4109, h4110, hm⟩ := bind_some hm
          try dsimp only at hm
          refine wpS_indexT (v := vp2_done) Try.underlying32 T26 rfl rfl ((hp2_done.step (st4105.step hF0))).reads h4110 rfl ?_
          intro b4111 o4112 ha4113
          refine wpS_load_slice Try.underlying26 rfl rfl ha4113 rfl ?_
          intro v4114 hr4115
          refine wpS_pure (Value.int .i64 a4026) (pure_move r4101) rfl ?_
          obtain ⟨x4116, h4117, hm⟩ := bind_some hm
          try dsimp only at hm
          refine wpS_indexT (v := v4114) Try.underlying26 T42 rfl rfl (hr4115).reads h4117 rfl ?_
          intro b4118 o4119 ha4120
          refine wpS_load_rowT Try.underlying42 rfl T42 rfl ha4120 rfl ?_
          intro es4121 hr4122
          obtain ⟨x4123, h4124, hm⟩ := bind_some hm
          try dsimp only at hm
          refine wpS_elemT (v := v4094) Try.underlying26 T42 rfl rfl ho4095 h4124 rfl ?_
          intro g4125 q4126 hg4127 hq4128
          refine wpS_store_elemT (v := v4094) (val := (Value.agg es4121.toArray)) (.here) T42 rfl (by simp [Path.off]) rfl rfl hr4122 ho4095 hg4127 hq4128 h4124 st4105.lt ?_
          intro w4129 he4130 ho4131
          have ho4132 : Own w0.heap.size _ w4129 42 rAccount v4094 (setL a4024 x4089 x4116) := ho4131
          have st4133 := st4105.ext he4130 (ho4095).ge
          refine wpS_nil ?_
          refine inB_normal ?_
          refine thn_normal ?_
          refine wpC_region ?_
          refine wpS_pure (Value.int .i64 a4026) (pure_move r4101) rfl ?_
          refine wpS_pure (Value.int .i64 (IntKind.i64.wrap (a4026 + (1 : Int)))) (pure_add rfl rfl) rfl ?_
          refine wpS_pure (Value.int .i64 (IntKind.i64.wrap (a4026 + (1 : Int)))) (pure_assign rfl) rfl ?_
          refine wpS_nil ?_
          obtain rfl := Option.some.inj hm
          refine loopQ_in ?_
          exact ⟨(setL a4024 x4089 x4116), (IntKind.i64.wrap (a4026 + (1 : Int))), _, v4094, rfl, st4133, ho4132, r4097, r4098, r4099, r4100, rfl⟩
         ·rw [if_neg hc4108] at hm
          replace hc4108 := Bool.eq_false_iff.2 hc4108
          refine wpC_false (bval r4103 hc4108) ?_
          refine wpC_skip ?_
          refine inB_normal ?_
          refine thn_normal ?_
          refine wpC_region ?_
          refine wpS_pure (Value.int .i64 a4026) (pure_move r4101) rfl ?_
          refine wpS_pure (Value.int .i64 (IntKind.i64.wrap (a4026 + (1 : Int)))) (pure_add rfl rfl) rfl ?_
          refine wpS_pure (Value.int .i64 (IntKind.i64.wrap (a4026 + (1 : Int)))) (pure_assign rfl) rfl ?_
          refine wpS_nil ?_
          obtain rfl := Option.some.inj hm
          refine loopQ_in ?_
          exact ⟨a4024, (IntKind.i64.wrap (a4026 + (1 : Int))), _, v4094, rfl, st4105, ho4095, r4097, r4098, r4099, r4100, rfl⟩
     ·skip
      rintro ρ w ⟨a3914, F3920, v3913, st3921, ho3915, r3916, r3917, r3918, r3919, hm⟩
      rw [M.shard_Merge_k4] at hm
      refine inB_normal ?_
      refine thn_normal ?_
      refine wpC_region ?_
      refine wpS_pure (Value.int .i64 a3737) (pure_move r3919) rfl ?_
      refine wpS_pure (Value.int .i64 (IntKind.i64.wrap (a3737 + (1 : Int)))) (pure_add rfl rfl) rfl ?_
      refine wpS_pure (Value.int .i64 (IntKind.i64.wrap (a3737 + (1 : Int)))) (pure_assign rfl) rfl ?_
      refine wpS_nil ?_
      obtain rfl := Option.some.inj hm
      refine loopQ_in ?_
      exact ⟨a3914, (IntKind.i64.wrap (a3737 + (1 : Int))), _, v3913, rfl, st3921, ho3915, r3916, r3917, r3918, rfl⟩
  ·skip
   rintro ρ w ⟨a3428, F3431, v3427, st3432, ho3429, r3430, hm⟩
   rw [M.shard_Merge_k1] at hm
   refine thn_normal ?_
   refine wpC_seq ?_
   refine wpC_seq ?_
   refine wpC_region ?_
   refine wpS_pure v3427 (pure_move r3430) rfl ?_
   refine wpS_len (v := v3427) Try.underlying26 rfl (ho3429).reads rfl ?_
   refine wpS_pure (Value.int .i64 (0 : Int)) (pure_move rfl) rfl ?_
   refine wpS_nil ?_
   refine thn_normal ?_
   refine wpC_block_join (fun ρ w => ∃ (a4345 : List rAccount.den) (F4348 : Nat → Prop) (v4344 : Value), St w0 F0 w F4348 ∧ Own w0.heap.size F4348 w 42 rAccount v4344 a4345 ∧ ρ 7 = v4344 ∧ M.shard_Merge_k8 N a4345 = some r) ?_ ?_
   ·skip
    obtain ⟨x4444, hL4445, hm4446⟩ := bind_some hm
    clear hm
    refine wpC_loop (fun (s : List rAccount.den × Int) ρ w => ∃ (a4434 : List rAccount.den) (a4436 : Int) (F4441 : Nat → Prop) (v4433 : Value), (a4434, a4436) = s ∧ St w0 F0 w F4441 ∧ Own w0.heap.size F4441 w 42 rAccount v4433 a4434 ∧ ρ 7 = v4433 ∧ ρ 73 = v4433 ∧ ρ 74 = (Value.int .i64 (a3428.length : Int)) ∧ ρ 75 = (Value.int .i64 a4436)) hL4445 ?_ ?_
    ·exact ⟨a3428, (0 : Int), _, v3427, rfl, st3432, ho3429, r3430, rfl, rfl, rfl⟩
    ·skip
     rintro s ρ w y4447 ⟨a4434, a4436, F4441, v4433, rfl, st4442, ho4435, r4437, r4438, r4439, r4440⟩ hm4448
     have hm : M.shard_Merge_k9 N a3428 a4434 a4436 = some y4447 := hm4448
     clear hm4448
     rw [M.shard_Merge_k9] at hm
     refine wpC_seq ?_
     refine wpC_region ?_
     refine wpS_pure (Value.bool (decide (a4436 < (a3428.length : Int)))) (pure_lss r4440 r4439) rfl ?_
     refine wpS_nil ?_
     refine thn_normal ?_
     refine wpC_seq ?_
     by_cases hc4449 : (decide (a4436 < (a3428.length : Int))) = true
     ·rw [if_pos hc4449] at hm
      refine wpC_true (bval rfl hc4449) ?_
      refine wpC_skip ?_
      refine thn_normal ?_
      refine wpC_seq ?_
      refine wpC_block ?_
      refine wpC_seq ?_
      refine wpC_region ?_
      refine wpS_pure (Value.int .i64 a4436) (pure_move r4440) rfl ?_
      obtain ⟨x4450, h4451, hm⟩ := bind_some hm
      try dsimp only at hm
      refine wpS_indexT (v := v4433) Try.underlying26 T42 r4438 r4440 (ho4435).reads h4451 rfl ?_
      intro b4452 o4453 ha4454
      refine wpS_load_rowT Try.underlying42 rfl T42 rfl ha4454 rfl ?_
      intro es4455 hr4456
      refine wpS_allocT (base := w0.heap.size) rAccount T42 st4442.lt st4442.below.size rfl ?_
      intro b4457 w4458 h4459 hb4460 hn4461
      have hn4462 : ∀ k, is b4457 k → _ ≤ k := fun k hk => hk ▸ hn4461
      have st4463 := st4442.trans h4459
      refine wpS_pure (Value.int .i64 a4436) (pure_assign rfl) rfl ?_
      refine wpS_store_boxT (v := (Value.agg es4455.toArray)) (.here) T42 rfl rfl rfl rfl (hr4456.step (h4459.step st4442.lt)) hb4460 st4463.lt ?_
      intro w4465 he4466 hb4468
      have hb4467 : BoxO w0.heap.size _ w4465 b4457 42 rAccount (x4450) := hb4468
      have st4469 := st4463.ext he4466 (hb4460).ge
      refine wpS_nil ?_
      refine thn_normal ?_
      refine wpC_region ?_
      refine wpS_pure v4433 (pure_move r4437) rfl ?_
      refine wpS_pure (Value.int .i64 a4436) (pure_move rfl) rfl ?_
      refine wpS_load_rowT Try.underlying42 rfl T42 rfl (hb4467).at rfl ?_
      intro es4470 hr4471
      obtain ⟨y4472, h4473, hm⟩ := bind_some hm
      try dsimp only at hm
      refine wpS_call (vs := [(Value.agg es4470.toArray)]) Try.func20 nm20 bd20 (m_cons rfl m_nil) (M.shard_clone_walk N _ _ st4469.lt x4450 es4470 hr4471 y4472 h4473) rfl ?_
      rintro v4474 w4475 ⟨F4476, h4477, hv4478⟩
      have st4479 := st4469.trans h4477
      obtain ⟨es4480, rfl, hr4481⟩ := hv4478
      obtain ⟨x4482, h4483, hm⟩ := bind_some hm
      try dsimp only at hm
      refine wpS_elemT (v := v4433) Try.underlying26 T42 rfl rfl (((ho4435.st st4442.lt h4459).ext st4463.lt he4466 (hb4460).no (ap_new (ho4435).lt hn4462)).st st4469.lt h4477) h4483 rfl ?_
      intro g4484 q4485 hg4486 hq4487
      refine wpS_store_elemT (v := v4433) (val := (Value.agg es4480.toArray)) (.here) T42 rfl (by simp [Path.off]) rfl rfl hr4481 (((ho4435.st st4442.lt h4459).ext st4463.lt he4466 (hb4460).no (ap_new (ho4435).lt hn4462)).st st4469.lt h4477) hg4486 hq4487 h4483 st4479.lt ?_
      intro w4488 he4489 ho4490
      have ho4491 : Own w0.heap.size _ w4488 42 rAccount v4433 (setL a4434 a4436 y4472) := ho4490
      have st4492 := st4479.ext he4489 ((((ho4435.st st4442.lt h4459).ext st4463.lt he4466 (hb4460).no (ap_new (ho4435).lt hn4462)).st st4469.lt h4477)).ge
      refine wpS_nil ?_
      refine inB_normal ?_
      refine thn_normal ?_
      refine wpC_region ?_
      refine wpS_pure (Value.int .i64 (IntKind.i64.wrap (a4436 + (1 : Int)))) (pure_add r4440 rfl) rfl ?_
      refine wpS_pure (Value.int .i64 (IntKind.i64.wrap (a4436 + (1 : Int)))) (pure_move rfl) rfl ?_
      refine wpS_nil ?_
      obtain rfl := Option.some.inj hm
      refine loopQ_in ?_
      exact ⟨(setL a4434 a4436 y4472), (IntKind.i64.wrap (a4436 + (1 : Int))), _, v4433, rfl, st4492, ho4491, r4437, r4438, r4439, rfl⟩
     ·rw [if_neg hc4449] at hm
      replace hc4449 := Bool.eq_false_iff.2 hc4449
      refine wpC_false (bval rfl hc4449) ?_
      refine wpC_exit ?_
      refine thn_exit ?_
      obtain rfl := Option.some.inj hm
      refine loopQ_exit (fun hx => ?_)
      subst hx
      have hm4493 : M.shard_Merge_k8 N a4434 = some r := hm4446
      refine joinQ_same ?_
      exact ⟨a4434, _, v4433, st4442, ho4435, r4437, hm4493⟩
   ·skip
    rintro ρ w ⟨a4345, F4348, v4344, st4349, ho4346, r4347, hm⟩
    rw [M.shard_Merge_k8] at hm
    refine thn_normal ?_
    refine wpC_seq ?_
    refine wpC_region ?_
    refine wpS_pure v4344 (pure_move r4347) rfl ?_
    refine wpS_pure v4344 (pure_assign rfl) rfl ?_
    refine wpS_nil ?_
    refine thn_normal ?_
    refine wpC_ret ?_
    obtain rfl := Option.some.inj hm
    refine bodyQ_ret1 Try.results16 v4344 rfl ?_
    exact ⟨_, st4349, ⟨ho4346, (ho4346).ge⟩⟩

set_option maxRecDepth 100000 in
set_option maxHeartbeats 1000000 in
theorem M.ref48_Merge_walk (N : Nat) (w0 : World) (F0 : Nat → Prop) (hF0 : ∀ b, F0 b → b < w0.heap.size) (p0_l : List rAccount.den) (vp0_l : Value) (hp0_l : Rep F0 w0 (Row.slice rAccount) [vp0_l] p0_l) (p1_parts : List (List Int)) (vp1_parts : Value) (hp1_parts : Rep F0 w0 (Row.slice (Row.slice rInt)) [vp1_parts] p1_parts) (p2_done : List (List rAccount.den)) (vp2_done : Value) (hp2_done : Rep F0 w0 (Row.slice (Row.slice rAccount)) [vp2_done] p2_done) (r : List rAccount.den) (hm : M.ref48_Merge N p0_l p1_parts p2_done = some r) :
    Calls Try.prog 17 [vp0_l, vp1_parts, vp2_done].toArray w0 fun e w => ∃ v, e = .returned v ∧ ∃ F, St w0 F0 w F ∧ Own w0.heap.size F w 42 rAccount v r ∧ ∀ k, mine v k → w0.heap.size ≤ k := by
 refine calls_of_wpC Try.func17 rfl (Nat.le_of_ble_eq_true rfl) ?_
 intro ρ hρ
 have st0 := St.refl hF0
 rw [M.ref48_Merge] at hm
 refine wpC_seq ?_
 refine wpC_region ?_
 refine wpS_pure (Value.slice none 0 0) (pure_assign rfl) rfl ?_
 refine wpS_nil ?_
 refine thn_normal ?_
 refine wpC_seq ?_
 refine wpC_region ?_
 refine wpS_pure (Value.slice none 0 0) (pure_assign rfl) rfl ?_
 refine wpS_nil ?_
 refine thn_normal ?_
 refine wpC_seq ?_
 refine wpC_region ?_
 refine wpS_pure (Value.slice none 0 0) (pure_move rfl) rfl ?_
 refine wpS_pure vp0_l (pure_move (hρ 0 _ rfl)) rfl ?_
 obtain ⟨l4506, h4507, hm⟩ := bind_some hm
 try dsimp only at hm
 refine wpS_appendT (v := (Value.slice none 0 0)) (u := vp0_l) Try.underlying26 T42 rfl rfl (Own.nil w0.heap.size _ _ 42 rAccount) ((hp0_l.step (st0.step hF0))).reads h4507 st0.lt st0.below.size rfl ?_
 intro v4508 w4509 he4510 ho4511 hn4512
 have h4513 : St _ _ _ _ := (St.refl st0.lt).ext he4510 (fun k hk => by simp [mine, Value.ownBlock] at hk)
 have hn4514 : ∀ k, mine v4508 k → _ ≤ k := fun k hk => (hn4512 k hk).resolve_left (by simp [mine, Value.ownBlock])
 have st4515 := st0.trans h4513
 refine wpS_pure v4508 (pure_assign rfl) rfl ?_
 refine wpS_nil ?_
 refine thn_normal ?_
 refine wpC_seq ?_
 refine wpC_seq ?_
 refine wpC_region ?_
 refine wpS_pure (Value.int .i64 (0 : Int)) (pure_assign rfl) rfl ?_
 refine wpS_nil ?_
 refine thn_normal ?_
 refine wpC_block_join (fun ρ w => ∃ (a4968 : List rAccount.den) (F4971 : Nat → Prop) (v4967 : Value), St w0 F0 w F4971 ∧ Own w0.heap.size F4971 w 42 rAccount v4967 a4968 ∧ ρ 7 = v4967 ∧ M.ref48_Merge_k1 N a4968 = some r) ?_ ?_
 ·skip
  obtain ⟨x5285, hL5286, hm5287⟩ := bind_some hm
  clear hm
  refine wpC_loop (fun (s : List rAccount.den × Int) ρ w => ∃ (a5275 : List rAccount.den) (a5277 : Int) (F5282 : Nat → Prop) (v5274 : Value), (a5275, a5277) = s ∧ St w0 F0 w F5282 ∧ Own w0.heap.size F5282 w 42 rAccount v5274 a5275 ∧ ρ 1 = vp1_parts ∧ ρ 2 = vp2_done ∧ ρ 7 = v5274 ∧ ρ 8 = (Value.int .i64 a5277)) hL5286 ?_ ?_
  ·exact ⟨l4506, (0 : Int), _, v4508, rfl, st4515, ho4511, (hρ 1 _ rfl), (hρ 2 _ rfl), rfl, rfl⟩
  ·skip
   rintro s ρ w y5288 ⟨a5275, a5277, F5282, v5274, rfl, st5283, ho5276, r5278, r5279, r5280, r5281⟩ hm5289
   have hm : M.ref48_Merge_k2 N p1_parts p2_done a5275 a5277 = some y5288 := hm5289
   clear hm5289
   rw [M.ref48_Merge_k2] at hm
   refine wpC_seq_join (fun ρ w => ∃ (F5296 : Nat → Prop) (v5290 : Value), St w0 F0 w F5296 ∧ Own w0.heap.size F5296 w 42 rAccount v5290 a5275 ∧ ρ 1 = vp1_parts ∧ ρ 2 = vp2_done ∧ ρ 7 = v5290 ∧ ρ 8 = (Value.int .i64 a5277) ∧ M.ref48_Merge_k3 N p1_parts p2_done a5275 a5277 = some y5288) ?_ ?_
   ·skip
    refine wpC_seq ?_
    refine wpC_region ?_
    refine wpS_pure (Value.int .i64 a5277) (pure_move r5281) rfl ?_
    refine wpS_pure vp1_parts (pure_move r5278) rfl ?_
    refine wpS_len (v := vp1_parts) Try.underlying29 rfl ((hp1_parts.step (st5283.step hF0))).reads rfl ?_
    refine wpS_pure (Value.bool (decide (a5277 < (p1_parts.length : Int)))) (pure_lss rfl rfl) rfl ?_
    refine wpS_pure (Value.bool (decide (a5277 < (p1_parts.length : Int)))) (pure_move rfl) rfl ?_
    by_cases hc5299 : (decide (a5277 < (p1_parts.length : Int))) = true
    ·rw [if_pos hc5299] at hm
     refine wpS_on 18 rfl rfl (bval' rfl hc5299) ?_
     refine wpS_pure (Value.int .i64 a5277) (pure_move r5281) rfl ?_
     refine wpS_on 18 rfl rfl (bval' rfl hc5299) ?_
     refine wpS_pure vp2_done (pure_move r5279) rfl ?_
     refine wpS_on 18 rfl rfl (bval' rfl hc5299) ?_
     refine wpS_len (v := vp2_done) Try.underlying32 rfl ((hp2_done.step (st5283.step hF0))).reads rfl ?_
     refine wpS_on 18 rfl rfl (bval' rfl hc5299) ?_
     refine wpS_pure (Value.bool (decide (a5277 < (p2_done.length : Int)))) (pure_lss rfl rfl) rfl ?_
     refine wpS_pure (Value.bool (decide (a5277 < (p2_done.length : Int)))) (pure_pick_true (bval rfl hc5299) rfl) rfl ?_
     refine wpS_nil ?_
     refine thn_normal ?_
     by_cases hc5300 : (decide (a5277 < (p2_done.length : Int))) = true
     ·rw [if_pos hc5300] at hm
      refine wpC_true (bval rfl hc5300) ?_
      refine wpC_skip ?_
      refine thn_normal ?_
      exact ⟨_, v5274, st5283, ho5276, r5278, r5279, r5280, r5281, hm⟩
     ·rw [if_neg hc5300] at hm
      replace hc5300 := Bool.eq_false_iff.2 hc5300
      refine wpC_false (bval rfl hc5300) ?_
      refine wpC_exit ?_
      refine thn_exit ?_
      obtain rfl := Option.some.inj hm
      refine loopQ_exit (fun hx => ?_)
      subst hx
      have hm5301 : M.ref48_Merge_k1 N a5275 = some r := hm5287
      refine joinQ_same ?_
      exact ⟨a5275, _, v5274, st5283, ho5276, r5280, hm5301⟩
    ·rw [if_neg hc5299] at hm
     replace hc5299 := Bool.eq_false_iff.2 hc5299
     refine wpS_off 18 rfl rfl (bval' rfl hc5299) (by decide) rfl ?_
     refine wpS_off 18 rfl rfl (bval' rfl hc5299) (by decide) rfl ?_
     refine wpS_off 18 rfl rfl (bval' rfl hc5299) (by decide) rfl ?_
     refine wpS_off 18 rfl rfl (bval' rfl hc5299) (by decide) rfl ?_
     refine wpS_pure (Value.bool false) (pure_pick_false (bval rfl hc5299) rfl) rfl ?_
     refine wpS_nil ?_
     refine thn_normal ?_
     refine wpC_false rfl ?_
     refine wpC_exit ?_
     refine thn_exit ?_
     obtain rfl := Option.some.inj hm
     refine loopQ_exit (fun hx => ?_)
     subst hx
     have hm5302 : M.ref48_Merge_k1 N a5275 = some r := hm5287
     refine joinQ_same ?_
     exact ⟨a5275, _, v5274, st5283, ho5276, r5280, hm5302⟩
   ·skip
    rintro ρ w ⟨F5296, v5290, st5297, ho5291, r5292, r5293, r5294, r5295, hm⟩
    rw [M.ref48_Merge_k3] at hm
    refine wpC_seq ?_
    refine wpC_block ?_
    refine wpC_seq ?_
    refine wpC_region ?_
    refine wpS_pure (Value.int .i64 (0 : Int)) (pure_assign rfl) rfl ?_
    refine wpS_nil ?_
    refine thn_normal ?_
    refine wpC_block_join (fun ρ w => ∃ (a5454 : List rAccount.den) (F5460 : Nat → Prop) (v5453 : Value), St w0 F0 w F5460 ∧ Own w0.heap.size F5460 w 42 rAccount v5453 a5454 ∧ ρ 1 = vp1_parts ∧ ρ 2 = vp2_done ∧ ρ 7 = v5453 ∧ ρ 8 = (Value.int .i64 a5277) ∧ M.ref48_Merge_k4 N a5277 a5454 = some y5288) ?_ ?_
    ·skip
     obtain ⟨x5575, hL5576, hm5577⟩ := bind_some hm
     clear hm
     refine wpC_loop (fun (s : List rAccount.den × Int) ρ w => ∃ (a5564 : List rAccount.den) (a5566 : Int) (F5572 : Nat → Prop) (v5563 : Value), (a5564, a5566) = s ∧ St w0 F0 w F5572 ∧ Own w0.heap.size F5572 w 42 rAccount v5563 a5564 ∧ ρ 1 = vp1_parts ∧ ρ 2 = vp2_done ∧ ρ 7 = v5563 ∧ ρ 8 = (Value.int .i64 a5277) ∧ ρ 9 = (Value.int .i64 a5566)) hL5576 ?_ ?_
     ·exact ⟨a5275, (0 : Int), _, v5290, rfl, st5297, ho5291, r5292, r5293, r5294, r5295, rfl⟩
     ·skip
      rintro s ρ w y5578 ⟨a5564, a5566, F5572, v5563, rfl, st5573, ho5565, r5567, r5568, r5569, r5570, r5571⟩ hm5579
      have hm : M.ref48_Merge_k5 N p1_parts p2_done a5277 a5564 a5566 = some y5578 := hm5579
      clear hm5579
      rw [M.ref48_Merge_k5] at hm
      refine wpC_seq_join (fun ρ w => ∃ (F5601 : Nat → Prop) (v5594 : Value), St w0 F0 w F5601 ∧ Own w0.heap.size F5601 w 42 rAccount v5594 a5564 ∧ ρ 1 = vp1_parts ∧ ρ 2 = vp2_done ∧ ρ 7 = v5594 ∧ ρ 8 = (Value.int .i64 a5277) ∧ ρ 9 = (Value.int .i64 a5566) ∧ M.ref48_Merge_k6 N p1_parts p2_done a5277 a5564 a5566 = some y5578) ?_ ?_
      ·skip
       refine wpC_seq ?_
       refine wpC_region ?_
       refine wpS_pure (Value.int .i64 a5566) (pure_move r5571) rfl ?_
       refine wpS_pure vp1_parts (pure_move r5567) rfl ?_
       refine wpS_pure (Value.int .i64 a5277) (pure_move r5570) rfl ?_
       obtain ⟨x5604, h5605, hm⟩ := bind_some hm
       try dsimp only at hm
       refine wpS_indexT (v := vp1_parts) Try.underlying29 T25 rfl rfl ((hp1_parts.step (st5573.step hF0))).reads h5605 rfl ?_
       intro b5606 o5607 ha5608
       refine wpS_load_slice Try.underlying25 rfl rfl ha5608 rfl ?_
       intro v5609 hr5610
       refine wpS_len (v := v5609) Try.underlying25 rfl (hr5610).reads rfl ?_
       refine wpS_pure (Value.bool (decide (a5566 < (x5604.length : Int)))) (pure_lss rfl rfl) rfl ?_
       refine wpS_pure (Value.bool (decide (a5566 < (x5604.length : Int)))) (pure_move rfl) rfl ?_
       by_cases hc5611 : (decide (a5566 < (x5604.length : Int))) = true
       ·rw [if_pos hc5611] at hm
        refine wpS_on 33 rfl rfl (bval' rfl hc5611) ?_
        refine wpS_pure (Value.int .i64 a5566) (pure_move r5571) rfl ?_
        refine wpS_on 33 rfl rfl (bval' rfl hc5611) ?_
        refine wpS_pure vp2_done (pure_move r5568) rfl ?_
        refine wpS_on 33 rfl rfl (bval' rfl hc5611) ?_
        refine wpS_pure (Value.int .i64 a5277) (pure_move r5570) rfl ?_
        refine wpS_on 33 rfl rfl (bval' rfl hc5611) ?_
        obtain ⟨x5612, h5613, hm⟩ := bind_some hm
        try dsimp only at hm
        refine wpS_indexT (v := vp2_done) Try.underlying32 T26 rfl rfl ((hp2_done.step (st5573.step hF0))).reads h5613 rfl ?_
        intro b5614 o5615 ha5616
        refine wpS_on 33 rfl rfl (bval' rfl hc5611) ?_
        refine wpS_load_slice Try.underlying26 rfl rfl ha5616 rfl ?_
        intro v5617 hr5618
        refine wpS_on 33 rfl rfl (bval' rfl hc5611) ?_
        refine wpS_len (v := v5617) Try.underlying26 rfl (hr5618).reads rfl ?_
        refine wpS_on 33 rfl rfl (bval' rfl hc5611) ?_
        refine wpS_pure (Value.bool (decide (a5566 < (x5612.length : Int)))) (pure_lss rfl rfl) rfl ?_
        refine wpS_pure (Value.bool (decide (a5566 < (x5612.length : Int)))) (pure_pick_true (bval rfl hc5611) rfl) rfl ?_
        refine wpS_nil ?_
        refine thn_normal ?_
        by_cases hc5619 : (decide (a5566 < (x5612.length : Int))) = true
        ·rw [if_pos hc5619] at hm
         refine wpC_true (bval rfl hc5619) ?_
         refine wpC_skip ?_
         refine thn_normal ?_
         exact ⟨_, v5563, st5573, ho5565, r5567, r5568, r5569, r5570, r5571, hm⟩
        ·rw [if_neg hc5619] at hm
         replace hc5619 := Bool.eq_false_iff.2 hc5619
         refine wpC_false (bval rfl hc5619) ?_
         refine wpC_exit ?_
         refine thn_exit ?_
         obtain rfl := Option.some.inj hm
         refine loopQ_exit (fun hx => ?_)
         subst hx
         have hm5620 : M.ref48_Merge_k4 N a5277 a5564 = some y5288 := hm5577
         refine joinQ_same ?_
         exact ⟨a5564, _, v5563, st5573, ho5565, r5567, r5568, r5569, r5570, hm5620⟩
       ·rw [if_neg hc5611] at hm
        replace hc5611 := Bool.eq_false_iff.2 hc5611
        refine wpS_off 33 rfl rfl (bval' rfl hc5611) (by decide) rfl ?_
        refine wpS_off 33 rfl rfl (bval' rfl hc5611) (by decide) rfl ?_
        refine wpS_off 33 rfl rfl (bval' rfl hc5611) (by decide) rfl ?_
        refine wpS_off 33 rfl rfl (bval' rfl hc5611) (by decide) rfl ?_
        refine wpS_off 33 rfl rfl (bval' rfl hc5611) (by decide) rfl ?_
        refine wpS_off 33 rfl rfl (bval' rfl hc5611) (by decide) rfl ?_
        refine wpS_off 33 rfl rfl (bval' rfl hc5611) (by decide) rfl ?_
        refine wpS_pure (Value.bool false) (pure_pick_false (bval rfl hc5611) rfl) rfl ?_
        refine wpS_nil ?_
        refine thn_normal ?_
        refine wpC_false rfl ?_
        refine wpC_exit ?_
        refine thn_exit ?_
        obtain rfl := Option.some.inj hm
        refine loopQ_exit (fun hx => ?_)
        subst hx
        have hm5621 : M.ref48_Merge_k4 N a5277 a5564 = some y5288 := hm5577
        refine joinQ_same ?_
        exact ⟨a5564, _, v5563, st5573, ho5565, r5567, r5568, r5569, r5570, hm5621⟩
      ·skip
       rintro ρ w ⟨F5601, v5594, st5602, ho5595, r5596, r5597, r5598, r5599, r5600, hm⟩
       rw [M.ref48_Merge_k6] at hm
       refine wpC_seq ?_
       refine wpC_block ?_
       refine wpC_seq ?_
       refine wpC_region ?_
       refine wpS_pure vp1_parts (pure_move r5596) rfl ?_
       refine wpS_pure (Value.int .i64 a5277) (pure_move r5599) rfl ?_
       obtain ⟨x5622, h5623, hm⟩ := bind_some hm
       try dsimp only at hm
       refine wpS_indexT (v := vp1_parts) Try.underlying29 T25 rfl rfl ((hp1_parts.step (st5602.step hF0))).reads h5623 rfl ?_
       intro b5624 o5625 ha5626
       refine wpS_load_slice Try.underlying25 rfl rfl ha5626 rfl ?_
       intro v5627 hr5628
       refine wpS_pure (Value.int .i64 a5566) (pure_move r5600) rfl ?_
       obtain ⟨x5629, h5630, hm⟩ := bind_some hm
       try dsimp only at hm
       refine wpS_indexT (v := v5627) Try.underlying25 T3 rfl rfl (hr5628).reads h5630 rfl ?_
       intro b5631 o5632 ha5633
       refine wpS_load_int Try.underlying3 rfl rfl ha5633 rfl ?_
       refine wpS_pure (Value.int .i64 x5629) (pure_assign rfl) rfl ?_
       refine wpS_nil ?_
       refine thn_normal ?_
       refine wpC_seq_join (fun ρ w => ∃ (a5636 : Bool) (F5644 : Nat → Prop) (v5634 : Value), St w0 F0 w F5644 ∧ Own w0.heap.size F5644 w 42 rAccount v5634 a5564 ∧ ρ 1 = vp1_parts ∧ ρ 2 = vp2_done ∧ ρ 7 = v5634 ∧ ρ 8 = (Value.int .i64 a5277) ∧ ρ 9 = (Value.int .i64 a5566) ∧ ρ 10 = (Value.int .i64 x5629) ∧ ρ 58 = (Value.bool a5636) ∧ M.ref48_Merge_k7 N p2_done a5277 a5564 a5566 x5629 a5636 = some y5578) ?_ ?_
       ·skip
        refine wpC_region ?_
        refine wpS_pure (Value.int .i64 x5629) (pure_move rfl) rfl ?_
        refine wpS_pure (Value.bool (decide ((0 : Int) ≤ x5629))) (pure_geq rfl rfl) rfl ?_
        refine wpS_pure (Value.bool (decide ((0 : Int) ≤ x5629))) (pure_move rfl) rfl ?_
        by_cases hc5647 : (decide ((0 : Int) ≤ x5629)) = true
        ·rw [if_pos hc5647] at hm
         refine wpS_on 53 rfl rfl (bval' rfl hc5647) ?_
         refine wpS_pure (Value.int .i64 x5629) (pure_move rfl) rfl ?_
         refine wpS_on 53 rfl rfl (bval' rfl hc5647) ?_
         refine wpS_pure v5594 (pure_move r5598) rfl ?_
         refine wpS_on 53 rfl rfl (bval' rfl hc5647) ?_
         refine wpS_len (v := v5594) Try.underlying26 rfl (ho5595).reads rfl ?_
         refine wpS_on 53 rfl rfl (bval' rfl hc5647) ?_
         refine wpS_pure (Value.bool (decide (x5629 < (a5564.length : Int)))) (pure_lss rfl rfl) rfl ?_
         refine wpS_pure (Value.bool (decide (x5629 < (a5564.length : Int)))) (pure_pick_true (bval rfl hc5647) rfl) rfl ?_
         refine wpS_nil ?_
         refine thn_normal ?_
         exact ⟨(decide (x5629 < (a5564.length : Int))), _, v5594, st5602, ho5595, r5596, r5597, r5598, r5599, r5600, rfl, rfl, hm⟩
        ·rw [if_neg hc5647] at hm
         replace hc5647 := Bool.eq_false_iff.2 hc5647
         refine wpS_off 53 rfl rfl (bval' rfl hc5647) (by decide) rfl ?_
         refine wpS_off 53 rfl rfl (bval' rfl hc5647) (by decide) rfl ?_
         refine wpS_off 53 rfl rfl (bval' rfl hc5647) (by decide) rfl ?_
         refine wpS_off 53 rfl rfl (bval' rfl hc5647) (by decide) rfl ?_
         refine wpS_pure (Value.bool false) (pure_pick_false (bval rfl hc5647) rfl) rfl ?_
         refine wpS_nil ?_
         refine thn_normal ?_
         exact ⟨false, _, v5594, st5602, ho5595, r5596, r5597, r5598, r5599, r5600, rfl, rfl, hm⟩
       ·skip
        rintro ρ w ⟨a5636, F5644, v5634, st5645, ho5635, r5637, r5638, r5639, r5640, r5641, r5642, r5643, hm⟩
        rw [M.ref48_Merge_k7] at hm
        by_cases hc5648 : a5636 = true
        ·rw [if_pos hc5648] at hm
         refine wpC_true (bval r5643 hc5648) ?_
         refine wpC_region ?_
         refine wpS_pure v5634 (pure_move r5639) rfl ?_
         refine wpS_pure (Value.int .i64 x5629) (pure_move r5642) rfl ?_
         refine wpS_pure vp2_done (pure_move r5638) rfl ?_
         refine wpS_pure (Value.int .i64 a5277) (pure_move r5640) rfl ?_
         obtain ⟨x5649, h5650, hm⟩ := bind_some hm
         try dsimp only at hm
         refine wpS_indexT (v := vp2_done) Try.underlying32 T26 rfl rfl ((hp2_done.step (st5645.step hF0))).reads h5650 rfl ?_
         intro b5651 o5652 ha5653
         refine wpS_load_slice Try.underlying26 rfl rfl ha5653 rfl ?_
         intro v5654 hr5655
         refine wpS_pure (Value.int .i64 a5566) (pure_move r5641) rfl ?_
         obtain ⟨x5656, h5657, hm⟩ := bind_some hm
         try dsimp only at hm
         refine wpS_indexT (v := v5654) Try.underlying26 T42 rfl rfl (hr5655).reads h5657 rfl ?_
         intro b5658 o5659 ha5660
         refine wpS_load_rowT Try.underlying42 rfl T42 rfl ha5660 rfl ?_
         intro es5661 hr5662
         obtain ⟨x5663, h5664, hm⟩ := bind_some hm
         try dsimp only at hm
         refine wpS_elemT (v := v5634) Try.underlying26 T42 rfl rfl ho5635 h5664 rfl ?_
         intro g5665 q5666 hg5667 hq5668
         refine wpS_store_elemT (v := v5634) (val := (Value.agg es5661.toArray)) (.here) T42 rfl (by simp [Path.off]) rfl rfl hr5662 ho5635 hg5667 hq5668 h5664 st5645.lt ?_
         intro w5669 he5670 ho5671
         have ho5672 : Own w0.heap.size _ w5669 42 rAccount v5634 (setL a5564 x5629 x5656) := ho5671
         have st5673 := st5645.ext he5670 (ho5635).ge
         refine wpS_nil ?_
         refine inB_normal ?_
         refine thn_normal ?_
         refine wpC_region ?_
         refine wpS_pure (Value.int .i64 a5566) (pure_move r5641) rfl ?_
         refine wpS_pure (Value.int .i64 (IntKind.i64.wrap (a5566 + (1 : Int)))) (pure_add rfl rfl) rfl ?_
         refine wpS_pure (Value.int .i64 (IntKind.i64.wrap (a5566 + (1 : Int)))) (pure_assign rfl) rfl ?_
         refine wpS_nil ?_
         obtain rfl := Option.some.inj hm
         refine loopQ_in ?_
         exact ⟨(setL a5564 x5629 x5656), (IntKind.i64.wrap (a5566 + (1 : Int))), _, v5634, rfl, st5673, ho5672, r5637, r5638, r5639, r5640, rfl⟩
        ·rw [if_neg hc5648] at hm
         replace hc5648 := Bool.eq_false_iff.2 hc5648
         refine wpC_false (bval r5643 hc5648) ?_
         refine wpC_skip ?_
         refine inB_normal ?_
         refine thn_normal ?_
         refine wpC_region ?_
         refine wpS_pure (Value.int .i64 a5566) (pure_move r5641) rfl ?_
         refine wpS_pure (Value.int .i64 (IntKind.i64.wrap (a5566 + (1 : Int)))) (pure_add rfl rfl) rfl ?_
         refine wpS_pure (Value.int .i64 (IntKind.i64.wrap (a5566 + (1 : Int)))) (pure_assign rfl) rfl ?_
         refine wpS_nil ?_
         obtain rfl := Option.some.inj hm
         refine loopQ_in ?_
         exact ⟨a5564, (IntKind.i64.wrap (a5566 + (1 : Int))), _, v5634, rfl, st5645, ho5635, r5637, r5638, r5639, r5640, rfl⟩
    ·skip
     rintro ρ w ⟨a5454, F5460, v5453, st5461, ho5455, r5456, r5457, r5458, r5459, hm⟩
     rw [M.ref48_Merge_k4] at hm
     refine inB_normal ?_
     refine thn_normal ?_
     refine wpC_region ?_
     refine wpS_pure (Value.int .i64 a5277) (pure_move r5459) rfl ?_
     refine wpS_pure (Value.int .i64 (IntKind.i64.wrap (a5277 + (1 : Int)))) (pure_add rfl rfl) rfl ?_
     refine wpS_pure (Value.int .i64 (IntKind.i64.wrap (a5277 + (1 : Int)))) (pure_assign rfl) rfl ?_
     refine wpS_nil ?_
     obtain rfl := Option.some.inj hm
     refine loopQ_in ?_
     exact ⟨a5454, (IntKind.i64.wrap (a5277 + (1 : Int))), _, v5453, rfl, st5461, ho5455, r5456, r5457, r5458, rfl⟩
 ·skip
  rintro ρ w ⟨a4968, F4971, v4967, st4972, ho4969, r4970, hm⟩
  rw [M.ref48_Merge_k1] at hm
  refine thn_normal ?_
  refine wpC_seq ?_
  refine wpC_region ?_
  refine wpS_pure v4967 (pure_move r4970) rfl ?_
  refine wpS_pure v4967 (pure_assign rfl) rfl ?_
  refine wpS_nil ?_
  refine thn_normal ?_
  refine wpC_ret ?_
  obtain rfl := Option.some.inj hm
  refine bodyQ_ret1 Try.results17 v4967 rfl ?_
  exact ⟨_, st4972, ⟨ho4969, (ho4969).ge⟩⟩

set_option maxRecDepth 100000 in
set_option maxHeartbeats 1000000 in
theorem M.same_Facts_walk (N : Nat) (w0 : World) (F0 : Nat → Prop) (hF0 : ∀ b, F0 b → b < w0.heap.size) (p0_a : List rFact.den) (vp0_a : Value) (hp0_a : Rep F0 w0 (Row.slice rFact) [vp0_a] p0_a) (p1_b : List rFact.den) (vp1_b : Value) (hp1_b : Rep F0 w0 (Row.slice rFact) [vp1_b] p1_b) (r : Bool) (hm : M.same_Facts N p0_a p1_b = some r) :
    Calls Try.prog 24 [vp0_a, vp1_b].toArray w0 fun e w => ∃ v, e = .returned v ∧ ∃ F, St w0 F0 w F ∧ v = (Value.bool r) := by
 refine calls_of_wpC Try.func24 rfl (Nat.le_of_ble_eq_true rfl) ?_
 intro ρ hρ
 have st0 := St.refl hF0
 rw [M.same_Facts] at hm
 refine wpC_seq ?_
 refine wpC_region ?_
 refine wpS_pure (Value.bool false) (pure_assign rfl) rfl ?_
 refine wpS_nil ?_
 refine thn_normal ?_
 refine wpC_seq ?_
 refine wpC_seq ?_
 refine wpC_region ?_
 refine wpS_pure vp0_a (pure_move (hρ 0 _ rfl)) rfl ?_
 refine wpS_len (v := vp0_a) Try.underlying36 rfl ((hp0_a.step (st0.step hF0))).reads rfl ?_
 refine wpS_pure vp1_b (pure_move (hρ 1 _ rfl)) rfl ?_
 refine wpS_len (v := vp1_b) Try.underlying36 rfl ((hp1_b.step (st0.step hF0))).reads rfl ?_
 refine wpS_pure (Value.bool (!decide ((p0_a.length : Int) = (p1_b.length : Int)))) (pure_neq rfl rfl) rfl ?_
 refine wpS_nil ?_
 refine thn_normal ?_
 by_cases hc5754 : (!decide ((p0_a.length : Int) = (p1_b.length : Int))) = true
 ·rw [if_pos hc5754] at hm
  refine wpC_true (bval rfl hc5754) ?_
  refine wpC_seq ?_
  refine wpC_region ?_
  refine wpS_pure (Value.bool false) (pure_assign rfl) rfl ?_
  refine wpS_nil ?_
  refine thn_normal ?_
  refine wpC_ret ?_
  refine thn_ret ?_
  obtain rfl := Option.some.inj hm
  refine bodyQ_ret1 Try.results24 (Value.bool false) rfl ?_
  exact ⟨_, st0, rfl⟩
 ·rw [if_neg hc5754] at hm
  replace hc5754 := Bool.eq_false_iff.2 hc5754
  refine wpC_false (bval rfl hc5754) ?_
  refine wpC_skip ?_
  refine thn_normal ?_
  refine wpC_seq ?_
  refine wpC_seq ?_
  refine wpC_region ?_
  refine wpS_pure (Value.int .i64 (0 : Int)) (pure_assign rfl) rfl ?_
  refine wpS_nil ?_
  refine thn_normal ?_
  refine wpC_block_join (fun ρ w => ∃ (F5797 : Nat → Prop), St w0 F0 w F5797 ∧ M.same_Facts_k1 N = some r) ?_ ?_
  ·skip
   obtain ⟨x5835, hL5836, hm5837⟩ := bind_some hm
   clear hm
   refine wpC_loop (fun (s : Int) ρ w => ∃ (a5828 : Int) (F5832 : Nat → Prop), a5828 = s ∧ St w0 F0 w F5832 ∧ ρ 0 = vp0_a ∧ ρ 1 = vp1_b ∧ ρ 5 = (Value.int .i64 a5828)) hL5836 ?_ ?_
   ·exact ⟨(0 : Int), _, rfl, st0, (hρ 0 _ rfl), (hρ 1 _ rfl), rfl⟩
   ·skip
    rintro s ρ w y5840 ⟨a5828, F5832, rfl, st5833, r5829, r5830, r5831⟩ hm5841
    have hm : M.same_Facts_k2 N p0_a p1_b a5828 = some y5840 := hm5841
    clear hm5841
    rw [M.same_Facts_k2] at hm
    refine wpC_seq_join (fun ρ w => ∃ (F5845 : Nat → Prop), St w0 F0 w F5845 ∧ ρ 0 = vp0_a ∧ ρ 1 = vp1_b ∧ ρ 5 = (Value.int .i64 a5828) ∧ M.same_Facts_k3 N p0_a p1_b a5828 = some y5840) ?_ ?_
    ·skip
     refine wpC_seq ?_
     refine wpC_region ?_
     refine wpS_pure (Value.int .i64 a5828) (pure_move r5831) rfl ?_
     refine wpS_pure vp0_a (pure_move r5829) rfl ?_
     refine wpS_len (v := vp0_a) Try.underlying36 rfl ((hp0_a.step (st5833.step hF0))).reads rfl ?_
     refine wpS_pure (Value.bool (decide (a5828 < (p0_a.length : Int)))) (pure_lss rfl rfl) rfl ?_
     refine wpS_pure (Value.bool (decide (a5828 < (p0_a.length : Int)))) (pure_move rfl) rfl ?_
     by_cases hc5848 : (decide (a5828 < (p0_a.length : Int))) = true
     ·rw [if_pos hc5848] at hm
      refine wpS_on 15 rfl rfl (bval' rfl hc5848) ?_
      refine wpS_pure (Value.int .i64 a5828) (pure_move r5831) rfl ?_
      refine wpS_on 15 rfl rfl (bval' rfl hc5848) ?_
      refine wpS_pure vp1_b (pure_move r5830) rfl ?_
      refine wpS_on 15 rfl rfl (bval' rfl hc5848) ?_
      refine wpS_len (v := vp1_b) Try.underlying36 rfl ((hp1_b.step (st5833.step hF0))).reads rfl ?_
      refine wpS_on 15 rfl rfl (bval' rfl hc5848) ?_
      refine wpS_pure (Value.bool (decide (a5828 < (p1_b.length : Int)))) (pure_lss rfl rfl) rfl ?_
      refine wpS_pure (Value.bool (decide (a5828 < (p1_b.length : Int)))) (pure_pick_true (bval rfl hc5848) rfl) rfl ?_
      refine wpS_nil ?_
      refine thn_normal ?_
      by_cases hc5849 : (decide (a5828 < (p1_b.length : Int))) = true
      ·rw [if_pos hc5849] at hm
       refine wpC_true (bval rfl hc5849) ?_
       refine wpC_skip ?_
       refine thn_normal ?_
       exact ⟨_, st5833, r5829, r5830, r5831, hm⟩
      ·rw [if_neg hc5849] at hm
       replace hc5849 := Bool.eq_false_iff.2 hc5849
       refine wpC_false (bval rfl hc5849) ?_
       refine wpC_exit ?_
       refine thn_exit ?_
       obtain rfl := Option.some.inj hm
       refine loopQ_exit (fun hx => ?_)
       subst hx
       have hm5850 : M.same_Facts_k1 N = some r := hm5837
       refine joinQ_same ?_
       exact ⟨_, st5833, hm5850⟩
     ·rw [if_neg hc5848] at hm
      replace hc5848 := Bool.eq_false_iff.2 hc5848
      refine wpS_off 15 rfl rfl (bval' rfl hc5848) (by decide) rfl ?_
      refine wpS_off 15 rfl rfl (bval' rfl hc5848) (by decide) rfl ?_
      refine wpS_off 15 rfl rfl (bval' rfl hc5848) (by decide) rfl ?_
      refine wpS_off 15 rfl rfl (bval' rfl hc5848) (by decide) rfl ?_
      refine wpS_pure (Value.bool false) (pure_pick_false (bval rfl hc5848) rfl) rfl ?_
      refine wpS_nil ?_
      refine thn_normal ?_
      refine wpC_false rfl ?_
      refine wpC_exit ?_
      refine thn_exit ?_
      obtain rfl := Option.some.inj hm
      refine loopQ_exit (fun hx => ?_)
      subst hx
      have hm5851 : M.same_Facts_k1 N = some r := hm5837
      refine joinQ_same ?_
      exact ⟨_, st5833, hm5851⟩
    ·skip
     rintro ρ w ⟨F5845, st5846, r5842, r5843, r5844, hm⟩
     rw [M.same_Facts_k3] at hm
     refine wpC_seq ?_
     refine wpC_block ?_
     refine wpC_seq ?_
     refine wpC_draw st5846.lt mixed (by kernel_rfl) ?_
     refine wpQ_pure vp0_a (pure_move r5842) rfl ?_
     refine wpQ_pure (Value.int .i64 a5828) (pure_move r5844) rfl ?_
     obtain ⟨x5852, h5853, hm⟩ := bind_some hm
     try dsimp only at hm
     refine wpQ_indexT (v := vp0_a) Try.underlying36 T59 rfl rfl ((hp0_a.step (st5846.step hF0))).reads h5853 rfl ?_
     intro b5854 o5855 ha5856
     refine wpQ_load_rowT st5846.lt Try.underlying59 rfl T59 rfl ha5856 rfl ?_
     intro es5857 hr5858
     refine wpQ_pure vp1_b (pure_move r5843) rfl ?_
     refine wpQ_pure (Value.int .i64 a5828) (pure_move r5844) rfl ?_
     obtain ⟨x5859, h5860, hm⟩ := bind_some hm
     try dsimp only at hm
     refine wpQ_indexT (v := vp1_b) Try.underlying36 T59 rfl rfl ((hp1_b.step (st5846.step hF0))).reads h5860 rfl ?_
     intro b5861 o5862 ha5863
     refine wpQ_load_rowT st5846.lt Try.underlying59 rfl T59 rfl ha5863 rfl ?_
     intro es5864 hr5865
     refine wpQ_pure (Value.bool (!(eqR rFact x5852 x5859))) (pure_neqT E59 (d := 9997) rfl G59 A59 rfl rfl hr5858 hr5865) rfl ?_
     refine wpQ_nil ?_
     intro w5867 h5866
     have st5868 := st5846.trans h5866
     refine thn_normal ?_
     by_cases hc5869 : (!(eqR rFact x5852 x5859)) = true
     ·rw [if_pos hc5869] at hm
      refine wpC_true (bval rfl hc5869) ?_
      refine wpC_seq ?_
      refine wpC_region ?_
      refine wpS_pure (Value.bool false) (pure_assign rfl) rfl ?_
      refine wpS_nil ?_
      refine thn_normal ?_
      refine wpC_ret ?_
      refine inB_ret ?_
      refine thn_ret ?_
      obtain rfl := Option.some.inj hm
      refine loopQ_ret (fun hx => ?_)
      subst hx
      have hm5870 : some (false) = some r := hm5837
      refine joinQ_ret ?_
      refine thn_ret ?_
      obtain rfl := Option.some.inj hm5870
      refine bodyQ_ret1 Try.results24 (Value.bool false) rfl ?_
      exact ⟨_, st5868, rfl⟩
     ·rw [if_neg hc5869] at hm
      replace hc5869 := Bool.eq_false_iff.2 hc5869
      refine wpC_false (bval rfl hc5869) ?_
      refine wpC_skip ?_
      refine inB_normal ?_
      refine thn_normal ?_
      refine wpC_region ?_
      refine wpS_pure (Value.int .i64 a5828) (pure_move r5844) rfl ?_
      refine wpS_pure (Value.int .i64 (IntKind.i64.wrap (a5828 + (1 : Int)))) (pure_add rfl rfl) rfl ?_
      refine wpS_pure (Value.int .i64 (IntKind.i64.wrap (a5828 + (1 : Int)))) (pure_assign rfl) rfl ?_
      refine wpS_nil ?_
      obtain rfl := Option.some.inj hm
      refine loopQ_in ?_
      exact ⟨(IntKind.i64.wrap (a5828 + (1 : Int))), _, rfl, st5868, r5842, r5843, rfl⟩
  ·skip
   rintro ρ w ⟨F5797, st5798, hm⟩
   rw [M.same_Facts_k1] at hm
   refine thn_normal ?_
   refine wpC_seq ?_
   refine wpC_region ?_
   refine wpS_pure (Value.bool true) (pure_assign rfl) rfl ?_
   refine wpS_nil ?_
   refine thn_normal ?_
   refine wpC_ret ?_
   obtain rfl := Option.some.inj hm
   refine bodyQ_ret1 Try.results24 (Value.bool true) rfl ?_
   exact ⟨_, st5798, rfl⟩

set_option maxRecDepth 100000 in
set_option maxHeartbeats 1000000 in
theorem M.same_Household_walk (N : Nat) (w0 : World) (F0 : Nat → Prop) (hF0 : ∀ b, F0 b → b < w0.heap.size) (p0_a : rHousehold.den) (vp0_a : List Value) (hp0_a : Rep F0 w0 rHousehold vp0_a p0_a) (p1_b : rHousehold.den) (vp1_b : List Value) (hp1_b : Rep F0 w0 rHousehold vp1_b p1_b) (r : Bool) (hm : M.same_Household N p0_a p1_b = some r) :
    Calls Try.prog 21 [(Value.agg vp0_a.toArray), (Value.agg vp1_b.toArray)].toArray w0 fun e w => ∃ v, e = .returned v ∧ ∃ F, St w0 F0 w F ∧ v = (Value.bool r) := by
 refine calls_of_wpC Try.func21 rfl (Nat.le_of_ble_eq_true rfl) ?_
 intro ρ hρ
 have st0 := St.refl hF0
 rw [M.same_Household] at hm
 refine wpC_seq ?_
 refine wpC_region ?_
 refine wpS_box (base := w0.heap.size) (hρ 0 _ rfl) (hp0_a.step (st0.step hF0)) st0.lt st0.below.size rfl ?_
 intro b5723 w5724 h5725 hb5726 hn5727
 have hn5728 : ∀ k, is b5723 k → _ ≤ k := fun k hk => hk ▸ hn5727
 have st5729 := st0.trans h5725
 refine wpS_box (base := w0.heap.size) (hρ 1 _ rfl) (hp1_b.step (st5729.step hF0)) st5729.lt st5729.below.size rfl ?_
 intro b5731 w5732 h5733 hb5734 hn5735
 have hn5736 : ∀ k, is b5731 k → _ ≤ k := fun k hk => hk ▸ hn5735
 have st5737 := st5729.trans h5733
 refine wpS_pure (Value.bool false) (pure_assign rfl) rfl ?_
 refine wpS_nil ?_
 refine thn_normal ?_
 refine wpC_seq ?_
 refine wpC_region ?_
 refine wpS_pure (Value.pointer (some ⟨b5723, 0 + 0, none⟩)) (pure_fieldT 0 Try.underlying38 rfl T3 rfl rfl) rfl ?_
 have ha5739 : At _ _ rInt b5723 (0 + 0) (p0_a.1) := ((hb5726.st st5729.lt h5733)).at.path (.fst (.here)) 0 rfl
 refine wpS_load_int Try.underlying3 rfl rfl ha5739 rfl ?_
 refine wpS_pure (Value.pointer (some ⟨b5731, 0 + 0, none⟩)) (pure_fieldT 0 Try.underlying38 rfl T3 rfl rfl) rfl ?_
 have ha5740 : At _ _ rInt b5731 (0 + 0) (p1_b.1) := (hb5734).at.path (.fst (.here)) 0 rfl
 refine wpS_load_int Try.underlying3 rfl rfl ha5740 rfl ?_
 refine wpS_pure (Value.bool (decide (p0_a.1 = p1_b.1))) (pure_eql rfl rfl) rfl ?_
 refine wpS_pure (Value.bool (decide (p0_a.1 = p1_b.1))) (pure_move rfl) rfl ?_
 by_cases hc5741 : (decide (p0_a.1 = p1_b.1)) = true
 ·rw [if_pos hc5741] at hm
  refine wpS_on 10 rfl rfl (bval' rfl hc5741) ?_
  refine wpS_pure (Value.pointer (some ⟨b5723, 0 + 1, none⟩)) (pure_fieldT 1 Try.underlying38 rfl T3 rfl rfl) rfl ?_
  refine wpS_on 10 rfl rfl (bval' rfl hc5741) ?_
  have ha5742 : At _ _ rInt b5723 (0 + 1) (p0_a.2.1) := ((hb5726.st st5729.lt h5733)).at.path (.snd (.fst (.here))) 1 rfl
  refine wpS_load_int Try.underlying3 rfl rfl ha5742 rfl ?_
  refine wpS_on 10 rfl rfl (bval' rfl hc5741) ?_
  refine wpS_pure (Value.pointer (some ⟨b5731, 0 + 1, none⟩)) (pure_fieldT 1 Try.underlying38 rfl T3 rfl rfl) rfl ?_
  refine wpS_on 10 rfl rfl (bval' rfl hc5741) ?_
  have ha5743 : At _ _ rInt b5731 (0 + 1) (p1_b.2.1) := (hb5734).at.path (.snd (.fst (.here))) 1 rfl
  refine wpS_load_int Try.underlying3 rfl rfl ha5743 rfl ?_
  refine wpS_on 10 rfl rfl (bval' rfl hc5741) ?_
  refine wpS_pure (Value.bool (decide (p0_a.2.1 = p1_b.2.1))) (pure_eql rfl rfl) rfl ?_
  refine wpS_pure (Value.bool (decide (p0_a.2.1 = p1_b.2.1))) (pure_pick_true (bval rfl hc5741) rfl) rfl ?_
  refine wpS_pure (Value.bool (decide (p0_a.2.1 = p1_b.2.1))) (pure_move rfl) rfl ?_
  by_cases hc5744 : (decide (p0_a.2.1 = p1_b.2.1)) = true
  ·rw [if_pos hc5744] at hm
   refine wpS_on 17 rfl rfl (bval' rfl hc5744) ?_
   refine wpS_pure (Value.pointer (some ⟨b5723, 0 + 2, none⟩)) (pure_fieldT 2 Try.underlying38 rfl T3 rfl rfl) rfl ?_
   refine wpS_on 17 rfl rfl (bval' rfl hc5744) ?_
   have ha5745 : At _ _ rInt b5723 (0 + 2) (p0_a.2.2.1) := ((hb5726.st st5729.lt h5733)).at.path (.snd (.snd (.fst (.here)))) 2 rfl
   refine wpS_load_int Try.underlying3 rfl rfl ha5745 rfl ?_
   refine wpS_on 17 rfl rfl (bval' rfl hc5744) ?_
   refine wpS_pure (Value.pointer (some ⟨b5731, 0 + 2, none⟩)) (pure_fieldT 2 Try.underlying38 rfl T3 rfl rfl) rfl ?_
   refine wpS_on 17 rfl rfl (bval' rfl hc5744) ?_
   have ha5746 : At _ _ rInt b5731 (0 + 2) (p1_b.2.2.1) := (hb5734).at.path (.snd (.snd (.fst (.here)))) 2 rfl
   refine wpS_load_int Try.underlying3 rfl rfl ha5746 rfl ?_
   refine wpS_on 17 rfl rfl (bval' rfl hc5744) ?_
   refine wpS_pure (Value.bool (decide (p0_a.2.2.1 = p1_b.2.2.1))) (pure_eql rfl rfl) rfl ?_
   refine wpS_pure (Value.bool (decide (p0_a.2.2.1 = p1_b.2.2.1))) (pure_pick_true (bval rfl hc5744) rfl) rfl ?_
   refine wpS_pure (Value.bool (decide (p0_a.2.2.1 = p1_b.2.2.1))) (pure_move rfl) rfl ?_
   by_cases hc5747 : (decide (p0_a.2.2.1 = p1_b.2.2.1)) = true
   ·rw [if_pos hc5747] at hm
    refine wpS_on 24 rfl rfl (bval' rfl hc5747) ?_
    refine wpS_pure (Value.pointer (some ⟨b5723, 0 + 3, none⟩)) (pure_fieldT 3 Try.underlying38 rfl T36 rfl rfl) rfl ?_
    refine wpS_on 24 rfl rfl (bval' rfl hc5747) ?_
    have ha5748 : At _ _ (Row.slice rFact) b5723 (0 + 3) (p0_a.2.2.2) := ((hb5726.st st5729.lt h5733)).at.path (.snd (.snd (.snd (.here)))) 3 rfl
    refine wpS_load_slice Try.underlying36 rfl rfl ha5748 rfl ?_
    intro v5749 hr5750
    refine wpS_on 24 rfl rfl (bval' rfl hc5747) ?_
    refine wpS_pure (Value.pointer (some ⟨b5731, 0 + 3, none⟩)) (pure_fieldT 3 Try.underlying38 rfl T36 rfl rfl) rfl ?_
    refine wpS_on 24 rfl rfl (bval' rfl hc5747) ?_
    have ha5751 : At _ _ (Row.slice rFact) b5731 (0 + 3) (p1_b.2.2.2) := (hb5734).at.path (.snd (.snd (.snd (.here)))) 3 rfl
    refine wpS_load_slice Try.underlying36 rfl rfl ha5751 rfl ?_
    intro v5752 hr5753
    refine wpS_on 24 rfl rfl (bval' rfl hc5747) ?_
    obtain ⟨y5871, h5872, hm⟩ := bind_some hm
    try dsimp only at hm
    refine wpS_call (vs := [v5749, v5752]) Try.func24 nm24 bd24 (m_cons rfl (m_cons rfl m_nil)) (M.same_Facts_walk N _ _ st5737.lt p0_a.2.2.2 v5749 hr5750 p1_b.2.2.2 v5752 hr5753 y5871 h5872) rfl ?_
    rintro v5873 w5874 ⟨F5875, h5876, hv5877⟩
    have h5878 := h5876.narrow st5737.lt
    have st5879 := st5737.trans h5878
    obtain rfl := hv5877
    refine wpS_pure (Value.bool y5871) (pure_pick_true (bval rfl hc5747) rfl) rfl ?_
    refine wpS_pure (Value.bool y5871) (pure_assign rfl) rfl ?_
    refine wpS_nil ?_
    refine thn_normal ?_
    refine wpC_ret ?_
    obtain rfl := Option.some.inj hm
    refine bodyQ_ret1 Try.results21 (Value.bool y5871) rfl ?_
    exact ⟨_, st5879, rfl⟩
   ·rw [if_neg hc5747] at hm
    replace hc5747 := Bool.eq_false_iff.2 hc5747
    refine wpS_off 24 rfl rfl (bval' rfl hc5747) (by decide) rfl ?_
    refine wpS_off 24 rfl rfl (bval' rfl hc5747) (by decide) rfl ?_
    refine wpS_off 24 rfl rfl (bval' rfl hc5747) (by decide) rfl ?_
    refine wpS_off 24 rfl rfl (bval' rfl hc5747) (by decide) rfl ?_
    refine wpS_off 24 rfl rfl (bval' rfl hc5747) (by decide) rfl ?_
    refine wpS_pure (Value.bool false) (pure_pick_false (bval rfl hc5747) rfl) rfl ?_
    refine wpS_pure (Value.bool false) (pure_assign rfl) rfl ?_
    refine wpS_nil ?_
    refine thn_normal ?_
    refine wpC_ret ?_
    obtain rfl := Option.some.inj hm
    refine bodyQ_ret1 Try.results21 (Value.bool false) rfl ?_
    exact ⟨_, st5737, rfl⟩
  ·rw [if_neg hc5744] at hm
   replace hc5744 := Bool.eq_false_iff.2 hc5744
   refine wpS_off 17 rfl rfl (bval' rfl hc5744) (by decide) rfl ?_
   refine wpS_off 17 rfl rfl (bval' rfl hc5744) (by decide) rfl ?_
   refine wpS_off 17 rfl rfl (bval' rfl hc5744) (by decide) rfl ?_
   refine wpS_off 17 rfl rfl (bval' rfl hc5744) (by decide) rfl ?_
   refine wpS_off 17 rfl rfl (bval' rfl hc5744) (by decide) rfl ?_
   refine wpS_pure (Value.bool false) (pure_pick_false (bval rfl hc5744) rfl) rfl ?_
   refine wpS_pure (Value.bool false) (pure_move rfl) rfl ?_
   refine wpS_off 24 rfl rfl rfl (by decide) rfl ?_
   refine wpS_off 24 rfl rfl rfl (by decide) rfl ?_
   refine wpS_off 24 rfl rfl rfl (by decide) rfl ?_
   refine wpS_off 24 rfl rfl rfl (by decide) rfl ?_
   refine wpS_off 24 rfl rfl rfl (by decide) rfl ?_
   refine wpS_pure (Value.bool false) (pure_pick_false rfl rfl) rfl ?_
   refine wpS_pure (Value.bool false) (pure_assign rfl) rfl ?_
   refine wpS_nil ?_
   refine thn_normal ?_
   refine wpC_ret ?_
   obtain rfl := Option.some.inj hm
   refine bodyQ_ret1 Try.results21 (Value.bool false) rfl ?_
   exact ⟨_, st5737, rfl⟩
 ·rw [if_neg hc5741] at hm
  replace hc5741 := Bool.eq_false_iff.2 hc5741
  refine wpS_off 10 rfl rfl (bval' rfl hc5741) (by decide) rfl ?_
  refine wpS_off 10 rfl rfl (bval' rfl hc5741) (by decide) rfl ?_
  refine wpS_off 10 rfl rfl (bval' rfl hc5741) (by decide) rfl ?_
  refine wpS_off 10 rfl rfl (bval' rfl hc5741) (by decide) rfl ?_
  refine wpS_off 10 rfl rfl (bval' rfl hc5741) (by decide) rfl ?_
  refine wpS_pure (Value.bool false) (pure_pick_false (bval rfl hc5741) rfl) rfl ?_
  refine wpS_pure (Value.bool false) (pure_move rfl) rfl ?_
  refine wpS_off 17 rfl rfl rfl (by decide) rfl ?_
  refine wpS_off 17 rfl rfl rfl (by decide) rfl ?_
  refine wpS_off 17 rfl rfl rfl (by decide) rfl ?_
  refine wpS_off 17 rfl rfl rfl (by decide) rfl ?_
  refine wpS_off 17 rfl rfl rfl (by decide) rfl ?_
  refine wpS_pure (Value.bool false) (pure_pick_false rfl rfl) rfl ?_
  refine wpS_pure (Value.bool false) (pure_move rfl) rfl ?_
  refine wpS_off 24 rfl rfl rfl (by decide) rfl ?_
  refine wpS_off 24 rfl rfl rfl (by decide) rfl ?_
  refine wpS_off 24 rfl rfl rfl (by decide) rfl ?_
  refine wpS_off 24 rfl rfl rfl (by decide) rfl ?_
  refine wpS_off 24 rfl rfl rfl (by decide) rfl ?_
  refine wpS_pure (Value.bool false) (pure_pick_false rfl rfl) rfl ?_
  refine wpS_pure (Value.bool false) (pure_assign rfl) rfl ?_
  refine wpS_nil ?_
  refine thn_normal ?_
  refine wpC_ret ?_
  obtain rfl := Option.some.inj hm
  refine bodyQ_ret1 Try.results21 (Value.bool false) rfl ?_
  exact ⟨_, st5737, rfl⟩

set_option maxRecDepth 100000 in
set_option maxHeartbeats 1000000 in
theorem M.same_Postings_walk (N : Nat) (w0 : World) (F0 : Nat → Prop) (hF0 : ∀ b, F0 b → b < w0.heap.size) (p0_a : List rPosting.den) (vp0_a : Value) (hp0_a : Rep F0 w0 (Row.slice rPosting) [vp0_a] p0_a) (p1_b : List rPosting.den) (vp1_b : Value) (hp1_b : Rep F0 w0 (Row.slice rPosting) [vp1_b] p1_b) (r : Bool) (hm : M.same_Postings N p0_a p1_b = some r) :
    Calls Try.prog 22 [vp0_a, vp1_b].toArray w0 fun e w => ∃ v, e = .returned v ∧ ∃ F, St w0 F0 w F ∧ v = (Value.bool r) := by
 refine calls_of_wpC Try.func22 rfl (Nat.le_of_ble_eq_true rfl) ?_
 intro ρ hρ
 have st0 := St.refl hF0
 rw [M.same_Postings] at hm
 refine wpC_seq ?_
 refine wpC_region ?_
 refine wpS_pure (Value.bool false) (pure_assign rfl) rfl ?_
 refine wpS_nil ?_
 refine thn_normal ?_
 refine wpC_seq ?_
 refine wpC_seq ?_
 refine wpC_region ?_
 refine wpS_pure vp0_a (pure_move (hρ 0 _ rfl)) rfl ?_
 refine wpS_len (v := vp0_a) Try.underlying39 rfl ((hp0_a.step (st0.step hF0))).reads rfl ?_
 refine wpS_pure vp1_b (pure_move (hρ 1 _ rfl)) rfl ?_
 refine wpS_len (v := vp1_b) Try.underlying39 rfl ((hp1_b.step (st0.step hF0))).reads rfl ?_
 refine wpS_pure (Value.bool (!decide ((p0_a.length : Int) = (p1_b.length : Int)))) (pure_neq rfl rfl) rfl ?_
 refine wpS_nil ?_
 refine thn_normal ?_
 by_cases hc5896 : (!decide ((p0_a.length : Int) = (p1_b.length : Int))) = true
 ·rw [if_pos hc5896] at hm
  refine wpC_true (bval rfl hc5896) ?_
  refine wpC_seq ?_
  refine wpC_region ?_
  refine wpS_pure (Value.bool false) (pure_assign rfl) rfl ?_
  refine wpS_nil ?_
  refine thn_normal ?_
  refine wpC_ret ?_
  refine thn_ret ?_
  obtain rfl := Option.some.inj hm
  refine bodyQ_ret1 Try.results22 (Value.bool false) rfl ?_
  exact ⟨_, st0, rfl⟩
 ·rw [if_neg hc5896] at hm
  replace hc5896 := Bool.eq_false_iff.2 hc5896
  refine wpC_false (bval rfl hc5896) ?_
  refine wpC_skip ?_
  refine thn_normal ?_
  refine wpC_seq ?_
  refine wpC_seq ?_
  refine wpC_region ?_
  refine wpS_pure (Value.int .i64 (0 : Int)) (pure_assign rfl) rfl ?_
  refine wpS_nil ?_
  refine thn_normal ?_
  refine wpC_block_join (fun ρ w => ∃ (F5939 : Nat → Prop), St w0 F0 w F5939 ∧ M.same_Postings_k1 N = some r) ?_ ?_
  ·skip
   obtain ⟨x5977, hL5978, hm5979⟩ := bind_some hm
   clear hm
   refine wpC_loop (fun (s : Int) ρ w => ∃ (a5970 : Int) (F5974 : Nat → Prop), a5970 = s ∧ St w0 F0 w F5974 ∧ ρ 0 = vp0_a ∧ ρ 1 = vp1_b ∧ ρ 5 = (Value.int .i64 a5970)) hL5978 ?_ ?_
   ·exact ⟨(0 : Int), _, rfl, st0, (hρ 0 _ rfl), (hρ 1 _ rfl), rfl⟩
   ·skip
    rintro s ρ w y5982 ⟨a5970, F5974, rfl, st5975, r5971, r5972, r5973⟩ hm5983
    have hm : M.same_Postings_k2 N p0_a p1_b a5970 = some y5982 := hm5983
    clear hm5983
    rw [M.same_Postings_k2] at hm
    refine wpC_seq_join (fun ρ w => ∃ (F5987 : Nat → Prop), St w0 F0 w F5987 ∧ ρ 0 = vp0_a ∧ ρ 1 = vp1_b ∧ ρ 5 = (Value.int .i64 a5970) ∧ M.same_Postings_k3 N p0_a p1_b a5970 = some y5982) ?_ ?_
    ·skip
     refine wpC_seq ?_
     refine wpC_region ?_
     refine wpS_pure (Value.int .i64 a5970) (pure_move r5973) rfl ?_
     refine wpS_pure vp0_a (pure_move r5971) rfl ?_
     refine wpS_len (v := vp0_a) Try.underlying39 rfl ((hp0_a.step (st5975.step hF0))).reads rfl ?_
     refine wpS_pure (Value.bool (decide (a5970 < (p0_a.length : Int)))) (pure_lss rfl rfl) rfl ?_
     refine wpS_pure (Value.bool (decide (a5970 < (p0_a.length : Int)))) (pure_move rfl) rfl ?_
     by_cases hc5990 : (decide (a5970 < (p0_a.length : Int))) = true
     ·rw [if_pos hc5990] at hm
      refine wpS_on 15 rfl rfl (bval' rfl hc5990) ?_
      refine wpS_pure (Value.int .i64 a5970) (pure_move r5973) rfl ?_
      refine wpS_on 15 rfl rfl (bval' rfl hc5990) ?_
      refine wpS_pure vp1_b (pure_move r5972) rfl ?_
      refine wpS_on 15 rfl rfl (bval' rfl hc5990) ?_
      refine wpS_len (v := vp1_b) Try.underlying39 rfl ((hp1_b.step (st5975.step hF0))).reads rfl ?_
      refine wpS_on 15 rfl rfl (bval' rfl hc5990) ?_
      refine wpS_pure (Value.bool (decide (a5970 < (p1_b.length : Int)))) (pure_lss rfl rfl) rfl ?_
      refine wpS_pure (Value.bool (decide (a5970 < (p1_b.length : Int)))) (pure_pick_true (bval rfl hc5990) rfl) rfl ?_
      refine wpS_nil ?_
      refine thn_normal ?_
      by_cases hc5991 : (decide (a5970 < (p1_b.length : Int))) = true
      ·rw [if_pos hc5991] at hm
       refine wpC_true (bval rfl hc5991) ?_
       refine wpC_skip ?_
       refine thn_normal ?_
       exact ⟨_, st5975, r5971, r5972, r5973, hm⟩
      ·rw [if_neg hc5991] at hm
       replace hc5991 := Bool.eq_false_iff.2 hc5991
       refine wpC_false (bval rfl hc5991) ?_
       refine wpC_exit ?_
       refine thn_exit ?_
       obtain rfl := Option.some.inj hm
       refine loopQ_exit (fun hx => ?_)
       subst hx
       have hm5992 : M.same_Postings_k1 N = some r := hm5979
       refine joinQ_same ?_
       exact ⟨_, st5975, hm5992⟩
     ·rw [if_neg hc5990] at hm
      replace hc5990 := Bool.eq_false_iff.2 hc5990
      refine wpS_off 15 rfl rfl (bval' rfl hc5990) (by decide) rfl ?_
      refine wpS_off 15 rfl rfl (bval' rfl hc5990) (by decide) rfl ?_
      refine wpS_off 15 rfl rfl (bval' rfl hc5990) (by decide) rfl ?_
      refine wpS_off 15 rfl rfl (bval' rfl hc5990) (by decide) rfl ?_
      refine wpS_pure (Value.bool false) (pure_pick_false (bval rfl hc5990) rfl) rfl ?_
      refine wpS_nil ?_
      refine thn_normal ?_
      refine wpC_false rfl ?_
      refine wpC_exit ?_
      refine thn_exit ?_
      obtain rfl := Option.some.inj hm
      refine loopQ_exit (fun hx => ?_)
      subst hx
      have hm5993 : M.same_Postings_k1 N = some r := hm5979
      refine joinQ_same ?_
      exact ⟨_, st5975, hm5993⟩
    ·skip
     rintro ρ w ⟨F5987, st5988, r5984, r5985, r5986, hm⟩
     rw [M.same_Postings_k3] at hm
     refine wpC_seq ?_
     refine wpC_block ?_
     refine wpC_seq ?_
     refine wpC_draw st5988.lt mixed (by kernel_rfl) ?_
     refine wpQ_pure vp0_a (pure_move r5984) rfl ?_
     refine wpQ_pure (Value.int .i64 a5970) (pure_move r5986) rfl ?_
     obtain ⟨x5994, h5995, hm⟩ := bind_some hm
     try dsimp only at hm
     refine wpQ_indexT (v := vp0_a) Try.underlying39 T51 rfl rfl ((hp0_a.step (st5988.step hF0))).reads h5995 rfl ?_
     intro b5996 o5997 ha5998
     refine wpQ_load_rowT st5988.lt Try.underlying51 rfl T51 rfl ha5998 rfl ?_
     intro es5999 hr6000
     refine wpQ_pure vp1_b (pure_move r5985) rfl ?_
     refine wpQ_pure (Value.int .i64 a5970) (pure_move r5986) rfl ?_
     obtain ⟨x6001, h6002, hm⟩ := bind_some hm
     try dsimp only at hm
     refine wpQ_indexT (v := vp1_b) Try.underlying39 T51 rfl rfl ((hp1_b.step (st5988.step hF0))).reads h6002 rfl ?_
     intro b6003 o6004 ha6005
     refine wpQ_load_rowT st5988.lt Try.underlying51 rfl T51 rfl ha6005 rfl ?_
     intro es6006 hr6007
     refine wpQ_pure (Value.bool (!(eqR rPosting x5994 x6001))) (pure_neqT E51 (d := 9998) rfl G51 A51 rfl rfl hr6000 hr6007) rfl ?_
     refine wpQ_nil ?_
     intro w6009 h6008
     have st6010 := st5988.trans h6008
     refine thn_normal ?_
     by_cases hc6011 : (!(eqR rPosting x5994 x6001)) = true
     ·rw [if_pos hc6011] at hm
      refine wpC_true (bval rfl hc6011) ?_
      refine wpC_seq ?_
      refine wpC_region ?_
      refine wpS_pure (Value.bool false) (pure_assign rfl) rfl ?_
      refine wpS_nil ?_
      refine thn_normal ?_
      refine wpC_ret ?_
      refine inB_ret ?_
      refine thn_ret ?_
      obtain rfl := Option.some.inj hm
      refine loopQ_ret (fun hx => ?_)
      subst hx
      have hm6012 : some (false) = some r := hm5979
      refine joinQ_ret ?_
      refine thn_ret ?_
      obtain rfl := Option.some.inj hm6012
      refine bodyQ_ret1 Try.results22 (Value.bool false) rfl ?_
      exact ⟨_, st6010, rfl⟩
     ·rw [if_neg hc6011] at hm
      replace hc6011 := Bool.eq_false_iff.2 hc6011
      refine wpC_false (bval rfl hc6011) ?_
      refine wpC_skip ?_
      refine inB_normal ?_
      refine thn_normal ?_
      refine wpC_region ?_
      refine wpS_pure (Value.int .i64 a5970) (pure_move r5986) rfl ?_
      refine wpS_pure (Value.int .i64 (IntKind.i64.wrap (a5970 + (1 : Int)))) (pure_add rfl rfl) rfl ?_
      refine wpS_pure (Value.int .i64 (IntKind.i64.wrap (a5970 + (1 : Int)))) (pure_assign rfl) rfl ?_
      refine wpS_nil ?_
      obtain rfl := Option.some.inj hm
      refine loopQ_in ?_
      exact ⟨(IntKind.i64.wrap (a5970 + (1 : Int))), _, rfl, st6010, r5984, r5985, rfl⟩
  ·skip
   rintro ρ w ⟨F5939, st5940, hm⟩
   rw [M.same_Postings_k1] at hm
   refine thn_normal ?_
   refine wpC_seq ?_
   refine wpC_region ?_
   refine wpS_pure (Value.bool true) (pure_assign rfl) rfl ?_
   refine wpS_nil ?_
   refine thn_normal ?_
   refine wpC_ret ?_
   obtain rfl := Option.some.inj hm
   refine bodyQ_ret1 Try.results22 (Value.bool true) rfl ?_
   exact ⟨_, st5940, rfl⟩

set_option maxRecDepth 100000 in
set_option maxHeartbeats 1000000 in
theorem M.same_Appeals_walk (N : Nat) (w0 : World) (F0 : Nat → Prop) (hF0 : ∀ b, F0 b → b < w0.heap.size) (p0_a : List rAppeal.den) (vp0_a : Value) (hp0_a : Rep F0 w0 (Row.slice rAppeal) [vp0_a] p0_a) (p1_b : List rAppeal.den) (vp1_b : Value) (hp1_b : Rep F0 w0 (Row.slice rAppeal) [vp1_b] p1_b) (r : Bool) (hm : M.same_Appeals N p0_a p1_b = some r) :
    Calls Try.prog 23 [vp0_a, vp1_b].toArray w0 fun e w => ∃ v, e = .returned v ∧ ∃ F, St w0 F0 w F ∧ v = (Value.bool r) := by
 refine calls_of_wpC Try.func23 rfl (Nat.le_of_ble_eq_true rfl) ?_
 intro ρ hρ
 have st0 := St.refl hF0
 rw [M.same_Appeals] at hm
 refine wpC_seq ?_
 refine wpC_region ?_
 refine wpS_pure (Value.bool false) (pure_assign rfl) rfl ?_
 refine wpS_nil ?_
 refine thn_normal ?_
 refine wpC_seq ?_
 refine wpC_seq ?_
 refine wpC_region ?_
 refine wpS_pure vp0_a (pure_move (hρ 0 _ rfl)) rfl ?_
 refine wpS_len (v := vp0_a) Try.underlying40 rfl ((hp0_a.step (st0.step hF0))).reads rfl ?_
 refine wpS_pure vp1_b (pure_move (hρ 1 _ rfl)) rfl ?_
 refine wpS_len (v := vp1_b) Try.underlying40 rfl ((hp1_b.step (st0.step hF0))).reads rfl ?_
 refine wpS_pure (Value.bool (!decide ((p0_a.length : Int) = (p1_b.length : Int)))) (pure_neq rfl rfl) rfl ?_
 refine wpS_nil ?_
 refine thn_normal ?_
 by_cases hc6029 : (!decide ((p0_a.length : Int) = (p1_b.length : Int))) = true
 ·rw [if_pos hc6029] at hm
  refine wpC_true (bval rfl hc6029) ?_
  refine wpC_seq ?_
  refine wpC_region ?_
  refine wpS_pure (Value.bool false) (pure_assign rfl) rfl ?_
  refine wpS_nil ?_
  refine thn_normal ?_
  refine wpC_ret ?_
  refine thn_ret ?_
  obtain rfl := Option.some.inj hm
  refine bodyQ_ret1 Try.results23 (Value.bool false) rfl ?_
  exact ⟨_, st0, rfl⟩
 ·rw [if_neg hc6029] at hm
  replace hc6029 := Bool.eq_false_iff.2 hc6029
  refine wpC_false (bval rfl hc6029) ?_
  refine wpC_skip ?_
  refine thn_normal ?_
  refine wpC_seq ?_
  refine wpC_seq ?_
  refine wpC_region ?_
  refine wpS_pure (Value.int .i64 (0 : Int)) (pure_assign rfl) rfl ?_
  refine wpS_nil ?_
  refine thn_normal ?_
  refine wpC_block_join (fun ρ w => ∃ (F6072 : Nat → Prop), St w0 F0 w F6072 ∧ M.same_Appeals_k1 N = some r) ?_ ?_
  ·skip
   obtain ⟨x6110, hL6111, hm6112⟩ := bind_some hm
   clear hm
   refine wpC_loop (fun (s : Int) ρ w => ∃ (a6103 : Int) (F6107 : Nat → Prop), a6103 = s ∧ St w0 F0 w F6107 ∧ ρ 0 = vp0_a ∧ ρ 1 = vp1_b ∧ ρ 5 = (Value.int .i64 a6103)) hL6111 ?_ ?_
   ·exact ⟨(0 : Int), _, rfl, st0, (hρ 0 _ rfl), (hρ 1 _ rfl), rfl⟩
   ·skip
    rintro s ρ w y6115 ⟨a6103, F6107, rfl, st6108, r6104, r6105, r6106⟩ hm6116
    have hm : M.same_Appeals_k2 N p0_a p1_b a6103 = some y6115 := hm6116
    clear hm6116
    rw [M.same_Appeals_k2] at hm
    refine wpC_seq_join (fun ρ w => ∃ (F6120 : Nat → Prop), St w0 F0 w F6120 ∧ ρ 0 = vp0_a ∧ ρ 1 = vp1_b ∧ ρ 5 = (Value.int .i64 a6103) ∧ M.same_Appeals_k3 N p0_a p1_b a6103 = some y6115) ?_ ?_
    ·skip
     refine wpC_seq ?_
     refine wpC_region ?_
     refine wpS_pure (Value.int .i64 a6103) (pure_move r6106) rfl ?_
     refine wpS_pure vp0_a (pure_move r6104) rfl ?_
     refine wpS_len (v := vp0_a) Try.underlying40 rfl ((hp0_a.step (st6108.step hF0))).reads rfl ?_
     refine wpS_pure (Value.bool (decide (a6103 < (p0_a.length : Int)))) (pure_lss rfl rfl) rfl ?_
     refine wpS_pure (Value.bool (decide (a6103 < (p0_a.length : Int)))) (pure_move rfl) rfl ?_
     by_cases hc6123 : (decide (a6103 < (p0_a.length : Int))) = true
     ·rw [if_pos hc6123] at hm
      refine wpS_on 15 rfl rfl (bval' rfl hc6123) ?_
      refine wpS_pure (Value.int .i64 a6103) (pure_move r6106) rfl ?_
      refine wpS_on 15 rfl rfl (bval' rfl hc6123) ?_
      refine wpS_pure vp1_b (pure_move r6105) rfl ?_
      refine wpS_on 15 rfl rfl (bval' rfl hc6123) ?_
      refine wpS_len (v := vp1_b) Try.underlying40 rfl ((hp1_b.step (st6108.step hF0))).reads rfl ?_
      refine wpS_on 15 rfl rfl (bval' rfl hc6123) ?_
      refine wpS_pure (Value.bool (decide (a6103 < (p1_b.length : Int)))) (pure_lss rfl rfl) rfl ?_
      refine wpS_pure (Value.bool (decide (a6103 < (p1_b.length : Int)))) (pure_pick_true (bval rfl hc6123) rfl) rfl ?_
      refine wpS_nil ?_
      refine thn_normal ?_
      by_cases hc6124 : (decide (a6103 < (p1_b.length : Int))) = true
      ·rw [if_pos hc6124] at hm
       refine wpC_true (bval rfl hc6124) ?_
       refine wpC_skip ?_
       refine thn_normal ?_
       exact ⟨_, st6108, r6104, r6105, r6106, hm⟩
      ·rw [if_neg hc6124] at hm
       replace hc6124 := Bool.eq_false_iff.2 hc6124
       refine wpC_false (bval rfl hc6124) ?_
       refine wpC_exit ?_
       refine thn_exit ?_
       obtain rfl := Option.some.inj hm
       refine loopQ_exit (fun hx => ?_)
       subst hx
       have hm6125 : M.same_Appeals_k1 N = some r := hm6112
       refine joinQ_same ?_
       exact ⟨_, st6108, hm6125⟩
     ·rw [if_neg hc6123] at hm
      replace hc6123 := Bool.eq_false_iff.2 hc6123
      refine wpS_off 15 rfl rfl (bval' rfl hc6123) (by decide) rfl ?_
      refine wpS_off 15 rfl rfl (bval' rfl hc6123) (by decide) rfl ?_
      refine wpS_off 15 rfl rfl (bval' rfl hc6123) (by decide) rfl ?_
      refine wpS_off 15 rfl rfl (bval' rfl hc6123) (by decide) rfl ?_
      refine wpS_pure (Value.bool false) (pure_pick_false (bval rfl hc6123) rfl) rfl ?_
      refine wpS_nil ?_
      refine thn_normal ?_
      refine wpC_false rfl ?_
      refine wpC_exit ?_
      refine thn_exit ?_
      obtain rfl := Option.some.inj hm
      refine loopQ_exit (fun hx => ?_)
      subst hx
      have hm6126 : M.same_Appeals_k1 N = some r := hm6112
      refine joinQ_same ?_
      exact ⟨_, st6108, hm6126⟩
    ·skip
     rintro ρ w ⟨F6120, st6121, r6117, r6118, r6119, hm⟩
     rw [M.same_Appeals_k3] at hm
     refine wpC_seq ?_
     refine wpC_block ?_
     refine wpC_seq ?_
     refine wpC_draw st6121.lt mixed (by kernel_rfl) ?_
     refine wpQ_pure vp0_a (pure_move r6117) rfl ?_
     refine wpQ_pure (Value.int .i64 a6103) (pure_move r6119) rfl ?_
     obtain ⟨x6127, h6128, hm⟩ := bind_some hm
     try dsimp only at hm
     refine wpQ_indexT (v := vp0_a) Try.underlying40 T53 rfl rfl ((hp0_a.step (st6121.step hF0))).reads h6128 rfl ?_
     intro b6129 o6130 ha6131
     refine wpQ_load_rowT st6121.lt Try.underlying53 rfl T53 rfl ha6131 rfl ?_
     intro es6132 hr6133
     refine wpQ_pure vp1_b (pure_move r6118) rfl ?_
     refine wpQ_pure (Value.int .i64 a6103) (pure_move r6119) rfl ?_
     obtain ⟨x6134, h6135, hm⟩ := bind_some hm
     try dsimp only at hm
     refine wpQ_indexT (v := vp1_b) Try.underlying40 T53 rfl rfl ((hp1_b.step (st6121.step hF0))).reads h6135 rfl ?_
     intro b6136 o6137 ha6138
     refine wpQ_load_rowT st6121.lt Try.underlying53 rfl T53 rfl ha6138 rfl ?_
     intro es6139 hr6140
     refine wpQ_pure (Value.bool (!(eqR rAppeal x6127 x6134))) (pure_neqT E53 (d := 9998) rfl G53 A53 rfl rfl hr6133 hr6140) rfl ?_
     refine wpQ_nil ?_
     intro w6142 h6141
     have st6143 := st6121.trans h6141
     refine thn_normal ?_
     by_cases hc6144 : (!(eqR rAppeal x6127 x6134)) = true
     ·rw [if_pos hc6144] at hm
      refine wpC_true (bval rfl hc6144) ?_
      refine wpC_seq ?_
      refine wpC_region ?_
      refine wpS_pure (Value.bool false) (pure_assign rfl) rfl ?_
      refine wpS_nil ?_
      refine thn_normal ?_
      refine wpC_ret ?_
      refine inB_ret ?_
      refine thn_ret ?_
      obtain rfl := Option.some.inj hm
      refine loopQ_ret (fun hx => ?_)
      subst hx
      have hm6145 : some (false) = some r := hm6112
      refine joinQ_ret ?_
      refine thn_ret ?_
      obtain rfl := Option.some.inj hm6145
      refine bodyQ_ret1 Try.results23 (Value.bool false) rfl ?_
      exact ⟨_, st6143, rfl⟩
     ·rw [if_neg hc6144] at hm
      replace hc6144 := Bool.eq_false_iff.2 hc6144
      refine wpC_false (bval rfl hc6144) ?_
      refine wpC_skip ?_
      refine inB_normal ?_
      refine thn_normal ?_
      refine wpC_region ?_
      refine wpS_pure (Value.int .i64 a6103) (pure_move r6119) rfl ?_
      refine wpS_pure (Value.int .i64 (IntKind.i64.wrap (a6103 + (1 : Int)))) (pure_add rfl rfl) rfl ?_
      refine wpS_pure (Value.int .i64 (IntKind.i64.wrap (a6103 + (1 : Int)))) (pure_assign rfl) rfl ?_
      refine wpS_nil ?_
      obtain rfl := Option.some.inj hm
      refine loopQ_in ?_
      exact ⟨(IntKind.i64.wrap (a6103 + (1 : Int))), _, rfl, st6143, r6117, r6118, rfl⟩
  ·skip
   rintro ρ w ⟨F6072, st6073, hm⟩
   rw [M.same_Appeals_k1] at hm
   refine thn_normal ?_
   refine wpC_seq ?_
   refine wpC_region ?_
   refine wpS_pure (Value.bool true) (pure_assign rfl) rfl ?_
   refine wpS_nil ?_
   refine thn_normal ?_
   refine wpC_ret ?_
   obtain rfl := Option.some.inj hm
   refine bodyQ_ret1 Try.results23 (Value.bool true) rfl ?_
   exact ⟨_, st6073, rfl⟩

set_option maxRecDepth 100000 in
set_option maxHeartbeats 1000000 in
theorem M.same_Account_walk (N : Nat) (w0 : World) (F0 : Nat → Prop) (hF0 : ∀ b, F0 b → b < w0.heap.size) (p0_a : rAccount.den) (vp0_a : List Value) (hp0_a : Rep F0 w0 rAccount vp0_a p0_a) (p1_b : rAccount.den) (vp1_b : List Value) (hp1_b : Rep F0 w0 rAccount vp1_b p1_b) (r : Bool) (hm : M.same_Account N p0_a p1_b = some r) :
    Calls Try.prog 19 [(Value.agg vp0_a.toArray), (Value.agg vp1_b.toArray)].toArray w0 fun e w => ∃ v, e = .returned v ∧ ∃ F, St w0 F0 w F ∧ v = (Value.bool r) := by
 refine calls_of_wpC Try.func19 rfl (Nat.le_of_ble_eq_true rfl) ?_
 intro ρ hρ
 have st0 := St.refl hF0
 rw [M.same_Account] at hm
 refine wpC_seq ?_
 refine wpC_region ?_
 refine wpS_box (base := w0.heap.size) (hρ 0 _ rfl) (hp0_a.step (st0.step hF0)) st0.lt st0.below.size rfl ?_
 intro b5701 w5702 h5703 hb5704 hn5705
 have hn5706 : ∀ k, is b5701 k → _ ≤ k := fun k hk => hk ▸ hn5705
 have st5707 := st0.trans h5703
 refine wpS_box (base := w0.heap.size) (hρ 1 _ rfl) (hp1_b.step (st5707.step hF0)) st5707.lt st5707.below.size rfl ?_
 intro b5709 w5710 h5711 hb5712 hn5713
 have hn5714 : ∀ k, is b5709 k → _ ≤ k := fun k hk => hk ▸ hn5713
 have st5715 := st5707.trans h5711
 refine wpS_pure (Value.bool false) (pure_assign rfl) rfl ?_
 refine wpS_nil ?_
 refine thn_normal ?_
 refine wpC_seq ?_
 refine wpC_region ?_
 refine wpS_pure (Value.pointer (some ⟨b5701, 0 + 0, none⟩)) (pure_fieldT 0 Try.underlying42 rfl T38 rfl rfl) rfl ?_
 have ha5717 : At _ _ rHousehold b5701 (0 + 0) (p0_a.1) := ((hb5704.st st5707.lt h5711)).at.path (.fst (.here)) 0 rfl
 refine wpS_load_rowT Try.underlying38 rfl T38 rfl ha5717 rfl ?_
 intro es5718 hr5719
 refine wpS_pure (Value.pointer (some ⟨b5709, 0 + 0, none⟩)) (pure_fieldT 0 Try.underlying42 rfl T38 rfl rfl) rfl ?_
 have ha5720 : At _ _ rHousehold b5709 (0 + 0) (p1_b.1) := (hb5712).at.path (.fst (.here)) 0 rfl
 refine wpS_load_rowT Try.underlying38 rfl T38 rfl ha5720 rfl ?_
 intro es5721 hr5722
 obtain ⟨y5880, h5881, hm⟩ := bind_some hm
 try dsimp only at hm
 refine wpS_call (vs := [(Value.agg es5718.toArray), (Value.agg es5721.toArray)]) Try.func21 nm21 bd21 (m_cons rfl (m_cons rfl m_nil)) (M.same_Household_walk N _ _ st5715.lt p0_a.1 es5718 hr5719 p1_b.1 es5721 hr5722 y5880 h5881) rfl ?_
 rintro v5882 w5883 ⟨F5884, h5885, hv5886⟩
 have h5887 := h5885.narrow st5715.lt
 have st5888 := st5715.trans h5887
 obtain rfl := hv5886
 refine wpS_pure (Value.bool y5880) (pure_move rfl) rfl ?_
 by_cases hc5889 : y5880 = true
 ·rw [if_pos hc5889] at hm
  refine wpS_on 10 rfl rfl (bval' rfl hc5889) ?_
  refine wpS_pure (Value.pointer (some ⟨b5701, 0 + 4, none⟩)) (pure_fieldT 4 Try.underlying42 rfl T39 rfl rfl) rfl ?_
  refine wpS_on 10 rfl rfl (bval' rfl hc5889) ?_
  have ha5890 : At _ _ (Row.slice rPosting) b5701 (0 + 4) (p0_a.2.1) := (((hb5704.st st5707.lt h5711).st st5715.lt h5887)).at.path (.snd (.fst (.here))) 4 rfl
  refine wpS_load_slice Try.underlying39 rfl rfl ha5890 rfl ?_
  intro v5891 hr5892
  refine wpS_on 10 rfl rfl (bval' rfl hc5889) ?_
  refine wpS_pure (Value.pointer (some ⟨b5709, 0 + 4, none⟩)) (pure_fieldT 4 Try.underlying42 rfl T39 rfl rfl) rfl ?_
  refine wpS_on 10 rfl rfl (bval' rfl hc5889) ?_
  have ha5893 : At _ _ (Row.slice rPosting) b5709 (0 + 4) (p1_b.2.1) := ((hb5712.st st5715.lt h5887)).at.path (.snd (.fst (.here))) 4 rfl
  refine wpS_load_slice Try.underlying39 rfl rfl ha5893 rfl ?_
  intro v5894 hr5895
  refine wpS_on 10 rfl rfl (bval' rfl hc5889) ?_
  obtain ⟨y6013, h6014, hm⟩ := bind_some hm
  try dsimp only at hm
  refine wpS_call (vs := [v5891, v5894]) Try.func22 nm22 bd22 (m_cons rfl (m_cons rfl m_nil)) (M.same_Postings_walk N _ _ st5888.lt p0_a.2.1 v5891 hr5892 p1_b.2.1 v5894 hr5895 y6013 h6014) rfl ?_
  rintro v6015 w6016 ⟨F6017, h6018, hv6019⟩
  have h6020 := h6018.narrow st5888.lt
  have st6021 := st5888.trans h6020
  obtain rfl := hv6019
  refine wpS_pure (Value.bool y6013) (pure_pick_true (bval rfl hc5889) rfl) rfl ?_
  refine wpS_pure (Value.bool y6013) (pure_move rfl) rfl ?_
  by_cases hc6022 : y6013 = true
  ·rw [if_pos hc6022] at hm
   refine wpS_on 17 rfl rfl (bval' rfl hc6022) ?_
   refine wpS_pure (Value.pointer (some ⟨b5701, 0 + 5, none⟩)) (pure_fieldT 5 Try.underlying42 rfl T40 rfl rfl) rfl ?_
   refine wpS_on 17 rfl rfl (bval' rfl hc6022) ?_
   have ha6023 : At _ _ (Row.slice rAppeal) b5701 (0 + 5) (p0_a.2.2.1) := ((((hb5704.st st5707.lt h5711).st st5715.lt h5887).st st5888.lt h6020)).at.path (.snd (.snd (.fst (.here)))) 5 rfl
   refine wpS_load_slice Try.underlying40 rfl rfl ha6023 rfl ?_
   intro v6024 hr6025
   refine wpS_on 17 rfl rfl (bval' rfl hc6022) ?_
   refine wpS_pure (Value.pointer (some ⟨b5709, 0 + 5, none⟩)) (pure_fieldT 5 Try.underlying42 rfl T40 rfl rfl) rfl ?_
   refine wpS_on 17 rfl rfl (bval' rfl hc6022) ?_
   have ha6026 : At _ _ (Row.slice rAppeal) b5709 (0 + 5) (p1_b.2.2.1) := (((hb5712.st st5715.lt h5887).st st5888.lt h6020)).at.path (.snd (.snd (.fst (.here)))) 5 rfl
   refine wpS_load_slice Try.underlying40 rfl rfl ha6026 rfl ?_
   intro v6027 hr6028
   refine wpS_on 17 rfl rfl (bval' rfl hc6022) ?_
   obtain ⟨y6146, h6147, hm⟩ := bind_some hm
   try dsimp only at hm
   refine wpS_call (vs := [v6024, v6027]) Try.func23 nm23 bd23 (m_cons rfl (m_cons rfl m_nil)) (M.same_Appeals_walk N _ _ st6021.lt p0_a.2.2.1 v6024 hr6025 p1_b.2.2.1 v6027 hr6028 y6146 h6147) rfl ?_
   rintro v6148 w6149 ⟨F6150, h6151, hv6152⟩
   have h6153 := h6151.narrow st6021.lt
   have st6154 := st6021.trans h6153
   obtain rfl := hv6152
   refine wpS_pure (Value.bool y6146) (pure_pick_true (bval rfl hc6022) rfl) rfl ?_
   refine wpS_pure (Value.bool y6146) (pure_move rfl) rfl ?_
   by_cases hc6155 : y6146 = true
   ·rw [if_pos hc6155] at hm
    refine wpS_on 24 rfl rfl (bval' rfl hc6155) ?_
    refine wpS_pure (Value.pointer (some ⟨b5701, 0 + 6, none⟩)) (pure_fieldT 6 Try.underlying42 rfl T3 rfl rfl) rfl ?_
    refine wpS_on 24 rfl rfl (bval' rfl hc6155) ?_
    have ha6156 : At _ _ rInt b5701 (0 + 6) (p0_a.2.2.2.1) := (((((hb5704.st st5707.lt h5711).st st5715.lt h5887).st st5888.lt h6020).st st6021.lt h6153)).at.path (.snd (.snd (.snd (.fst (.here))))) 6 rfl
    refine wpS_load_int Try.underlying3 rfl rfl ha6156 rfl ?_
    refine wpS_on 24 rfl rfl (bval' rfl hc6155) ?_
    refine wpS_pure (Value.pointer (some ⟨b5709, 0 + 6, none⟩)) (pure_fieldT 6 Try.underlying42 rfl T3 rfl rfl) rfl ?_
    refine wpS_on 24 rfl rfl (bval' rfl hc6155) ?_
    have ha6157 : At _ _ rInt b5709 (0 + 6) (p1_b.2.2.2.1) := ((((hb5712.st st5715.lt h5887).st st5888.lt h6020).st st6021.lt h6153)).at.path (.snd (.snd (.snd (.fst (.here))))) 6 rfl
    refine wpS_load_int Try.underlying3 rfl rfl ha6157 rfl ?_
    refine wpS_on 24 rfl rfl (bval' rfl hc6155) ?_
    refine wpS_pure (Value.bool (decide (p0_a.2.2.2.1 = p1_b.2.2.2.1))) (pure_eql rfl rfl) rfl ?_
    refine wpS_pure (Value.bool (decide (p0_a.2.2.2.1 = p1_b.2.2.2.1))) (pure_pick_true (bval rfl hc6155) rfl) rfl ?_
    refine wpS_pure (Value.bool (decide (p0_a.2.2.2.1 = p1_b.2.2.2.1))) (pure_move rfl) rfl ?_
    by_cases hc6158 : (decide (p0_a.2.2.2.1 = p1_b.2.2.2.1)) = true
    ·rw [if_pos hc6158] at hm
     refine wpS_on 31 rfl rfl (bval' rfl hc6158) ?_
     refine wpS_pure (Value.pointer (some ⟨b5701, 0 + 7, none⟩)) (pure_fieldT 7 Try.underlying42 rfl T3 rfl rfl) rfl ?_
     refine wpS_on 31 rfl rfl (bval' rfl hc6158) ?_
     have ha6159 : At _ _ rInt b5701 (0 + 7) (p0_a.2.2.2.2) := (((((hb5704.st st5707.lt h5711).st st5715.lt h5887).st st5888.lt h6020).st st6021.lt h6153)).at.path (.snd (.snd (.snd (.snd (.here))))) 7 rfl
     refine wpS_load_int Try.underlying3 rfl rfl ha6159 rfl ?_
     refine wpS_on 31 rfl rfl (bval' rfl hc6158) ?_
     refine wpS_pure (Value.pointer (some ⟨b5709, 0 + 7, none⟩)) (pure_fieldT 7 Try.underlying42 rfl T3 rfl rfl) rfl ?_
     refine wpS_on 31 rfl rfl (bval' rfl hc6158) ?_
     have ha6160 : At _ _ rInt b5709 (0 + 7) (p1_b.2.2.2.2) := ((((hb5712.st st5715.lt h5887).st st5888.lt h6020).st st6021.lt h6153)).at.path (.snd (.snd (.snd (.snd (.here))))) 7 rfl
     refine wpS_load_int Try.underlying3 rfl rfl ha6160 rfl ?_
     refine wpS_on 31 rfl rfl (bval' rfl hc6158) ?_
     refine wpS_pure (Value.bool (decide (p0_a.2.2.2.2 = p1_b.2.2.2.2))) (pure_eql rfl rfl) rfl ?_
     refine wpS_pure (Value.bool (decide (p0_a.2.2.2.2 = p1_b.2.2.2.2))) (pure_pick_true (bval rfl hc6158) rfl) rfl ?_
     refine wpS_pure (Value.bool (decide (p0_a.2.2.2.2 = p1_b.2.2.2.2))) (pure_assign rfl) rfl ?_
     refine wpS_nil ?_
     refine thn_normal ?_
     refine wpC_ret ?_
     obtain rfl := Option.some.inj hm
     refine bodyQ_ret1 Try.results19 (Value.bool (decide (p0_a.2.2.2.2 = p1_b.2.2.2.2))) rfl ?_
     exact ⟨_, st6154, rfl⟩
    ·rw [if_neg hc6158] at hm
     replace hc6158 := Bool.eq_false_iff.2 hc6158
     refine wpS_off 31 rfl rfl (bval' rfl hc6158) (by decide) rfl ?_
     refine wpS_off 31 rfl rfl (bval' rfl hc6158) (by decide) rfl ?_
     refine wpS_off 31 rfl rfl (bval' rfl hc6158) (by decide) rfl ?_
     refine wpS_off 31 rfl rfl (bval' rfl hc6158) (by decide) rfl ?_
     refine wpS_off 31 rfl rfl (bval' rfl hc6158) (by decide) rfl ?_
     refine wpS_pure (Value.bool false) (pure_pick_false (bval rfl hc6158) rfl) rfl ?_
     refine wpS_pure (Value.bool false) (pure_assign rfl) rfl ?_
     refine wpS_nil ?_
     refine thn_normal ?_
     refine wpC_ret ?_
     obtain rfl := Option.some.inj hm
     refine bodyQ_ret1 Try.results19 (Value.bool false) rfl ?_
     exact ⟨_, st6154, rfl⟩
   ·rw [if_neg hc6155] at hm
    replace hc6155 := Bool.eq_false_iff.2 hc6155
    refine wpS_off 24 rfl rfl (bval' rfl hc6155) (by decide) rfl ?_
    refine wpS_off 24 rfl rfl (bval' rfl hc6155) (by decide) rfl ?_
    refine wpS_off 24 rfl rfl (bval' rfl hc6155) (by decide) rfl ?_
    refine wpS_off 24 rfl rfl (bval' rfl hc6155) (by decide) rfl ?_
    refine wpS_off 24 rfl rfl (bval' rfl hc6155) (by decide) rfl ?_
    refine wpS_pure (Value.bool false) (pure_pick_false (bval rfl hc6155) rfl) rfl ?_
    refine wpS_pure (Value.bool false) (pure_move rfl) rfl ?_
    refine wpS_off 31 rfl rfl rfl (by decide) rfl ?_
    refine wpS_off 31 rfl rfl rfl (by decide) rfl ?_
    refine wpS_off 31 rfl rfl rfl (by decide) rfl ?_
    refine wpS_off 31 rfl rfl rfl (by decide) rfl ?_
    refine wpS_off 31 rfl rfl rfl (by decide) rfl ?_
    refine wpS_pure (Value.bool false) (pure_pick_false rfl rfl) rfl ?_
    refine wpS_pure (Value.bool false) (pure_assign rfl) rfl ?_
    refine wpS_nil ?_
    refine thn_normal ?_
    refine wpC_ret ?_
    obtain rfl := Option.some.inj hm
    refine bodyQ_ret1 Try.results19 (Value.bool false) rfl ?_
    exact ⟨_, st6154, rfl⟩
  ·rw [if_neg hc6022] at hm
   replace hc6022 := Bool.eq_false_iff.2 hc6022
   refine wpS_off 17 rfl rfl (bval' rfl hc6022) (by decide) rfl ?_
   refine wpS_off 17 rfl rfl (bval' rfl hc6022) (by decide) rfl ?_
   refine wpS_off 17 rfl rfl (bval' rfl hc6022) (by decide) rfl ?_
   refine wpS_off 17 rfl rfl (bval' rfl hc6022) (by decide) rfl ?_
   refine wpS_off 17 rfl rfl (bval' rfl hc6022) (by decide) rfl ?_
   refine wpS_pure (Value.bool false) (pure_pick_false (bval rfl hc6022) rfl) rfl ?_
   refine wpS_pure (Value.bool false) (pure_move rfl) rfl ?_
   refine wpS_off 24 rfl rfl rfl (by decide) rfl ?_
   refine wpS_off 24 rfl rfl rfl (by decide) rfl ?_
   refine wpS_off 24 rfl rfl rfl (by decide) rfl ?_
   refine wpS_off 24 rfl rfl rfl (by decide) rfl ?_
   refine wpS_off 24 rfl rfl rfl (by decide) rfl ?_
   refine wpS_pure (Value.bool false) (pure_pick_false rfl rfl) rfl ?_
   refine wpS_pure (Value.bool false) (pure_move rfl) rfl ?_
   refine wpS_off 31 rfl rfl rfl (by decide) rfl ?_
   refine wpS_off 31 rfl rfl rfl (by decide) rfl ?_
   refine wpS_off 31 rfl rfl rfl (by decide) rfl ?_
   refine wpS_off 31 rfl rfl rfl (by decide) rfl ?_
   refine wpS_off 31 rfl rfl rfl (by decide) rfl ?_
   refine wpS_pure (Value.bool false) (pure_pick_false rfl rfl) rfl ?_
   refine wpS_pure (Value.bool false) (pure_assign rfl) rfl ?_
   refine wpS_nil ?_
   refine thn_normal ?_
   refine wpC_ret ?_
   obtain rfl := Option.some.inj hm
   refine bodyQ_ret1 Try.results19 (Value.bool false) rfl ?_
   exact ⟨_, st6021, rfl⟩
 ·rw [if_neg hc5889] at hm
  replace hc5889 := Bool.eq_false_iff.2 hc5889
  refine wpS_off 10 rfl rfl (bval' rfl hc5889) (by decide) rfl ?_
  refine wpS_off 10 rfl rfl (bval' rfl hc5889) (by decide) rfl ?_
  refine wpS_off 10 rfl rfl (bval' rfl hc5889) (by decide) rfl ?_
  refine wpS_off 10 rfl rfl (bval' rfl hc5889) (by decide) rfl ?_
  refine wpS_off 10 rfl rfl (bval' rfl hc5889) (by decide) rfl ?_
  refine wpS_pure (Value.bool false) (pure_pick_false (bval rfl hc5889) rfl) rfl ?_
  refine wpS_pure (Value.bool false) (pure_move rfl) rfl ?_
  refine wpS_off 17 rfl rfl rfl (by decide) rfl ?_
  refine wpS_off 17 rfl rfl rfl (by decide) rfl ?_
  refine wpS_off 17 rfl rfl rfl (by decide) rfl ?_
  refine wpS_off 17 rfl rfl rfl (by decide) rfl ?_
  refine wpS_off 17 rfl rfl rfl (by decide) rfl ?_
  refine wpS_pure (Value.bool false) (pure_pick_false rfl rfl) rfl ?_
  refine wpS_pure (Value.bool false) (pure_move rfl) rfl ?_
  refine wpS_off 24 rfl rfl rfl (by decide) rfl ?_
  refine wpS_off 24 rfl rfl rfl (by decide) rfl ?_
  refine wpS_off 24 rfl rfl rfl (by decide) rfl ?_
  refine wpS_off 24 rfl rfl rfl (by decide) rfl ?_
  refine wpS_off 24 rfl rfl rfl (by decide) rfl ?_
  refine wpS_pure (Value.bool false) (pure_pick_false rfl rfl) rfl ?_
  refine wpS_pure (Value.bool false) (pure_move rfl) rfl ?_
  refine wpS_off 31 rfl rfl rfl (by decide) rfl ?_
  refine wpS_off 31 rfl rfl rfl (by decide) rfl ?_
  refine wpS_off 31 rfl rfl rfl (by decide) rfl ?_
  refine wpS_off 31 rfl rfl rfl (by decide) rfl ?_
  refine wpS_off 31 rfl rfl rfl (by decide) rfl ?_
  refine wpS_pure (Value.bool false) (pure_pick_false rfl rfl) rfl ?_
  refine wpS_pure (Value.bool false) (pure_assign rfl) rfl ?_
  refine wpS_nil ?_
  refine thn_normal ?_
  refine wpC_ret ?_
  obtain rfl := Option.some.inj hm
  refine bodyQ_ret1 Try.results19 (Value.bool false) rfl ?_
  exact ⟨_, st5888, rfl⟩

set_option maxRecDepth 100000 in
set_option maxHeartbeats 1000000 in
theorem M.same_Accounts_walk (N : Nat) (w0 : World) (F0 : Nat → Prop) (hF0 : ∀ b, F0 b → b < w0.heap.size) (p0_a : List rAccount.den) (vp0_a : Value) (hp0_a : Rep F0 w0 (Row.slice rAccount) [vp0_a] p0_a) (p1_b : List rAccount.den) (vp1_b : Value) (hp1_b : Rep F0 w0 (Row.slice rAccount) [vp1_b] p1_b) (r : Bool) (hm : M.same_Accounts N p0_a p1_b = some r) :
    Calls Try.prog 15 [vp0_a, vp1_b].toArray w0 fun e w => ∃ v, e = .returned v ∧ ∃ F, St w0 F0 w F ∧ v = (Value.bool r) := by
 refine calls_of_wpC Try.func15 rfl (Nat.le_of_ble_eq_true rfl) ?_
 intro ρ hρ
 have st0 := St.refl hF0
 rw [M.same_Accounts] at hm
 refine wpC_seq ?_
 refine wpC_region ?_
 refine wpS_pure (Value.bool false) (pure_assign rfl) rfl ?_
 refine wpS_nil ?_
 refine thn_normal ?_
 refine wpC_seq ?_
 refine wpC_seq ?_
 refine wpC_region ?_
 refine wpS_pure vp0_a (pure_move (hρ 0 _ rfl)) rfl ?_
 refine wpS_len (v := vp0_a) Try.underlying26 rfl ((hp0_a.step (st0.step hF0))).reads rfl ?_
 refine wpS_pure vp1_b (pure_move (hρ 1 _ rfl)) rfl ?_
 refine wpS_len (v := vp1_b) Try.underlying26 rfl ((hp1_b.step (st0.step hF0))).reads rfl ?_
 refine wpS_pure (Value.bool (!decide ((p0_a.length : Int) = (p1_b.length : Int)))) (pure_neq rfl rfl) rfl ?_
 refine wpS_nil ?_
 refine thn_normal ?_
 by_cases hc5686 : (!decide ((p0_a.length : Int) = (p1_b.length : Int))) = true
 ·rw [if_pos hc5686] at hm
  refine wpC_true (bval rfl hc5686) ?_
  refine wpC_seq ?_
  refine wpC_region ?_
  refine wpS_pure (Value.bool false) (pure_assign rfl) rfl ?_
  refine wpS_nil ?_
  refine thn_normal ?_
  refine wpC_ret ?_
  refine thn_ret ?_
  obtain rfl := Option.some.inj hm
  refine bodyQ_ret1 Try.results15 (Value.bool false) rfl ?_
  exact ⟨_, st0, rfl⟩
 ·rw [if_neg hc5686] at hm
  replace hc5686 := Bool.eq_false_iff.2 hc5686
  refine wpC_false (bval rfl hc5686) ?_
  refine wpC_skip ?_
  refine thn_normal ?_
  refine wpC_seq ?_
  refine wpC_seq ?_
  refine wpC_region ?_
  refine wpS_pure (Value.int .i64 (0 : Int)) (pure_assign rfl) rfl ?_
  refine wpS_nil ?_
  refine thn_normal ?_
  refine wpC_block_join (fun ρ w => ∃ (F6216 : Nat → Prop), St w0 F0 w F6216 ∧ M.same_Accounts_k1 N = some r) ?_ ?_
  ·skip
   obtain ⟨x6272, hL6273, hm6274⟩ := bind_some hm
   clear hm
   refine wpC_loop (fun (s : Int) ρ w => ∃ (a6265 : Int) (F6269 : Nat → Prop), a6265 = s ∧ St w0 F0 w F6269 ∧ ρ 0 = vp0_a ∧ ρ 1 = vp1_b ∧ ρ 5 = (Value.int .i64 a6265)) hL6273 ?_ ?_
   ·exact ⟨(0 : Int), _, rfl, st0, (hρ 0 _ rfl), (hρ 1 _ rfl), rfl⟩
   ·skip
    rintro s ρ w y6277 ⟨a6265, F6269, rfl, st6270, r6266, r6267, r6268⟩ hm6278
    have hm : M.same_Accounts_k2 N p0_a p1_b a6265 = some y6277 := hm6278
    clear hm6278
    rw [M.same_Accounts_k2] at hm
    refine wpC_seq_join (fun ρ w => ∃ (F6282 : Nat → Prop), St w0 F0 w F6282 ∧ ρ 0 = vp0_a ∧ ρ 1 = vp1_b ∧ ρ 5 = (Value.int .i64 a6265) ∧ M.same_Accounts_k3 N p0_a p1_b a6265 = some y6277) ?_ ?_
    ·skip
     refine wpC_seq ?_
     refine wpC_region ?_
     refine wpS_pure (Value.int .i64 a6265) (pure_move r6268) rfl ?_
     refine wpS_pure vp0_a (pure_move r6266) rfl ?_
     refine wpS_len (v := vp0_a) Try.underlying26 rfl ((hp0_a.step (st6270.step hF0))).reads rfl ?_
     refine wpS_pure (Value.bool (decide (a6265 < (p0_a.length : Int)))) (pure_lss rfl rfl) rfl ?_
     refine wpS_pure (Value.bool (decide (a6265 < (p0_a.length : Int)))) (pure_move rfl) rfl ?_
     by_cases hc6285 : (decide (a6265 < (p0_a.length : Int))) = true
     ·rw [if_pos hc6285] at hm
      refine wpS_on 15 rfl rfl (bval' rfl hc6285) ?_
      refine wpS_pure (Value.int .i64 a6265) (pure_move r6268) rfl ?_
      refine wpS_on 15 rfl rfl (bval' rfl hc6285) ?_
      refine wpS_pure vp1_b (pure_move r6267) rfl ?_
      refine wpS_on 15 rfl rfl (bval' rfl hc6285) ?_
      refine wpS_len (v := vp1_b) Try.underlying26 rfl ((hp1_b.step (st6270.step hF0))).reads rfl ?_
      refine wpS_on 15 rfl rfl (bval' rfl hc6285) ?_
      refine wpS_pure (Value.bool (decide (a6265 < (p1_b.length : Int)))) (pure_lss rfl rfl) rfl ?_
      refine wpS_pure (Value.bool (decide (a6265 < (p1_b.length : Int)))) (pure_pick_true (bval rfl hc6285) rfl) rfl ?_
      refine wpS_nil ?_
      refine thn_normal ?_
      by_cases hc6286 : (decide (a6265 < (p1_b.length : Int))) = true
      ·rw [if_pos hc6286] at hm
       refine wpC_true (bval rfl hc6286) ?_
       refine wpC_skip ?_
       refine thn_normal ?_
       exact ⟨_, st6270, r6266, r6267, r6268, hm⟩
      ·rw [if_neg hc6286] at hm
       replace hc6286 := Bool.eq_false_iff.2 hc6286
       refine wpC_false (bval rfl hc6286) ?_
       refine wpC_exit ?_
       refine thn_exit ?_
       obtain rfl := Option.some.inj hm
       refine loopQ_exit (fun hx => ?_)
       subst hx
       have hm6287 : M.same_Accounts_k1 N = some r := hm6274
       refine joinQ_same ?_
       exact ⟨_, st6270, hm6287⟩
     ·rw [if_neg hc6285] at hm
      replace hc6285 := Bool.eq_false_iff.2 hc6285
      refine wpS_off 15 rfl rfl (bval' rfl hc6285) (by decide) rfl ?_
      refine wpS_off 15 rfl rfl (bval' rfl hc6285) (by decide) rfl ?_
      refine wpS_off 15 rfl rfl (bval' rfl hc6285) (by decide) rfl ?_
      refine wpS_off 15 rfl rfl (bval' rfl hc6285) (by decide) rfl ?_
      refine wpS_pure (Value.bool false) (pure_pick_false (bval rfl hc6285) rfl) rfl ?_
      refine wpS_nil ?_
      refine thn_normal ?_
      refine wpC_false rfl ?_
      refine wpC_exit ?_
      refine thn_exit ?_
      obtain rfl := Option.some.inj hm
      refine loopQ_exit (fun hx => ?_)
      subst hx
      have hm6288 : M.same_Accounts_k1 N = some r := hm6274
      refine joinQ_same ?_
      exact ⟨_, st6270, hm6288⟩
    ·skip
     rintro ρ w ⟨F6282, st6283, r6279, r6280, r6281, hm⟩
     rw [M.same_Accounts_k3] at hm
     refine wpC_seq ?_
     refine wpC_block ?_
     refine wpC_seq ?_
     refine wpC_draw st6283.lt mixed (by kernel_rfl) ?_
     refine wpQ_pure vp0_a (pure_move r6279) rfl ?_
     refine wpQ_pure (Value.int .i64 a6265) (pure_move r6281) rfl ?_
     obtain ⟨x6289, h6290, hm⟩ := bind_some hm
     try dsimp only at hm
     refine wpQ_indexT (v := vp0_a) Try.underlying26 T42 rfl rfl ((hp0_a.step (st6283.step hF0))).reads h6290 rfl ?_
     intro b6291 o6292 ha6293
     refine wpQ_load_rowT st6283.lt Try.underlying42 rfl T42 rfl ha6293 rfl ?_
     intro es6294 hr6295
     refine wpQ_pure vp1_b (pure_move r6280) rfl ?_
     refine wpQ_pure (Value.int .i64 a6265) (pure_move r6281) rfl ?_
     obtain ⟨x6296, h6297, hm⟩ := bind_some hm
     try dsimp only at hm
     refine wpQ_indexT (v := vp1_b) Try.underlying26 T42 rfl rfl ((hp1_b.step (st6283.step hF0))).reads h6297 rfl ?_
     intro b6298 o6299 ha6300
     refine wpQ_load_rowT st6283.lt Try.underlying42 rfl T42 rfl ha6300 rfl ?_
     intro es6301 hr6302
     obtain ⟨y6303, h6304, hm⟩ := bind_some hm
     try dsimp only at hm
     refine wpQ_call (vs := [(Value.agg es6294.toArray), (Value.agg es6301.toArray)]) (Value.bool y6303) Try.func19 nm19 bd19 (m_cons rfl (m_cons rfl m_nil)) (fun _ hs => M.same_Account_walk N _ _ hs.lt x6289 es6294 (hr6295.step (hs.step st6283.lt)) x6296 es6301 (hr6302.step (hs.step st6283.lt)) y6303 h6304) (by rintro _ _ _ hs ⟨F, h2, hv⟩; subst hv; exact ⟨rfl, hs.trans (h2.narrow hs.lt)⟩) rfl ?_
     refine wpQ_pure (Value.bool (!y6303)) (pure_not rfl) rfl ?_
     refine wpQ_nil ?_
     intro w6306 h6305
     have st6307 := st6283.trans h6305
     refine thn_normal ?_
     by_cases hc6308 : (!y6303) = true
     ·rw [if_pos hc6308] at hm
      refine wpC_true (bval rfl hc6308) ?_
      refine wpC_seq ?_
      refine wpC_region ?_
      refine wpS_pure (Value.bool false) (pure_assign rfl) rfl ?_
      refine wpS_nil ?_
      refine thn_normal ?_
      refine wpC_ret ?_
      refine inB_ret ?_
      refine thn_ret ?_
      obtain rfl := Option.some.inj hm
      refine loopQ_ret (fun hx => ?_)
      subst hx
      have hm6309 : some (false) = some r := hm6274
      refine joinQ_ret ?_
      refine thn_ret ?_
      obtain rfl := Option.some.inj hm6309
      refine bodyQ_ret1 Try.results15 (Value.bool false) rfl ?_
      exact ⟨_, st6307, rfl⟩
     ·rw [if_neg hc6308] at hm
      replace hc6308 := Bool.eq_false_iff.2 hc6308
      refine wpC_false (bval rfl hc6308) ?_
      refine wpC_skip ?_
      refine inB_normal ?_
      refine thn_normal ?_
      refine wpC_region ?_
      refine wpS_pure (Value.int .i64 a6265) (pure_move r6281) rfl ?_
      refine wpS_pure (Value.int .i64 (IntKind.i64.wrap (a6265 + (1 : Int)))) (pure_add rfl rfl) rfl ?_
      refine wpS_pure (Value.int .i64 (IntKind.i64.wrap (a6265 + (1 : Int)))) (pure_assign rfl) rfl ?_
      refine wpS_nil ?_
      obtain rfl := Option.some.inj hm
      refine loopQ_in ?_
      exact ⟨(IntKind.i64.wrap (a6265 + (1 : Int))), _, rfl, st6307, r6279, r6280, rfl⟩
  ·skip
   rintro ρ w ⟨F6216, st6217, hm⟩
   rw [M.same_Accounts_k1] at hm
   refine thn_normal ?_
   refine wpC_seq ?_
   refine wpC_region ?_
   refine wpS_pure (Value.bool true) (pure_assign rfl) rfl ?_
   refine wpS_nil ?_
   refine thn_normal ?_
   refine wpC_ret ?_
   obtain rfl := Option.some.inj hm
   refine bodyQ_ret1 Try.results15 (Value.bool true) rfl ?_
   exact ⟨_, st6217, rfl⟩

set_option maxRecDepth 100000 in
set_option maxHeartbeats 1000000 in
theorem M.law48_ShardMerge_walk (N : Nat) (w0 : World) (F0 : Nat → Prop) (hF0 : ∀ b, F0 b → b < w0.heap.size) (p0_l : List rAccount.den) (vp0_l : Value) (hp0_l : Rep F0 w0 (Row.slice rAccount) [vp0_l] p0_l) (p1_parts : List (List Int)) (vp1_parts : Value) (hp1_parts : Rep F0 w0 (Row.slice (Row.slice rInt)) [vp1_parts] p1_parts) (p2_done : List (List rAccount.den)) (vp2_done : Value) (hp2_done : Rep F0 w0 (Row.slice (Row.slice rAccount)) [vp2_done] p2_done) (r : Bool) (hm : M.law48_ShardMerge N p0_l p1_parts p2_done = some r) :
    Calls Try.prog 5 [vp0_l, vp1_parts, vp2_done].toArray w0 fun e w => ∃ v, e = .returned v ∧ ∃ F, St w0 F0 w F ∧ v = (Value.bool r) := by
 refine calls_of_wpC Try.func5 rfl (Nat.le_of_ble_eq_true rfl) ?_
 intro ρ hρ
 have st0 := St.refl hF0
 rw [M.law48_ShardMerge] at hm
 refine wpC_seq ?_
 refine wpC_region ?_
 refine wpS_pure (Value.bool false) (pure_assign rfl) rfl ?_
 refine wpS_nil ?_
 refine thn_normal ?_
 refine wpC_seq ?_
 refine wpC_seq ?_
 refine wpC_region ?_
 refine wpS_pure vp0_l (pure_move (hρ 0 _ rfl)) rfl ?_
 refine wpS_pure vp1_parts (pure_move (hρ 1 _ rfl)) rfl ?_
 refine wpS_pure vp2_done (pure_move (hρ 2 _ rfl)) rfl ?_
 obtain ⟨y2946, h2947, hm⟩ := bind_some hm
 try dsimp only at hm
 refine wpS_call (vs := [vp0_l, vp1_parts, vp2_done]) Try.func14 nm14 bd14 (m_cons rfl (m_cons rfl (m_cons rfl m_nil))) (M.ref48_Light_walk N _ _ st0.lt p0_l vp0_l (hp0_l.step (st0.step hF0)) p1_parts vp1_parts (hp1_parts.step (st0.step hF0)) p2_done vp2_done (hp2_done.step (st0.step hF0)) y2946 h2947) rfl ?_
 rintro v2948 w2949 ⟨F2950, h2951, hv2952⟩
 have h2953 := h2951.narrow st0.lt
 have st2954 := st0.trans h2953
 obtain rfl := hv2952
 refine wpS_pure (Value.bool (!y2946)) (pure_not rfl) rfl ?_
 refine wpS_nil ?_
 refine thn_normal ?_
 by_cases hc2955 : (!y2946) = true
 ·rw [if_pos hc2955] at hm
  refine wpC_true (bval rfl hc2955) ?_
  refine wpC_seq ?_
  refine wpC_region ?_
  obtain ⟨y2956, h2957, hm⟩ := bind_some hm
  try dsimp only at hm
  refine wpS_call (vs := []) Try.func9 nm9 bd9 m_nil (M.law48_awake_walk N _ _ st2954.lt y2956 h2957) rfl ?_
  rintro v2958 w2959 ⟨F2960, h2961, hv2962⟩
  have h2963 := h2961.narrow st2954.lt
  have st2964 := st2954.trans h2963
  obtain rfl := hv2962
  refine wpS_pure (Value.bool y2956) (pure_assign rfl) rfl ?_
  refine wpS_nil ?_
  refine thn_normal ?_
  refine wpC_ret ?_
  refine thn_ret ?_
  obtain rfl := Option.some.inj hm
  refine bodyQ_ret1 Try.results5 (Value.bool y2956) rfl ?_
  exact ⟨_, st2964, rfl⟩
 ·rw [if_neg hc2955] at hm
  replace hc2955 := Bool.eq_false_iff.2 hc2955
  refine wpC_false (bval rfl hc2955) ?_
  refine wpC_skip ?_
  refine thn_normal ?_
  refine wpC_seq ?_
  refine wpC_region ?_
  refine wpS_pure vp0_l (pure_move (hρ 0 _ rfl)) rfl ?_
  refine wpS_pure vp1_parts (pure_move (hρ 1 _ rfl)) rfl ?_
  refine wpS_pure vp2_done (pure_move (hρ 2 _ rfl)) rfl ?_
  obtain ⟨y4494, h4495, hm⟩ := bind_some hm
  try dsimp only at hm
  refine wpS_call (vs := [vp0_l, vp1_parts, vp2_done]) Try.func16 nm16 bd16 (m_cons rfl (m_cons rfl (m_cons rfl m_nil))) (M.shard_Merge_walk N _ _ st2954.lt p0_l vp0_l (hp0_l.step (st2954.step hF0)) p1_parts vp1_parts (hp1_parts.step (st2954.step hF0)) p2_done vp2_done (hp2_done.step (st2954.step hF0)) y4494 h4495) rfl ?_
  rintro v4496 w4497 ⟨F4498, h4499, hv4500⟩
  have st4501 := st2954.trans h4499
  obtain ⟨ho4502, hn4503⟩ := hv4500
  have ho4504 := ho4502.lower st2954.below.size
  refine wpS_pure vp0_l (pure_move (hρ 0 _ rfl)) rfl ?_
  refine wpS_pure vp1_parts (pure_move (hρ 1 _ rfl)) rfl ?_
  refine wpS_pure vp2_done (pure_move (hρ 2 _ rfl)) rfl ?_
  obtain ⟨y5674, h5675, hm⟩ := bind_some hm
  try dsimp only at hm
  refine wpS_call (vs := [vp0_l, vp1_parts, vp2_done]) Try.func17 nm17 bd17 (m_cons rfl (m_cons rfl (m_cons rfl m_nil))) (M.ref48_Merge_walk N _ _ st4501.lt p0_l vp0_l (hp0_l.step (st4501.step hF0)) p1_parts vp1_parts (hp1_parts.step (st4501.step hF0)) p2_done vp2_done (hp2_done.step (st4501.step hF0)) y5674 h5675) rfl ?_
  rintro v5676 w5677 ⟨F5678, h5679, hv5680⟩
  have st5681 := st4501.trans h5679
  obtain ⟨ho5682, hn5683⟩ := hv5680
  have ho5684 := ho5682.lower st4501.below.size
  have st6310 := st5681.fz (ho4504.st st4501.lt h5679)
  have hr6311 := ((ho4504.st st4501.lt h5679)).freeze
  have st6312 := st6310.fz (ho5684.fz (ap_symm (ap_new (ho4504).lt hn5683)))
  have hr6313 := ((ho5684.fz (ap_symm (ap_new (ho4504).lt hn5683)))).freeze
  obtain ⟨y6314, h6315, hm⟩ := bind_some hm
  try dsimp only at hm
  refine wpS_call (vs := [v4496, v5676]) Try.func15 nm15 bd15 (m_cons rfl (m_cons rfl m_nil)) (M.same_Accounts_walk N _ _ st6312.lt y4494 v4496 (hr6311.step (Step.freeze _ _ _)) y5674 v5676 hr6313 y6314 h6315) rfl ?_
  rintro v6316 w6317 ⟨F6318, h6319, hv6320⟩
  have h6321 := h6319.narrow st5681.lt
  have st6322 := st5681.trans h6321
  obtain rfl := hv6320
  refine wpS_pure (Value.bool y6314) (pure_move rfl) rfl ?_
  by_cases hc6323 : y6314 = true
  ·rw [if_pos hc6323] at hm
   refine wpS_on 22 rfl rfl (bval' rfl hc6323) ?_
   obtain ⟨y6324, h6325, hm⟩ := bind_some hm
   try dsimp only at hm
   refine wpS_call (vs := []) Try.func9 nm9 bd9 m_nil (M.law48_awake_walk N _ _ st6322.lt y6324 h6325) rfl ?_
   rintro v6326 w6327 ⟨F6328, h6329, hv6330⟩
   have h6331 := h6329.narrow st6322.lt
   have st6332 := st6322.trans h6331
   obtain rfl := hv6330
   refine wpS_pure (Value.bool y6324) (pure_pick_true (bval rfl hc6323) rfl) rfl ?_
   refine wpS_pure (Value.bool y6324) (pure_assign rfl) rfl ?_
   refine wpS_nil ?_
   refine thn_normal ?_
   refine wpC_ret ?_
   obtain rfl := Option.some.inj hm
   refine bodyQ_ret1 Try.results5 (Value.bool y6324) rfl ?_
   exact ⟨_, st6332, rfl⟩
  ·rw [if_neg hc6323] at hm
   replace hc6323 := Bool.eq_false_iff.2 hc6323
   refine wpS_off 22 rfl rfl (bval' rfl hc6323) (by decide) rfl ?_
   refine wpS_pure (Value.bool false) (pure_pick_false (bval rfl hc6323) rfl) rfl ?_
   refine wpS_pure (Value.bool false) (pure_assign rfl) rfl ?_
   refine wpS_nil ?_
   refine thn_normal ?_
   refine wpC_ret ?_
   obtain rfl := Option.some.inj hm
   refine bodyQ_ret1 Try.results5 (Value.bool false) rfl ?_
   exact ⟨_, st6322, rfl⟩

end Go.Proofs.Ytncajogcgkmpmaa
