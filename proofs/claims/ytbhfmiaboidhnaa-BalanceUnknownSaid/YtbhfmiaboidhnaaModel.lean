/- Written by rx.py: models and walks. -/
import Derived.Test.YtbhfmiaboidhnaaJump
import Derived.Test.YtbhfmiaboidhnaaProg
import Derived.Test.YtbhfmiaboidhnaaLH
namespace Go.Proofs.Ytbhfmiaboidhnaa
open Go Go.RowKit
set_option maxRecDepth 100000
set_option linter.unusedVariables false

@[reducible] def rPosting : Row := .pair rInt (.pair rInt (.pair rInt rInt))
@[reducible] def rAward : Row := .pair rInt (.pair rInt rInt)
theorem Ti3 : TI Try.prog 3 rInt := TI.mk (k := 1) (by kernel_rfl) rfl
theorem Ti23 : TI Try.prog 23 (.slice rPosting) := TI.mk (k := 1) (by kernel_rfl) rfl
theorem Ti26 : TI Try.prog 26 rPosting := TI.mk (k := 4) (by kernel_rfl) rfl
theorem Ti32 : TI Try.prog 32 rPosting := TI.mk (k := 4) (by kernel_rfl) rfl
theorem Ti36 : TI Try.prog 36 rInt := TI.mk (k := 1) (by kernel_rfl) rfl
theorem Ti38 : TI Try.prog 38 rAward := TI.mk (k := 3) (by kernel_rfl) rfl
theorem Eq3 : EqOK Try.prog 3 rInt 1 := eqT_int Try.underlying3
theorem Eq32 : EqOK Try.prog 32 rPosting 2 := eqT_struct Try.underlying32 (by kernel_rfl) (eqF_cons rfl rfl Try.underlying3 (by simp [aggD]) Ti3 Eq3 (eqF_cons rfl rfl Try.underlying3 (by simp [aggD]) Ti3 Eq3 (eqF_cons rfl rfl Try.underlying3 (by simp [aggD]) Ti3 Eq3 (eqF_last rfl rfl Try.underlying3 (by simp [aggD]) Ti3 Eq3))))
theorem tu : ∀ p ∈ ([(3, .int .i64), (22, .slice 38), (23, .slice 26), (26, .struct [(3, 0), (3, 1), (3, 2), (3, 3)]), (28, .slice 32), (32, .struct [(3, 0), (3, 1), (3, 2), (3, 3)]), (36, .int .i64), (38, .struct [(3, 0), (3, 1), (36, 2)]), (42, .map 3 23), (44, .map 3 32), (52, .other)] : List (Nat × TyK)), TyKOK Try.prog p.1 p.2 := by
  simp only [List.forall_mem_cons]
  exact ⟨Try.underlying3, Try.underlying22, Try.underlying23, ⟨_, Try.underlying26, rfl⟩, Try.underlying28, ⟨_, Try.underlying32, rfl⟩, Try.underlying36, ⟨_, Try.underlying38, rfl⟩, Try.underlying42, Try.underlying44, ⟨_, Try.underlying52, rfl⟩,  fun _ h => absurd h (by simp)⟩
theorem tr : ∀ p ∈ ([(3, rInt), (23, (.slice rPosting)), (26, rPosting), (32, rPosting), (36, rInt), (38, rAward)] : List (Nat × Row)), TI Try.prog p.1 p.2 := by
  simp only [List.forall_mem_cons]
  exact ⟨Ti3, Ti23, Ti26, Ti32, Ti36, Ti38,  fun _ h => absurd h (by simp)⟩
theorem te : ∀ p ∈ ([(32, rPosting)] : List (Nat × Row)), ∃ K d, EqOK Try.prog p.1 p.2 K ∧ d + K = 10000 ∧ Try.prog.eqGuardType Try.prog.depth p.1 = false ∧ (Try.prog.underlying p.1).any aggD = true := by
  simp only [List.forall_mem_cons]
  exact ⟨⟨2, 9998, Eq32, rfl, by kernel_rfl, by kernel_rfl⟩,  fun _ h => absurd h (by simp)⟩
theorem tz : ∀ p ∈ ([(23, (false, (.slice rPosting))), (32, (true, rPosting))] : List (Nat × (Bool × Row))), ZeroOK Try.prog p.1 p.2.1 p.2.2 := by
  simp only [List.forall_mem_cons]
  exact ⟨⟨_, by kernel_rfl, rfl⟩, ⟨_, by kernel_rfl, rfl⟩,  fun _ h => absurd h (by simp)⟩
def tabs : Tabs Try.prog := ⟨_, _, _, _, forall_find tu, forall_find tr, forall_find te, fun t a r h => forall_find (Q := fun t p => ZeroOK Try.prog t p.1 p.2) tz t (a, r) h⟩
theorem mixed : Try.prog.follows .mixedOrders = true := by kernel_rfl
noncomputable def M.ledger_Received (N : Nat) (a0 : List rPosting.den) (a1 : Int) : Option (Int) := recM a0 a1
noncomputable def S19 (N : Nat) : Sig := { inn := ⟨[(0, .val false (.leaf (.slice rPosting))), (1, .val false (.leaf rInt))], [], [], 0⟩, out := ⟨[(0, .val false (.leaf rInt))], [], [], 0⟩, fn := fun (x : (List rPosting.den) × Int) => M.ledger_Received N x.1 x.2 }
theorem W19 (N : Nat) : FnOK Try.prog 19 (S19 N) := received_fn
noncomputable def M.ledger_Waived (N : Nat) (a0 : List rPosting.den) (a1 : Int) : Option (Int) := wavM a0 a1
noncomputable def S20 (N : Nat) : Sig := { inn := ⟨[(0, .val false (.leaf (.slice rPosting))), (1, .val false (.leaf rInt))], [], [], 0⟩, out := ⟨[(0, .val false (.leaf rInt))], [], [], 0⟩, fn := fun (x : (List rPosting.den) × Int) => M.ledger_Waived N x.1 x.2 }
theorem W20 (N : Nat) : FnOK Try.prog 20 (S20 N) := waived_fn
noncomputable def M.balance_Of (N : Nat) (a0 : List rAward.den) (a1 : List rPosting.den) : Option (List rPosting.den) :=
(Loop (S := Int × List (Int × List rPosting.den)) (X := List (Int × List rPosting.den)) (fun s2 =>
(if (decide (s2.1 < (a0.length : Int))) = true then
(idx a0 s2.1).bind fun x3 =>
some (Sum.inl (IntKind.i64.wrap (s2.1 + (1 : Int)), putA rInt s2.2 x3.1 ([] : List rPosting.den)))
else
some (Sum.inr s2.2))) N ((0 : Int), ([] : List (Int × List rPosting.den))) : Option (List (Int × List rPosting.den))).bind fun j1 =>
(Loop (S := Int × List (Int × List rPosting.den)) (X := List (Int × List rPosting.den)) (fun s5 =>
(if (decide (s5.1 < (a1.length : Int))) = true then
((idx a1 s5.1).bind fun x7 =>
(if ((lookA rInt s5.2 x7.2.1).isSome) = true then
(appA ((lookA rInt s5.2 x7.2.1).getD ([] : List rPosting.den)) ([x7] : List rPosting.den)).bind fun l8 =>
(if decide (x7.2.1 = x7.2.1) = true then
some (putA rInt s5.2 x7.2.1 l8)
else none)
else
some (modA rInt s5.2 x7.2.1 ((lookA rInt s5.2 x7.2.1).getD ([] : List rPosting.den)))) : Option (List (Int × List rPosting.den))).bind fun j6 =>
some (Sum.inl (IntKind.i64.wrap (s5.1 + (1 : Int)), j6))
else
some (Sum.inr s5.2))) N ((0 : Int), j1) : Option (List (Int × List rPosting.den))).bind fun j4 =>
Loop (S := (List (Int × (List rPosting.den))) × Int × (List (Int × rPosting.den)) × List rPosting.den) (X := List rPosting.den) (fun s9 =>
(if (decide (s9.2.1 < (a0.length : Int))) = true then
(idx a0 s9.2.1).bind fun x10 =>
((if (!((lookA rInt s9.2.2.1 x10.1).isSome)) = true then
(M.ledger_Received N ((lookA rInt s9.1 x10.1).getD ([] : List rPosting.den)) x10.1).bind fun y12 =>
(M.ledger_Waived N ((lookA rInt s9.1 x10.1).getD ([] : List rPosting.den)) x10.1).bind fun y13 =>
some (putA rInt s9.2.2.1 x10.1 (x10.1, ((0 : Int), (y12, y13))), (x10.1, ((0 : Int), (y12, y13))))
else
some (s9.2.2.1, (lookA rInt s9.2.2.1 x10.1).getD ((0 : Int), ((0 : Int), ((0 : Int), (0 : Int)))))) : Option ((List (Int × rPosting.den)) × rPosting.den)).bind fun j11 =>
((if (!decide (x10.2.2 = (0 : Int))) = true then
some (j11.2.1, (j11.2.2.2.1, j11.2.2.2))
else
some (j11.2.1, (x10.2.1, j11.2.2.2))) : Option (rPosting.den)).bind fun j14 =>
(appA s9.2.2.2 ([j14] : List rPosting.den)).bind fun l15 =>
some (Sum.inl (s9.1, IntKind.i64.wrap (s9.2.1 + (1 : Int)), j11.1, l15))
else
some (Sum.inr s9.2.2.2))) N (j4, (0 : Int), ([] : List (Int × rPosting.den)), ([] : List rPosting.den))
noncomputable def S10 (N : Nat) : Sig := { inn := ⟨[(0, .val false (.leaf (.slice rAward))), (1, .val false (.leaf (.slice rPosting)))], [], [], 0⟩, out := ⟨[(0, .val false (.own 0))], [(0, .own 32 rPosting)], [], 1⟩, fn := fun (x : (List rAward.den) × List rPosting.den) => M.balance_Of N x.1 x.2 }
theorem W10 (N : Nat) : FnOK Try.prog 10 (S10 N) := fn_ok (E := ⟨tabs, [(19, S19 N), (20, S20 N)], (tabcons (W19 N) (tabcons (W20 N) tabnil)), mixed, true, false⟩) (N := N) (a := (.two .nil (.two .nil (.meet ⟨[], [(16, .dmap 42 rInt 26 rPosting)], [], 49⟩ (.two .nil (.two (.loop ⟨[(22, .val false (.leaf rInt))], [(16, .dmap 42 rInt 26 rPosting)], [], 97⟩ .nil) .nil)) (.meet ⟨[], [(16, .dmap 42 rInt 26 rPosting)], [], 50⟩ (.two .nil (.two (.loop ⟨[(32, .val false (.leaf rInt))], [(16, .dmap 42 rInt 26 rPosting)], [], 98⟩ (.two .nil (.two .nil (.two (.meet ⟨[], [(16, .dmap 42 rInt 26 rPosting)], [], 115⟩ .nil .nil) .nil)))) .nil)) (.two .nil (.two .nil (.two (.two .nil (.two (.loop ⟨[(5, .val false (.leaf (.map rInt false (.slice rPosting)))), (13, .val false (.own 146)), (55, .val false (.leaf rInt))], [(50, .map 44 rInt true rPosting), (146, .own 32 rPosting)], [16], 148⟩ (.two .nil (.two .nil (.two (.two (.two .nil (.two .nil (.meet ⟨[], [(50, .map 44 rInt true rPosting), (340, .box 32 (.leaf rPosting))], [], 390⟩ .nil (.two .nil (.meet ⟨[], [(340, .box 32 (.leaf rPosting))], [], 455⟩ .nil .nil))))) .nil) .nil)))) .nil)) .nil)))))))) (sg := S10 N) (c := Try.f10.body.getD .skip) (rs := Try.f10.results.toList) Try.func10 (by kernel_rfl) (by kernel_rfl) rfl rfl rfl rfl (fun x => by kernel_rfl)
noncomputable def M.balance_Arrears (N : Nat) (a0 : rPosting.den) : Option (Int) :=
some (if (IntKind.i64.wrap (a0.2.1 - a0.2.2.1)) < (0 : Int) then (0 : Int) else (IntKind.i64.wrap (a0.2.1 - a0.2.2.1)))
noncomputable def S13 (N : Nat) : Sig := { inn := ⟨[(0, .val true (.leaf rPosting))], [], [], 0⟩, out := ⟨[(0, .val false (.leaf rInt))], [], [], 0⟩, fn := fun (x : rPosting.den) => M.balance_Arrears N x }
theorem W13 (N : Nat) : FnOK Try.prog 13 (S13 N) := fn_ok (E := ⟨tabs, [], tabnil, mixed, false, false⟩) (N := N) (a := .nil) (sg := S13 N) (c := Try.f13.body.getD .skip) (rs := Try.f13.results.toList) Try.func13 (by kernel_rfl) (by kernel_rfl) rfl rfl rfl rfl (fun x => by kernel_rfl)
noncomputable def M.balance_Overpayment (N : Nat) (a0 : rPosting.den) : Option (Int) :=
some (if (IntKind.i64.wrap ((IntKind.i64.wrap (a0.2.2.1 - a0.2.1)) - a0.2.2.2)) < (0 : Int) then (0 : Int) else (IntKind.i64.wrap ((IntKind.i64.wrap (a0.2.2.1 - a0.2.1)) - a0.2.2.2)))
noncomputable def S15 (N : Nat) : Sig := { inn := ⟨[(0, .val true (.leaf rPosting))], [], [], 0⟩, out := ⟨[(0, .val false (.leaf rInt))], [], [], 0⟩, fn := fun (x : rPosting.den) => M.balance_Overpayment N x }
theorem W15 (N : Nat) : FnOK Try.prog 15 (S15 N) := fn_ok (E := ⟨tabs, [], tabnil, mixed, false, false⟩) (N := N) (a := .nil) (sg := S15 N) (c := Try.f15.body.getD .skip) (rs := Try.f15.results.toList) Try.func15 (by kernel_rfl) (by kernel_rfl) rfl rfl rfl rfl (fun x => by kernel_rfl)
noncomputable def M.law38_awake (N : Nat) : Option (Bool) :=
(M.balance_Of N ([((3 : Int), ((30000 : Int), (0 : Int))), ((4 : Int), ((0 : Int), (10 : Int)))] : List rAward.den) ([((0 : Int), ((3 : Int), ((1 : Int), (25000 : Int)))), ((0 : Int), ((4 : Int), ((1 : Int), (100 : Int))))] : List rPosting.den)).bind fun y1 =>
((if (decide ((y1.length : Int) = (2 : Int))) = true then
(idx y1 (0 : Int)).bind fun x3 =>
(if (eqR rPosting x3 ((3 : Int), ((30000 : Int), ((25000 : Int), (0 : Int))))) = true then
(idx y1 (1 : Int)).bind fun x4 =>
(if (eqR rPosting x4 ((4 : Int), ((100 : Int), ((100 : Int), (0 : Int))))) = true then
(idx y1 (0 : Int)).bind fun x5 =>
(M.balance_Arrears N x5).bind fun y6 =>
(if (decide (y6 = (5000 : Int))) = true then
(M.balance_Overpayment N ((0 : Int), ((10000 : Int), ((15000 : Int), (2000 : Int))))).bind fun y7 =>
some (decide (y7 = (3000 : Int)))
else
some false)
else
some false)
else
some false)
else
some false) : Option (Bool)).bind fun j2 =>
some j2
noncomputable def S8 (N : Nat) : Sig := { inn := ⟨[], [], [], 0⟩, out := ⟨[(0, .val false (.leaf .bool))], [], [], 0⟩, fn := fun (x : Unit) => M.law38_awake N }
theorem W8 (N : Nat) : FnOK Try.prog 8 (S8 N) := fn_ok (E := ⟨tabs, [(10, S10 N), (13, S13 N), (15, S15 N)], (tabcons (W10 N) (tabcons (W13 N) (tabcons (W15 N) tabnil))), mixed, false, false⟩) (N := N) (a := (.two .nil (.two .nil (.meet ⟨[(0, .val false (.leaf .bool))], [], [], 144⟩ .nil .nil)))) (sg := S8 N) (c := Try.f8.body.getD .skip) (rs := Try.f8.results.toList) Try.func8 (by kernel_rfl) (by kernel_rfl) rfl rfl rfl rfl (fun x => by kernel_rfl)
noncomputable def M.same_MonthBalances (N : Nat) (a0 : List rPosting.den) (a1 : List rPosting.den) : Option (Bool) :=
(if (!decide ((a0.length : Int) = (a1.length : Int))) = true then
some false
else
Loop (S := Int) (X := Bool) (fun s1 =>
((if (decide (s1 < (a0.length : Int))) = true then
some (decide (s1 < (a1.length : Int)))
else
some false) : Option (Bool)).bind fun j2 =>
(if j2 = true then
(idx a0 s1).bind fun x3 =>
(idx a1 s1).bind fun x4 =>
(if (!(eqR rPosting x3 x4)) = true then
some (Sum.inr false)
else
some (Sum.inl (IntKind.i64.wrap (s1 + (1 : Int)))))
else
some (Sum.inr true))) N (0 : Int))
noncomputable def S9 (N : Nat) : Sig := { inn := ⟨[(0, .val false (.leaf (.slice rPosting))), (1, .val false (.leaf (.slice rPosting)))], [], [], 0⟩, out := ⟨[(0, .val false (.leaf .bool))], [], [], 0⟩, fn := fun (x : (List rPosting.den) × List rPosting.den) => M.same_MonthBalances N x.1 x.2 }
theorem W9 (N : Nat) : FnOK Try.prog 9 (S9 N) := fn_ok (E := ⟨tabs, [], tabnil, mixed, false, false⟩) (N := N) (a := (.two .nil (.two .nil (.two (.two .nil (.two (.loop ⟨[(5, .val false (.leaf rInt))], [], [], 112⟩ (.two (.meet ⟨[(20, .val false (.leaf .bool))], [], [], 112⟩ .nil .nil) .nil)) .nil)) .nil)))) (sg := S9 N) (c := Try.f9.body.getD .skip) (rs := Try.f9.results.toList) Try.func9 (by kernel_rfl) (by kernel_rfl) rfl rfl rfl rfl (fun x => by kernel_rfl)
noncomputable def M.ref37_signed (N : Nat) (a0 : rPosting.den) : Option (Int) :=
(if (decide (a0.2.2.1 = (1 : Int))) = true then
some a0.2.2.2
else
((if (decide (a0.2.2.1 = (2 : Int))) = true then
some (decide (a0.2.2.1 = (2 : Int)))
else
some (decide (a0.2.2.1 = (3 : Int)))) : Option (Bool)).bind fun j1 =>
(if j1 = true then
some (IntKind.i64.wrap ((0 : Int) - a0.2.2.2))
else
some (0 : Int)))
noncomputable def S25 (N : Nat) : Sig := { inn := ⟨[(0, .val true (.leaf rPosting))], [], [], 0⟩, out := ⟨[(0, .val false (.leaf rInt))], [], [], 0⟩, fn := fun (x : rPosting.den) => M.ref37_signed N x }
theorem W25 (N : Nat) : FnOK Try.prog 25 (S25 N) := fn_ok (E := ⟨tabs, [], tabnil, mixed, false, false⟩) (N := N) (a := (.two .nil (.two (.two .nil (.two (.two .nil (.two .nil (.meet ⟨[(9, .val false (.leaf .bool))], [], [], 96⟩ .nil .nil))) .nil)) .nil))) (sg := S25 N) (c := Try.f25.body.getD .skip) (rs := Try.f25.results.toList) Try.func25 (by kernel_rfl) (by kernel_rfl) rfl rfl rfl rfl (fun x => by kernel_rfl)
noncomputable def M.ref37_Received (N : Nat) (a0 : List rPosting.den) (a1 : Int) : Option (Int) :=
Loop (S := Int × Int) (X := Int) (fun s1 =>
(if (decide (s1.2 < (a0.length : Int))) = true then
((idx a0 s1.2).bind fun x3 =>
(if (decide (x3.2.1 = a1)) = true then
(idx a0 s1.2).bind fun x4 =>
(M.ref37_signed N x4).bind fun y5 =>
some (IntKind.i64.wrap (s1.1 + y5))
else
some s1.1) : Option (Int)).bind fun j2 =>
some (Sum.inl (j2, IntKind.i64.wrap (s1.2 + (1 : Int))))
else
some (Sum.inr s1.1))) N ((0 : Int), (0 : Int))
noncomputable def S21 (N : Nat) : Sig := { inn := ⟨[(0, .val false (.leaf (.slice rPosting))), (1, .val false (.leaf rInt))], [], [], 0⟩, out := ⟨[(0, .val false (.leaf rInt))], [], [], 0⟩, fn := fun (x : (List rPosting.den) × Int) => M.ref37_Received N x.1 x.2 }
theorem W21 (N : Nat) : FnOK Try.prog 21 (S21 N) := fn_ok (E := ⟨tabs, [(25, S25 N)], (tabcons (W25 N) tabnil), mixed, false, false⟩) (N := N) (a := (.two .nil (.two .nil (.two (.two .nil (.two (.loop ⟨[(5, .val false (.leaf rInt)), (6, .val false (.leaf rInt))], [], [], 48⟩ (.two .nil (.two (.meet ⟨[(5, .val false (.leaf rInt))], [], [], 112⟩ .nil .nil) .nil))) .nil)) .nil)))) (sg := S21 N) (c := Try.f21.body.getD .skip) (rs := Try.f21.results.toList) Try.func21 (by kernel_rfl) (by kernel_rfl) rfl rfl rfl rfl (fun x => by kernel_rfl)
noncomputable def M.ref37_Waived (N : Nat) (a0 : List rPosting.den) (a1 : Int) : Option (Int) :=
Loop (S := Int × Int) (X := Int) (fun s1 =>
(if (decide (s1.2 < (a0.length : Int))) = true then
(((idx a0 s1.2).bind fun x4 =>
(if (decide (x4.2.1 = a1)) = true then
(idx a0 s1.2).bind fun x5 =>
some (decide (x5.2.2.1 = (4 : Int)))
else
some false) : Option (Bool)).bind fun j3 =>
(if j3 = true then
(idx a0 s1.2).bind fun x6 =>
some (IntKind.i64.wrap (s1.1 + x6.2.2.2))
else
some s1.1) : Option (Int)).bind fun j2 =>
some (Sum.inl (j2, IntKind.i64.wrap (s1.2 + (1 : Int))))
else
some (Sum.inr s1.1))) N ((0 : Int), (0 : Int))
noncomputable def S22 (N : Nat) : Sig := { inn := ⟨[(0, .val false (.leaf (.slice rPosting))), (1, .val false (.leaf rInt))], [], [], 0⟩, out := ⟨[(0, .val false (.leaf rInt))], [], [], 0⟩, fn := fun (x : (List rPosting.den) × Int) => M.ref37_Waived N x.1 x.2 }
theorem W22 (N : Nat) : FnOK Try.prog 22 (S22 N) := fn_ok (E := ⟨tabs, [], tabnil, mixed, false, false⟩) (N := N) (a := (.two .nil (.two .nil (.two (.two .nil (.two (.loop ⟨[(5, .val false (.leaf rInt)), (6, .val false (.leaf rInt))], [], [], 48⟩ (.two .nil (.two (.meet ⟨[(5, .val false (.leaf rInt))], [], [], 112⟩ (.meet ⟨[(27, .val false (.leaf .bool))], [], [], 112⟩ .nil .nil) .nil) .nil))) .nil)) .nil)))) (sg := S22 N) (c := Try.f22.body.getD .skip) (rs := Try.f22.results.toList) Try.func22 (by kernel_rfl) (by kernel_rfl) rfl rfl rfl rfl (fun x => by kernel_rfl)
noncomputable def M.ref38_Of (N : Nat) (a0 : List rAward.den) (a1 : List rPosting.den) : Option (List rPosting.den) :=
Loop (S := Int × List rPosting.den) (X := List rPosting.den) (fun s1 =>
(if (decide (s1.1 < (a0.length : Int))) = true then
(idx a0 s1.1).bind fun x2 =>
(idx a0 s1.1).bind fun x3 =>
(idx a0 s1.1).bind fun x4 =>
(M.ref37_Received N a1 x4.1).bind fun y5 =>
(idx a0 s1.1).bind fun x6 =>
(M.ref37_Waived N a1 x6.1).bind fun y7 =>
((idx a0 s1.1).bind fun x9 =>
(if (!decide (x9.2.2 = (0 : Int))) = true then
some (x2.1, (y5, (y5, y7)))
else
some (x2.1, (x3.2.1, (y5, y7)))) : Option (rPosting.den)).bind fun j8 =>
(appA s1.2 ([j8] : List rPosting.den)).bind fun l10 =>
some (Sum.inl (IntKind.i64.wrap (s1.1 + (1 : Int)), l10))
else
some (Sum.inr s1.2))) N ((0 : Int), ([] : List rPosting.den))
noncomputable def S11 (N : Nat) : Sig := { inn := ⟨[(0, .val false (.leaf (.slice rAward))), (1, .val false (.leaf (.slice rPosting)))], [], [], 0⟩, out := ⟨[(0, .val false (.own 0))], [(0, .own 32 rPosting)], [], 1⟩, fn := fun (x : (List rAward.den) × List rPosting.den) => M.ref38_Of N x.1 x.2 }
theorem W11 (N : Nat) : FnOK Try.prog 11 (S11 N) := fn_ok (E := ⟨tabs, [(21, S21 N), (22, S22 N)], (tabcons (W21 N) (tabcons (W22 N) tabnil)), mixed, false, false⟩) (N := N) (a := (.two .nil (.two .nil (.two (.two .nil (.two (.loop ⟨[(5, .val false (.own 64)), (6, .val false (.leaf rInt))], [(64, .own 32 rPosting)], [16], 65⟩ (.two .nil (.two (.two (.two .nil (.meet ⟨[], [(529, .box 32 (.leaf rPosting))], [], 562⟩ .nil .nil)) .nil) .nil))) .nil)) .nil)))) (sg := S11 N) (c := Try.f11.body.getD .skip) (rs := Try.f11.results.toList) Try.func11 (by kernel_rfl) (by kernel_rfl) rfl rfl rfl rfl (fun x => by kernel_rfl)
noncomputable def M.law38_BalanceOf (N : Nat) (a0 : List rAward.den) (a1 : List rPosting.den) : Option (Bool) :=
((if (decide ((200 : Int) < (a0.length : Int))) = true then
some true
else
some (decide ((500 : Int) < (a1.length : Int)))) : Option (Bool)).bind fun j1 =>
(if j1 = true then
(M.law38_awake N).bind fun y2 =>
some y2
else
Join (J := Unit) (R := Bool) (Loop (S := Int) (X := (Unit) ⊕ (Bool)) (fun s4 =>
(if (decide (s4 < (a1.length : Int))) = true then
((idx a1 s4).bind fun x6 =>
(if (decide (x6.2.2.2 < (0 : Int))) = true then
some true
else
(idx a1 s4).bind fun x7 =>
some (decide ((1000000000000000 : Int) < x7.2.2.2))) : Option (Bool)).bind fun j5 =>
(if j5 = true then
(M.law38_awake N).bind fun y8 =>
some (Sum.inr (Sum.inr y8))
else
some (Sum.inl (IntKind.i64.wrap (s4 + (1 : Int)))))
else
some (Sum.inr (Sum.inl ())))) N (0 : Int)) fun j3 =>
((M.balance_Of N a0 a1).bind fun y10 =>
(M.ref38_Of N a0 a1).bind fun y11 =>
(M.same_MonthBalances N y10 y11).bind fun y12 =>
(if y12 = true then
(M.law38_awake N).bind fun y13 =>
some y13
else
some false) : Option (Bool)).bind fun j9 =>
some j9)
noncomputable def S3 (N : Nat) : Sig := { inn := ⟨[(0, .val false (.leaf (.slice rAward))), (1, .val false (.leaf (.slice rPosting)))], [], [], 0⟩, out := ⟨[(0, .val false (.leaf .bool))], [], [], 0⟩, fn := fun (x : (List rAward.den) × List rPosting.den) => M.law38_BalanceOf N x.1 x.2 }
theorem W3 (N : Nat) : FnOK Try.prog 3 (S3 N) := fn_ok (E := ⟨tabs, [(8, S8 N), (9, S9 N), (10, S10 N), (11, S11 N)], (tabcons (W8 N) (tabcons (W9 N) (tabcons (W10 N) (tabcons (W11 N) tabnil)))), mixed, false, false⟩) (N := N) (a := (.two .nil (.two (.meet ⟨[(13, .val false (.leaf .bool))], [], [], 16⟩ .nil .nil) (.join ⟨[], [], [], 16⟩ (.two .nil (.two (.loop ⟨[(5, .val false (.leaf rInt))], [], [], 32⟩ (.two .nil (.two (.two (.meet ⟨[(34, .val false (.leaf .bool))], [], [], 96⟩ .nil .nil) .nil) .nil))) .nil)) (.meet ⟨[(4, .val false (.leaf .bool))], [], [], 16⟩ .nil .nil))))) (sg := S3 N) (c := Try.f3.body.getD .skip) (rs := Try.f3.results.toList) Try.func3 (by kernel_rfl) (by kernel_rfl) rfl rfl rfl rfl (fun x => by kernel_rfl)
noncomputable def M.ref38_Within (N : Nat) (a0 : rPosting.den) (a1 : Int) : Option (Bool) :=
((if (decide ((IntKind.i64.wrap (0 - a1)) ≤ a0.2.1)) = true then
(if (decide (a0.2.1 ≤ a1)) = true then
(if (decide ((IntKind.i64.wrap (0 - a1)) ≤ a0.2.2.1)) = true then
(if (decide (a0.2.2.1 ≤ a1)) = true then
(if (decide ((IntKind.i64.wrap (0 - a1)) ≤ a0.2.2.2)) = true then
some (decide (a0.2.2.2 ≤ a1))
else
some false)
else
some false)
else
some false)
else
some false)
else
some false) : Option (Bool)).bind fun j1 =>
some j1
noncomputable def S12 (N : Nat) : Sig := { inn := ⟨[(0, .val true (.leaf rPosting)), (1, .val false (.leaf rInt))], [], [], 0⟩, out := ⟨[(0, .val false (.leaf .bool))], [], [], 0⟩, fn := fun (x : rPosting.den × Int) => M.ref38_Within N x.1 x.2 }
theorem W12 (N : Nat) : FnOK Try.prog 12 (S12 N) := fn_ok (E := ⟨tabs, [], tabnil, mixed, false, false⟩) (N := N) (a := (.two .nil (.meet ⟨[(4, .val false (.leaf .bool))], [], [], 32⟩ .nil .nil))) (sg := S12 N) (c := Try.f12.body.getD .skip) (rs := Try.f12.results.toList) Try.func12 (by kernel_rfl) (by kernel_rfl) rfl rfl rfl rfl (fun x => by kernel_rfl)
noncomputable def M.ref38_Arrears (N : Nat) (a0 : rPosting.den) : Option (Int) :=
some (if (IntKind.i64.wrap (a0.2.1 - a0.2.2.1)) < (0 : Int) then (0 : Int) else (IntKind.i64.wrap (a0.2.1 - a0.2.2.1)))
noncomputable def S14 (N : Nat) : Sig := { inn := ⟨[(0, .val true (.leaf rPosting))], [], [], 0⟩, out := ⟨[(0, .val false (.leaf rInt))], [], [], 0⟩, fn := fun (x : rPosting.den) => M.ref38_Arrears N x }
theorem W14 (N : Nat) : FnOK Try.prog 14 (S14 N) := fn_ok (E := ⟨tabs, [], tabnil, mixed, false, false⟩) (N := N) (a := .nil) (sg := S14 N) (c := Try.f14.body.getD .skip) (rs := Try.f14.results.toList) Try.func14 (by kernel_rfl) (by kernel_rfl) rfl rfl rfl rfl (fun x => by kernel_rfl)
noncomputable def M.ref38_Overpayment (N : Nat) (a0 : rPosting.den) : Option (Int) :=
some (if (IntKind.i64.wrap ((IntKind.i64.wrap (a0.2.2.1 - a0.2.1)) - a0.2.2.2)) < (0 : Int) then (0 : Int) else (IntKind.i64.wrap ((IntKind.i64.wrap (a0.2.2.1 - a0.2.1)) - a0.2.2.2)))
noncomputable def S16 (N : Nat) : Sig := { inn := ⟨[(0, .val true (.leaf rPosting))], [], [], 0⟩, out := ⟨[(0, .val false (.leaf rInt))], [], [], 0⟩, fn := fun (x : rPosting.den) => M.ref38_Overpayment N x }
theorem W16 (N : Nat) : FnOK Try.prog 16 (S16 N) := fn_ok (E := ⟨tabs, [], tabnil, mixed, false, false⟩) (N := N) (a := .nil) (sg := S16 N) (c := Try.f16.body.getD .skip) (rs := Try.f16.results.toList) Try.func16 (by kernel_rfl) (by kernel_rfl) rfl rfl rfl rfl (fun x => by kernel_rfl)
noncomputable def M.law38_BalanceAmounts (N : Nat) (a0 : rPosting.den) : Option (Bool) :=
(M.ref38_Within N a0 (1152921504606846976 : Int)).bind fun y1 =>
(if (!y1) = true then
(M.law38_awake N).bind fun y2 =>
some y2
else
((M.balance_Arrears N a0).bind fun y4 =>
(M.ref38_Arrears N a0).bind fun y5 =>
(if (decide (y4 = y5)) = true then
(M.balance_Overpayment N a0).bind fun y6 =>
(M.ref38_Overpayment N a0).bind fun y7 =>
(if (decide (y6 = y7)) = true then
(M.law38_awake N).bind fun y8 =>
some y8
else
some false)
else
some false) : Option (Bool)).bind fun j3 =>
some j3)
noncomputable def S4 (N : Nat) : Sig := { inn := ⟨[(0, .val true (.leaf rPosting))], [], [], 0⟩, out := ⟨[(0, .val false (.leaf .bool))], [], [], 0⟩, fn := fun (x : rPosting.den) => M.law38_BalanceAmounts N x }
theorem W4 (N : Nat) : FnOK Try.prog 4 (S4 N) := fn_ok (E := ⟨tabs, [(8, S8 N), (12, S12 N), (13, S13 N), (14, S14 N), (15, S15 N), (16, S16 N)], (tabcons (W8 N) (tabcons (W12 N) (tabcons (W13 N) (tabcons (W14 N) (tabcons (W15 N) (tabcons (W16 N) tabnil)))))), mixed, false, false⟩) (N := N) (a := (.two .nil (.two .nil (.meet ⟨[(2, .val false (.leaf .bool))], [], [], 80⟩ .nil .nil)))) (sg := S4 N) (c := Try.f4.body.getD .skip) (rs := Try.f4.results.toList) Try.func4 (by kernel_rfl) (by kernel_rfl) rfl rfl rfl rfl (fun x => by kernel_rfl)
noncomputable def M.law38_BalanceIdentity (N : Nat) (a0 : rPosting.den) : Option (Bool) :=
((M.ref38_Within N a0 (1152921504606846976 : Int)).bind fun y2 =>
(if (!y2) = true then
some true
else
some (decide (a0.2.2.2 < (0 : Int)))) : Option (Bool)).bind fun j1 =>
(if j1 = true then
(M.law38_awake N).bind fun y3 =>
some y3
else
(M.balance_Arrears N a0).bind fun y4 =>
(M.balance_Overpayment N a0).bind fun y5 =>
((if (decide (y4 < (0 : Int))) = true then
some true
else
(if (decide (y5 < (0 : Int))) = true then
some true
else
(if (decide ((0 : Int) < y4)) = true then
some (decide ((0 : Int) < y5))
else
some false))) : Option (Bool)).bind fun j6 =>
(if j6 = true then
some false
else
((M.balance_Overpayment N (a0.1, (a0.2.1, (a0.2.2.1, (0 : Int))))).bind fun y8 =>
(M.balance_Arrears N (a0.1, (a0.2.1, (a0.2.2.1, (0 : Int))))).bind fun y9 =>
(if (decide ((IntKind.i64.wrap (a0.2.1 + y8)) = (IntKind.i64.wrap (a0.2.2.1 + y9)))) = true then
(M.law38_awake N).bind fun y10 =>
some y10
else
some false) : Option (Bool)).bind fun j7 =>
some j7))
noncomputable def S5 (N : Nat) : Sig := { inn := ⟨[(0, .val true (.leaf rPosting))], [], [], 0⟩, out := ⟨[(0, .val false (.leaf .bool))], [], [], 0⟩, fn := fun (x : rPosting.den) => M.law38_BalanceIdentity N x }
theorem W5 (N : Nat) : FnOK Try.prog 5 (S5 N) := fn_ok (E := ⟨tabs, [(8, S8 N), (12, S12 N), (13, S13 N), (15, S15 N)], (tabcons (W8 N) (tabcons (W12 N) (tabcons (W13 N) (tabcons (W15 N) tabnil)))), mixed, false, false⟩) (N := N) (a := (.two .nil (.two (.meet ⟨[(12, .val false (.leaf .bool))], [], [], 32⟩ .nil .nil) (.two .nil (.two (.meet ⟨[(31, .val false (.leaf .bool))], [], [], 128⟩ .nil .nil) (.two .nil (.meet ⟨[(2, .val false (.leaf .bool))], [], [], 160⟩ .nil .nil))))))) (sg := S5 N) (c := Try.f5.body.getD .skip) (rs := Try.f5.results.toList) Try.func5 (by kernel_rfl) (by kernel_rfl) rfl rfl rfl rfl (fun x => by kernel_rfl)
noncomputable def M.law38_BalanceUnknown (N : Nat) (a0 : List rAward.den) (a1 : List rPosting.den) : Option (Bool) :=
((if (decide ((200 : Int) < (a0.length : Int))) = true then
some true
else
some (decide ((500 : Int) < (a1.length : Int)))) : Option (Bool)).bind fun j1 =>
(if j1 = true then
(M.law38_awake N).bind fun y2 =>
some y2
else
Join (J := Unit) (R := Bool) (Loop (S := Int) (X := (Unit) ⊕ (Bool)) (fun s4 =>
(if (decide (s4 < (a1.length : Int))) = true then
((idx a1 s4).bind fun x6 =>
(if (decide (x6.2.2.2 < (0 : Int))) = true then
some true
else
(idx a1 s4).bind fun x7 =>
some (decide ((1000000000000000 : Int) < x7.2.2.2))) : Option (Bool)).bind fun j5 =>
(if j5 = true then
(M.law38_awake N).bind fun y8 =>
some (Sum.inr (Sum.inr y8))
else
some (Sum.inl (IntKind.i64.wrap (s4 + (1 : Int)))))
else
some (Sum.inr (Sum.inl ())))) N (0 : Int)) fun j3 =>
(M.balance_Of N a0 a1).bind fun y9 =>
(if (!decide ((y9.length : Int) = (a0.length : Int))) = true then
some false
else
Join (J := Unit) (R := Bool) (Loop (S := Int) (X := (Unit) ⊕ (Bool)) (fun s11 =>
(if (decide (s11 < (y9.length : Int))) = true then
((idx y9 s11).bind fun x13 =>
(idx a0 s11).bind fun x14 =>
(if (!decide (x13.1 = x14.1)) = true then
some true
else
(idx a0 s11).bind fun x15 =>
(if (!decide (x15.2.2 = (0 : Int))) = true then
(idx y9 s11).bind fun x16 =>
(M.balance_Arrears N x16).bind fun y17 =>
(if (!decide (y17 = (0 : Int))) = true then
some true
else
(idx a0 s11).bind fun x18 =>
(if (decide (x18.2.2 = (0 : Int))) = true then
(idx y9 s11).bind fun x19 =>
(idx a0 s11).bind fun x20 =>
some (!decide (x19.2.1 = x20.2.1))
else
some false))
else
(idx a0 s11).bind fun x21 =>
(if (decide (x21.2.2 = (0 : Int))) = true then
(idx y9 s11).bind fun x22 =>
(idx a0 s11).bind fun x23 =>
some (!decide (x22.2.1 = x23.2.1))
else
some false))) : Option (Bool)).bind fun j12 =>
(if j12 = true then
some (Sum.inr (Sum.inr false))
else
some (Sum.inl (IntKind.i64.wrap (s11 + (1 : Int)))))
else
some (Sum.inr (Sum.inl ())))) N (0 : Int)) fun j10 =>
(M.law38_awake N).bind fun y24 =>
some y24))
noncomputable def S6 (N : Nat) : Sig := { inn := ⟨[(0, .val false (.leaf (.slice rAward))), (1, .val false (.leaf (.slice rPosting)))], [], [], 0⟩, out := ⟨[(0, .val false (.leaf .bool))], [], [], 0⟩, fn := fun (x : (List rAward.den) × List rPosting.den) => M.law38_BalanceUnknown N x.1 x.2 }
theorem W6 (N : Nat) : FnOK Try.prog 6 (S6 N) := fn_ok (E := ⟨tabs, [(8, S8 N), (10, S10 N), (13, S13 N)], (tabcons (W8 N) (tabcons (W10 N) (tabcons (W13 N) tabnil))), mixed, false, false⟩) (N := N) (a := (.two .nil (.two (.meet ⟨[(15, .val false (.leaf .bool))], [], [], 16⟩ .nil .nil) (.join ⟨[], [], [], 16⟩ (.two .nil (.two (.loop ⟨[(5, .val false (.leaf rInt))], [], [], 32⟩ (.two .nil (.two (.two (.meet ⟨[(36, .val false (.leaf .bool))], [], [], 96⟩ .nil .nil) .nil) .nil))) .nil)) (.two .nil (.two .nil (.join ⟨[], [], [], 160⟩ (.two .nil (.two (.loop ⟨[(7, .val false (.leaf rInt))], [], [], 176⟩ (.two .nil (.two (.two (.meet ⟨[(99, .val false (.leaf .bool))], [], [], 240⟩ .nil .nil) .nil) .nil))) .nil)) .nil))))))) (sg := S6 N) (c := Try.f6.body.getD .skip) (rs := Try.f6.results.toList) Try.func6 (by kernel_rfl) (by kernel_rfl) rfl rfl rfl rfl (fun x => by kernel_rfl)
noncomputable def M.balance_Totals (N : Nat) (a0 : List rPosting.den) : Option (Int × Int) :=
Loop (S := Int × Int × Int) (X := Int × Int) (fun s1 =>
(if (decide (s1.2.2 < (a0.length : Int))) = true then
(idx a0 s1.2.2).bind fun x2 =>
(M.balance_Arrears N x2).bind fun y3 =>
(M.balance_Overpayment N x2).bind fun y4 =>
some (Sum.inl (IntKind.i64.wrap (s1.1 + y3), IntKind.i64.wrap (s1.2.1 + y4), IntKind.i64.wrap (s1.2.2 + (1 : Int))))
else
some (Sum.inr (s1.1, s1.2.1)))) N ((0 : Int), (0 : Int), (0 : Int))
noncomputable def S17 (N : Nat) : Sig := { inn := ⟨[(0, .val false (.leaf (.slice rPosting)))], [], [], 0⟩, out := ⟨[(0, .val false (.leaf rInt)), (1, .val false (.leaf rInt))], [], [], 0⟩, fn := fun (x : List rPosting.den) => M.balance_Totals N x }
theorem W17 (N : Nat) : FnOK Try.prog 17 (S17 N) := fn_ok (E := ⟨tabs, [(13, S13 N), (15, S15 N)], (tabcons (W13 N) (tabcons (W15 N) tabnil)), mixed, false, false⟩) (N := N) (a := (.two .nil (.two .nil (.two (.two .nil (.two (.loop ⟨[(4, .val false (.leaf rInt)), (5, .val false (.leaf rInt)), (10, .val false (.leaf rInt))], [], [], 112⟩ .nil) .nil)) .nil)))) (sg := S17 N) (c := Try.f17.body.getD .skip) (rs := Try.f17.results.toList) Try.func17 (by kernel_rfl) (by kernel_rfl) rfl rfl rfl rfl (fun x => by kernel_rfl)
noncomputable def M.ref38_Totals (N : Nat) (a0 : List rPosting.den) : Option (Int × Int) :=
Loop (S := Int × Int × Int) (X := Int × Int) (fun s1 =>
(if (decide (s1.2.2 < (a0.length : Int))) = true then
(idx a0 s1.2.2).bind fun x2 =>
(M.ref38_Arrears N x2).bind fun y3 =>
(idx a0 s1.2.2).bind fun x4 =>
(M.ref38_Overpayment N x4).bind fun y5 =>
some (Sum.inl (IntKind.i64.wrap (s1.1 + y3), IntKind.i64.wrap (s1.2.1 + y5), IntKind.i64.wrap (s1.2.2 + (1 : Int))))
else
some (Sum.inr (s1.1, s1.2.1)))) N ((0 : Int), (0 : Int), (0 : Int))
noncomputable def S18 (N : Nat) : Sig := { inn := ⟨[(0, .val false (.leaf (.slice rPosting)))], [], [], 0⟩, out := ⟨[(0, .val false (.leaf rInt)), (1, .val false (.leaf rInt))], [], [], 0⟩, fn := fun (x : List rPosting.den) => M.ref38_Totals N x }
theorem W18 (N : Nat) : FnOK Try.prog 18 (S18 N) := fn_ok (E := ⟨tabs, [(14, S14 N), (16, S16 N)], (tabcons (W14 N) (tabcons (W16 N) tabnil)), mixed, false, false⟩) (N := N) (a := (.two .nil (.two .nil (.two (.two .nil (.two (.loop ⟨[(4, .val false (.leaf rInt)), (5, .val false (.leaf rInt)), (6, .val false (.leaf rInt))], [], [], 80⟩ .nil) .nil)) .nil)))) (sg := S18 N) (c := Try.f18.body.getD .skip) (rs := Try.f18.results.toList) Try.func18 (by kernel_rfl) (by kernel_rfl) rfl rfl rfl rfl (fun x => by kernel_rfl)
noncomputable def M.law38_BalanceTotals (N : Nat) (a0 : List rPosting.den) : Option (Bool) :=
(if (decide ((256 : Int) < (a0.length : Int))) = true then
(M.law38_awake N).bind fun y1 =>
some y1
else
Join (J := Unit) (R := Bool) (Loop (S := Int) (X := (Unit) ⊕ (Bool)) (fun s3 =>
(if (decide (s3 < (a0.length : Int))) = true then
(idx a0 s3).bind fun x4 =>
(M.ref38_Within N x4 (4503599627370496 : Int)).bind fun y5 =>
(if (!y5) = true then
(M.law38_awake N).bind fun y6 =>
some (Sum.inr (Sum.inr y6))
else
some (Sum.inl (IntKind.i64.wrap (s3 + (1 : Int)))))
else
some (Sum.inr (Sum.inl ())))) N (0 : Int)) fun j2 =>
(M.balance_Totals N a0).bind fun y7 =>
(M.ref38_Totals N a0).bind fun y8 =>
((if (decide (y7.1 = y8.1)) = true then
(if (decide (y7.2 = y8.2)) = true then
(M.law38_awake N).bind fun y10 =>
some y10
else
some false)
else
some false) : Option (Bool)).bind fun j9 =>
some j9)
noncomputable def S7 (N : Nat) : Sig := { inn := ⟨[(0, .val false (.leaf (.slice rPosting)))], [], [], 0⟩, out := ⟨[(0, .val false (.leaf .bool))], [], [], 0⟩, fn := fun (x : List rPosting.den) => M.law38_BalanceTotals N x }
theorem W7 (N : Nat) : FnOK Try.prog 7 (S7 N) := fn_ok (E := ⟨tabs, [(8, S8 N), (12, S12 N), (17, S17 N), (18, S18 N)], (tabcons (W8 N) (tabcons (W12 N) (tabcons (W17 N) (tabcons (W18 N) tabnil)))), mixed, false, false⟩) (N := N) (a := (.two .nil (.two .nil (.join ⟨[], [], [], 64⟩ (.two .nil (.two (.loop ⟨[(3, .val false (.leaf rInt))], [], [], 80⟩ .nil) .nil)) (.two .nil (.two .nil (.meet ⟨[(2, .val false (.leaf .bool))], [], [], 288⟩ .nil .nil))))))) (sg := S7 N) (c := Try.f7.body.getD .skip) (rs := Try.f7.results.toList) Try.func7 (by kernel_rfl) (by kernel_rfl) rfl rfl rfl rfl (fun x => by kernel_rfl)
noncomputable def M.ledger_ofKind (N : Nat) (a0 : List rPosting.den) (a1 : Int) : Option ((List rPosting.den) × Int) :=
some (a0, a1)
noncomputable def S23 (N : Nat) : Sig := { inn := ⟨[(0, .val false (.leaf (.slice rPosting))), (1, .val false (.leaf rInt))], [], [], 0⟩, out := ⟨[(0, .fn 26 [(0, [], 0), (1, [], 0)])], [(0, .box 23 (.leaf (.slice rPosting))), (1, .box 3 (.leaf rInt))], [], 2⟩, fn := fun (x : (List rPosting.den) × Int) => M.ledger_ofKind N x.1 x.2 }
theorem W23 (N : Nat) : FnOK Try.prog 23 (S23 N) := fn_ok (E := ⟨tabs, [], tabnil, mixed, false, false⟩) (N := N) (a := .nil) (sg := S23 N) (c := Try.f23.body.getD .skip) (rs := Try.f23.results.toList) Try.func23 (by kernel_rfl) (by kernel_rfl) rfl rfl rfl rfl (fun x => by kernel_rfl)
noncomputable def M.ledger_amount (N : Nat) (a0 : rPosting.den) : Option (Int) :=
(if (decide (a0.2.2.1 = (1 : Int))) = true then
some a0.2.2.2
else
((if (decide (a0.2.2.1 = (2 : Int))) = true then
some (decide (a0.2.2.1 = (2 : Int)))
else
some (decide (a0.2.2.1 = (3 : Int)))) : Option (Bool)).bind fun j1 =>
(if j1 = true then
some (IntKind.i64.wrap (0 - a0.2.2.2))
else
some (0 : Int)))
noncomputable def S24 (N : Nat) : Sig := { inn := ⟨[(0, .val true (.leaf rPosting))], [], [], 0⟩, out := ⟨[(0, .val false (.leaf rInt))], [], [], 0⟩, fn := fun (x : rPosting.den) => M.ledger_amount N x }
theorem W24 (N : Nat) : FnOK Try.prog 24 (S24 N) := fn_ok (E := ⟨tabs, [], tabnil, mixed, false, false⟩) (N := N) (a := (.two .nil (.two (.two .nil (.two (.two .nil (.two .nil (.meet ⟨[(9, .val false (.leaf .bool))], [], [], 96⟩ .nil .nil))) .nil)) .nil))) (sg := S24 N) (c := Try.f24.body.getD .skip) (rs := Try.f24.results.toList) Try.func24 (by kernel_rfl) (by kernel_rfl) rfl rfl rfl rfl (fun x => by kernel_rfl)
end Go.Proofs.Ytbhfmiaboidhnaa
