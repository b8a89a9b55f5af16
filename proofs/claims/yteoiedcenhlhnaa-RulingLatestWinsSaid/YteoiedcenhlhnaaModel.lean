/- Written by rx.py: models and walks. -/
import Derived.Test.YteoiedcenhlhnaaFn
import Derived.Test.YteoiedcenhlhnaaProg
namespace Go.Proofs.Yteoiedcenhlhnaa
open Go Go.RowKit
set_option maxRecDepth 100000
set_option linter.unusedVariables false

@[reducible] def rAppeal : Row := .pair rInt (.pair rInt (.pair rInt (.pair rInt (.pair rInt (.pair rInt rInt)))))
@[reducible] def rAward : Row := .pair rInt (.pair rInt rInt)
theorem Ti3 : TI Try.prog 3 rInt := TI.mk (k := 1) (by kernel_rfl) rfl
theorem Ti30 : TI Try.prog 30 rAppeal := TI.mk (k := 7) (by kernel_rfl) rfl
theorem Ti40 : TI Try.prog 40 rInt := TI.mk (k := 1) (by kernel_rfl) rfl
theorem Ti42 : TI Try.prog 42 rAward := TI.mk (k := 3) (by kernel_rfl) rfl
theorem Eq3 : EqOK Try.prog 3 rInt 1 := eqT_int Try.underlying3
theorem Eq40 : EqOK Try.prog 40 rInt 1 := eqT_int Try.underlying40
theorem Eq42 : EqOK Try.prog 42 rAward 2 := eqT_struct Try.underlying42 (by kernel_rfl) (eqF_cons rfl rfl Try.underlying3 (by simp [aggD]) Ti3 Eq3 (eqF_cons rfl rfl Try.underlying3 (by simp [aggD]) Ti3 Eq3 (eqF_last rfl rfl Try.underlying40 (by simp [aggD]) Ti40 Eq40)))
theorem tu : ∀ p ∈ ([(3, .int .i64), (4, .bool), (22, .slice 30), (25, .slice 3), (30, .struct [(3, 0), (3, 1), (3, 2), (3, 3), (3, 4), (3, 5), (3, 6)]), (33, .slice 42), (40, .int .i64), (42, .struct [(3, 0), (3, 1), (40, 2)])] : List (Nat × TyK)), TyKOK Try.prog p.1 p.2 := by
  simp only [List.forall_mem_cons]
  exact ⟨Try.underlying3, Try.underlying4, Try.underlying22, Try.underlying25, ⟨_, Try.underlying30, rfl⟩, Try.underlying33, Try.underlying40, ⟨_, Try.underlying42, rfl⟩,  fun _ h => absurd h (by simp)⟩
theorem tr : ∀ p ∈ ([(3, rInt), (30, rAppeal), (40, rInt), (42, rAward)] : List (Nat × Row)), TI Try.prog p.1 p.2 := by
  simp only [List.forall_mem_cons]
  exact ⟨Ti3, Ti30, Ti40, Ti42,  fun _ h => absurd h (by simp)⟩
theorem te : ∀ p ∈ ([(42, rAward)] : List (Nat × Row)), ∃ K d, EqOK Try.prog p.1 p.2 K ∧ d + K = 10000 ∧ Try.prog.eqGuardType Try.prog.depth p.1 = false ∧ (Try.prog.underlying p.1).any aggD = true := by
  simp only [List.forall_mem_cons]
  exact ⟨⟨2, 9998, Eq42, rfl, by kernel_rfl, by kernel_rfl⟩,  fun _ h => absurd h (by simp)⟩
def tabs : Tabs Try.prog := ⟨_, _, _, forall_find tu, forall_find tr, forall_find te⟩
theorem mixed : Try.prog.follows .mixedOrders = true := by kernel_rfl
noncomputable def M.same_Ints (N : Nat) (a0 : List Int) (a1 : List Int) : Option (Bool) :=
(if (!decide ((a0.length : Int) = (a1.length : Int))) = true then
some false
else
Loop (S := Int) (X := Bool) (fun s1 =>
((if (decide (s1 < (a0.length : Int))) = true then
some (decide (s1 < (a1.length : Int)))
else
some false) : Option (Bool)).bind fun j2 =>
(if j2 = true then
(idx a0 s1).bind fun x3 =>
(idx a1 s1).bind fun x4 =>
(if (!decide (x3 = x4)) = true then
some (Sum.inr false)
else
some (Sum.inl (IntKind.i64.wrap (s1 + (1 : Int)))))
else
some (Sum.inr true))) N (0 : Int))
noncomputable def S9 (N : Nat) : Sig := { inn := ⟨[(0, .val false (.leaf (.slice rInt))), (1, .val false (.leaf (.slice rInt)))], [], [], 0⟩, out := ⟨[(0, .val false (.leaf .bool))], [], [], 0⟩, fn := fun (x : (List Int) × List Int) => M.same_Ints N x.1 x.2 }
theorem W9 (N : Nat) : FnOK Try.prog 9 (S9 N) := fn_ok (E := ⟨tabs, [], tabnil, mixed⟩) (N := N) (a := (.two .nil (.two .nil (.two (.two .nil (.two (.loop ⟨[(5, .val false (.leaf rInt))], [], [], 112⟩ (.two (.meet ⟨[(20, .val false (.leaf .bool))], [], [], 112⟩ .nil .nil) .nil)) .nil)) .nil)))) (sg := S9 N) (c := Try.f9.body.getD .skip) (rs := Try.f9.results.toList) Try.func9 (by kernel_rfl) (by kernel_rfl) rfl rfl rfl rfl (fun x => by kernel_rfl)
noncomputable def M.ruling_StayedMonths (N : Nat) (a0 : List rAppeal.den) : Option (List Int) :=
(mkL (3601 : Int) (0 : Int)).bind fun l1 =>
(Loop (S := Int × List Int) (X := List Int) (fun s3 =>
(if (decide (s3.1 < (a0.length : Int))) = true then
((idx a0 s3.1).bind fun x5 =>
((if (!decide (x5.2.2.2.2.2.1 = (1 : Int))) = true then
some (!decide (x5.2.2.2.2.2.1 = (2 : Int)))
else
some false) : Option (Bool)).bind fun j6 =>
(if j6 = true then
some s3.2
else
(if (decide ((if x5.2.1 < (0 : Int) then (0 : Int) else x5.2.1) < (if (3600 : Int) < x5.2.2.1 then (3600 : Int) else x5.2.2.1))) = true then
(idx s3.2 (if x5.2.1 < (0 : Int) then (0 : Int) else x5.2.1)).bind fun x7 =>
(idx s3.2 (if x5.2.1 < (0 : Int) then (0 : Int) else x5.2.1)).bind fun x8 =>
(idx (setL s3.2 (if x5.2.1 < (0 : Int) then (0 : Int) else x5.2.1) (IntKind.i64.wrap (x7 + (1 : Int)))) (if (3600 : Int) < x5.2.2.1 then (3600 : Int) else x5.2.2.1)).bind fun x9 =>
(idx (setL s3.2 (if x5.2.1 < (0 : Int) then (0 : Int) else x5.2.1) (IntKind.i64.wrap (x7 + (1 : Int)))) (if (3600 : Int) < x5.2.2.1 then (3600 : Int) else x5.2.2.1)).bind fun x10 =>
some (setL (setL s3.2 (if x5.2.1 < (0 : Int) then (0 : Int) else x5.2.1) (IntKind.i64.wrap (x7 + (1 : Int)))) (if (3600 : Int) < x5.2.2.1 then (3600 : Int) else x5.2.2.1) (IntKind.i64.wrap (x9 - (1 : Int))))
else
some s3.2)) : Option (List Int)).bind fun j4 =>
some (Sum.inl (IntKind.i64.wrap (s3.1 + (1 : Int)), j4))
else
some (Sum.inr s3.2))) N ((0 : Int), l1) : Option (List Int)).bind fun j2 =>
Loop (S := Int × Int × List Int) (X := List Int) (fun s11 =>
(if (decide (s11.2.1 < (3600 : Int))) = true then
((idx j2 s11.2.1).bind fun x13 =>
(if (decide ((0 : Int) < (IntKind.i64.wrap (s11.1 + x13)))) = true then
(appA s11.2.2 ([s11.2.1] : List Int)).bind fun l14 =>
some (IntKind.i64.wrap (s11.1 + x13), l14)
else
some (IntKind.i64.wrap (s11.1 + x13), s11.2.2)) : Option (Int × List Int)).bind fun j12 =>
some (Sum.inl (j12.1, IntKind.i64.wrap (s11.2.1 + (1 : Int)), j12.2))
else
some (Sum.inr s11.2.2))) N ((0 : Int), (0 : Int), ([] : List Int))
noncomputable def S10 (N : Nat) : Sig := { inn := ⟨[(0, .val false (.leaf (.slice rAppeal)))], [], [], 0⟩, out := ⟨[(0, .val false (.own 0))], [(0, .own 3 rInt)], [], 1⟩, fn := fun (x : List rAppeal.den) => M.ruling_StayedMonths N x }
theorem W10 (N : Nat) : FnOK Try.prog 10 (S10 N) := fn_ok (E := ⟨tabs, [], tabnil, mixed⟩) (N := N) (a := (.two .nil (.two .nil (.meet ⟨[], [(16, .own 3 rInt)], [], 49⟩ (.two .nil (.two (.loop ⟨[(14, .val false (.leaf rInt))], [(16, .own 3 rInt)], [], 97⟩ (.two .nil (.two .nil (.two (.meet ⟨[], [(16, .own 3 rInt)], [], 114⟩ (.two .nil (.two (.meet ⟨[(25, .val false (.leaf .bool))], [], [], 177⟩ .nil .nil) .nil)) .nil) .nil)))) .nil)) (.two .nil (.two .nil (.two (.two .nil (.two (.loop ⟨[(8, .val false (.own 97)), (9, .val false (.leaf rInt)), (48, .val false (.leaf rInt))], [(97, .own 3 rInt)], [], 98⟩ (.two .nil (.two .nil (.two (.meet ⟨[(8, .val false (.own 114)), (9, .val false (.leaf rInt))], [(114, .own 3 rInt)], [97], 115⟩ .nil .nil) .nil)))) .nil)) .nil))))))) (sg := S10 N) (c := Try.f10.body.getD .skip) (rs := Try.f10.results.toList) Try.func10 (by kernel_rfl) (by kernel_rfl) rfl rfl rfl rfl (fun x => by kernel_rfl)
noncomputable def M.ruling_Granted (N : Nat) (a0 : List rAppeal.den) (a1 : Int) : Option (Int × Bool) :=
Loop (S := Int) (X := Int × Bool) (fun s1 =>
(if (decide ((0 : Int) ≤ s1)) = true then
(idx a0 s1).bind fun x2 =>
((if (decide (x2.2.2.2.2.2.1 = (3 : Int))) = true then
(if (decide (x2.2.1 ≤ a1)) = true then
some (decide (a1 < x2.2.2.1))
else
some false)
else
some false) : Option (Bool)).bind fun j3 =>
(if j3 = true then
some (Sum.inr (x2.2.2.2.2.2.2, true))
else
some (Sum.inl (IntKind.i64.wrap (s1 - (1 : Int)))))
else
some (Sum.inr ((0 : Int), false)))) N (IntKind.i64.wrap ((a0.length : Int) - (1 : Int)))
noncomputable def S14 (N : Nat) : Sig := { inn := ⟨[(0, .val false (.leaf (.slice rAppeal))), (1, .val false (.leaf rInt))], [], [], 0⟩, out := ⟨[(0, .val false (.leaf rInt)), (1, .val false (.leaf .bool))], [], [], 0⟩, fn := fun (x : (List rAppeal.den) × Int) => M.ruling_Granted N x.1 x.2 }
theorem W14 (N : Nat) : FnOK Try.prog 14 (S14 N) := fn_ok (E := ⟨tabs, [], tabnil, mixed⟩) (N := N) (a := (.two .nil (.two (.two .nil (.two (.loop ⟨[(6, .val false (.leaf rInt))], [], [], 96⟩ (.two .nil (.two (.two (.two .nil (.meet ⟨[(33, .val false (.leaf .bool))], [], [], 224⟩ .nil .nil)) .nil) .nil))) .nil)) .nil))) (sg := S14 N) (c := Try.f14.body.getD .skip) (rs := Try.f14.results.toList) Try.func14 (by kernel_rfl) (by kernel_rfl) rfl rfl rfl rfl (fun x => by kernel_rfl)
noncomputable def M.same_Awards (N : Nat) (a0 : List rAward.den) (a1 : List rAward.den) : Option (Bool) :=
(if (!decide ((a0.length : Int) = (a1.length : Int))) = true then
some false
else
Loop (S := Int) (X := Bool) (fun s1 =>
((if (decide (s1 < (a0.length : Int))) = true then
some (decide (s1 < (a1.length : Int)))
else
some false) : Option (Bool)).bind fun j2 =>
(if j2 = true then
(idx a0 s1).bind fun x3 =>
(idx a1 s1).bind fun x4 =>
(if (!(eqR rAward x3 x4)) = true then
some (Sum.inr false)
else
some (Sum.inl (IntKind.i64.wrap (s1 + (1 : Int)))))
else
some (Sum.inr true))) N (0 : Int))
noncomputable def S16 (N : Nat) : Sig := { inn := ⟨[(0, .val false (.leaf (.slice rAward))), (1, .val false (.leaf (.slice rAward)))], [], [], 0⟩, out := ⟨[(0, .val false (.leaf .bool))], [], [], 0⟩, fn := fun (x : (List rAward.den) × List rAward.den) => M.same_Awards N x.1 x.2 }
theorem W16 (N : Nat) : FnOK Try.prog 16 (S16 N) := fn_ok (E := ⟨tabs, [], tabnil, mixed⟩) (N := N) (a := (.two .nil (.two .nil (.two (.two .nil (.two (.loop ⟨[(5, .val false (.leaf rInt))], [], [], 112⟩ (.two (.meet ⟨[(20, .val false (.leaf .bool))], [], [], 112⟩ .nil .nil) .nil)) .nil)) .nil)))) (sg := S16 N) (c := Try.f16.body.getD .skip) (rs := Try.f16.results.toList) Try.func16 (by kernel_rfl) (by kernel_rfl) rfl rfl rfl rfl (fun x => by kernel_rfl)
noncomputable def M.ruling_Apply (N : Nat) (a0 : List rAward.den) (a1 : List rAppeal.den) : Option (List rAward.den) :=
Loop (S := Int × List rAward.den) (X := List rAward.den) (fun s1 =>
(if (decide (s1.1 < (a0.length : Int))) = true then
(idx a0 s1.1).bind fun x2 =>
((M.ruling_Granted N a1 x2.1).bind fun y4 =>
(if y4.2 = true then
some (x2.1, (y4.1, (0 : Int)))
else
some x2) : Option (rAward.den)).bind fun j3 =>
(appA s1.2 ([j3] : List rAward.den)).bind fun l5 =>
some (Sum.inl (IntKind.i64.wrap (s1.1 + (1 : Int)), l5))
else
some (Sum.inr s1.2))) N ((0 : Int), ([] : List rAward.den))
noncomputable def S17 (N : Nat) : Sig := { inn := ⟨[(0, .val false (.leaf (.slice rAward))), (1, .val false (.leaf (.slice rAppeal)))], [], [], 0⟩, out := ⟨[(0, .val false (.own 0))], [(0, .own 42 rAward)], [], 1⟩, fn := fun (x : (List rAward.den) × List rAppeal.den) => M.ruling_Apply N x.1 x.2 }
theorem W17 (N : Nat) : FnOK Try.prog 17 (S17 N) := fn_ok (E := ⟨tabs, [(14, S14 N)], (tabcons (W14 N) tabnil), mixed⟩) (N := N) (a := (.two .nil (.two .nil (.two (.two .nil (.two (.loop ⟨[(5, .val false (.own 80)), (12, .val false (.leaf rInt))], [(80, .own 42 rAward)], [], 81⟩ (.two .nil (.two .nil (.two (.two (.two .nil (.meet ⟨[], [(129, .box 42 (.leaf rAward))], [], 162⟩ .nil .nil)) .nil) .nil)))) .nil)) .nil)))) (sg := S17 N) (c := Try.f17.body.getD .skip) (rs := Try.f17.results.toList) Try.func17 (by kernel_rfl) (by kernel_rfl) rfl rfl rfl rfl (fun x => by kernel_rfl)
noncomputable def M.law42_awake (N : Nat) : Option (Bool) :=
(M.ruling_Granted N ([((0 : Int), ((3 : Int), ((6 : Int), ((0 : Int), ((0 : Int), ((3 : Int), (500 : Int))))))), ((0 : Int), ((5 : Int), ((8 : Int), ((0 : Int), ((0 : Int), ((3 : Int), (700 : Int))))))), ((0 : Int), ((5 : Int), ((7 : Int), ((0 : Int), ((0 : Int), ((2 : Int), (0 : Int)))))))] : List rAppeal.den) (4 : Int)).bind fun y1 =>
(M.ruling_Granted N ([((0 : Int), ((3 : Int), ((6 : Int), ((0 : Int), ((0 : Int), ((3 : Int), (500 : Int))))))), ((0 : Int), ((5 : Int), ((8 : Int), ((0 : Int), ((0 : Int), ((3 : Int), (700 : Int))))))), ((0 : Int), ((5 : Int), ((7 : Int), ((0 : Int), ((0 : Int), ((2 : Int), (0 : Int)))))))] : List rAppeal.den) (5 : Int)).bind fun y2 =>
(M.ruling_Granted N ([((0 : Int), ((3 : Int), ((6 : Int), ((0 : Int), ((0 : Int), ((3 : Int), (500 : Int))))))), ((0 : Int), ((5 : Int), ((8 : Int), ((0 : Int), ((0 : Int), ((3 : Int), (700 : Int))))))), ((0 : Int), ((5 : Int), ((7 : Int), ((0 : Int), ((0 : Int), ((2 : Int), (0 : Int)))))))] : List rAppeal.den) (8 : Int)).bind fun y3 =>
(M.ruling_Apply N ([((2 : Int), ((100 : Int), (0 : Int))), ((5 : Int), ((0 : Int), (10 : Int)))] : List rAward.den) ([((0 : Int), ((3 : Int), ((6 : Int), ((0 : Int), ((0 : Int), ((3 : Int), (500 : Int))))))), ((0 : Int), ((5 : Int), ((8 : Int), ((0 : Int), ((0 : Int), ((3 : Int), (700 : Int))))))), ((0 : Int), ((5 : Int), ((7 : Int), ((0 : Int), ((0 : Int), ((2 : Int), (0 : Int)))))))] : List rAppeal.den)).bind fun y4 =>
((if (decide (y1.1 = (500 : Int))) = true then
(if y1.2 = true then
(if (decide (y2.1 = (700 : Int))) = true then
(if y2.2 = true then
(if (!y3.2) = true then
(M.ruling_StayedMonths N ([((0 : Int), ((3 : Int), ((6 : Int), ((0 : Int), ((0 : Int), ((3 : Int), (500 : Int))))))), ((0 : Int), ((5 : Int), ((8 : Int), ((0 : Int), ((0 : Int), ((3 : Int), (700 : Int))))))), ((0 : Int), ((5 : Int), ((7 : Int), ((0 : Int), ((0 : Int), ((2 : Int), (0 : Int)))))))] : List rAppeal.den)).bind fun y6 =>
(M.same_Ints N y6 ([(5 : Int), (6 : Int)] : List Int)).bind fun y7 =>
(if y7 = true then
(M.same_Awards N y4 ([((2 : Int), ((100 : Int), (0 : Int))), ((5 : Int), ((700 : Int), (0 : Int)))] : List rAward.den)).bind fun y8 =>
some y8
else
some false)
else
some false)
else
some false)
else
some false)
else
some false)
else
some false) : Option (Bool)).bind fun j5 =>
some j5
noncomputable def S8 (N : Nat) : Sig := { inn := ⟨[], [], [], 0⟩, out := ⟨[(0, .val false (.leaf .bool))], [], [], 0⟩, fn := fun (x : Unit) => M.law42_awake N }
theorem W8 (N : Nat) : FnOK Try.prog 8 (S8 N) := fn_ok (E := ⟨tabs, [(9, S9 N), (10, S10 N), (14, S14 N), (16, S16 N), (17, S17 N)], (tabcons (W9 N) (tabcons (W10 N) (tabcons (W14 N) (tabcons (W16 N) (tabcons (W17 N) tabnil))))), mixed⟩) (N := N) (a := (.two .nil (.two .nil (.two .nil (.two .nil (.two .nil (.two .nil (.meet ⟨[(0, .val false (.leaf .bool))], [], [], 528⟩ .nil .nil)))))))) (sg := S8 N) (c := Try.f8.body.getD .skip) (rs := Try.f8.results.toList) Try.func8 (by kernel_rfl) (by kernel_rfl) rfl rfl rfl rfl (fun x => by kernel_rfl)
noncomputable def M.ref42_Pending (N : Nat) (a0 : rAppeal.den) : Option (Bool) :=
((if (decide (a0.2.2.2.2.2.1 = (1 : Int))) = true then
some true
else
some (decide (a0.2.2.2.2.2.1 = (2 : Int)))) : Option (Bool)).bind fun j1 =>
some j1
noncomputable def S12 (N : Nat) : Sig := { inn := ⟨[(0, .val true (.leaf rAppeal))], [], [], 0⟩, out := ⟨[(0, .val false (.leaf .bool))], [], [], 0⟩, fn := fun (x : rAppeal.den) => M.ref42_Pending N x }
theorem W12 (N : Nat) : FnOK Try.prog 12 (S12 N) := fn_ok (E := ⟨tabs, [], tabnil, mixed⟩) (N := N) (a := (.two .nil (.meet ⟨[(2, .val false (.leaf .bool))], [], [], 32⟩ .nil .nil))) (sg := S12 N) (c := Try.f12.body.getD .skip) (rs := Try.f12.results.toList) Try.func12 (by kernel_rfl) (by kernel_rfl) rfl rfl rfl rfl (fun x => by kernel_rfl)
noncomputable def M.ref42_Covers (N : Nat) (a0 : rAppeal.den) (a1 : Int) : Option (Bool) :=
((if (decide (a0.2.1 ≤ a1)) = true then
some (decide (a1 < a0.2.2.1))
else
some false) : Option (Bool)).bind fun j1 =>
some j1
noncomputable def S13 (N : Nat) : Sig := { inn := ⟨[(0, .val true (.leaf rAppeal)), (1, .val false (.leaf rInt))], [], [], 0⟩, out := ⟨[(0, .val false (.leaf .bool))], [], [], 0⟩, fn := fun (x : rAppeal.den × Int) => M.ref42_Covers N x.1 x.2 }
theorem W13 (N : Nat) : FnOK Try.prog 13 (S13 N) := fn_ok (E := ⟨tabs, [], tabnil, mixed⟩) (N := N) (a := (.two .nil (.meet ⟨[(4, .val false (.leaf .bool))], [], [], 32⟩ .nil .nil))) (sg := S13 N) (c := Try.f13.body.getD .skip) (rs := Try.f13.results.toList) Try.func13 (by kernel_rfl) (by kernel_rfl) rfl rfl rfl rfl (fun x => by kernel_rfl)
noncomputable def M.ref42_StayedMonths (N : Nat) (a0 : List rAppeal.den) : Option (List Int) :=
Loop (S := Int × List Int) (X := List Int) (fun s1 =>
(if (decide (s1.1 ≤ (3599 : Int))) = true then
(((Loop (S := Bool × Int) (X := Bool) (fun s5 =>
(if (decide (s5.2 < (a0.length : Int))) = true then
((if s5.1 = true then
some true
else
(idx a0 s5.2).bind fun x7 =>
(M.ref42_Pending N x7).bind fun y8 =>
(if y8 = true then
(idx a0 s5.2).bind fun x9 =>
(M.ref42_Covers N x9 s1.1).bind fun y10 =>
some y10
else
some false)) : Option (Bool)).bind fun j6 =>
some (Sum.inl (j6, IntKind.i64.wrap (s5.2 + (1 : Int))))
else
some (Sum.inr s5.1))) N (false, (0 : Int)) : Option (Bool)).bind fun j4 =>
(if j4 = true then
(appA s1.2 ([s1.1] : List Int)).bind fun l11 =>
some l11
else
some s1.2) : Option (List Int)).bind fun j3 =>
some j3 : Option (List Int)).bind fun j2 =>
some (Sum.inl (IntKind.i64.wrap (s1.1 + (1 : Int)), j2))
else
some (Sum.inr s1.2))) N ((0 : Int), ([] : List Int))
noncomputable def S11 (N : Nat) : Sig := { inn := ⟨[(0, .val false (.leaf (.slice rAppeal)))], [], [], 0⟩, out := ⟨[(0, .val false (.own 0))], [(0, .own 3 rInt)], [], 1⟩, fn := fun (x : List rAppeal.den) => M.ref42_StayedMonths N x }
theorem W11 (N : Nat) : FnOK Try.prog 11 (S11 N) := fn_ok (E := ⟨tabs, [(12, S12 N), (13, S13 N)], (tabcons (W12 N) (tabcons (W13 N) tabnil)), mixed⟩) (N := N) (a := (.two .nil (.two .nil (.two (.two .nil (.two (.loop ⟨[(3, .val false (.own 48)), (4, .val false (.leaf rInt))], [(48, .own 3 rInt)], [], 49⟩ (.two .nil (.meet ⟨[(3, .val false (.own 81))], [(81, .own 3 rInt)], [48], 82⟩ (.meet ⟨[(3, .val false (.own 81))], [(81, .own 3 rInt)], [48], 82⟩ (.two .nil (.meet ⟨[(5, .val false (.leaf .bool))], [], [], 97⟩ (.two .nil (.two (.loop ⟨[(5, .val false (.leaf .bool)), (6, .val false (.leaf rInt))], [], [], 113⟩ (.two .nil (.two (.meet ⟨[(5, .val false (.leaf .bool))], [], [], 177⟩ .nil .nil) .nil))) .nil)) .nil)) .nil) .nil))) .nil)) .nil)))) (sg := S11 N) (c := Try.f11.body.getD .skip) (rs := Try.f11.results.toList) Try.func11 (by kernel_rfl) (by kernel_rfl) rfl rfl rfl rfl (fun x => by kernel_rfl)
noncomputable def M.law42_RulingStayed (N : Nat) (a0 : List rAppeal.den) : Option (Bool) :=
(if (decide ((30 : Int) < (a0.length : Int))) = true then
(M.law42_awake N).bind fun y1 =>
some y1
else
((M.ruling_StayedMonths N a0).bind fun y3 =>
(M.ref42_StayedMonths N a0).bind fun y4 =>
(M.same_Ints N y3 y4).bind fun y5 =>
(if y5 = true then
(M.law42_awake N).bind fun y6 =>
some y6
else
some false) : Option (Bool)).bind fun j2 =>
some j2)
noncomputable def S3 (N : Nat) : Sig := { inn := ⟨[(0, .val false (.leaf (.slice rAppeal)))], [], [], 0⟩, out := ⟨[(0, .val false (.leaf .bool))], [], [], 0⟩, fn := fun (x : List rAppeal.den) => M.law42_RulingStayed N x }
theorem W3 (N : Nat) : FnOK Try.prog 3 (S3 N) := fn_ok (E := ⟨tabs, [(8, S8 N), (9, S9 N), (10, S10 N), (11, S11 N)], (tabcons (W8 N) (tabcons (W9 N) (tabcons (W10 N) (tabcons (W11 N) tabnil)))), mixed⟩) (N := N) (a := (.two .nil (.two .nil (.meet ⟨[(2, .val false (.leaf .bool))], [], [], 64⟩ .nil .nil)))) (sg := S3 N) (c := Try.f3.body.getD .skip) (rs := Try.f3.results.toList) Try.func3 (by kernel_rfl) (by kernel_rfl) rfl rfl rfl rfl (fun x => by kernel_rfl)
noncomputable def M.law42_RulingStayedMonth (N : Nat) (a0 : List rAppeal.den) (a1 : Int) : Option (Bool) :=
(if (decide ((30 : Int) < (a0.length : Int))) = true then
(M.law42_awake N).bind fun y1 =>
some y1
else
(M.ruling_StayedMonths N a0).bind fun y2 =>
Join (J := Bool) (R := Bool) (Loop (S := Bool × Int) (X := (Bool) ⊕ (Bool)) (fun s4 =>
(if (decide (s4.2 < (y2.length : Int))) = true then
((if s4.1 = true then
some true
else
(idx y2 s4.2).bind fun x6 =>
some (decide (x6 = a1))) : Option (Bool)).bind fun j5 =>
((if (decide ((0 : Int) < s4.2)) = true then
(idx y2 (IntKind.i64.wrap (s4.2 - (1 : Int)))).bind fun x8 =>
(idx y2 s4.2).bind fun x9 =>
some (decide (x9 ≤ x8))
else
some false) : Option (Bool)).bind fun j7 =>
(if j7 = true then
some (Sum.inr (Sum.inr false))
else
some (Sum.inl (j5, IntKind.i64.wrap (s4.2 + (1 : Int)))))
else
some (Sum.inr (Sum.inl s4.1)))) N (false, (0 : Int))) fun j3 =>
(Loop (S := Bool × Int) (X := Bool) (fun s11 =>
(if (decide (s11.2 < (a0.length : Int))) = true then
((if s11.1 = true then
some true
else
(idx a0 s11.2).bind fun x13 =>
(M.ref42_Pending N x13).bind fun y14 =>
(if y14 = true then
(idx a0 s11.2).bind fun x15 =>
(M.ref42_Covers N x15 a1).bind fun y16 =>
some y16
else
some false)) : Option (Bool)).bind fun j12 =>
some (Sum.inl (j12, IntKind.i64.wrap (s11.2 + (1 : Int))))
else
some (Sum.inr s11.1))) N (false, (0 : Int)) : Option (Bool)).bind fun j10 =>
((if j10 = true then
(if (decide ((0 : Int) ≤ a1)) = true then
(if (decide (j3 = (decide (a1 ≤ (3599 : Int))))) = true then
(M.law42_awake N).bind fun y18 =>
some y18
else
some false)
else
(if (decide (j3 = false)) = true then
(M.law42_awake N).bind fun y19 =>
some y19
else
some false))
else
(if (decide (j3 = false)) = true then
(M.law42_awake N).bind fun y20 =>
some y20
else
some false)) : Option (Bool)).bind fun j17 =>
some j17)
noncomputable def S4 (N : Nat) : Sig := { inn := ⟨[(0, .val false (.leaf (.slice rAppeal))), (1, .val false (.leaf rInt))], [], [], 0⟩, out := ⟨[(0, .val false (.leaf .bool))], [], [], 0⟩, fn := fun (x : (List rAppeal.den) × Int) => M.law42_RulingStayedMonth N x.1 x.2 }
theorem W4 (N : Nat) : FnOK Try.prog 4 (S4 N) := fn_ok (E := ⟨tabs, [(8, S8 N), (10, S10 N), (12, S12 N), (13, S13 N)], (tabcons (W8 N) (tabcons (W10 N) (tabcons (W12 N) (tabcons (W13 N) tabnil)))), mixed⟩) (N := N) (a := (.two .nil (.two .nil (.two .nil (.two .nil (.join ⟨[(6, .val false (.leaf .bool))], [], [], 144⟩ (.two .nil (.two (.loop ⟨[(6, .val false (.leaf .bool)), (8, .val false (.leaf rInt))], [], [], 160⟩ (.two .nil (.two (.two (.meet ⟨[(6, .val false (.leaf .bool))], [], [], 224⟩ .nil (.meet ⟨[(44, .val false (.leaf .bool))], [], [], 224⟩ .nil .nil)) .nil) .nil))) .nil)) (.meet ⟨[(7, .val false (.leaf .bool))], [], [], 144⟩ (.two .nil (.two (.loop ⟨[(7, .val false (.leaf .bool)), (9, .val false (.leaf rInt))], [], [], 160⟩ (.two .nil (.two (.meet ⟨[(7, .val false (.leaf .bool))], [], [], 224⟩ .nil .nil) .nil))) .nil)) (.meet ⟨[(4, .val false (.leaf .bool))], [], [], 144⟩ .nil .nil)))))))) (sg := S4 N) (c := Try.f4.body.getD .skip) (rs := Try.f4.results.toList) Try.func4 (by kernel_rfl) (by kernel_rfl) rfl rfl rfl rfl (fun x => by kernel_rfl)
noncomputable def M.ref42_Granted (N : Nat) (a0 : List rAppeal.den) (a1 : Int) : Option (Int × Bool) :=
Loop (S := Int) (X := Int × Bool) (fun s1 =>
(if (decide ((0 : Int) ≤ s1)) = true then
((idx a0 s1).bind fun x3 =>
(if (decide (x3.2.2.2.2.2.1 = (3 : Int))) = true then
(idx a0 s1).bind fun x4 =>
(M.ref42_Covers N x4 a1).bind fun y5 =>
some y5
else
some false) : Option (Bool)).bind fun j2 =>
(if j2 = true then
(idx a0 s1).bind fun x6 =>
some (Sum.inr (x6.2.2.2.2.2.2, true))
else
some (Sum.inl (IntKind.i64.wrap (s1 - (1 : Int)))))
else
some (Sum.inr ((0 : Int), false)))) N (IntKind.i64.wrap ((a0.length : Int) - (1 : Int)))
noncomputable def S15 (N : Nat) : Sig := { inn := ⟨[(0, .val false (.leaf (.slice rAppeal))), (1, .val false (.leaf rInt))], [], [], 0⟩, out := ⟨[(0, .val false (.leaf rInt)), (1, .val false (.leaf .bool))], [], [], 0⟩, fn := fun (x : (List rAppeal.den) × Int) => M.ref42_Granted N x.1 x.2 }
theorem W15 (N : Nat) : FnOK Try.prog 15 (S15 N) := fn_ok (E := ⟨tabs, [(13, S13 N)], (tabcons (W13 N) tabnil), mixed⟩) (N := N) (a := (.two .nil (.two (.two .nil (.two (.loop ⟨[(6, .val false (.leaf rInt))], [], [], 96⟩ (.two .nil (.two (.two (.meet ⟨[(27, .val false (.leaf .bool))], [], [], 128⟩ .nil .nil) .nil) .nil))) .nil)) .nil))) (sg := S15 N) (c := Try.f15.body.getD .skip) (rs := Try.f15.results.toList) Try.func15 (by kernel_rfl) (by kernel_rfl) rfl rfl rfl rfl (fun x => by kernel_rfl)
noncomputable def M.ref42_Apply (N : Nat) (a0 : List rAward.den) (a1 : List rAppeal.den) : Option (List rAward.den) :=
Loop (S := Int × List rAward.den) (X := List rAward.den) (fun s1 =>
(if (decide (s1.1 < (a0.length : Int))) = true then
((idx a0 s1.1).bind fun x3 =>
(M.ref42_Granted N a1 x3.1).bind fun y4 =>
(if y4.2 = true then
(idx a0 s1.1).bind fun x5 =>
(appA s1.2 ([(x5.1, (y4.1, (0 : Int)))] : List rAward.den)).bind fun l6 =>
some l6
else
(idx a0 s1.1).bind fun x7 =>
(appA s1.2 ([x7] : List rAward.den)).bind fun l8 =>
some l8) : Option (List rAward.den)).bind fun j2 =>
some (Sum.inl (IntKind.i64.wrap (s1.1 + (1 : Int)), j2))
else
some (Sum.inr s1.2))) N ((0 : Int), ([] : List rAward.den))
noncomputable def S18 (N : Nat) : Sig := { inn := ⟨[(0, .val false (.leaf (.slice rAward))), (1, .val false (.leaf (.slice rAppeal)))], [], [], 0⟩, out := ⟨[(0, .val false (.own 0))], [(0, .own 42 rAward)], [], 1⟩, fn := fun (x : (List rAward.den) × List rAppeal.den) => M.ref42_Apply N x.1 x.2 }
theorem W18 (N : Nat) : FnOK Try.prog 18 (S18 N) := fn_ok (E := ⟨tabs, [(15, S15 N)], (tabcons (W15 N) tabnil), mixed⟩) (N := N) (a := (.two .nil (.two .nil (.two (.two .nil (.two (.loop ⟨[(5, .val false (.own 48)), (6, .val false (.leaf rInt))], [(48, .own 42 rAward)], [], 49⟩ (.two .nil (.two (.meet ⟨[(5, .val false (.own 113))], [(113, .own 42 rAward)], [48], 114⟩ .nil .nil) .nil))) .nil)) .nil)))) (sg := S18 N) (c := Try.f18.body.getD .skip) (rs := Try.f18.results.toList) Try.func18 (by kernel_rfl) (by kernel_rfl) rfl rfl rfl rfl (fun x => by kernel_rfl)
noncomputable def M.law42_RulingApply (N : Nat) (a0 : List rAward.den) (a1 : List rAppeal.den) (a2 : Int) : Option (Bool) :=
((if (decide ((200 : Int) < (a0.length : Int))) = true then
some true
else
some (decide ((100 : Int) < (a1.length : Int)))) : Option (Bool)).bind fun j1 =>
(if j1 = true then
(M.law42_awake N).bind fun y2 =>
some y2
else
(M.ruling_Granted N a1 a2).bind fun y3 =>
(M.ref42_Granted N a1 a2).bind fun y4 =>
((if (decide (y3.1 = y4.1)) = true then
(if (decide (y3.2 = y4.2)) = true then
(M.ruling_Apply N a0 a1).bind fun y6 =>
(M.ref42_Apply N a0 a1).bind fun y7 =>
(M.same_Awards N y6 y7).bind fun y8 =>
(if y8 = true then
(M.law42_awake N).bind fun y9 =>
some y9
else
some false)
else
some false)
else
some false) : Option (Bool)).bind fun j5 =>
some j5)
noncomputable def S5 (N : Nat) : Sig := { inn := ⟨[(0, .val false (.leaf (.slice rAward))), (1, .val false (.leaf (.slice rAppeal))), (2, .val false (.leaf rInt))], [], [], 0⟩, out := ⟨[(0, .val false (.leaf .bool))], [], [], 0⟩, fn := fun (x : (List rAward.den) × (List rAppeal.den) × Int) => M.law42_RulingApply N x.1 x.2.1 x.2.2 }
theorem W5 (N : Nat) : FnOK Try.prog 5 (S5 N) := fn_ok (E := ⟨tabs, [(8, S8 N), (14, S14 N), (15, S15 N), (16, S16 N), (17, S17 N), (18, S18 N)], (tabcons (W8 N) (tabcons (W14 N) (tabcons (W15 N) (tabcons (W16 N) (tabcons (W17 N) (tabcons (W18 N) tabnil)))))), mixed⟩) (N := N) (a := (.two .nil (.two (.meet ⟨[(18, .val false (.leaf .bool))], [], [], 16⟩ .nil .nil) (.two .nil (.two .nil (.meet ⟨[(6, .val false (.leaf .bool))], [], [], 272⟩ .nil .nil)))))) (sg := S5 N) (c := Try.f5.body.getD .skip) (rs := Try.f5.results.toList) Try.func5 (by kernel_rfl) (by kernel_rfl) rfl rfl rfl rfl (fun x => by kernel_rfl)
noncomputable def M.law42_RulingLatestWins (N : Nat) (a0 : List rAppeal.den) (a1 : rAppeal.den) (a2 : Int) : Option (Bool) :=
(if (decide ((100 : Int) < (a0.length : Int))) = true then
(M.law42_awake N).bind fun y1 =>
some y1
else
(M.ruling_Granted N a0 a2).bind fun y2 =>
(appA ([] : List rAppeal.den) a0).bind fun l3 =>
(appA l3 ([a1] : List rAppeal.den)).bind fun l4 =>
(M.ruling_Granted N l4 a2).bind fun y5 =>
((if (decide (a1.2.2.2.2.2.1 = (3 : Int))) = true then
(M.ref42_Covers N a1 a2).bind fun y7 =>
some y7
else
some false) : Option (Bool)).bind fun j6 =>
(if j6 = true then
((if y5.2 = true then
(if (decide (y5.1 = a1.2.2.2.2.2.2)) = true then
(M.law42_awake N).bind fun y9 =>
some y9
else
some false)
else
some false) : Option (Bool)).bind fun j8 =>
some j8
else
((if (decide (y5.1 = y2.1)) = true then
(if (decide (y5.2 = y2.2)) = true then
(M.law42_awake N).bind fun y11 =>
some y11
else
some false)
else
some false) : Option (Bool)).bind fun j10 =>
some j10))
noncomputable def S6 (N : Nat) : Sig := { inn := ⟨[(0, .val false (.leaf (.slice rAppeal))), (1, .val true (.leaf rAppeal)), (2, .val false (.leaf rInt))], [], [], 0⟩, out := ⟨[(0, .val false (.leaf .bool))], [], [], 0⟩, fn := fun (x : (List rAppeal.den) × rAppeal.den × Int) => M.law42_RulingLatestWins N x.1 x.2.1 x.2.2 }
theorem W6 (N : Nat) : FnOK Try.prog 6 (S6 N) := fn_ok (E := ⟨tabs, [(8, S8 N), (13, S13 N), (14, S14 N)], (tabcons (W8 N) (tabcons (W13 N) (tabcons (W14 N) tabnil))), mixed⟩) (N := N) (a := (.two .nil (.two .nil (.two .nil (.two .nil (.two (.meet ⟨[(39, .val false (.leaf .bool))], [], [], 416⟩ .nil (.two (.meet ⟨[(6, .val false (.leaf .bool))], [], [], 416⟩ .nil .nil) .nil)) (.meet ⟨[(6, .val false (.leaf .bool))], [], [], 416⟩ .nil .nil))))))) (sg := S6 N) (c := Try.f6.body.getD .skip) (rs := Try.f6.results.toList) Try.func6 (by kernel_rfl) (by kernel_rfl) rfl rfl rfl rfl (fun x => by kernel_rfl)
noncomputable def M.law42_RulingIdempotent (N : Nat) (a0 : List rAward.den) (a1 : List rAppeal.den) : Option (Bool) :=
((if (decide ((200 : Int) < (a0.length : Int))) = true then
some true
else
some (decide ((100 : Int) < (a1.length : Int)))) : Option (Bool)).bind fun j1 =>
(if j1 = true then
(M.law42_awake N).bind fun y2 =>
some y2
else
(M.ruling_Apply N a0 a1).bind fun y3 =>
(if (!decide ((y3.length : Int) = (a0.length : Int))) = true then
some false
else
Join (J := Unit) (R := Bool) (Loop (S := Int) (X := (Unit) ⊕ (Bool)) (fun s5 =>
(if (decide (s5 < (a0.length : Int))) = true then
(idx a0 s5).bind fun x6 =>
(M.ruling_Granted N a1 x6.1).bind fun y7 =>
((idx y3 s5).bind fun x9 =>
(idx a0 s5).bind fun x10 =>
(if (!decide (x9.1 = x10.1)) = true then
some true
else
(if (!y7.2) = true then
(idx y3 s5).bind fun x11 =>
(idx a0 s5).bind fun x12 =>
(if (!(eqR rAward x11 x12)) = true then
some true
else
(if y7.2 = true then
(idx y3 s5).bind fun x13 =>
(if (!decide (x13.2.1 = y7.1)) = true then
some true
else
(idx y3 s5).bind fun x14 =>
some (!decide (x14.2.2 = (0 : Int))))
else
some false))
else
(if y7.2 = true then
(idx y3 s5).bind fun x15 =>
(if (!decide (x15.2.1 = y7.1)) = true then
some true
else
(idx y3 s5).bind fun x16 =>
some (!decide (x16.2.2 = (0 : Int))))
else
some false))) : Option (Bool)).bind fun j8 =>
(if j8 = true then
some (Sum.inr (Sum.inr false))
else
some (Sum.inl (IntKind.i64.wrap (s5 + (1 : Int)))))
else
some (Sum.inr (Sum.inl ())))) N (0 : Int)) fun j4 =>
((M.ruling_Apply N y3 a1).bind fun y18 =>
(M.same_Awards N y18 y3).bind fun y19 =>
(if y19 = true then
(M.law42_awake N).bind fun y20 =>
some y20
else
some false) : Option (Bool)).bind fun j17 =>
some j17))
noncomputable def S7 (N : Nat) : Sig := { inn := ⟨[(0, .val false (.leaf (.slice rAward))), (1, .val false (.leaf (.slice rAppeal)))], [], [], 0⟩, out := ⟨[(0, .val false (.leaf .bool))], [], [], 0⟩, fn := fun (x : (List rAward.den) × List rAppeal.den) => M.law42_RulingIdempotent N x.1 x.2 }
theorem W7 (N : Nat) : FnOK Try.prog 7 (S7 N) := fn_ok (E := ⟨tabs, [(8, S8 N), (14, S14 N), (16, S16 N), (17, S17 N)], (tabcons (W8 N) (tabcons (W14 N) (tabcons (W16 N) (tabcons (W17 N) tabnil)))), mixed⟩) (N := N) (a := (.two .nil (.two (.meet ⟨[(16, .val false (.leaf .bool))], [], [], 16⟩ .nil .nil) (.two .nil (.two .nil (.join ⟨[], [], [], 160⟩ (.two .nil (.two (.loop ⟨[(6, .val false (.leaf rInt))], [], [], 176⟩ (.two .nil (.two (.two (.two .nil (.meet ⟨[(87, .val false (.leaf .bool))], [], [], 432⟩ .nil .nil)) .nil) .nil))) .nil)) (.meet ⟨[(4, .val false (.leaf .bool))], [], [], 160⟩ .nil .nil))))))) (sg := S7 N) (c := Try.f7.body.getD .skip) (rs := Try.f7.results.toList) Try.func7 (by kernel_rfl) (by kernel_rfl) rfl rfl rfl rfl (fun x => by kernel_rfl)
end Go.Proofs.Yteoiedcenhlhnaa
