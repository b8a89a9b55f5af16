/- Written by rx.py: models and walks. -/
import Derived.Test.YtmnbfioadkhahaaFn
import Derived.Test.YtmnbfioadkhahaaProg
namespace Go.Proofs.Ytmnbfioadkhahaa
open Go Go.RowKit
set_option maxRecDepth 100000
set_option linter.unusedVariables false

@[reducible] def rNotice : Row := .pair rInt (.pair rInt (.pair rInt (.pair rInt rInt)))
@[reducible] def routbox_inbox : Row := .pair (.slice rInt) (.nul .map)
theorem Ti3 : TI Try.prog 3 rInt := TI.mk (k := 1) (by kernel_rfl) rfl
theorem Ti4 : TI Try.prog 4 .bool := TI.mk (k := 1) (by kernel_rfl) rfl
theorem Ti22 : TI Try.prog 22 (.slice rInt) := TI.mk (k := 1) (by kernel_rfl) rfl
theorem Ti24 : TI Try.prog 24 (.slice rInt) := TI.mk (k := 1) (by kernel_rfl) rfl
theorem Ti26 : TI Try.prog 26 rNotice := TI.mk (k := 5) (by kernel_rfl) rfl
theorem Ti42 : TI Try.prog 42 (.nul .map) := TI.mk (k := 1) (by kernel_rfl) rfl
theorem Ti44 : TI Try.prog 44 routbox_inbox := TI.mk (k := 2) (by kernel_rfl) rfl
theorem Eq3 : EqOK Try.prog 3 rInt 1 := eqT_int Try.underlying3
theorem Eq26 : EqOK Try.prog 26 rNotice 2 := eqT_struct Try.underlying26 (by kernel_rfl) (eqF_cons rfl rfl Try.underlying3 (by simp [aggD]) Ti3 Eq3 (eqF_cons rfl rfl Try.underlying3 (by simp [aggD]) Ti3 Eq3 (eqF_cons rfl rfl Try.underlying3 (by simp [aggD]) Ti3 Eq3 (eqF_cons rfl rfl Try.underlying3 (by simp [aggD]) Ti3 Eq3 (eqF_last rfl rfl Try.underlying3 (by simp [aggD]) Ti3 Eq3)))))
theorem tu : ∀ p ∈ ([(3, .int .i64), (4, .bool), (22, .slice 3), (24, .struct [(22, 0)]), (26, .struct [(3, 0), (3, 1), (3, 2), (3, 3), (3, 4)]), (33, .slice 26), (39, .other), (42, .map 3 4), (44, .struct [(22, 0), (42, 1)])] : List (Nat × TyK)), TyKOK Try.prog p.1 p.2 := by
  simp only [List.forall_mem_cons]
  exact ⟨Try.underlying3, Try.underlying4, Try.underlying22, ⟨_, Try.underlying24, rfl⟩, ⟨_, Try.underlying26, rfl⟩, Try.underlying33, ⟨_, Try.underlying39, rfl⟩, Try.underlying42, ⟨_, Try.underlying44, rfl⟩,  fun _ h => absurd h (by simp)⟩
theorem tr : ∀ p ∈ ([(3, rInt), (4, .bool), (22, (.slice rInt)), (24, (.slice rInt)), (26, rNotice), (42, (.nul .map)), (44, routbox_inbox)] : List (Nat × Row)), TI Try.prog p.1 p.2 := by
  simp only [List.forall_mem_cons]
  exact ⟨Ti3, Ti4, Ti22, Ti24, Ti26, Ti42, Ti44,  fun _ h => absurd h (by simp)⟩
theorem te : ∀ p ∈ ([(26, rNotice)] : List (Nat × Row)), ∃ K d, EqOK Try.prog p.1 p.2 K ∧ d + K = 10000 ∧ Try.prog.eqGuardType Try.prog.depth p.1 = false ∧ (Try.prog.underlying p.1).any aggD = true := by
  simp only [List.forall_mem_cons]
  exact ⟨⟨2, 9998, Eq26, rfl, by kernel_rfl, by kernel_rfl⟩,  fun _ h => absurd h (by simp)⟩
theorem tz : ∀ p ∈ ([(4, (false, .bool))] : List (Nat × (Bool × Row))), ZeroOK Try.prog p.1 p.2.1 p.2.2 := by
  simp only [List.forall_mem_cons]
  exact ⟨⟨_, by kernel_rfl, rfl⟩,  fun _ h => absurd h (by simp)⟩
def tabs : Tabs Try.prog := ⟨_, _, _, _, forall_find tu, forall_find tr, forall_find te, fun t a r h => forall_find (Q := fun t p => ZeroOK Try.prog t p.1 p.2) tz t (a, r) h⟩
theorem mixed : Try.prog.follows .mixedOrders = true := by kernel_rfl
noncomputable def M.outbox_Contains (N : Nat) (a0 : List Int) (a1 : Int) : Option (Bool) :=
Loop (S := Int) (X := Bool) (fun s1 =>
(if (decide (s1 < (a0.length : Int))) = true then
(idx a0 s1).bind fun x2 =>
(if (decide (x2 = a1)) = true then
some (Sum.inr true)
else
some (Sum.inl (IntKind.i64.wrap (s1 + (1 : Int)))))
else
some (Sum.inr false))) N (0 : Int)
noncomputable def S11 (N : Nat) : Sig := { inn := ⟨[(0, .val true (.leaf (.slice rInt))), (1, .val false (.leaf rInt))], [], [], 0⟩, out := ⟨[(0, .val false (.leaf .bool))], [], [], 0⟩, fn := fun (x : (List Int) × Int) => M.outbox_Contains N x.1 x.2 }
theorem W11 (N : Nat) : FnOK Try.prog 11 (S11 N) := fn_ok (E := ⟨tabs, [], tabnil, mixed⟩) (N := N) (a := (.two .nil (.two (.two .nil (.two (.loop ⟨[(10, .val false (.leaf rInt))], [], [], 96⟩ .nil) .nil)) .nil))) (sg := S11 N) (c := Try.f11.body.getD .skip) (rs := Try.f11.results.toList) Try.func11 (by kernel_rfl) (by kernel_rfl) rfl rfl rfl rfl (fun x => by kernel_rfl)
noncomputable def M.outbox_Deliver (N : Nat) (a0 : List Int) (a1 : rNotice.den) : Option (Bool × List Int) :=
(appA ([] : List Int) a0).bind fun l1 =>
(M.outbox_Contains N a0 a1.1).bind fun y2 =>
(if y2 = true then
some (false, l1)
else
(appA l1 ([a1.1] : List Int)).bind fun l3 =>
some (true, l3))
noncomputable def S8 (N : Nat) : Sig := { inn := ⟨[(0, .val true (.leaf (.slice rInt))), (1, .val true (.leaf rNotice))], [], [], 0⟩, out := ⟨[(0, .val true (.own 0)), (1, .val false (.leaf .bool))], [(0, .own 3 rInt)], [], 1⟩, fn := fun (x : (List Int) × rNotice.den) => M.outbox_Deliver N x.1 x.2 }
theorem W8 (N : Nat) : FnOK Try.prog 8 (S8 N) := fn_ok (E := ⟨tabs, [(11, S11 N)], (tabcons (W11 N) tabnil), mixed⟩) (N := N) (a := .nil) (sg := S8 N) (c := Try.f8.body.getD .skip) (rs := Try.f8.results.toList) Try.func8 (by kernel_rfl) (by kernel_rfl) rfl rfl rfl rfl (fun x => by kernel_rfl)
noncomputable def M.same_Ints (N : Nat) (a0 : List Int) (a1 : List Int) : Option (Bool) :=
(if (!decide ((a0.length : Int) = (a1.length : Int))) = true then
some false
else
Loop (S := Int) (X := Bool) (fun s1 =>
((if (decide (s1 < (a0.length : Int))) = true then
some (decide (s1 < (a1.length : Int)))
else
some false) : Option (Bool)).bind fun j2 =>
(if j2 = true then
(idx a0 s1).bind fun x3 =>
(idx a1 s1).bind fun x4 =>
(if (!decide (x3 = x4)) = true then
some (Sum.inr false)
else
some (Sum.inl (IntKind.i64.wrap (s1 + (1 : Int)))))
else
some (Sum.inr true))) N (0 : Int))
noncomputable def S10 (N : Nat) : Sig := { inn := ⟨[(0, .val false (.leaf (.slice rInt))), (1, .val false (.leaf (.slice rInt)))], [], [], 0⟩, out := ⟨[(0, .val false (.leaf .bool))], [], [], 0⟩, fn := fun (x : (List Int) × List Int) => M.same_Ints N x.1 x.2 }
theorem W10 (N : Nat) : FnOK Try.prog 10 (S10 N) := fn_ok (E := ⟨tabs, [], tabnil, mixed⟩) (N := N) (a := (.two .nil (.two .nil (.two (.two .nil (.two (.loop ⟨[(5, .val false (.leaf rInt))], [], [], 112⟩ (.two (.meet ⟨[(20, .val false (.leaf .bool))], [], [], 112⟩ .nil .nil) .nil)) .nil)) .nil)))) (sg := S10 N) (c := Try.f10.body.getD .skip) (rs := Try.f10.results.toList) Try.func10 (by kernel_rfl) (by kernel_rfl) rfl rfl rfl rfl (fun x => by kernel_rfl)
noncomputable def M.outbox_newInbox (N : Nat) (a0 : List Int) : Option ((List Int) × List (Int × Bool)) :=
(appA ([] : List Int) a0).bind fun l1 =>
Loop (S := Int × List (Int × Bool)) (X := (List Int) × List (Int × Bool)) (fun s2 =>
(if (decide (s2.1 < (l1.length : Int))) = true then
(idx l1 s2.1).bind fun x3 =>
some (Sum.inl (IntKind.i64.wrap (s2.1 + (1 : Int)), putA rInt s2.2 x3 true))
else
some (Sum.inr (l1, s2.2)))) N ((0 : Int), ([] : List (Int × Bool)))
noncomputable def S17 (N : Nat) : Sig := { inn := ⟨[(0, .val true (.leaf (.slice rInt)))], [], [], 0⟩, out := ⟨[(0, .ptr 0 [] 0)], [(0, .box 44 (.pair (.own 1) (.own 2))), (1, .own 3 rInt), (2, .map 42 rInt false .bool)], [], 3⟩, fn := fun (x : List Int) => M.outbox_newInbox N x }
theorem W17 (N : Nat) : FnOK Try.prog 17 (S17 N) := fn_ok (E := ⟨tabs, [], tabnil, mixed⟩) (N := N) (a := (.two .nil (.two .nil (.two (.two .nil (.two (.loop ⟨[(17, .val false (.leaf rInt))], [(80, .map 42 rInt false .bool)], [], 241⟩ .nil) .nil)) .nil)))) (sg := S17 N) (c := Try.f17.body.getD .skip) (rs := Try.f17.results.toList) Try.func17 (by kernel_rfl) (by kernel_rfl) rfl rfl rfl rfl (fun x => by kernel_rfl)
noncomputable def M.outbox_inbox_accept (N : Nat) (a0 : Int) (a1 : List Int) (a2 : List (Int × Bool)) : Option ((List (Int × Bool)) × List Int) :=
(if ((lookA rInt a2 a0).getD false) = true then
some (a2, a1)
else
(appA a1 ([a0] : List Int)).bind fun l1 =>
some (putA rInt a2 a0 true, l1))
noncomputable def S18 (N : Nat) : Sig := { inn := ⟨[(0, .ptr 0 [] 0), (1, .val false (.leaf rInt))], [(0, .box 44 (.pair (.own 1) (.own 2))), (1, .own 3 rInt), (2, .map 42 rInt false .bool)], [], 3⟩, out := ⟨[], [(0, .box 44 (.pair (.own 3) (.own 2))), (2, .map 42 rInt false .bool), (3, .own 3 rInt)], [], 6⟩, fn := fun (x : Int × (List Int) × List (Int × Bool)) => M.outbox_inbox_accept N x.1 x.2.1 x.2.2 }
theorem W18 (N : Nat) : FnOK Try.prog 18 (S18 N) := fn_ok (E := ⟨tabs, [], tabnil, mixed⟩) (N := N) (a := .nil) (sg := S18 N) (c := Try.f18.body.getD .skip) (rs := Try.f18.results.toList) Try.func18 (by kernel_rfl) (by kernel_rfl) rfl rfl rfl rfl (fun x => by kernel_rfl)
noncomputable def M.outbox_SendAll (N : Nat) (a0 : List Int) (a1 : List rNotice.den) (a2 : List Int) : Option ((List Int) × List rNotice.den) :=
(M.outbox_newInbox N a0).bind fun y1 =>
(appA ([] : List rNotice.den) a1).bind fun l2 =>
(Loop (S := Int × (List (Int × Bool)) × (List rNotice.den) × List Int) (X := (List (Int × Bool)) × (List rNotice.den) × List Int) (fun s4 =>
((if (decide ((0 : Int) < (s4.2.2.1.length : Int))) = true then
some (decide (s4.1 < (a2.length : Int)))
else
some false) : Option (Bool)).bind fun j5 =>
(if j5 = true then
(Join (J := Int × (List (Int × Bool)) × (List rNotice.den) × List Int) (R := Int × (List (Int × Bool)) × (List rNotice.den) × List Int) (Loop (S := Int × Int × (List (Int × Bool)) × (List rNotice.den) × (List rNotice.den) × List Int) (X := (Int × (List (Int × Bool)) × (List rNotice.den) × List Int) ⊕ (Int × (List (Int × Bool)) × (List rNotice.den) × List Int)) (fun s8 =>
(if (decide (s8.2.1 < (s4.2.2.1.length : Int))) = true then
Join (J := Int × (List (Int × Bool)) × (List rNotice.den) × (List rNotice.den) × List Int) (R := (Int × Int × (List (Int × Bool)) × (List rNotice.den) × (List rNotice.den) × List Int) ⊕ ((Int × (List (Int × Bool)) × (List rNotice.den) × List Int) ⊕ (Int × (List (Int × Bool)) × (List rNotice.den) × List Int))) ((idx s8.2.2.2.1 s8.2.1).bind fun x10 =>
(if (decide (s8.1 = (a2.length : Int))) = true then
(cutA s8.2.2.2.1 s8.2.1 (s8.2.2.2.1.length : Int)).bind fun l11 =>
(appA s8.2.2.2.2.1 l11).bind fun l12 =>
some (Sum.inr (Sum.inr (Sum.inr (s8.1, s8.2.2.1, l12, s8.2.2.2.2.2))))
else
(idx a2 s8.1).bind fun x13 =>
(((if (decide (x13 = (0 : Int))) = true then
some true
else
some (decide (x13 = (1 : Int)))) : Option (Bool)).bind fun j15 =>
(if j15 = true then
(M.outbox_inbox_accept N x10.1 s8.2.2.2.2.2 s8.2.2.1).bind fun y16 =>
some (y16.1, y16.2)
else
some (s8.2.2.1, s8.2.2.2.2.2)) : Option ((List (Int × Bool)) × List Int)).bind fun j14 =>
(if (!decide (x13 = (0 : Int))) = true then
(appA s8.2.2.2.2.1 ([x10] : List rNotice.den)).bind fun l17 =>
some (Sum.inl (IntKind.i64.wrap (s8.1 + (1 : Int)), j14.1, s8.2.2.2.1, l17, j14.2))
else
some (Sum.inl (IntKind.i64.wrap (s8.1 + (1 : Int)), j14.1, s8.2.2.2.1, s8.2.2.2.2.1, j14.2))))) fun j9 =>
some (Sum.inl (j9.1, IntKind.i64.wrap (s8.2.1 + (1 : Int)), j9.2.1, j9.2.2.1, j9.2.2.2.1, j9.2.2.2.2))
else
some (Sum.inr (Sum.inl (s8.1, s8.2.2.1, s8.2.2.2.2.1, s8.2.2.2.2.2))))) N (s4.1, (0 : Int), s4.2.1, s4.2.2.1, ([] : List rNotice.den), s4.2.2.2)) fun j7 =>
some (j7.1, j7.2.1, j7.2.2.1, j7.2.2.2) : Option (Int × (List (Int × Bool)) × (List rNotice.den) × List Int)).bind fun j6 =>
some (Sum.inl (j6.1, j6.2.1, j6.2.2.1, j6.2.2.2))
else
some (Sum.inr (s4.2.1, s4.2.2.1, s4.2.2.2)))) N ((0 : Int), y1.2, l2, y1.1) : Option ((List (Int × Bool)) × (List rNotice.den) × List Int)).bind fun j3 =>
some (j3.2.2, j3.2.1)
noncomputable def S13 (N : Nat) : Sig := { inn := ⟨[(0, .val true (.leaf (.slice rInt))), (1, .val false (.leaf (.slice rNotice))), (2, .val false (.leaf (.slice rInt)))], [], [], 0⟩, out := ⟨[(0, .val true (.own 0)), (1, .val false (.own 1))], [(0, .own 3 rInt), (1, .own 26 rNotice)], [], 2⟩, fn := fun (x : (List Int) × (List rNotice.den) × List Int) => M.outbox_SendAll N x.1 x.2.1 x.2.2 }
theorem W13 (N : Nat) : FnOK Try.prog 13 (S13 N) := fn_ok (E := ⟨tabs, [(17, S17 N), (18, S18 N)], (tabcons (W17 N) (tabcons (W18 N) tabnil)), mixed⟩) (N := N) (a := (.two .nil (.two (.two .nil (.two .nil (.two .nil (.two .nil (.meet ⟨[(9, .val false (.own 160))], [(64, .box 44 (.pair (.own 161) (.own 66))), (66, .map 42 rInt false .bool), (160, .own 26 rNotice), (161, .own 3 rInt)], [65, 112], 164⟩ (.two (.loop ⟨[(9, .val false (.own 160)), (10, .val false (.leaf rInt))], [(64, .box 44 (.pair (.own 161) (.own 66))), (66, .map 42 rInt false .bool), (160, .own 26 rNotice), (161, .own 3 rInt)], [65, 112], 164⟩ (.two (.meet ⟨[(27, .val false (.leaf .bool))], [], [], 164⟩ .nil .nil) (.meet ⟨[(9, .val false (.own 164)), (10, .val false (.leaf rInt))], [(64, .box 44 (.pair (.own 165) (.own 66))), (66, .map 42 rInt false .bool), (164, .own 26 rNotice), (165, .own 3 rInt)], [160, 161], 168⟩ (.two .nil (.join ⟨[(10, .val false (.leaf rInt)), (11, .val false (.own 180))], [(64, .box 44 (.pair (.own 181) (.own 66))), (66, .map 42 rInt false .bool), (180, .own 26 rNotice), (181, .own 3 rInt)], [160, 161], 184⟩ (.two .nil (.two (.loop ⟨[(9, .val false (.own 160)), (10, .val false (.leaf rInt)), (11, .val false (.own 228)), (30, .val false (.leaf rInt))], [(64, .box 44 (.pair (.own 229) (.own 66))), (66, .map 42 rInt false .bool), (160, .own 26 rNotice), (228, .own 26 rNotice), (229, .own 3 rInt)], [161], 233⟩ (.two .nil (.two .nil (.two (.join ⟨[(9, .val false (.own 160)), (10, .val false (.leaf rInt)), (11, .val false (.own 249))], [(64, .box 44 (.pair (.own 250) (.own 66))), (66, .map 42 rInt false .bool), (160, .own 26 rNotice), (249, .own 26 rNotice), (250, .own 3 rInt)], [228, 229], 254⟩ (.two .nil (.two .nil (.two .nil (.two .nil (.meet ⟨[], [(64, .box 44 (.pair (.own 537) (.own 66))), (66, .map 42 rInt false .bool), (537, .own 3 rInt)], [229], 540⟩ (.meet ⟨[(55, .val false (.leaf .bool))], [], [], 537⟩ .nil .nil) .nil))))) .nil) .nil)))) .nil)) .nil)) .nil))) .nil) .nil))))) .nil))) (sg := S13 N) (c := Try.f13.body.getD .skip) (rs := Try.f13.results.toList) Try.func13 (by kernel_rfl) (by kernel_rfl) rfl rfl rfl rfl (fun x => by kernel_rfl)
noncomputable def M.law46_awake (N : Nat) : Option (Bool) :=
(M.outbox_SendAll N ([] : List Int) ([((5 : Int), ((0 : Int), ((0 : Int), ((0 : Int), (0 : Int))))), ((9 : Int), ((0 : Int), ((0 : Int), ((0 : Int), (0 : Int)))))] : List rNotice.den) ([(1 : Int), (0 : Int), (0 : Int)] : List Int)).bind fun y1 =>
(M.outbox_Deliver N y1.1 ((9 : Int), ((0 : Int), ((0 : Int), ((0 : Int), (0 : Int)))))).bind fun y2 =>
((M.same_Ints N y1.1 ([(5 : Int), (9 : Int)] : List Int)).bind fun y4 =>
(if y4 = true then
(if (decide ((y1.2.length : Int) = (0 : Int))) = true then
(M.same_Ints N y2.2 y1.1).bind fun y5 =>
(if y5 = true then
(if (!y2.1) = true then
(M.outbox_Contains N y1.1 (5 : Int)).bind fun y6 =>
(if y6 = true then
(M.outbox_Contains N y1.1 (6 : Int)).bind fun y7 =>
some (!y7)
else
some false)
else
some false)
else
some false)
else
some false)
else
some false) : Option (Bool)).bind fun j3 =>
some j3
noncomputable def S7 (N : Nat) : Sig := { inn := ⟨[], [], [], 0⟩, out := ⟨[(0, .val false (.leaf .bool))], [], [], 0⟩, fn := fun (x : Unit) => M.law46_awake N }
theorem W7 (N : Nat) : FnOK Try.prog 7 (S7 N) := fn_ok (E := ⟨tabs, [(8, S8 N), (10, S10 N), (11, S11 N), (13, S13 N)], (tabcons (W8 N) (tabcons (W10 N) (tabcons (W11 N) (tabcons (W13 N) tabnil)))), mixed⟩) (N := N) (a := (.two .nil (.two .nil (.two .nil (.two .nil (.meet ⟨[(0, .val false (.leaf .bool))], [], [], 384⟩ .nil .nil)))))) (sg := S7 N) (c := Try.f7.body.getD .skip) (rs := Try.f7.results.toList) Try.func7 (by kernel_rfl) (by kernel_rfl) rfl rfl rfl rfl (fun x => by kernel_rfl)
noncomputable def M.ref46_Contains (N : Nat) (a0 : List Int) (a1 : Int) : Option (Bool) :=
Loop (S := Int) (X := Bool) (fun s1 =>
(if (decide (s1 < (a0.length : Int))) = true then
(idx a0 s1).bind fun x2 =>
(if (decide (x2 = a1)) = true then
some (Sum.inr true)
else
some (Sum.inl (IntKind.i64.wrap (s1 + (1 : Int)))))
else
some (Sum.inr false))) N (0 : Int)
noncomputable def S12 (N : Nat) : Sig := { inn := ⟨[(0, .val true (.leaf (.slice rInt))), (1, .val false (.leaf rInt))], [], [], 0⟩, out := ⟨[(0, .val false (.leaf .bool))], [], [], 0⟩, fn := fun (x : (List Int) × Int) => M.ref46_Contains N x.1 x.2 }
theorem W12 (N : Nat) : FnOK Try.prog 12 (S12 N) := fn_ok (E := ⟨tabs, [], tabnil, mixed⟩) (N := N) (a := (.two .nil (.two (.two .nil (.two (.loop ⟨[(5, .val false (.leaf rInt))], [], [], 48⟩ .nil) .nil)) .nil))) (sg := S12 N) (c := Try.f12.body.getD .skip) (rs := Try.f12.results.toList) Try.func12 (by kernel_rfl) (by kernel_rfl) rfl rfl rfl rfl (fun x => by kernel_rfl)
noncomputable def M.ref46_Deliver (N : Nat) (a0 : List Int) (a1 : rNotice.den) : Option (Bool × List Int) :=
(appA ([] : List Int) a0).bind fun l1 =>
(M.ref46_Contains N a0 a1.1).bind fun y2 =>
(if y2 = true then
some (false, l1)
else
(appA l1 ([a1.1] : List Int)).bind fun l3 =>
some (true, l3))
noncomputable def S9 (N : Nat) : Sig := { inn := ⟨[(0, .val true (.leaf (.slice rInt))), (1, .val true (.leaf rNotice))], [], [], 0⟩, out := ⟨[(0, .val true (.own 0)), (1, .val false (.leaf .bool))], [(0, .own 3 rInt)], [], 1⟩, fn := fun (x : (List Int) × rNotice.den) => M.ref46_Deliver N x.1 x.2 }
theorem W9 (N : Nat) : FnOK Try.prog 9 (S9 N) := fn_ok (E := ⟨tabs, [(12, S12 N)], (tabcons (W12 N) tabnil), mixed⟩) (N := N) (a := .nil) (sg := S9 N) (c := Try.f9.body.getD .skip) (rs := Try.f9.results.toList) Try.func9 (by kernel_rfl) (by kernel_rfl) rfl rfl rfl rfl (fun x => by kernel_rfl)
noncomputable def M.law46_OutboxDeliver (N : Nat) (a0 : List Int) (a1 : rNotice.den) : Option (Bool) :=
(if (decide ((1000 : Int) < (a0.length : Int))) = true then
(M.law46_awake N).bind fun y1 =>
some y1
else
(M.outbox_Deliver N a0 a1).bind fun y2 =>
(M.ref46_Deliver N a0 a1).bind fun y3 =>
((M.same_Ints N y2.2 y3.2).bind fun y5 =>
(if y5 = true then
(if (decide (y2.1 = y3.1)) = true then
(M.outbox_Contains N a0 a1.1).bind fun y6 =>
(M.ref46_Contains N a0 a1.1).bind fun y7 =>
(if (decide (y6 = y7)) = true then
(M.law46_awake N).bind fun y8 =>
some y8
else
some false)
else
some false)
else
some false) : Option (Bool)).bind fun j4 =>
some j4)
noncomputable def S3 (N : Nat) : Sig := { inn := ⟨[(0, .val true (.leaf (.slice rInt))), (1, .val true (.leaf rNotice))], [], [], 0⟩, out := ⟨[(0, .val false (.leaf .bool))], [], [], 0⟩, fn := fun (x : (List Int) × rNotice.den) => M.law46_OutboxDeliver N x.1 x.2 }
theorem W3 (N : Nat) : FnOK Try.prog 3 (S3 N) := fn_ok (E := ⟨tabs, [(7, S7 N), (8, S8 N), (9, S9 N), (10, S10 N), (11, S11 N), (12, S12 N)], (tabcons (W7 N) (tabcons (W8 N) (tabcons (W9 N) (tabcons (W10 N) (tabcons (W11 N) (tabcons (W12 N) tabnil)))))), mixed⟩) (N := N) (a := (.two .nil (.two .nil (.two .nil (.two .nil (.meet ⟨[(4, .val false (.leaf .bool))], [], [], 400⟩ .nil .nil)))))) (sg := S3 N) (c := Try.f3.body.getD .skip) (rs := Try.f3.results.toList) Try.func3 (by kernel_rfl) (by kernel_rfl) rfl rfl rfl rfl (fun x => by kernel_rfl)
noncomputable def M.ref46_SendAll (N : Nat) (a0 : List Int) (a1 : List rNotice.den) (a2 : List Int) : Option ((List Int) × List rNotice.den) :=
(appA ([] : List Int) a0).bind fun l1 =>
(appA ([] : List rNotice.den) a1).bind fun l2 =>
(Loop (S := Int × (List rNotice.den) × List Int) (X := (List rNotice.den) × List Int) (fun s4 =>
((if (decide (s4.1 < (a2.length : Int))) = true then
some (decide ((0 : Int) < (s4.2.1.length : Int)))
else
some false) : Option (Bool)).bind fun j5 =>
(if j5 = true then
(Loop (S := Int × Int × (List rNotice.den) × List Int) (X := Int × (List rNotice.den) × List Int) (fun s7 =>
(if (decide (s7.2.1 < (s4.2.1.length : Int))) = true then
((if (decide (s7.1 = (a2.length : Int))) = true then
(idx s4.2.1 s7.2.1).bind fun x9 =>
(appA s7.2.2.1 ([x9] : List rNotice.den)).bind fun l10 =>
some (s7.1, l10, s7.2.2.2)
else
(idx a2 s7.1).bind fun x11 =>
(((if (decide (x11 = (0 : Int))) = true then
some true
else
some (decide (x11 = (1 : Int)))) : Option (Bool)).bind fun j13 =>
(if j13 = true then
(idx s4.2.1 s7.2.1).bind fun x14 =>
(M.ref46_Deliver N s7.2.2.2 x14).bind fun y15 =>
some y15.2
else
some s7.2.2.2) : Option (List Int)).bind fun j12 =>
(if (!decide (x11 = (0 : Int))) = true then
(idx s4.2.1 s7.2.1).bind fun x16 =>
(appA s7.2.2.1 ([x16] : List rNotice.den)).bind fun l17 =>
some (IntKind.i64.wrap (s7.1 + (1 : Int)), l17, j12)
else
some (IntKind.i64.wrap (s7.1 + (1 : Int)), s7.2.2.1, j12))) : Option (Int × (List rNotice.den) × List Int)).bind fun j8 =>
some (Sum.inl (j8.1, IntKind.i64.wrap (s7.2.1 + (1 : Int)), j8.2.1, j8.2.2))
else
some (Sum.inr (s7.1, s7.2.2.1, s7.2.2.2)))) N (s4.1, (0 : Int), ([] : List rNotice.den), s4.2.2) : Option (Int × (List rNotice.den) × List Int)).bind fun j6 =>
some (Sum.inl (j6.1, j6.2.1, j6.2.2))
else
some (Sum.inr (s4.2.1, s4.2.2)))) N ((0 : Int), l2, l1) : Option ((List rNotice.den) × List Int)).bind fun j3 =>
some (j3.2, j3.1)
noncomputable def S14 (N : Nat) : Sig := { inn := ⟨[(0, .val true (.leaf (.slice rInt))), (1, .val false (.leaf (.slice rNotice))), (2, .val false (.leaf (.slice rInt)))], [], [], 0⟩, out := ⟨[(0, .val true (.own 0)), (1, .val false (.own 1))], [(0, .own 3 rInt), (1, .own 26 rNotice)], [], 2⟩, fn := fun (x : (List Int) × (List rNotice.den) × List Int) => M.ref46_SendAll N x.1 x.2.1 x.2.2 }
theorem W14 (N : Nat) : FnOK Try.prog 14 (S14 N) := fn_ok (E := ⟨tabs, [(9, S9 N)], (tabcons (W9 N) tabnil), mixed⟩) (N := N) (a := (.two .nil (.two .nil (.two .nil (.two .nil (.meet ⟨[(9, .val false (.own 240))], [(128, .box 24 (.own 241)), (240, .own 26 rNotice), (241, .own 3 rInt)], [96, 192], 243⟩ (.two (.loop ⟨[(9, .val false (.own 240)), (10, .val false (.leaf rInt))], [(128, .box 24 (.own 241)), (240, .own 26 rNotice), (241, .own 3 rInt)], [96, 192], 243⟩ (.two (.meet ⟨[(30, .val false (.leaf .bool))], [], [], 243⟩ .nil .nil) (.two (.two .nil (.meet ⟨[(10, .val false (.leaf rInt)), (11, .val false (.own 275))], [(128, .box 24 (.own 276)), (275, .own 26 rNotice), (276, .own 3 rInt)], [241, 243], 278⟩ (.two .nil (.two (.loop ⟨[(10, .val false (.leaf rInt)), (11, .val false (.own 291)), (12, .val false (.leaf rInt))], [(128, .box 24 (.own 292)), (291, .own 26 rNotice), (292, .own 3 rInt)], [241, 243], 294⟩ (.two .nil (.two (.meet ⟨[(10, .val false (.leaf rInt)), (11, .val false (.own 358))], [(128, .box 24 (.own 359)), (358, .own 26 rNotice), (359, .own 3 rInt)], [291, 292], 361⟩ (.two .nil (.two .nil (.two .nil (.meet ⟨[], [(128, .box 24 (.own 550)), (550, .own 3 rInt)], [292], 552⟩ (.meet ⟨[(60, .val false (.leaf .bool))], [], [], 550⟩ .nil .nil) .nil)))) .nil) .nil))) .nil)) .nil)) .nil))) .nil) .nil)))))) (sg := S14 N) (c := Try.f14.body.getD .skip) (rs := Try.f14.results.toList) Try.func14 (by kernel_rfl) (by kernel_rfl) rfl rfl rfl rfl (fun x => by kernel_rfl)
noncomputable def M.same_Notices (N : Nat) (a0 : List rNotice.den) (a1 : List rNotice.den) : Option (Bool) :=
(if (!decide ((a0.length : Int) = (a1.length : Int))) = true then
some false
else
Loop (S := Int) (X := Bool) (fun s1 =>
((if (decide (s1 < (a0.length : Int))) = true then
some (decide (s1 < (a1.length : Int)))
else
some false) : Option (Bool)).bind fun j2 =>
(if j2 = true then
(idx a0 s1).bind fun x3 =>
(idx a1 s1).bind fun x4 =>
(if (!(eqR rNotice x3 x4)) = true then
some (Sum.inr false)
else
some (Sum.inl (IntKind.i64.wrap (s1 + (1 : Int)))))
else
some (Sum.inr true))) N (0 : Int))
noncomputable def S15 (N : Nat) : Sig := { inn := ⟨[(0, .val false (.leaf (.slice rNotice))), (1, .val false (.leaf (.slice rNotice)))], [], [], 0⟩, out := ⟨[(0, .val false (.leaf .bool))], [], [], 0⟩, fn := fun (x : (List rNotice.den) × List rNotice.den) => M.same_Notices N x.1 x.2 }
theorem W15 (N : Nat) : FnOK Try.prog 15 (S15 N) := fn_ok (E := ⟨tabs, [], tabnil, mixed⟩) (N := N) (a := (.two .nil (.two .nil (.two (.two .nil (.two (.loop ⟨[(5, .val false (.leaf rInt))], [], [], 112⟩ (.two (.meet ⟨[(20, .val false (.leaf .bool))], [], [], 112⟩ .nil .nil) .nil)) .nil)) .nil)))) (sg := S15 N) (c := Try.f15.body.getD .skip) (rs := Try.f15.results.toList) Try.func15 (by kernel_rfl) (by kernel_rfl) rfl rfl rfl rfl (fun x => by kernel_rfl)
noncomputable def M.law46_OutboxSend (N : Nat) (a0 : List Int) (a1 : List rNotice.den) (a2 : List Int) : Option (Bool) :=
((if (decide ((200 : Int) < (a0.length : Int))) = true then
some true
else
(if (decide ((100 : Int) < (a1.length : Int))) = true then
some true
else
some (decide ((500 : Int) < (a2.length : Int))))) : Option (Bool)).bind fun j1 =>
(if j1 = true then
(M.law46_awake N).bind fun y2 =>
some y2
else
(M.outbox_SendAll N a0 a1 a2).bind fun y3 =>
(M.ref46_SendAll N a0 a1 a2).bind fun y4 =>
((M.same_Ints N y3.1 y4.1).bind fun y6 =>
(if y6 = true then
(M.same_Notices N y3.2 y4.2).bind fun y7 =>
(if y7 = true then
(M.law46_awake N).bind fun y8 =>
some y8
else
some false)
else
some false) : Option (Bool)).bind fun j5 =>
some j5)
noncomputable def S4 (N : Nat) : Sig := { inn := ⟨[(0, .val true (.leaf (.slice rInt))), (1, .val false (.leaf (.slice rNotice))), (2, .val false (.leaf (.slice rInt)))], [], [], 0⟩, out := ⟨[(0, .val false (.leaf .bool))], [], [], 0⟩, fn := fun (x : (List Int) × (List rNotice.den) × List Int) => M.law46_OutboxSend N x.1 x.2.1 x.2.2 }
theorem W4 (N : Nat) : FnOK Try.prog 4 (S4 N) := fn_ok (E := ⟨tabs, [(7, S7 N), (10, S10 N), (13, S13 N), (14, S14 N), (15, S15 N)], (tabcons (W7 N) (tabcons (W10 N) (tabcons (W13 N) (tabcons (W14 N) (tabcons (W15 N) tabnil))))), mixed⟩) (N := N) (a := (.two .nil (.two (.meet ⟨[(24, .val false (.leaf .bool))], [], [], 32⟩ .nil .nil) (.two .nil (.two .nil (.meet ⟨[(6, .val false (.leaf .bool))], [], [], 352⟩ .nil .nil)))))) (sg := S4 N) (c := Try.f4.body.getD .skip) (rs := Try.f4.results.toList) Try.func4 (by kernel_rfl) (by kernel_rfl) rfl rfl rfl rfl (fun x => by kernel_rfl)
noncomputable def M.law46_has (N : Nat) (a0 : List rNotice.den) (a1 : Int) : Option (Bool) :=
Loop (S := Int) (X := Bool) (fun s1 =>
(if (decide (s1 < (a0.length : Int))) = true then
(idx a0 s1).bind fun x2 =>
(if (decide (x2.1 = a1)) = true then
some (Sum.inr true)
else
some (Sum.inl (IntKind.i64.wrap (s1 + (1 : Int)))))
else
some (Sum.inr false))) N (0 : Int)
noncomputable def S16 (N : Nat) : Sig := { inn := ⟨[(0, .val false (.leaf (.slice rNotice))), (1, .val false (.leaf rInt))], [], [], 0⟩, out := ⟨[(0, .val false (.leaf .bool))], [], [], 0⟩, fn := fun (x : (List rNotice.den) × Int) => M.law46_has N x.1 x.2 }
theorem W16 (N : Nat) : FnOK Try.prog 16 (S16 N) := fn_ok (E := ⟨tabs, [], tabnil, mixed⟩) (N := N) (a := (.two .nil (.two (.two .nil (.two (.loop ⟨[(5, .val false (.leaf rInt))], [], [], 32⟩ .nil) .nil)) .nil))) (sg := S16 N) (c := Try.f16.body.getD .skip) (rs := Try.f16.results.toList) Try.func16 (by kernel_rfl) (by kernel_rfl) rfl rfl rfl rfl (fun x => by kernel_rfl)
noncomputable def M.law46_OutboxExactlyOnce (N : Nat) (a0 : List Int) (a1 : List rNotice.den) (a2 : List Int) : Option (Bool) :=
((if (decide ((200 : Int) < (a0.length : Int))) = true then
some true
else
(if (decide ((100 : Int) < (a1.length : Int))) = true then
some true
else
some (decide ((500 : Int) < (a2.length : Int))))) : Option (Bool)).bind fun j1 =>
(if j1 = true then
(M.law46_awake N).bind fun y2 =>
some y2
else
((M.outbox_SendAll N a0 a1 a2).bind fun y4 =>
some (y4.1, y4.2) : Option ((List Int) × List rNotice.den)).bind fun j3 =>
((if (decide ((j3.1.length : Int) < (a0.length : Int))) = true then
some true
else
(cutA j3.1 (0 : Int) (a0.length : Int)).bind fun l6 =>
(M.same_Ints N l6 a0).bind fun y7 =>
(if (!y7) = true then
some true
else
some (decide ((a1.length : Int) < (j3.2.length : Int))))) : Option (Bool)).bind fun j5 =>
(if j5 = true then
some false
else
Join (J := Unit) (R := Bool) (Loop (S := Int) (X := (Unit) ⊕ (Bool)) (fun s9 =>
(if (decide (s9 < (j3.1.length : Int))) = true then
((idx j3.1 s9).bind fun x11 =>
(M.law46_has N a1 x11).bind fun y12 =>
(if (!y12) = true then
some true
else
(cutA j3.1 (0 : Int) s9).bind fun l13 =>
(idx j3.1 s9).bind fun x14 =>
(M.outbox_Contains N l13 x14).bind fun y15 =>
some y15) : Option (Bool)).bind fun j10 =>
(if j10 = true then
some (Sum.inr (Sum.inr false))
else
some (Sum.inl (IntKind.i64.wrap (s9 + (1 : Int)))))
else
some (Sum.inr (Sum.inl ())))) N (a0.length : Int)) fun j8 =>
Join (J := Unit) (R := Bool) (Loop (S := Int) (X := (Unit) ⊕ (Bool)) (fun s17 =>
(if (decide (s17 < (a1.length : Int))) = true then
((idx a1 s17).bind fun x19 =>
(M.law46_has N j3.2 x19.1).bind fun y20 =>
(if (!y20) = true then
(idx a1 s17).bind fun x21 =>
(M.outbox_Contains N j3.1 x21.1).bind fun y22 =>
some (!y22)
else
some false) : Option (Bool)).bind fun j18 =>
(if j18 = true then
some (Sum.inr (Sum.inr false))
else
some (Sum.inl (IntKind.i64.wrap (s17 + (1 : Int)))))
else
some (Sum.inr (Sum.inl ())))) N (0 : Int)) fun j16 =>
(M.law46_awake N).bind fun y23 =>
some y23))
noncomputable def S5 (N : Nat) : Sig := { inn := ⟨[(0, .val true (.leaf (.slice rInt))), (1, .val false (.leaf (.slice rNotice))), (2, .val false (.leaf (.slice rInt)))], [], [], 0⟩, out := ⟨[(0, .val false (.leaf .bool))], [], [], 0⟩, fn := fun (x : (List Int) × (List rNotice.den) × List Int) => M.law46_OutboxExactlyOnce N x.1 x.2.1 x.2.2 }
theorem W5 (N : Nat) : FnOK Try.prog 5 (S5 N) := fn_ok (E := ⟨tabs, [(7, S7 N), (10, S10 N), (11, S11 N), (13, S13 N), (16, S16 N)], (tabcons (W7 N) (tabcons (W10 N) (tabcons (W11 N) (tabcons (W13 N) (tabcons (W16 N) tabnil))))), mixed⟩) (N := N) (a := (.two .nil (.two (.meet ⟨[(24, .val false (.leaf .bool))], [], [], 32⟩ .nil .nil) (.meet ⟨[(7, .ptr 32 [] 0), (8, .val false (.own 33))], [(32, .box 24 (.leaf (.slice rInt))), (33, .own 26 rNotice)], [], 34⟩ .nil (.two (.meet ⟨[(58, .val false (.leaf .bool))], [], [], 34⟩ .nil .nil) (.join ⟨[], [], [], 34⟩ (.two .nil (.two (.loop ⟨[(9, .val false (.leaf rInt))], [], [], 98⟩ (.two .nil (.two (.two (.meet ⟨[(89, .val false (.leaf .bool))], [], [], 178⟩ .nil .nil) .nil) .nil))) .nil)) (.join ⟨[], [], [], 34⟩ (.two .nil (.two (.loop ⟨[(10, .val false (.leaf rInt))], [], [], 50⟩ (.two .nil (.two (.two (.meet ⟨[(113, .val false (.leaf .bool))], [], [], 114⟩ .nil .nil) .nil) .nil))) .nil)) .nil))))))) (sg := S5 N) (c := Try.f5.body.getD .skip) (rs := Try.f5.results.toList) Try.func5 (by kernel_rfl) (by kernel_rfl) rfl rfl rfl rfl (fun x => by kernel_rfl)
noncomputable def M.law46_OutboxCompletes (N : Nat) (a0 : List Int) (a1 : List rNotice.den) (a2 : List Int) : Option (Bool) :=
((if (decide ((200 : Int) < (a0.length : Int))) = true then
some true
else
(if (decide ((20 : Int) < (a1.length : Int))) = true then
some true
else
some (decide ((200 : Int) < (a2.length : Int))))) : Option (Bool)).bind fun j1 =>
(if j1 = true then
(M.law46_awake N).bind fun y2 =>
some y2
else
(appA ([] : List Int) a2).bind fun l3 =>
(Loop (S := Int × List Int) (X := List Int) (fun s5 =>
(if (decide (s5.1 < (IntKind.i64.wrap ((a1.length : Int) * (a1.length : Int))))) = true then
(appA s5.2 ([(0 : Int)] : List Int)).bind fun l6 =>
some (Sum.inl (IntKind.i64.wrap (s5.1 + (1 : Int)), l6))
else
some (Sum.inr s5.2))) N ((0 : Int), l3) : Option (List Int)).bind fun j4 =>
(M.outbox_SendAll N a0 a1 j4).bind fun y7 =>
Join (J := Unit) (R := Bool) (Loop (S := Int) (X := (Unit) ⊕ (Bool)) (fun s9 =>
(if (decide (s9 < (a1.length : Int))) = true then
(idx a1 s9).bind fun x10 =>
(M.outbox_Contains N y7.1 x10.1).bind fun y11 =>
(if (!y11) = true then
some (Sum.inr (Sum.inr false))
else
some (Sum.inl (IntKind.i64.wrap (s9 + (1 : Int)))))
else
some (Sum.inr (Sum.inl ())))) N (0 : Int)) fun j8 =>
((if (decide ((y7.2.length : Int) = (0 : Int))) = true then
(M.law46_awake N).bind fun y13 =>
some y13
else
some false) : Option (Bool)).bind fun j12 =>
some j12)
noncomputable def S6 (N : Nat) : Sig := { inn := ⟨[(0, .val true (.leaf (.slice rInt))), (1, .val false (.leaf (.slice rNotice))), (2, .val false (.leaf (.slice rInt)))], [], [], 0⟩, out := ⟨[(0, .val false (.leaf .bool))], [], [], 0⟩, fn := fun (x : (List Int) × (List rNotice.den) × List Int) => M.law46_OutboxCompletes N x.1 x.2.1 x.2.2 }
theorem W6 (N : Nat) : FnOK Try.prog 6 (S6 N) := fn_ok (E := ⟨tabs, [(7, S7 N), (11, S11 N), (13, S13 N)], (tabcons (W7 N) (tabcons (W11 N) (tabcons (W13 N) tabnil))), mixed⟩) (N := N) (a := (.two .nil (.two (.meet ⟨[(25, .val false (.leaf .bool))], [], [], 32⟩ .nil .nil) (.two .nil (.meet ⟨[(7, .val false (.own 96))], [(96, .own 3 rInt)], [64], 97⟩ (.two .nil (.two (.loop ⟨[(7, .val false (.own 112)), (8, .val false (.leaf rInt))], [(112, .own 3 rInt)], [64], 113⟩ .nil) .nil)) (.two .nil (.join ⟨[], [], [], 257⟩ (.two .nil (.two (.loop ⟨[(11, .val false (.leaf rInt))], [], [], 273⟩ .nil) .nil)) (.meet ⟨[(6, .val false (.leaf .bool))], [], [], 257⟩ .nil .nil)))))))) (sg := S6 N) (c := Try.f6.body.getD .skip) (rs := Try.f6.results.toList) Try.func6 (by kernel_rfl) (by kernel_rfl) rfl rfl rfl rfl (fun x => by kernel_rfl)
end Go.Proofs.Ytmnbfioadkhahaa
