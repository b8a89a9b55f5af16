/- Written by rx.py: models and walks. -/
import Derived.Test.YtomgmnkalommeaaGreatDoorFn
import Derived.Test.YtomgmnkalommeaaGreatDoorProg
namespace Go.Proofs.YtomgmnkalommeaaGreatDoor
open Go Go.RowKit
set_option maxRecDepth 100000
set_option linter.unusedVariables false

@[reducible] def rEnum : Row := .pair .str (.slice .str)
@[reducible] def rType : Row := .pair rInt rInt
@[reducible] def rRow : Row := .pair rType (.pair rInt rType)
@[reducible] def rTable : Row := .pair .str (.pair rType (.pair rType (.slice rRow)))
@[reducible] def rSignature : Row := .pair (.slice rEnum) (.pair (.slice rTable) (.pair (.slice rType) (.pair (.slice rType) (.pair (.slice rType) .bool))))
@[reducible] def rValue : Row := .pair rInt rType
@[reducible] def rEnv : Row := .pair rInt (.pair (.slice rValue) (.pair (.slice rValue) (.pair (.slice (.slice rValue)) (.pair (.slice rType) (.slice rTable)))))
@[reducible] def reval_evaluator : Row := .pair (.slice rType) (.pair (.slice rInt) rEnv)
theorem Ti3 : TI Tryz.prog 3 rInt := TI.mk (k := 1) (by kernel_rfl) rfl
theorem Ti4 : TI Tryz.prog 4 .bool := TI.mk (k := 1) (by kernel_rfl) rfl
theorem Ti9 : TI Tryz.prog 9 .str := TI.mk (k := 1) (by kernel_rfl) rfl
theorem Ti22 : TI Tryz.prog 22 (.slice rType) := TI.mk (k := 1) (by kernel_rfl) rfl
theorem Ti23 : TI Tryz.prog 23 (.slice rEnum) := TI.mk (k := 1) (by kernel_rfl) rfl
theorem Ti24 : TI Tryz.prog 24 (.slice rTable) := TI.mk (k := 1) (by kernel_rfl) rfl
theorem Ti25 : TI Tryz.prog 25 (.slice rType) := TI.mk (k := 1) (by kernel_rfl) rfl
theorem Ti27 : TI Tryz.prog 27 rSignature := TI.mk (k := 6) (by kernel_rfl) rfl
theorem Ti28 : TI Tryz.prog 28 (.slice rValue) := TI.mk (k := 1) (by kernel_rfl) rfl
theorem Ti29 : TI Tryz.prog 29 (.slice (.slice rValue)) := TI.mk (k := 1) (by kernel_rfl) rfl
theorem Ti31 : TI Tryz.prog 31 rEnv := TI.mk (k := 6) (by kernel_rfl) rfl
theorem Ti41 : TI Tryz.prog 41 rType := TI.mk (k := 2) (by kernel_rfl) rfl
theorem Ti42 : TI Tryz.prog 42 (.slice rRow) := TI.mk (k := 1) (by kernel_rfl) rfl
theorem Ti44 : TI Tryz.prog 44 rTable := TI.mk (k := 6) (by kernel_rfl) rfl
theorem Ti50 : TI Tryz.prog 50 rValue := TI.mk (k := 3) (by kernel_rfl) rfl
theorem Ti56 : TI Tryz.prog 56 (.slice .str) := TI.mk (k := 1) (by kernel_rfl) rfl
theorem Ti58 : TI Tryz.prog 58 rEnum := TI.mk (k := 2) (by kernel_rfl) rfl
theorem Ti62 : TI Tryz.prog 62 rType := TI.mk (k := 2) (by kernel_rfl) rfl
theorem Ti66 : TI Tryz.prog 66 rType := TI.mk (k := 2) (by kernel_rfl) rfl
theorem Ti68 : TI Tryz.prog 68 rRow := TI.mk (k := 5) (by kernel_rfl) rfl
theorem Ti70 : TI Tryz.prog 70 (.slice rInt) := TI.mk (k := 1) (by kernel_rfl) rfl
theorem Ti83 : TI Tryz.prog 83 reval_evaluator := TI.mk (k := 8) (by kernel_rfl) rfl
theorem Ti101 : TI Tryz.prog 101 (.slice rInt) := TI.mk (k := 1) (by kernel_rfl) rfl
theorem Eq3 : EqOK Tryz.prog 3 rInt 1 := eqT_int Tryz.underlying3
theorem Eq41 : EqOK Tryz.prog 41 rType 2 := eqT_struct Tryz.underlying41 (by kernel_rfl) (eqF_cons rfl rfl Tryz.underlying3 (by simp [aggD]) Ti3 Eq3 (eqF_last rfl rfl Tryz.underlying3 (by simp [aggD]) Ti3 Eq3))
theorem Eq66 : EqOK Tryz.prog 66 rType 2 := eqT_struct Tryz.underlying66 (by kernel_rfl) (eqF_cons rfl rfl Tryz.underlying3 (by simp [aggD]) Ti3 Eq3 (eqF_last rfl rfl Tryz.underlying3 (by simp [aggD]) Ti3 Eq3))
theorem Eq3_2 : EqOK Tryz.prog 3 rInt 2 := Eq3.lift 1
theorem Eq68 : EqOK Tryz.prog 68 rRow 3 := eqT_struct Tryz.underlying68 (by kernel_rfl) (eqF_cons rfl rfl Tryz.underlying66 (by intro h; cases h) Ti66 Eq66 (eqF_cons rfl rfl Tryz.underlying3 (by simp [aggD]) Ti3 Eq3_2 (eqF_cons rfl rfl Tryz.underlying3 (by simp [aggD]) Ti3 Eq3_2 (eqF_last rfl rfl Tryz.underlying3 (by simp [aggD]) Ti3 Eq3_2))))
theorem Eq50 : EqOK Tryz.prog 50 rValue 2 := eqT_struct Tryz.underlying50 (by kernel_rfl) (eqF_cons rfl rfl Tryz.underlying3 (by simp [aggD]) Ti3 Eq3 (eqF_cons rfl rfl Tryz.underlying3 (by simp [aggD]) Ti3 Eq3 (eqF_last rfl rfl Tryz.underlying3 (by simp [aggD]) Ti3 Eq3)))
theorem tu : ∀ p ∈ ([(3, .int .i64), (4, .bool), (5, .int .u8), (9, .str), (22, .slice 62), (23, .slice 58), (24, .slice 44), (25, .slice 41), (27, .struct [(23, 0), (24, 1), (25, 2), (25, 3), (25, 4), (4, 5)]), (28, .slice 50), (29, .slice 28), (31, .struct [(3, 0), (28, 1), (28, 2), (29, 3), (25, 4), (24, 5)]), (37, .int .i64), (41, .struct [(3, 0), (3, 1)]), (42, .slice 68), (44, .struct [(9, 0), (41, 1), (41, 3), (42, 5)]), (50, .struct [(3, 0), (3, 1), (3, 2)]), (56, .slice 9), (58, .struct [(9, 0), (56, 1)]), (62, .struct [(3, 0), (3, 1)]), (66, .struct [(3, 0), (3, 1)]), (68, .struct [(66, 0), (3, 2), (3, 3), (3, 4)]), (70, .slice 3), (83, .struct [(22, 0), (70, 1), (31, 2)]), (99, .other), (101, .struct [(70, 0)]), (127, .other), (136, .int .u64), (140, .int .u64), (147, .array 12 3)] : List (Nat × TyK)), TyKOK Tryz.prog p.1 p.2 := by
  simp only [List.forall_mem_cons]
  exact ⟨Tryz.underlying3, Tryz.underlying4, Tryz.underlying5, Tryz.underlying9, Tryz.underlying22, Tryz.underlying23, Tryz.underlying24, Tryz.underlying25, ⟨_, Tryz.underlying27, rfl⟩, Tryz.underlying28, Tryz.underlying29, ⟨_, Tryz.underlying31, rfl⟩, Tryz.underlying37, ⟨_, Tryz.underlying41, rfl⟩, Tryz.underlying42, ⟨_, Tryz.underlying44, rfl⟩, ⟨_, Tryz.underlying50, rfl⟩, Tryz.underlying56, ⟨_, Tryz.underlying58, rfl⟩, ⟨_, Tryz.underlying62, rfl⟩, ⟨_, Tryz.underlying66, rfl⟩, ⟨_, Tryz.underlying68, rfl⟩, Tryz.underlying70, ⟨_, Tryz.underlying83, rfl⟩, ⟨_, Tryz.underlying99, rfl⟩, ⟨_, Tryz.underlying101, rfl⟩, ⟨_, Tryz.underlying127, rfl⟩, Tryz.underlying136, Tryz.underlying140, Tryz.underlying147,  fun _ h => absurd h (by simp)⟩
theorem tr : ∀ p ∈ ([(3, rInt), (4, .bool), (9, .str), (22, (.slice rType)), (23, (.slice rEnum)), (24, (.slice rTable)), (25, (.slice rType)), (27, rSignature), (28, (.slice rValue)), (29, (.slice (.slice rValue))), (31, rEnv), (41, rType), (42, (.slice rRow)), (44, rTable), (50, rValue), (56, (.slice .str)), (58, rEnum), (62, rType), (66, rType), (68, rRow), (70, (.slice rInt)), (83, reval_evaluator), (101, (.slice rInt))] : List (Nat × Row)), TI Tryz.prog p.1 p.2 := by
  simp only [List.forall_mem_cons]
  exact ⟨Ti3, Ti4, Ti9, Ti22, Ti23, Ti24, Ti25, Ti27, Ti28, Ti29, Ti31, Ti41, Ti42, Ti44, Ti50, Ti56, Ti58, Ti62, Ti66, Ti68, Ti70, Ti83, Ti101,  fun _ h => absurd h (by simp)⟩
theorem te : ∀ p ∈ ([(41, rType), (50, rValue), (66, rType), (68, rRow)] : List (Nat × Row)), ∃ K d, EqOK Tryz.prog p.1 p.2 K ∧ d + K = 10000 ∧ Tryz.prog.eqGuardType Tryz.prog.depth p.1 = false ∧ (Tryz.prog.underlying p.1).any aggD = true := by
  simp only [List.forall_mem_cons]
  exact ⟨⟨2, 9998, Eq41, rfl, by kernel_rfl, by kernel_rfl⟩, ⟨2, 9998, Eq50, rfl, by kernel_rfl, by kernel_rfl⟩, ⟨2, 9998, Eq66, rfl, by kernel_rfl, by kernel_rfl⟩, ⟨3, 9997, Eq68, rfl, by kernel_rfl, by kernel_rfl⟩,  fun _ h => absurd h (by simp)⟩
def tabs : Tabs Tryz.prog := ⟨_, _, _, [], forall_find tu, forall_find tr, forall_find te, fun _ _ _ h => by cases h⟩
theorem mixed : Tryz.prog.follows .mixedOrders = true := by kernel_rfl
noncomputable def M.ref10_Small (N : Nat) (a0 : rSignature.den) : Option (Bool) :=
((if (decide ((10 : Int) < (a0.1.length : Int))) = true then
some true
else
(if (decide ((10 : Int) < (a0.2.1.length : Int))) = true then
some true
else
(if (decide ((40 : Int) < (a0.2.2.1.length : Int))) = true then
some true
else
(if (decide ((40 : Int) < (a0.2.2.2.1.length : Int))) = true then
some true
else
some (decide ((40 : Int) < (a0.2.2.2.2.1.length : Int))))))) : Option (Bool)).bind fun j1 =>
(if j1 = true then
some false
else
Loop (S := Int) (X := Bool) (fun s2 =>
(if (decide (s2 < (a0.1.length : Int))) = true then
(idx a0.1 s2).bind fun x3 =>
(if (decide ((40 : Int) < (x3.2.length : Int))) = true then
some (Sum.inr false)
else
some (Sum.inl (IntKind.i64.wrap (s2 + (1 : Int)))))
else
some (Sum.inr true))) N (0 : Int))
noncomputable def S4 (N : Nat) : Sig := { inn := ⟨[(0, .val true (.leaf rSignature))], [], [], 0⟩, out := ⟨[(0, .val false (.leaf .bool))], [], [], 0⟩, fn := fun (x : rSignature.den) => M.ref10_Small N x }
theorem W4 (N : Nat) : FnOK Tryz.prog 4 (S4 N) := fn_ok (E := ⟨tabs, [], tabnil, mixed⟩) (N := N) (a := (.two .nil (.two (.meet ⟨[(31, .val false (.leaf .bool))], [], [], 32⟩ .nil .nil) (.two (.two .nil (.two (.loop ⟨[(3, .val false (.leaf rInt))], [], [], 48⟩ .nil) .nil)) .nil)))) (sg := S4 N) (c := Tryz.f4.body.getD .skip) (rs := Tryz.f4.results.toList) Tryz.func4 (by kernel_rfl) (by kernel_rfl) rfl rfl rfl rfl (fun x => by kernel_rfl)
noncomputable def M.ref13_Small (N : Nat) (a0 : rEnv.den) : Option (Bool) :=
((if (decide ((40 : Int) < (a0.2.1.length : Int))) = true then
some true
else
(if (decide ((40 : Int) < (a0.2.2.1.length : Int))) = true then
some true
else
(if (decide ((20 : Int) < (a0.2.2.2.1.length : Int))) = true then
some true
else
(if (decide ((40 : Int) < (a0.2.2.2.2.1.length : Int))) = true then
some true
else
some (decide ((10 : Int) < (a0.2.2.2.2.2.length : Int))))))) : Option (Bool)).bind fun j1 =>
(if j1 = true then
some false
else
Join (J := Unit) (R := Bool) (Loop (S := Int) (X := (Unit) ⊕ (Bool)) (fun s3 =>
(if (decide (s3 < (a0.2.2.2.1.length : Int))) = true then
(idx a0.2.2.2.1 s3).bind fun x4 =>
(if (decide ((40 : Int) < (x4.length : Int))) = true then
some (Sum.inr (Sum.inr false))
else
some (Sum.inl (IntKind.i64.wrap (s3 + (1 : Int)))))
else
some (Sum.inr (Sum.inl ())))) N (0 : Int)) fun j2 =>
Loop (S := Int) (X := Bool) (fun s5 =>
(if (decide (s5 < (a0.2.2.2.2.2.length : Int))) = true then
(idx a0.2.2.2.2.2 s5).bind fun x6 =>
(if (decide ((80 : Int) < (x6.2.2.2.length : Int))) = true then
some (Sum.inr false)
else
some (Sum.inl (IntKind.i64.wrap (s5 + (1 : Int)))))
else
some (Sum.inr true))) N (0 : Int))
noncomputable def S5 (N : Nat) : Sig := { inn := ⟨[(0, .val true (.leaf rEnv))], [], [], 0⟩, out := ⟨[(0, .val false (.leaf .bool))], [], [], 0⟩, fn := fun (x : rEnv.den) => M.ref13_Small N x }
theorem W5 (N : Nat) : FnOK Tryz.prog 5 (S5 N) := fn_ok (E := ⟨tabs, [], tabnil, mixed⟩) (N := N) (a := (.two .nil (.two (.meet ⟨[(32, .val false (.leaf .bool))], [], [], 32⟩ .nil .nil) (.join ⟨[], [], [], 32⟩ (.two .nil (.two (.loop ⟨[(3, .val false (.leaf rInt))], [], [], 48⟩ .nil) .nil)) (.two (.two .nil (.two (.loop ⟨[(4, .val false (.leaf rInt))], [], [], 48⟩ .nil) .nil)) .nil))))) (sg := S5 N) (c := Tryz.f5.body.getD .skip) (rs := Tryz.f5.results.toList) Tryz.func5 (by kernel_rfl) (by kernel_rfl) rfl rfl rfl rfl (fun x => by kernel_rfl)
noncomputable def M.ref13_bounds (N : Nat) (a0 : Int) : Option (Int × Int) :=
(if (decide (a0 = (1 : Int))) = true then
some ((0 : Int), (1 : Int))
else
(if (decide (a0 = (2 : Int))) = true then
some ((-1000000000000 : Int), (1000000000000 : Int))
else
(if (decide (a0 = (3 : Int))) = true then
some ((-1000000000000000 : Int), (1000000000000000 : Int))
else
(if (decide (a0 = (4 : Int))) = true then
some ((-1000000000 : Int), (1000000000 : Int))
else
(if (decide (a0 = (5 : Int))) = true then
some ((0 : Int), (109572 : Int))
else
(if (decide (a0 = (6 : Int))) = true then
some ((0 : Int), (15 : Int))
else
some ((0 : Int), (-1 : Int))))))))
noncomputable def S71 (N : Nat) : Sig := { inn := ⟨[(0, .val false (.leaf rInt))], [], [], 0⟩, out := ⟨[(0, .val false (.leaf rInt)), (1, .val false (.leaf rInt))], [], [], 0⟩, fn := fun (x : Int) => M.ref13_bounds N x }
theorem W71 (N : Nat) : FnOK Tryz.prog 71 (S71 N) := fn_ok (E := ⟨tabs, [], tabnil, mixed⟩) (N := N) (a := .nil) (sg := S71 N) (c := Tryz.f71.body.getD .skip) (rs := Tryz.f71.results.toList) Tryz.func71 (by kernel_rfl) (by kernel_rfl) rfl rfl rfl rfl (fun x => by kernel_rfl)
noncomputable def M.ref13_Plausible (N : Nat) (a0 : rValue.den) : Option (Bool) :=
(M.ref13_bounds N a0.1).bind fun y1 =>
((if (decide (a0.2.2 < y1.1)) = true then
some true
else
some (decide (y1.2 < a0.2.2))) : Option (Bool)).bind fun j2 =>
(if j2 = true then
some false
else
(if (decide (a0.1 = (6 : Int))) = true then
((if (decide ((0 : Int) ≤ a0.2.1)) = true then
some (decide (a0.2.1 < (8 : Int)))
else
some false) : Option (Bool)).bind fun j3 =>
some j3
else
some (decide (a0.2.1 = (0 : Int)))))
noncomputable def S51 (N : Nat) : Sig := { inn := ⟨[(0, .val true (.leaf rValue))], [], [], 0⟩, out := ⟨[(0, .val false (.leaf .bool))], [], [], 0⟩, fn := fun (x : rValue.den) => M.ref13_Plausible N x }
theorem W51 (N : Nat) : FnOK Tryz.prog 51 (S51 N) := fn_ok (E := ⟨tabs, [(71, S71 N)], (tabcons (W71 N) tabnil), mixed⟩) (N := N) (a := (.two .nil (.two .nil (.two (.meet ⟨[(20, .val false (.leaf .bool))], [], [], 160⟩ .nil .nil) (.two (.two .nil (.two (.meet ⟨[(2, .val false (.leaf .bool))], [], [], 208⟩ .nil .nil) .nil)) .nil))))) (sg := S51 N) (c := Tryz.f51.body.getD .skip) (rs := Tryz.f51.results.toList) Tryz.func51 (by kernel_rfl) (by kernel_rfl) rfl rfl rfl rfl (fun x => by kernel_rfl)
noncomputable def M.ref13_Has (N : Nat) (a0 : rValue.den) (a1 : rType.den) : Option (Bool) :=
((M.ref13_Plausible N a0).bind fun y2 =>
(if y2 = true then
(if (decide (a0.1 = a1.1)) = true then
some (decide (a0.2.1 = a1.2))
else
some false)
else
some false) : Option (Bool)).bind fun j1 =>
some j1
noncomputable def S29 (N : Nat) : Sig := { inn := ⟨[(0, .val true (.leaf rValue)), (1, .val true (.leaf rType))], [], [], 0⟩, out := ⟨[(0, .val false (.leaf .bool))], [], [], 0⟩, fn := fun (x : rValue.den × rType.den) => M.ref13_Has N x.1 x.2 }
theorem W29 (N : Nat) : FnOK Tryz.prog 29 (S29 N) := fn_ok (E := ⟨tabs, [(51, S51 N)], (tabcons (W51 N) tabnil), mixed⟩) (N := N) (a := (.two .nil (.meet ⟨[(4, .val false (.leaf .bool))], [], [], 48⟩ .nil .nil))) (sg := S29 N) (c := Tryz.f29.body.getD .skip) (rs := Tryz.f29.results.toList) Tryz.func29 (by kernel_rfl) (by kernel_rfl) rfl rfl rfl rfl (fun x => by kernel_rfl)
noncomputable def M.ref13_known (N : Nat) (a0 : List rValue.den) (a1 : List rType.den) (a2 : Bool) : Option (Bool) :=
(if (!decide ((a0.length : Int) = (a1.length : Int))) = true then
some false
else
Loop (S := Int) (X := Bool) (fun s1 =>
(if (decide (s1 < (a0.length : Int))) = true then
((idx a0 s1).bind fun x3 =>
(idx a1 s1).bind fun x4 =>
(M.ref13_Has N x3 x4).bind fun y5 =>
(if (!y5) = true then
(if a2 = true then
(idx a0 s1).bind fun x6 =>
some (!(decide (x6.1 = (0 : Int))))
else
some true)
else
some false) : Option (Bool)).bind fun j2 =>
(if j2 = true then
some (Sum.inr false)
else
some (Sum.inl (IntKind.i64.wrap (s1 + (1 : Int)))))
else
some (Sum.inr true))) N (0 : Int))
noncomputable def S14 (N : Nat) : Sig := { inn := ⟨[(0, .val false (.leaf (.slice rValue))), (1, .val false (.leaf (.slice rType))), (2, .val false (.leaf .bool))], [], [], 0⟩, out := ⟨[(0, .val false (.leaf .bool))], [], [], 0⟩, fn := fun (x : (List rValue.den) × (List rType.den) × Bool) => M.ref13_known N x.1 x.2.1 x.2.2 }
theorem W14 (N : Nat) : FnOK Tryz.prog 14 (S14 N) := fn_ok (E := ⟨tabs, [(29, S29 N)], (tabcons (W29 N) tabnil), mixed⟩) (N := N) (a := (.two .nil (.two .nil (.two (.two .nil (.two (.loop ⟨[(7, .val false (.leaf rInt))], [], [], 112⟩ (.two .nil (.two (.two (.meet ⟨[(40, .val false (.leaf .bool))], [], [], 176⟩ .nil .nil) .nil) .nil))) .nil)) .nil)))) (sg := S14 N) (c := Tryz.f14.body.getD .skip) (rs := Tryz.f14.results.toList) Tryz.func14 (by kernel_rfl) (by kernel_rfl) rfl rfl rfl rfl (fun x => by kernel_rfl)
noncomputable def M.ref13_Agrees (N : Nat) (a0 : rEnv.den) (a1 : rSignature.den) : Option (Bool) :=
((M.ref13_known N a0.2.1 a1.2.2.1 false).bind fun y2 =>
(if (!y2) = true then
some true
else
(M.ref13_known N a0.2.2.1 a1.2.2.2.1 true).bind fun y3 =>
(if (!y3) = true then
some true
else
(if (!decide ((a0.2.2.2.2.1.length : Int) = (a1.2.2.2.2.1.length : Int))) = true then
some true
else
(if (decide (a0.1 < (0 : Int))) = true then
some true
else
some (decide ((109572 : Int) < a0.1)))))) : Option (Bool)).bind fun j1 =>
(if j1 = true then
some false
else
Join (J := Unit) (R := Bool) (Loop (S := Int) (X := (Unit) ⊕ (Bool)) (fun s5 =>
(if (decide (s5 < (a1.2.2.2.2.1.length : Int))) = true then
(idx a0.2.2.2.2.1 s5).bind fun x6 =>
(idx a1.2.2.2.2.1 s5).bind fun x7 =>
(if (!(eqR rType x6 x7)) = true then
some (Sum.inr (Sum.inr false))
else
some (Sum.inl (IntKind.i64.wrap (s5 + (1 : Int)))))
else
some (Sum.inr (Sum.inl ())))) N (0 : Int)) fun j4 =>
Loop (S := Int) (X := Bool) (fun s8 =>
(if (decide (s8 < (a0.2.2.2.1.length : Int))) = true then
(idx a0.2.2.2.1 s8).bind fun x9 =>
(M.ref13_known N x9 a1.2.2.2.2.1 true).bind fun y10 =>
(if (!y10) = true then
some (Sum.inr false)
else
some (Sum.inl (IntKind.i64.wrap (s8 + (1 : Int)))))
else
some (Sum.inr true))) N (0 : Int))
noncomputable def S6 (N : Nat) : Sig := { inn := ⟨[(0, .val true (.leaf rEnv)), (1, .val true (.leaf rSignature))], [], [], 0⟩, out := ⟨[(0, .val false (.leaf .bool))], [], [], 0⟩, fn := fun (x : rEnv.den × rSignature.den) => M.ref13_Agrees N x.1 x.2 }
theorem W6 (N : Nat) : FnOK Tryz.prog 6 (S6 N) := fn_ok (E := ⟨tabs, [(14, S14 N)], (tabcons (W14 N) tabnil), mixed⟩) (N := N) (a := (.two .nil (.two (.meet ⟨[(39, .val false (.leaf .bool))], [], [], 48⟩ .nil .nil) (.join ⟨[], [], [], 48⟩ (.two .nil (.two (.loop ⟨[(5, .val false (.leaf rInt))], [], [], 64⟩ .nil) .nil)) (.two (.two .nil (.two (.loop ⟨[(6, .val false (.leaf rInt))], [], [], 64⟩ .nil) .nil)) .nil))))) (sg := S6 N) (c := Tryz.f6.body.getD .skip) (rs := Tryz.f6.results.toList) Tryz.func6 (by kernel_rfl) (by kernel_rfl) rfl rfl rfl rfl (fun x => by kernel_rfl)
noncomputable def M.same_Rows (N : Nat) (a0 : List rRow.den) (a1 : List rRow.den) : Option (Bool) :=
(if (!decide ((a0.length : Int) = (a1.length : Int))) = true then
some false
else
Loop (S := Int) (X := Bool) (fun s1 =>
((if (decide (s1 < (a0.length : Int))) = true then
some (decide (s1 < (a1.length : Int)))
else
some false) : Option (Bool)).bind fun j2 =>
(if j2 = true then
(idx a0 s1).bind fun x3 =>
(idx a1 s1).bind fun x4 =>
(if (!(eqR rRow x3 x4)) = true then
some (Sum.inr false)
else
some (Sum.inl (IntKind.i64.wrap (s1 + (1 : Int)))))
else
some (Sum.inr true))) N (0 : Int))
noncomputable def S30 (N : Nat) : Sig := { inn := ⟨[(0, .val false (.leaf (.slice rRow))), (1, .val false (.leaf (.slice rRow)))], [], [], 0⟩, out := ⟨[(0, .val false (.leaf .bool))], [], [], 0⟩, fn := fun (x : (List rRow.den) × List rRow.den) => M.same_Rows N x.1 x.2 }
theorem W30 (N : Nat) : FnOK Tryz.prog 30 (S30 N) := fn_ok (E := ⟨tabs, [], tabnil, mixed⟩) (N := N) (a := (.two .nil (.two .nil (.two (.two .nil (.two (.loop ⟨[(5, .val false (.leaf rInt))], [], [], 112⟩ (.two (.meet ⟨[(20, .val false (.leaf .bool))], [], [], 112⟩ .nil .nil) .nil)) .nil)) .nil)))) (sg := S30 N) (c := Tryz.f30.body.getD .skip) (rs := Tryz.f30.results.toList) Tryz.func30 (by kernel_rfl) (by kernel_rfl) rfl rfl rfl rfl (fun x => by kernel_rfl)
noncomputable def M.same_Table (N : Nat) (a0 : rTable.den) (a1 : rTable.den) : Option (Bool) :=
((if (decide (a0.1 = a1.1)) = true then
(if (eqR rType a0.2.1 a1.2.1) = true then
(if (eqR rType a0.2.2.1 a1.2.2.1) = true then
(M.same_Rows N a0.2.2.2 a1.2.2.2).bind fun y2 =>
some y2
else
some false)
else
some false)
else
some false) : Option (Bool)).bind fun j1 =>
some j1
noncomputable def S15 (N : Nat) : Sig := { inn := ⟨[(0, .val true (.leaf rTable)), (1, .val true (.leaf rTable))], [], [], 0⟩, out := ⟨[(0, .val false (.leaf .bool))], [], [], 0⟩, fn := fun (x : rTable.den × rTable.den) => M.same_Table N x.1 x.2 }
theorem W15 (N : Nat) : FnOK Tryz.prog 15 (S15 N) := fn_ok (E := ⟨tabs, [(30, S30 N)], (tabcons (W30 N) tabnil), mixed⟩) (N := N) (a := (.two .nil (.meet ⟨[(4, .val false (.leaf .bool))], [], [], 48⟩ .nil .nil))) (sg := S15 N) (c := Tryz.f15.body.getD .skip) (rs := Tryz.f15.results.toList) Tryz.func15 (by kernel_rfl) (by kernel_rfl) rfl rfl rfl rfl (fun x => by kernel_rfl)
noncomputable def M.same_Tables (N : Nat) (a0 : List rTable.den) (a1 : List rTable.den) : Option (Bool) :=
(if (!decide ((a0.length : Int) = (a1.length : Int))) = true then
some false
else
Loop (S := Int) (X := Bool) (fun s1 =>
((if (decide (s1 < (a0.length : Int))) = true then
some (decide (s1 < (a1.length : Int)))
else
some false) : Option (Bool)).bind fun j2 =>
(if j2 = true then
(idx a0 s1).bind fun x3 =>
(idx a1 s1).bind fun x4 =>
(M.same_Table N x3 x4).bind fun y5 =>
(if (!y5) = true then
some (Sum.inr false)
else
some (Sum.inl (IntKind.i64.wrap (s1 + (1 : Int)))))
else
some (Sum.inr true))) N (0 : Int))
noncomputable def S7 (N : Nat) : Sig := { inn := ⟨[(0, .val false (.leaf (.slice rTable))), (1, .val false (.leaf (.slice rTable)))], [], [], 0⟩, out := ⟨[(0, .val false (.leaf .bool))], [], [], 0⟩, fn := fun (x : (List rTable.den) × List rTable.den) => M.same_Tables N x.1 x.2 }
theorem W7 (N : Nat) : FnOK Tryz.prog 7 (S7 N) := fn_ok (E := ⟨tabs, [(15, S15 N)], (tabcons (W15 N) tabnil), mixed⟩) (N := N) (a := (.two .nil (.two .nil (.two (.two .nil (.two (.loop ⟨[(5, .val false (.leaf rInt))], [], [], 112⟩ (.two (.meet ⟨[(20, .val false (.leaf .bool))], [], [], 112⟩ .nil .nil) .nil)) .nil)) .nil)))) (sg := S7 N) (c := Tryz.f7.body.getD .skip) (rs := Tryz.f7.results.toList) Tryz.func7 (by kernel_rfl) (by kernel_rfl) rfl rfl rfl rfl (fun x => by kernel_rfl)
noncomputable def M.expr_Arity (N : Nat) (a0 : Int) : Option (Int) :=
((if (decide (a0 = (1 : Int))) = true then
some (decide (a0 = (1 : Int)))
else
(if (decide (a0 = (2 : Int))) = true then
some (decide (a0 = (2 : Int)))
else
(if (decide (a0 = (3 : Int))) = true then
some (decide (a0 = (3 : Int)))
else
(if (decide (a0 = (4 : Int))) = true then
some (decide (a0 = (4 : Int)))
else
(if (decide (a0 = (5 : Int))) = true then
some (decide (a0 = (5 : Int)))
else
(if (decide (a0 = (6 : Int))) = true then
some (decide (a0 = (6 : Int)))
else
(if (decide (a0 = (7 : Int))) = true then
some (decide (a0 = (7 : Int)))
else
(if (decide (a0 = (8 : Int))) = true then
some (decide (a0 = (8 : Int)))
else
(if (decide (a0 = (9 : Int))) = true then
some (decide (a0 = (9 : Int)))
else
(if (decide (a0 = (35 : Int))) = true then
some (decide (a0 = (35 : Int)))
else
(if (decide (a0 = (36 : Int))) = true then
some (decide (a0 = (36 : Int)))
else
(if (decide (a0 = (37 : Int))) = true then
some (decide (a0 = (37 : Int)))
else
(if (decide (a0 = (38 : Int))) = true then
some (decide (a0 = (38 : Int)))
else
some (decide (a0 = (39 : Int)))))))))))))))) : Option (Bool)).bind fun j1 =>
(if j1 = true then
some (0 : Int)
else
((if (decide (a0 = (10 : Int))) = true then
some (decide (a0 = (10 : Int)))
else
(if (decide (a0 = (25 : Int))) = true then
some (decide (a0 = (25 : Int)))
else
(if (decide (a0 = (31 : Int))) = true then
some (decide (a0 = (31 : Int)))
else
(if (decide (a0 = (32 : Int))) = true then
some (decide (a0 = (32 : Int)))
else
(if (decide (a0 = (33 : Int))) = true then
some (decide (a0 = (33 : Int)))
else
some (decide (a0 = (34 : Int)))))))) : Option (Bool)).bind fun j2 =>
(if j2 = true then
some (1 : Int)
else
((if (decide (a0 = (11 : Int))) = true then
some (decide (a0 = (11 : Int)))
else
(if (decide (a0 = (12 : Int))) = true then
some (decide (a0 = (12 : Int)))
else
(if (decide (a0 = (13 : Int))) = true then
some (decide (a0 = (13 : Int)))
else
(if (decide (a0 = (14 : Int))) = true then
some (decide (a0 = (14 : Int)))
else
(if (decide (a0 = (15 : Int))) = true then
some (decide (a0 = (15 : Int)))
else
(if (decide (a0 = (16 : Int))) = true then
some (decide (a0 = (16 : Int)))
else
(if (decide (a0 = (17 : Int))) = true then
some (decide (a0 = (17 : Int)))
else
(if (decide (a0 = (18 : Int))) = true then
some (decide (a0 = (18 : Int)))
else
(if (decide (a0 = (19 : Int))) = true then
some (decide (a0 = (19 : Int)))
else
(if (decide (a0 = (20 : Int))) = true then
some (decide (a0 = (20 : Int)))
else
(if (decide (a0 = (21 : Int))) = true then
some (decide (a0 = (21 : Int)))
else
(if (decide (a0 = (22 : Int))) = true then
some (decide (a0 = (22 : Int)))
else
(if (decide (a0 = (23 : Int))) = true then
some (decide (a0 = (23 : Int)))
else
(if (decide (a0 = (24 : Int))) = true then
some (decide (a0 = (24 : Int)))
else
(if (decide (a0 = (27 : Int))) = true then
some (decide (a0 = (27 : Int)))
else
(if (decide (a0 = (28 : Int))) = true then
some (decide (a0 = (28 : Int)))
else
(if (decide (a0 = (29 : Int))) = true then
some (decide (a0 = (29 : Int)))
else
some (decide (a0 = (30 : Int)))))))))))))))))))) : Option (Bool)).bind fun j3 =>
(if j3 = true then
some (2 : Int)
else
(if (decide (a0 = (26 : Int))) = true then
some (3 : Int)
else
some (-1 : Int)))))
noncomputable def S21 (N : Nat) : Sig := { inn := ⟨[(0, .val false (.leaf rInt))], [], [], 0⟩, out := ⟨[(0, .val false (.leaf rInt))], [], [], 0⟩, fn := fun (x : Int) => M.expr_Arity N x }
theorem W21 (N : Nat) : FnOK Tryz.prog 21 (S21 N) := fn_ok (E := ⟨tabs, [], tabnil, mixed⟩) (N := N) (a := (.two .nil (.two (.two .nil (.two (.meet ⟨[(4, .val false (.leaf .bool))], [], [], 32⟩ .nil (.two .nil (.meet ⟨[(19, .val false (.leaf .bool))], [], [], 32⟩ .nil (.two .nil (.meet ⟨[(26, .val false (.leaf .bool))], [], [], 32⟩ .nil .nil))))) .nil)) .nil))) (sg := S21 N) (c := Tryz.f21.body.getD .skip) (rs := Tryz.f21.results.toList) Tryz.func21 (by kernel_rfl) (by kernel_rfl) rfl rfl rfl rfl (fun x => by kernel_rfl)
noncomputable def M.bytecode_isJump (N : Nat) (a0 : Int) : Option (Bool) :=
((if (decide ((50 : Int) ≤ a0)) = true then
some (decide (a0 ≤ (53 : Int)))
else
some false) : Option (Bool)).bind fun j1 =>
some j1
noncomputable def S58 (N : Nat) : Sig := { inn := ⟨[(0, .val false (.leaf rInt))], [], [], 0⟩, out := ⟨[(0, .val false (.leaf .bool))], [], [], 0⟩, fn := fun (x : Int) => M.bytecode_isJump N x }
theorem W58 (N : Nat) : FnOK Tryz.prog 58 (S58 N) := fn_ok (E := ⟨tabs, [], tabnil, mixed⟩) (N := N) (a := (.two .nil (.meet ⟨[(2, .val false (.leaf .bool))], [], [], 16⟩ .nil .nil))) (sg := S58 N) (c := Tryz.f58.body.getD .skip) (rs := Tryz.f58.results.toList) Tryz.func58 (by kernel_rfl) (by kernel_rfl) rfl rfl rfl rfl (fun x => by kernel_rfl)
noncomputable def M.bytecode_isInstruction (N : Nat) (a0 : Int) : Option (Bool) :=
((if (decide (a0 = (23 : Int))) = true then
some (decide (a0 = (23 : Int)))
else
(if (decide (a0 = (24 : Int))) = true then
some (decide (a0 = (24 : Int)))
else
some (decide (a0 = (26 : Int))))) : Option (Bool)).bind fun j1 =>
(if j1 = true then
some false
else
((M.bytecode_isJump N a0).bind fun y3 =>
(if y3 = true then
some true
else
(M.expr_Arity N a0).bind fun y4 =>
some (decide ((0 : Int) ≤ y4))) : Option (Bool)).bind fun j2 =>
some j2)
noncomputable def S57 (N : Nat) : Sig := { inn := ⟨[(0, .val false (.leaf rInt))], [], [], 0⟩, out := ⟨[(0, .val false (.leaf .bool))], [], [], 0⟩, fn := fun (x : Int) => M.bytecode_isInstruction N x }
theorem W57 (N : Nat) : FnOK Tryz.prog 57 (S57 N) := fn_ok (E := ⟨tabs, [(21, S21 N), (58, S58 N)], (tabcons (W21 N) (tabcons (W58 N) tabnil)), mixed⟩) (N := N) (a := (.two .nil (.two (.two .nil (.two (.meet ⟨[(4, .val false (.leaf .bool))], [], [], 32⟩ .nil .nil) .nil)) (.meet ⟨[(2, .val false (.leaf .bool))], [], [], 32⟩ .nil .nil)))) (sg := S57 N) (c := Tryz.f57.body.getD .skip) (rs := Tryz.f57.results.toList) Tryz.func57 (by kernel_rfl) (by kernel_rfl) rfl rfl rfl rfl (fun x => by kernel_rfl)
noncomputable def M.bytecode_verifier_reach (N : Nat) (a0 : Int) (a1 : Int) (a2 : List Int) : Option (Int × List Int) :=
((idx a2 a0).bind fun x2 =>
(if (decide ((0 : Int) ≤ x2)) = true then
(idx a2 a0).bind fun x3 =>
some (!decide (x3 = a1))
else
some false) : Option (Bool)).bind fun j1 =>
(if j1 = true then
some ((9 : Int), a2)
else
(idx a2 a0).bind fun x4 =>
some ((0 : Int), setL a2 a0 a1))
noncomputable def S59 (N : Nat) : Sig := { inn := ⟨[(0, .ptr 0 [] 0), (1, .val false (.leaf rInt)), (2, .val false (.leaf rInt))], [(0, .box 101 (.own 1)), (1, .own 3 rInt)], [], 2⟩, out := ⟨[(0, .val false (.leaf rInt))], [(0, .box 101 (.own 1)), (1, .own 3 rInt)], [], 4⟩, fn := fun (x : Int × Int × List Int) => M.bytecode_verifier_reach N x.1 x.2.1 x.2.2 }
theorem W59 (N : Nat) : FnOK Tryz.prog 59 (S59 N) := fn_ok (E := ⟨tabs, [], tabnil, mixed⟩) (N := N) (a := (.two .nil (.two (.meet ⟨[(25, .val false (.leaf .bool))], [], [], 18⟩ .nil .nil) .nil))) (sg := S59 N) (c := Tryz.f59.body.getD .skip) (rs := Tryz.f59.results.toList) Tryz.func59 (by kernel_rfl) (by kernel_rfl) rfl rfl rfl rfl (fun x => by kernel_rfl)
noncomputable def M.bytecode_verifier_step (N : Nat) (a0 : List rType.den) (a1 : Int) (a2 : rType.den) (a3 : List Int) : Option (Int × List Int) :=
((M.bytecode_isInstruction N a2.1).bind fun y2 =>
(if (!y2) = true then
some true
else
(M.bytecode_isJump N a2.1).bind fun y3 =>
(if y3 = true then
(if (decide (a2.2 ≤ a1)) = true then
some true
else
some (decide ((a0.length : Int) < a2.2)))
else
some false)) : Option (Bool)).bind fun j1 =>
(if j1 = true then
some ((2 : Int), a3)
else
(idx a3 a1).bind fun x4 =>
(if (decide (a2.1 = (51 : Int))) = true then
(M.bytecode_verifier_reach N a2.2 x4 a3).bind fun y5 =>
some (y5.1, y5.2)
else
((if (decide (a2.1 = (50 : Int))) = true then
some (decide (a2.1 = (50 : Int)))
else
(if (decide (a2.1 = (52 : Int))) = true then
some (decide (a2.1 = (52 : Int)))
else
some (decide (a2.1 = (53 : Int))))) : Option (Bool)).bind fun j6 =>
(if j6 = true then
(if (decide (x4 < (1 : Int))) = true then
some ((5 : Int), a3)
else
(M.bytecode_verifier_reach N (IntKind.i64.wrap (a1 + (1 : Int))) (IntKind.i64.wrap (x4 - (1 : Int))) a3).bind fun y7 =>
(if (!decide (y7.1 = (0 : Int))) = true then
some (y7.1, y7.2)
else
((if (decide (a2.1 = (50 : Int))) = true then
some (IntKind.i64.wrap (x4 - (1 : Int)))
else
some x4) : Option (Int)).bind fun j8 =>
(M.bytecode_verifier_reach N a2.2 j8 y7.2).bind fun y9 =>
some (y9.1, y9.2)))
else
(M.expr_Arity N a2.1).bind fun y10 =>
(if (decide (x4 < y10)) = true then
some ((5 : Int), a3)
else
(if (decide ((12 : Int) < (IntKind.i64.wrap ((IntKind.i64.wrap (x4 - y10)) + (1 : Int))))) = true then
some ((16 : Int), a3)
else
(M.bytecode_verifier_reach N (IntKind.i64.wrap (a1 + (1 : Int))) (IntKind.i64.wrap ((IntKind.i64.wrap (x4 - y10)) + (1 : Int))) a3).bind fun y11 =>
some (y11.1, y11.2))))))
noncomputable def S42 (N : Nat) : Sig := { inn := ⟨[(0, .ptr 0 [] 0), (1, .val false (.leaf (.slice rType))), (2, .val false (.leaf rInt)), (3, .val true (.leaf rType))], [(0, .box 101 (.own 1)), (1, .own 3 rInt)], [], 2⟩, out := ⟨[(0, .val false (.leaf rInt))], [(0, .box 101 (.own 1)), (1, .own 3 rInt)], [], 4⟩, fn := fun (x : (List rType.den) × Int × rType.den × List Int) => M.bytecode_verifier_step N x.1 x.2.1 x.2.2.1 x.2.2.2 }
theorem W42 (N : Nat) : FnOK Tryz.prog 42 (S42 N) := fn_ok (E := ⟨tabs, [(21, S21 N), (57, S57 N), (58, S58 N), (59, S59 N)], (tabcons (W21 N) (tabcons (W57 N) (tabcons (W58 N) (tabcons (W59 N) tabnil)))), mixed⟩) (N := N) (a := (.two .nil (.two (.meet ⟨[(33, .val false (.leaf .bool))], [], [], 34⟩ .nil .nil) (.two .nil (.two (.two .nil (.two (.two .nil (.two .nil (.meet ⟨[(50, .val false (.leaf .bool))], [], [], 226⟩ .nil (.two (.two .nil (.two .nil (.meet ⟨[(9, .val false (.leaf rInt))], [], [], 402⟩ .nil .nil))) .nil)))) .nil)) .nil))))) (sg := S42 N) (c := Tryz.f42.body.getD .skip) (rs := Tryz.f42.results.toList) Tryz.func42 (by kernel_rfl) (by kernel_rfl) rfl rfl rfl rfl (fun x => by kernel_rfl)
noncomputable def M.bytecode_Verify (N : Nat) (a0 : List rType.den) : Option (Int × Int) :=
(if (decide ((128 : Int) < (a0.length : Int))) = true then
some ((0 : Int), (4 : Int))
else
(if (decide ((a0.length : Int) = (0 : Int))) = true then
some ((0 : Int), (5 : Int))
else
(mkL (IntKind.i64.wrap ((a0.length : Int) + (1 : Int))) (0 : Int)).bind fun l1 =>
(Loop (S := Int × List Int) (X := List Int) (fun s3 =>
(if (decide (s3.1 < (l1.length : Int))) = true then
(idx s3.2 s3.1).bind fun x4 =>
some (Sum.inl (IntKind.i64.wrap (s3.1 + (1 : Int)), setL s3.2 s3.1 (-1 : Int)))
else
some (Sum.inr s3.2))) N ((0 : Int), l1) : Option (List Int)).bind fun j2 =>
(idx j2 (0 : Int)).bind fun x5 =>
Join (J := Int × List Int) (R := Int × Int) (Loop (S := Int × Int × List Int) (X := (Int × List Int) ⊕ (Int × Int)) (fun s7 =>
(if (decide (s7.2.1 < (a0.length : Int))) = true then
Join (J := Int × List Int) (R := (Int × Int × List Int) ⊕ ((Int × List Int) ⊕ (Int × Int))) ((idx a0 s7.2.1).bind fun x9 =>
(idx s7.2.2 s7.2.1).bind fun x10 =>
(if (decide (x10 < (0 : Int))) = true then
some (Sum.inl (s7.1, s7.2.2))
else
(idx s7.2.2 s7.2.1).bind fun x11 =>
(M.bytecode_verifier_step N a0 s7.2.1 x9 s7.2.2).bind fun y12 =>
(if (!decide (y12.1 = (0 : Int))) = true then
some (Sum.inr (Sum.inr (Sum.inr ((0 : Int), y12.1))))
else
some (Sum.inl (if s7.1 < x11 then x11 else s7.1, y12.2))))) fun j8 =>
some (Sum.inl (j8.1, IntKind.i64.wrap (s7.2.1 + (1 : Int)), j8.2))
else
some (Sum.inr (Sum.inl (s7.1, s7.2.2))))) N ((0 : Int), (0 : Int), setL j2 (0 : Int) (0 : Int))) fun j6 =>
(idx j6.2 (a0.length : Int)).bind fun x13 =>
(if (decide (x13 ≤ (0 : Int))) = true then
some ((0 : Int), (5 : Int))
else
(if (decide ((1 : Int) < x13)) = true then
some ((0 : Int), (4 : Int))
else
some (if j6.1 < x13 then x13 else j6.1, (0 : Int))))))
noncomputable def S25 (N : Nat) : Sig := { inn := ⟨[(0, .val false (.leaf (.slice rType)))], [], [], 0⟩, out := ⟨[(0, .val false (.leaf rInt)), (1, .val false (.leaf rInt))], [], [], 0⟩, fn := fun (x : List rType.den) => M.bytecode_Verify N x }
theorem W25 (N : Nat) : FnOK Tryz.prog 25 (S25 N) := fn_ok (E := ⟨tabs, [(42, S42 N)], (tabcons (W42 N) tabnil), mixed⟩) (N := N) (a := (.two .nil (.two .nil (.two .nil (.two .nil (.meet ⟨[], [(176, .own 3 rInt)], [], 241⟩ (.two .nil (.two (.loop ⟨[(28, .val false (.leaf rInt))], [(176, .own 3 rInt)], [], 337⟩ .nil) .nil)) (.two .nil (.two .nil (.join ⟨[(6, .val false (.leaf rInt))], [(176, .own 3 rInt), (208, .box 101 (.own 176))], [], 355⟩ (.two .nil (.two (.loop ⟨[(6, .val false (.leaf rInt)), (45, .val false (.leaf rInt))], [(176, .own 3 rInt), (208, .box 101 (.own 176))], [], 403⟩ (.two .nil (.two .nil (.two (.join ⟨[(6, .val false (.leaf rInt))], [(176, .own 3 rInt), (208, .box 101 (.own 176))], [], 421⟩ .nil .nil) .nil)))) .nil)) .nil))))))))) (sg := S25 N) (c := Tryz.f25.body.getD .skip) (rs := Tryz.f25.results.toList) Tryz.func25 (by kernel_rfl) (by kernel_rfl) rfl rfl rfl rfl (fun x => by kernel_rfl)
noncomputable def M.vm_isConditional (N : Nat) (a0 : Int) : Option (Bool) :=
((if (decide (a0 = (50 : Int))) = true then
some true
else
(if (decide (a0 = (52 : Int))) = true then
some true
else
some (decide (a0 = (53 : Int))))) : Option (Bool)).bind fun j1 =>
some j1
noncomputable def S26 (N : Nat) : Sig := { inn := ⟨[(0, .val false (.leaf rInt))], [], [], 0⟩, out := ⟨[(0, .val false (.leaf .bool))], [], [], 0⟩, fn := fun (x : Int) => M.vm_isConditional N x }
theorem W26 (N : Nat) : FnOK Tryz.prog 26 (S26 N) := fn_ok (E := ⟨tabs, [], tabnil, mixed⟩) (N := N) (a := (.two .nil (.meet ⟨[(2, .val false (.leaf .bool))], [], [], 16⟩ .nil .nil))) (sg := S26 N) (c := Tryz.f26.body.getD .skip) (rs := Tryz.f26.results.toList) Tryz.func26 (by kernel_rfl) (by kernel_rfl) rfl rfl rfl rfl (fun x => by kernel_rfl)
noncomputable def M.expr_UsesN (N : Nat) (a0 : Int) : Option (Bool) :=
((if (decide (a0 = (1 : Int))) = true then
some (decide (a0 = (1 : Int)))
else
(if (decide (a0 = (2 : Int))) = true then
some (decide (a0 = (2 : Int)))
else
(if (decide (a0 = (3 : Int))) = true then
some (decide (a0 = (3 : Int)))
else
(if (decide (a0 = (4 : Int))) = true then
some (decide (a0 = (4 : Int)))
else
(if (decide (a0 = (5 : Int))) = true then
some (decide (a0 = (5 : Int)))
else
(if (decide (a0 = (6 : Int))) = true then
some (decide (a0 = (6 : Int)))
else
(if (decide (a0 = (7 : Int))) = true then
some (decide (a0 = (7 : Int)))
else
(if (decide (a0 = (8 : Int))) = true then
some (decide (a0 = (8 : Int)))
else
(if (decide (a0 = (14 : Int))) = true then
some (decide (a0 = (14 : Int)))
else
(if (decide (a0 = (15 : Int))) = true then
some (decide (a0 = (15 : Int)))
else
(if (decide (a0 = (16 : Int))) = true then
some (decide (a0 = (16 : Int)))
else
(if (decide (a0 = (33 : Int))) = true then
some (decide (a0 = (33 : Int)))
else
(if (decide (a0 = (34 : Int))) = true then
some (decide (a0 = (34 : Int)))
else
(if (decide (a0 = (36 : Int))) = true then
some (decide (a0 = (36 : Int)))
else
(if (decide (a0 = (37 : Int))) = true then
some (decide (a0 = (37 : Int)))
else
(if (decide (a0 = (38 : Int))) = true then
some (decide (a0 = (38 : Int)))
else
some (decide (a0 = (39 : Int))))))))))))))))))) : Option (Bool)).bind fun j1 =>
(if j1 = true then
some true
else
some false)
noncomputable def S20 (N : Nat) : Sig := { inn := ⟨[(0, .val false (.leaf rInt))], [], [], 0⟩, out := ⟨[(0, .val false (.leaf .bool))], [], [], 0⟩, fn := fun (x : Int) => M.expr_UsesN N x }
theorem W20 (N : Nat) : FnOK Tryz.prog 20 (S20 N) := fn_ok (E := ⟨tabs, [], tabnil, mixed⟩) (N := N) (a := (.two .nil (.two (.two .nil (.two (.meet ⟨[(4, .val false (.leaf .bool))], [], [], 32⟩ .nil .nil) .nil)) .nil))) (sg := S20 N) (c := Tryz.f20.body.getD .skip) (rs := Tryz.f20.results.toList) Tryz.func20 (by kernel_rfl) (by kernel_rfl) rfl rfl rfl rfl (fun x => by kernel_rfl)
noncomputable def M.eval_wellFormed (N : Nat) (a0 : rType.den) : Option (Bool) :=
((M.expr_Arity N a0.1).bind fun y2 =>
(if (decide (y2 < (0 : Int))) = true then
some true
else
(if (!decide (a0.2 = (0 : Int))) = true then
(M.expr_UsesN N a0.1).bind fun y3 =>
some (!y3)
else
some false)) : Option (Bool)).bind fun j1 =>
(if j1 = true then
some false
else
((if (decide (a0.1 = (14 : Int))) = true then
some (decide (a0.1 = (14 : Int)))
else
(if (decide (a0.1 = (15 : Int))) = true then
some (decide (a0.1 = (15 : Int)))
else
some (decide (a0.1 = (16 : Int))))) : Option (Bool)).bind fun j4 =>
(if j4 = true then
((if (decide ((0 : Int) ≤ a0.2)) = true then
some (decide (a0.2 ≤ (5 : Int)))
else
some false) : Option (Bool)).bind fun j5 =>
some j5
else
(if (decide (a0.1 = (34 : Int))) = true then
((if (decide ((0 : Int) ≤ a0.2)) = true then
some (decide ((Int.tmod a0.2 (8 : Int)) ≤ (5 : Int)))
else
some false) : Option (Bool)).bind fun j6 =>
some j6
else
(if (decide (a0.1 = (6 : Int))) = true then
some (decide ((0 : Int) ≤ a0.2))
else
some true))))
noncomputable def S43 (N : Nat) : Sig := { inn := ⟨[(0, .val true (.leaf rType))], [], [], 0⟩, out := ⟨[(0, .val false (.leaf .bool))], [], [], 0⟩, fn := fun (x : rType.den) => M.eval_wellFormed N x }
theorem W43 (N : Nat) : FnOK Tryz.prog 43 (S43 N) := fn_ok (E := ⟨tabs, [(20, S20 N), (21, S21 N)], (tabcons (W20 N) (tabcons (W21 N) tabnil)), mixed⟩) (N := N) (a := (.two .nil (.two (.meet ⟨[(17, .val false (.leaf .bool))], [], [], 32⟩ .nil .nil) (.two (.two .nil (.two (.meet ⟨[(20, .val false (.leaf .bool))], [], [], 64⟩ .nil (.two (.meet ⟨[(2, .val false (.leaf .bool))], [], [], 64⟩ .nil .nil) (.two .nil (.two (.meet ⟨[(2, .val false (.leaf .bool))], [], [], 96⟩ .nil .nil) .nil)))) .nil)) .nil)))) (sg := S43 N) (c := Tryz.f43.body.getD .skip) (rs := Tryz.f43.results.toList) Tryz.func43 (by kernel_rfl) (by kernel_rfl) rfl rfl rfl rfl (fun x => by kernel_rfl)
noncomputable def M.eval_exists (N : Nat) (a0 : rType.den) (a1 : rEnv.den) : Option (Bool) :=
(if (decide (a0.1 = (7 : Int))) = true then
((if (decide ((0 : Int) ≤ a0.2)) = true then
some (decide (a0.2 < (a1.2.1.length : Int)))
else
some false) : Option (Bool)).bind fun j1 =>
some j1
else
(if (decide (a0.1 = (8 : Int))) = true then
((if (decide ((0 : Int) ≤ a0.2)) = true then
(if (decide (a0.2 < (a1.2.2.1.length : Int))) = true then
(idx a1.2.2.1 a0.2).bind fun x3 =>
some (!decide (x3.1 = (0 : Int)))
else
some false)
else
some false) : Option (Bool)).bind fun j2 =>
some j2
else
(if (decide (a0.1 = (33 : Int))) = true then
((if (decide ((0 : Int) ≤ a0.2)) = true then
some (decide (a0.2 < (a1.2.2.2.2.2.length : Int)))
else
some false) : Option (Bool)).bind fun j4 =>
some j4
else
(if (decide (a0.1 = (34 : Int))) = true then
some (decide ((IntKind.i64.wrap (Int.tdiv a0.2 (8 : Int))) < (a1.2.2.2.2.2.length : Int)))
else
((if (decide (a0.1 = (36 : Int))) = true then
some (decide (a0.1 = (36 : Int)))
else
(if (decide (a0.1 = (37 : Int))) = true then
some (decide (a0.1 = (37 : Int)))
else
(if (decide (a0.1 = (38 : Int))) = true then
some (decide (a0.1 = (38 : Int)))
else
some (decide (a0.1 = (39 : Int)))))) : Option (Bool)).bind fun j5 =>
(if j5 = true then
((if (decide ((0 : Int) ≤ a0.2)) = true then
some (decide (a0.2 < (a1.2.2.2.2.1.length : Int)))
else
some false) : Option (Bool)).bind fun j6 =>
some j6
else
some true)))))
noncomputable def S44 (N : Nat) : Sig := { inn := ⟨[(0, .val true (.leaf rType)), (1, .val true (.leaf rEnv))], [], [], 0⟩, out := ⟨[(0, .val false (.leaf .bool))], [], [], 0⟩, fn := fun (x : rType.den × rEnv.den) => M.eval_exists N x.1 x.2 }
theorem W44 (N : Nat) : FnOK Tryz.prog 44 (S44 N) := fn_ok (E := ⟨tabs, [], tabnil, mixed⟩) (N := N) (a := (.two .nil (.two (.two .nil (.two (.two .nil (.two (.meet ⟨[(4, .val false (.leaf .bool))], [], [], 112⟩ .nil .nil) (.two .nil (.two (.meet ⟨[(4, .val false (.leaf .bool))], [], [], 144⟩ .nil .nil) (.two .nil (.two (.meet ⟨[(4, .val false (.leaf .bool))], [], [], 176⟩ .nil .nil) (.two .nil (.two .nil (.meet ⟨[(65, .val false (.leaf .bool))], [], [], 208⟩ .nil (.two (.meet ⟨[(4, .val false (.leaf .bool))], [], [], 208⟩ .nil .nil) .nil)))))))))) .nil)) .nil))) (sg := S44 N) (c := Tryz.f44.body.getD .skip) (rs := Tryz.f44.results.toList) Tryz.func44 (by kernel_rfl) (by kernel_rfl) rfl rfl rfl rfl (fun x => by kernel_rfl)
noncomputable def M.eval_plausible (N : Nat) (a0 : rValue.den) : Option (Bool) :=
((if (!decide (a0.1 = (6 : Int))) = true then
some (!decide (a0.2.1 = (0 : Int)))
else
some false) : Option (Bool)).bind fun j1 =>
(if j1 = true then
some false
else
(if (decide (a0.1 = (1 : Int))) = true then
((if (decide (a0.2.2 = (0 : Int))) = true then
some true
else
some (decide (a0.2.2 = (1 : Int)))) : Option (Bool)).bind fun j2 =>
some j2
else
(if (decide (a0.1 = (2 : Int))) = true then
((if (decide ((-1000000000000 : Int) ≤ a0.2.2)) = true then
some (decide (a0.2.2 ≤ (1000000000000 : Int)))
else
some false) : Option (Bool)).bind fun j3 =>
some j3
else
(if (decide (a0.1 = (3 : Int))) = true then
((if (decide ((-1000000000000000 : Int) ≤ a0.2.2)) = true then
some (decide (a0.2.2 ≤ (1000000000000000 : Int)))
else
some false) : Option (Bool)).bind fun j4 =>
some j4
else
(if (decide (a0.1 = (4 : Int))) = true then
((if (decide ((-1000000000 : Int) ≤ a0.2.2)) = true then
some (decide (a0.2.2 ≤ (1000000000 : Int)))
else
some false) : Option (Bool)).bind fun j5 =>
some j5
else
(if (decide (a0.1 = (5 : Int))) = true then
((if (decide ((0 : Int) ≤ a0.2.2)) = true then
some (decide (a0.2.2 ≤ (109572 : Int)))
else
some false) : Option (Bool)).bind fun j6 =>
some j6
else
(if (decide (a0.1 = (6 : Int))) = true then
((if (decide ((0 : Int) ≤ a0.2.1)) = true then
(if (decide (a0.2.1 < (8 : Int))) = true then
(if (decide ((0 : Int) ≤ a0.2.2)) = true then
some (decide (a0.2.2 < (16 : Int)))
else
some false)
else
some false)
else
some false) : Option (Bool)).bind fun j7 =>
some j7
else
some false)))))))
noncomputable def S48 (N : Nat) : Sig := { inn := ⟨[(0, .val true (.leaf rValue))], [], [], 0⟩, out := ⟨[(0, .val false (.leaf .bool))], [], [], 0⟩, fn := fun (x : rValue.den) => M.eval_plausible N x }
theorem W48 (N : Nat) : FnOK Tryz.prog 48 (S48 N) := fn_ok (E := ⟨tabs, [], tabnil, mixed⟩) (N := N) (a := (.two .nil (.two (.meet ⟨[(10, .val false (.leaf .bool))], [], [], 32⟩ .nil .nil) (.two (.two .nil (.two (.two .nil (.two (.meet ⟨[(2, .val false (.leaf .bool))], [], [], 96⟩ .nil .nil) (.two .nil (.two (.meet ⟨[(2, .val false (.leaf .bool))], [], [], 128⟩ .nil .nil) (.two .nil (.two (.meet ⟨[(2, .val false (.leaf .bool))], [], [], 160⟩ .nil .nil) (.two .nil (.two (.meet ⟨[(2, .val false (.leaf .bool))], [], [], 192⟩ .nil .nil) (.two .nil (.two (.meet ⟨[(2, .val false (.leaf .bool))], [], [], 224⟩ .nil .nil) (.two .nil (.two (.meet ⟨[(2, .val false (.leaf .bool))], [], [], 256⟩ .nil .nil) .nil)))))))))))) .nil)) .nil)))) (sg := S48 N) (c := Tryz.f48.body.getD .skip) (rs := Tryz.f48.results.toList) Tryz.func48 (by kernel_rfl) (by kernel_rfl) rfl rfl rfl rfl (fun x => by kernel_rfl)
noncomputable def M.eval_allPlausible (N : Nat) (a0 : List rValue.den) : Option (Bool) :=
Loop (S := Int) (X := Bool) (fun s1 =>
(if (decide (s1 < (a0.length : Int))) = true then
(idx a0 s1).bind fun x2 =>
(M.eval_plausible N x2).bind fun y3 =>
(if (!y3) = true then
some (Sum.inr false)
else
some (Sum.inl (IntKind.i64.wrap (s1 + (1 : Int)))))
else
some (Sum.inr true))) N (0 : Int)
noncomputable def S45 (N : Nat) : Sig := { inn := ⟨[(0, .val false (.leaf (.slice rValue)))], [], [], 0⟩, out := ⟨[(0, .val false (.leaf .bool))], [], [], 0⟩, fn := fun (x : List rValue.den) => M.eval_allPlausible N x }
theorem W45 (N : Nat) : FnOK Tryz.prog 45 (S45 N) := fn_ok (E := ⟨tabs, [(48, S48 N)], (tabcons (W48 N) tabnil), mixed⟩) (N := N) (a := (.two .nil (.two (.two .nil (.two (.loop ⟨[(7, .val false (.leaf rInt))], [], [], 64⟩ .nil) .nil)) .nil))) (sg := S45 N) (c := Tryz.f45.body.getD .skip) (rs := Tryz.f45.results.toList) Tryz.func45 (by kernel_rfl) (by kernel_rfl) rfl rfl rfl rfl (fun x => by kernel_rfl)
noncomputable def M.eval_hasType (N : Nat) (a0 : rValue.den) (a1 : rType.den) : Option (Bool) :=
((M.eval_plausible N a0).bind fun y2 =>
(if y2 = true then
(if (decide (a0.1 = a1.1)) = true then
some (decide (a0.2.1 = a1.2))
else
some false)
else
some false) : Option (Bool)).bind fun j1 =>
some j1
noncomputable def S60 (N : Nat) : Sig := { inn := ⟨[(0, .val true (.leaf rValue)), (1, .val true (.leaf rType))], [], [], 0⟩, out := ⟨[(0, .val false (.leaf .bool))], [], [], 0⟩, fn := fun (x : rValue.den × rType.den) => M.eval_hasType N x.1 x.2 }
theorem W60 (N : Nat) : FnOK Tryz.prog 60 (S60 N) := fn_ok (E := ⟨tabs, [(48, S48 N)], (tabcons (W48 N) tabnil), mixed⟩) (N := N) (a := (.two .nil (.meet ⟨[(4, .val false (.leaf .bool))], [], [], 48⟩ .nil .nil))) (sg := S60 N) (c := Tryz.f60.body.getD .skip) (rs := Tryz.f60.results.toList) Tryz.func60 (by kernel_rfl) (by kernel_rfl) rfl rfl rfl rfl (fun x => by kernel_rfl)
noncomputable def M.eval_isNumber (N : Nat) (a0 : Int) : Option (Bool) :=
((if (decide (a0 = (2 : Int))) = true then
some true
else
(if (decide (a0 = (3 : Int))) = true then
some true
else
some (decide (a0 = (4 : Int))))) : Option (Bool)).bind fun j1 =>
some j1
noncomputable def S72 (N : Nat) : Sig := { inn := ⟨[(0, .val false (.leaf rInt))], [], [], 0⟩, out := ⟨[(0, .val false (.leaf .bool))], [], [], 0⟩, fn := fun (x : Int) => M.eval_isNumber N x }
theorem W72 (N : Nat) : FnOK Tryz.prog 72 (S72 N) := fn_ok (E := ⟨tabs, [], tabnil, mixed⟩) (N := N) (a := (.two .nil (.meet ⟨[(2, .val false (.leaf .bool))], [], [], 16⟩ .nil .nil))) (sg := S72 N) (c := Tryz.f72.body.getD .skip) (rs := Tryz.f72.results.toList) Tryz.func72 (by kernel_rfl) (by kernel_rfl) rfl rfl rfl rfl (fun x => by kernel_rfl)
noncomputable def M.eval_memberAllowed (N : Nat) (a0 : Int) (a1 : rType.den) : Option (Bool) :=
(if (!decide (a1.2 = (0 : Int))) = true then
some false
else
(if (decide (a0 = (36 : Int))) = true then
((if (decide (a1.1 = (2 : Int))) = true then
some true
else
some (decide (a1.1 = (3 : Int)))) : Option (Bool)).bind fun j1 =>
some j1
else
(if (decide (a0 = (39 : Int))) = true then
((M.eval_isNumber N a1.1).bind fun y3 =>
(if y3 = true then
some true
else
some (decide (a1.1 = (5 : Int)))) : Option (Bool)).bind fun j2 =>
some j2
else
some (decide (a1.1 = (1 : Int))))))
noncomputable def S61 (N : Nat) : Sig := { inn := ⟨[(0, .val false (.leaf rInt)), (1, .val true (.leaf rType))], [], [], 0⟩, out := ⟨[(0, .val false (.leaf .bool))], [], [], 0⟩, fn := fun (x : Int × rType.den) => M.eval_memberAllowed N x.1 x.2 }
theorem W61 (N : Nat) : FnOK Tryz.prog 61 (S61 N) := fn_ok (E := ⟨tabs, [(72, S72 N)], (tabcons (W72 N) tabnil), mixed⟩) (N := N) (a := (.two .nil (.two .nil (.two (.two .nil (.two (.two .nil (.two (.meet ⟨[(4, .val false (.leaf .bool))], [], [], 128⟩ .nil .nil) (.two .nil (.two (.meet ⟨[(4, .val false (.leaf .bool))], [], [], 160⟩ .nil .nil) .nil)))) .nil)) .nil)))) (sg := S61 N) (c := Tryz.f61.body.getD .skip) (rs := Tryz.f61.results.toList) Tryz.func61 (by kernel_rfl) (by kernel_rfl) rfl rfl rfl rfl (fun x => by kernel_rfl)
noncomputable def M.eval_unaryAllowed (N : Nat) (a0 : Int) (a1 : Int) : Option (Bool) :=
(if (decide (a0 = (10 : Int))) = true then
(M.eval_isNumber N a1).bind fun y1 =>
some y1
else
(if (decide (a0 = (25 : Int))) = true then
some (decide (a1 = (1 : Int)))
else
some (decide (a1 = (5 : Int)))))
noncomputable def S62 (N : Nat) : Sig := { inn := ⟨[(0, .val false (.leaf rInt)), (1, .val false (.leaf rInt))], [], [], 0⟩, out := ⟨[(0, .val false (.leaf .bool))], [], [], 0⟩, fn := fun (x : Int × Int) => M.eval_unaryAllowed N x.1 x.2 }
theorem W62 (N : Nat) : FnOK Tryz.prog 62 (S62 N) := fn_ok (E := ⟨tabs, [(72, S72 N)], (tabcons (W72 N) tabnil), mixed⟩) (N := N) (a := .nil) (sg := S62 N) (c := Tryz.f62.body.getD .skip) (rs := Tryz.f62.results.toList) Tryz.func62 (by kernel_rfl) (by kernel_rfl) rfl rfl rfl rfl (fun x => by kernel_rfl)
noncomputable def M.eval_sameType (N : Nat) (a0 : rValue.den) (a1 : rValue.den) : Option (Bool) :=
((if (decide (a0.1 = a1.1)) = true then
some (decide (a0.2.1 = a1.2.1))
else
some false) : Option (Bool)).bind fun j1 =>
some j1
noncomputable def S64 (N : Nat) : Sig := { inn := ⟨[(0, .val true (.leaf rValue)), (1, .val true (.leaf rValue))], [], [], 0⟩, out := ⟨[(0, .val false (.leaf .bool))], [], [], 0⟩, fn := fun (x : rValue.den × rValue.den) => M.eval_sameType N x.1 x.2 }
theorem W64 (N : Nat) : FnOK Tryz.prog 64 (S64 N) := fn_ok (E := ⟨tabs, [], tabnil, mixed⟩) (N := N) (a := (.two .nil (.meet ⟨[(4, .val false (.leaf .bool))], [], [], 48⟩ .nil .nil))) (sg := S64 N) (c := Tryz.f64.body.getD .skip) (rs := Tryz.f64.results.toList) Tryz.func64 (by kernel_rfl) (by kernel_rfl) rfl rfl rfl rfl (fun x => by kernel_rfl)
noncomputable def M.eval_binaryAllowed (N : Nat) (a0 : Int) (a1 : rValue.den) (a2 : rValue.den) : Option (Bool) :=
((if (decide (a0 = (11 : Int))) = true then
some (decide (a0 = (11 : Int)))
else
some (decide (a0 = (12 : Int)))) : Option (Bool)).bind fun j1 =>
(if j1 = true then
((M.eval_sameType N a1 a2).bind fun y3 =>
(if y3 = true then
(M.eval_isNumber N a1.1).bind fun y4 =>
some y4
else
some false) : Option (Bool)).bind fun j2 =>
some j2
else
(if (decide (a0 = (13 : Int))) = true then
((if (decide (a2.1 = (2 : Int))) = true then
(if (decide (a1.1 = (2 : Int))) = true then
some true
else
some (decide (a1.1 = (3 : Int))))
else
some false) : Option (Bool)).bind fun j5 =>
some j5
else
(if (decide (a0 = (14 : Int))) = true then
((if (decide (a2.1 = (4 : Int))) = true then
(if (decide (a1.1 = (3 : Int))) = true then
some true
else
some (decide (a1.1 = (4 : Int))))
else
some false) : Option (Bool)).bind fun j6 =>
some j6
else
(if (decide (a0 = (15 : Int))) = true then
(if (decide (a2.1 = (2 : Int))) = true then
((if (decide (a1.1 = (2 : Int))) = true then
some true
else
some (decide (a1.1 = (3 : Int)))) : Option (Bool)).bind fun j7 =>
some j7
else
((if (decide (a1.1 = (3 : Int))) = true then
some (decide (a2.1 = (3 : Int)))
else
some false) : Option (Bool)).bind fun j8 =>
some j8)
else
(if (decide (a0 = (16 : Int))) = true then
((if (decide (a1.1 = (3 : Int))) = true then
some (decide (a2.1 = (3 : Int)))
else
some false) : Option (Bool)).bind fun j9 =>
some j9
else
((if (decide (a0 = (17 : Int))) = true then
some (decide (a0 = (17 : Int)))
else
(if (decide (a0 = (18 : Int))) = true then
some (decide (a0 = (18 : Int)))
else
(if (decide (a0 = (21 : Int))) = true then
some (decide (a0 = (21 : Int)))
else
some (decide (a0 = (22 : Int)))))) : Option (Bool)).bind fun j10 =>
(if j10 = true then
((M.eval_sameType N a1 a2).bind fun y12 =>
(if y12 = true then
(M.eval_isNumber N a1.1).bind fun y13 =>
(if y13 = true then
some true
else
some (decide (a1.1 = (5 : Int))))
else
some false) : Option (Bool)).bind fun j11 =>
some j11
else
((if (decide (a0 = (19 : Int))) = true then
some (decide (a0 = (19 : Int)))
else
some (decide (a0 = (20 : Int)))) : Option (Bool)).bind fun j14 =>
(if j14 = true then
(M.eval_sameType N a1 a2).bind fun y15 =>
some y15
else
((if (decide (a0 = (23 : Int))) = true then
some (decide (a0 = (23 : Int)))
else
some (decide (a0 = (24 : Int)))) : Option (Bool)).bind fun j16 =>
(if j16 = true then
((if (decide (a1.1 = (1 : Int))) = true then
some (decide (a2.1 = (1 : Int)))
else
some false) : Option (Bool)).bind fun j17 =>
some j17
else
((if (decide (a0 = (27 : Int))) = true then
some (decide (a0 = (27 : Int)))
else
some (decide (a0 = (28 : Int)))) : Option (Bool)).bind fun j18 =>
(if j18 = true then
((if (decide (a1.1 = (5 : Int))) = true then
some (decide (a2.1 = (2 : Int)))
else
some false) : Option (Bool)).bind fun j19 =>
some j19
else
((if (decide (a1.1 = (5 : Int))) = true then
some (decide (a2.1 = (5 : Int)))
else
some false) : Option (Bool)).bind fun j20 =>
some j20)))))))))
noncomputable def S63 (N : Nat) : Sig := { inn := ⟨[(0, .val false (.leaf rInt)), (1, .val true (.leaf rValue)), (2, .val true (.leaf rValue))], [], [], 0⟩, out := ⟨[(0, .val false (.leaf .bool))], [], [], 0⟩, fn := fun (x : Int × rValue.den × rValue.den) => M.eval_binaryAllowed N x.1 x.2.1 x.2.2 }
theorem W63 (N : Nat) : FnOK Tryz.prog 63 (S63 N) := fn_ok (E := ⟨tabs, [(64, S64 N), (72, S72 N)], (tabcons (W64 N) (tabcons (W72 N) tabnil)), mixed⟩) (N := N) (a := (.two .nil (.two (.two .nil (.two (.meet ⟨[(8, .val false (.leaf .bool))], [], [], 64⟩ .nil (.two (.meet ⟨[(6, .val false (.leaf .bool))], [], [], 64⟩ .nil .nil) (.two .nil (.two (.meet ⟨[(6, .val false (.leaf .bool))], [], [], 96⟩ .nil .nil) (.two .nil (.two (.meet ⟨[(6, .val false (.leaf .bool))], [], [], 128⟩ .nil .nil) (.two .nil (.two (.two (.two .nil (.two (.meet ⟨[(6, .val false (.leaf .bool))], [], [], 208⟩ .nil .nil) .nil)) (.meet ⟨[(6, .val false (.leaf .bool))], [], [], 208⟩ .nil .nil)) (.two .nil (.two (.meet ⟨[(6, .val false (.leaf .bool))], [], [], 192⟩ .nil .nil) (.meet ⟨[(80, .val false (.leaf .bool))], [], [], 192⟩ .nil (.two (.meet ⟨[(6, .val false (.leaf .bool))], [], [], 192⟩ .nil .nil) (.meet ⟨[(98, .val false (.leaf .bool))], [], [], 192⟩ .nil (.two .nil (.meet ⟨[(104, .val false (.leaf .bool))], [], [], 192⟩ .nil (.two (.meet ⟨[(6, .val false (.leaf .bool))], [], [], 192⟩ .nil .nil) (.meet ⟨[(115, .val false (.leaf .bool))], [], [], 192⟩ .nil (.two (.meet ⟨[(6, .val false (.leaf .bool))], [], [], 192⟩ .nil .nil) .nil)))))))))))))))))) .nil)) (.meet ⟨[(6, .val false (.leaf .bool))], [], [], 192⟩ .nil .nil)))) (sg := S63 N) (c := Tryz.f63.body.getD .skip) (rs := Tryz.f63.results.toList) Tryz.func63 (by kernel_rfl) (by kernel_rfl) rfl rfl rfl rfl (fun x => by kernel_rfl)
noncomputable def M.eval_allowed (N : Nat) (a0 : rType.den) (a1 : List rValue.den) (a2 : rEnv.den) : Option (Bool) :=
(if (decide (a0.1 = (7 : Int))) = true then
(idx a2.2.1 a0.2).bind fun x1 =>
(M.eval_plausible N x1).bind fun y2 =>
some y2
else
(if (decide (a0.1 = (8 : Int))) = true then
(idx a2.2.2.1 a0.2).bind fun x3 =>
(M.eval_plausible N x3).bind fun y4 =>
some y4
else
(if (decide (a0.1 = (33 : Int))) = true then
(idx a2.2.2.2.2.2 a0.2).bind fun x5 =>
((idx a1 (0 : Int)).bind fun x7 =>
(M.eval_hasType N x7 x5.2.1).bind fun y8 =>
(if y8 = true then
(if (decide ((1 : Int) ≤ x5.2.2.1.1)) = true then
some (decide (x5.2.2.1.1 ≤ (6 : Int)))
else
some false)
else
some false) : Option (Bool)).bind fun j6 =>
some j6
else
(if (decide (a0.1 = (34 : Int))) = true then
(idx a2.2.2.2.2.2 (IntKind.i64.wrap (Int.tdiv a0.2 (8 : Int)))).bind fun x9 =>
((idx a1 (0 : Int)).bind fun x11 =>
(if (decide (x11.1 = (3 : Int))) = true then
(if (eqR rType x9.2.1 ((3 : Int), (0 : Int))) = true then
some (eqR rType x9.2.2.1 ((4 : Int), (0 : Int)))
else
some false)
else
some false) : Option (Bool)).bind fun j10 =>
some j10
else
((if (decide (a0.1 = (36 : Int))) = true then
some (decide (a0.1 = (36 : Int)))
else
(if (decide (a0.1 = (37 : Int))) = true then
some (decide (a0.1 = (37 : Int)))
else
(if (decide (a0.1 = (38 : Int))) = true then
some (decide (a0.1 = (38 : Int)))
else
some (decide (a0.1 = (39 : Int)))))) : Option (Bool)).bind fun j12 =>
(if j12 = true then
(idx a2.2.2.2.2.1 a0.2).bind fun x13 =>
(M.eval_memberAllowed N a0.1 x13).bind fun y14 =>
some y14
else
(if (decide ((a1.length : Int) = (1 : Int))) = true then
(idx a1 (0 : Int)).bind fun x15 =>
(M.eval_unaryAllowed N a0.1 x15.1).bind fun y16 =>
some y16
else
(if (decide ((a1.length : Int) = (2 : Int))) = true then
(idx a1 (0 : Int)).bind fun x17 =>
(idx a1 (1 : Int)).bind fun x18 =>
(M.eval_binaryAllowed N a0.1 x17 x18).bind fun y19 =>
some y19
else
(if (decide ((a1.length : Int) = (3 : Int))) = true then
((idx a1 (0 : Int)).bind fun x21 =>
(if (decide (x21.1 = (1 : Int))) = true then
(idx a1 (1 : Int)).bind fun x22 =>
(idx a1 (2 : Int)).bind fun x23 =>
(M.eval_sameType N x22 x23).bind fun y24 =>
some y24
else
some false) : Option (Bool)).bind fun j20 =>
some j20
else
some true))))))))
noncomputable def S46 (N : Nat) : Sig := { inn := ⟨[(0, .val true (.leaf rType)), (1, .val false (.leaf (.slice rValue))), (2, .val true (.leaf rEnv))], [], [], 0⟩, out := ⟨[(0, .val false (.leaf .bool))], [], [], 0⟩, fn := fun (x : rType.den × (List rValue.den) × rEnv.den) => M.eval_allowed N x.1 x.2.1 x.2.2 }
theorem W46 (N : Nat) : FnOK Tryz.prog 46 (S46 N) := fn_ok (E := ⟨tabs, [(48, S48 N), (60, S60 N), (61, S61 N), (62, S62 N), (63, S63 N), (64, S64 N)], (tabcons (W48 N) (tabcons (W60 N) (tabcons (W61 N) (tabcons (W62 N) (tabcons (W63 N) (tabcons (W64 N) tabnil)))))), mixed⟩) (N := N) (a := (.two .nil (.two (.two .nil (.two (.two .nil (.two .nil (.two .nil (.two .nil (.two .nil (.two (.two .nil (.meet ⟨[(6, .val false (.leaf .bool))], [], [], 304⟩ .nil .nil)) (.two .nil (.two (.two .nil (.meet ⟨[(6, .val false (.leaf .bool))], [], [], 352⟩ .nil .nil)) (.meet ⟨[(81, .val false (.leaf .bool))], [], [], 208⟩ .nil .nil))))))))) .nil)) (.two (.two .nil (.two (.two .nil (.two .nil (.two .nil (.two .nil (.two .nil (.two (.meet ⟨[(6, .val false (.leaf .bool))], [], [], 336⟩ .nil .nil) .nil)))))) .nil)) .nil)))) (sg := S46 N) (c := Tryz.f46.body.getD .skip) (rs := Tryz.f46.results.toList) Tryz.func46 (by kernel_rfl) (by kernel_rfl) rfl rfl rfl rfl (fun x => by kernel_rfl)
noncomputable def M.eval_overMembers (N : Nat) (a0 : rType.den) (a1 : rEnv.den) : Option (rValue.den × Int) :=
(idx a1.2.2.2.2.1 a0.2).bind fun x1 =>
((if (decide (a0.1 = (37 : Int))) = true then
some (x1.1, (x1.2, (1 : Int)))
else
some (x1.1, (x1.2, (0 : Int)))) : Option (rValue.den)).bind fun j2 =>
((if (decide (a0.1 = (39 : Int))) = true then
some (decide ((a1.2.2.2.1.length : Int) = (0 : Int)))
else
some false) : Option (Bool)).bind fun j3 =>
(if j3 = true then
some (((0 : Int), ((0 : Int), (0 : Int))), (6 : Int))
else
Join (J := rValue.den) (R := rValue.den × Int) (Loop (S := Int × rValue.den) (X := (rValue.den) ⊕ (rValue.den × Int)) (fun s5 =>
(if (decide (s5.1 < (a1.2.2.2.1.length : Int))) = true then
(idx a1.2.2.2.1 s5.1).bind fun x6 =>
((if (decide ((x6.length : Int) ≤ a0.2)) = true then
some true
else
(idx x6 a0.2).bind fun x8 =>
some (decide (x8.1 = (0 : Int)))) : Option (Bool)).bind fun j7 =>
(if j7 = true then
some (Sum.inr (Sum.inr (((0 : Int), ((0 : Int), (0 : Int))), (6 : Int))))
else
(idx x6 a0.2).bind fun x9 =>
(M.eval_hasType N x9 x1).bind fun y10 =>
(if (!y10) = true then
some (Sum.inr (Sum.inr (((0 : Int), ((0 : Int), (0 : Int))), (8 : Int))))
else
Join (J := rValue.den) (R := (Int × rValue.den) ⊕ ((rValue.den) ⊕ (rValue.den × Int))) ((if (decide (a0.1 = (36 : Int))) = true then
(M.eval_plausible N (s5.2.1, (s5.2.2.1, IntKind.i64.wrap (s5.2.2.2 + x9.2.2)))).bind fun y12 =>
(if (!y12) = true then
some (Sum.inr (Sum.inr (Sum.inr (((0 : Int), ((0 : Int), (0 : Int))), (3 : Int)))))
else
some (Sum.inl (s5.2.1, (s5.2.2.1, IntKind.i64.wrap (s5.2.2.2 + x9.2.2)))))
else
(if (decide (a0.1 = (37 : Int))) = true then
some (Sum.inl (s5.2.1, (s5.2.2.1, if x9.2.2 < s5.2.2.2 then x9.2.2 else s5.2.2.2)))
else
(if (decide (a0.1 = (38 : Int))) = true then
some (Sum.inl (s5.2.1, (s5.2.2.1, if s5.2.2.2 < x9.2.2 then x9.2.2 else s5.2.2.2)))
else
(if (decide (a0.1 = (39 : Int))) = true then
((if (decide (s5.1 = (0 : Int))) = true then
some true
else
some (decide (s5.2.2.2 < x9.2.2))) : Option (Bool)).bind fun j13 =>
(if j13 = true then
some (Sum.inl x9)
else
some (Sum.inl s5.2))
else
some (Sum.inl s5.2)))))) fun j11 =>
some (Sum.inl (IntKind.i64.wrap (s5.1 + (1 : Int)), j11))))
else
some (Sum.inr (Sum.inl s5.2)))) N ((0 : Int), j2)) fun j4 =>
some (j4, (0 : Int)))
noncomputable def S65 (N : Nat) : Sig := { inn := ⟨[(0, .val true (.leaf rType)), (1, .val true (.leaf rEnv))], [], [], 0⟩, out := ⟨[(0, .val true (.leaf rValue)), (1, .val false (.leaf rInt))], [], [], 0⟩, fn := fun (x : rType.den × rEnv.den) => M.eval_overMembers N x.1 x.2 }
theorem W65 (N : Nat) : FnOK Tryz.prog 65 (S65 N) := fn_ok (E := ⟨tabs, [(48, S48 N), (60, S60 N)], (tabcons (W48 N) (tabcons (W60 N) tabnil)), mixed⟩) (N := N) (a := (.two .nil (.two .nil (.two .nil (.meet ⟨[], [(272, .box 50 (.leaf rValue))], [], 305⟩ .nil (.two (.meet ⟨[(34, .val false (.leaf .bool))], [], [], 305⟩ .nil .nil) (.join ⟨[], [(272, .box 50 (.leaf rValue))], [], 306⟩ (.two .nil (.two (.loop ⟨[(39, .val false (.leaf rInt))], [(272, .box 50 (.leaf rValue))], [], 370⟩ (.two .nil (.two .nil (.two (.two (.two .nil (.two (.meet ⟨[(57, .val false (.leaf .bool))], [], [], 466⟩ .nil .nil) (.two .nil (.two .nil (.two .nil (.join ⟨[], [(272, .box 50 (.leaf rValue))], [], 675⟩ (.two .nil (.two .nil (.two .nil (.two .nil (.two .nil (.two .nil (.two .nil (.two (.meet ⟨[(109, .val false (.leaf .bool))], [], [], 802⟩ .nil .nil) .nil)))))))) .nil)))))) .nil) .nil)))) .nil)) .nil))))))) (sg := S65 N) (c := Tryz.f65.body.getD .skip) (rs := Tryz.f65.results.toList) Tryz.func65 (by kernel_rfl) (by kernel_rfl) rfl rfl rfl rfl (fun x => by kernel_rfl)
noncomputable def M.daterange_Valid (N : Nat) (a0 : rType.den) : Option (Bool) :=
((if (decide ((0 : Int) ≤ a0.1)) = true then
(if (decide (a0.1 ≤ a0.2)) = true then
some (decide (a0.2 ≤ (109573 : Int)))
else
some false)
else
some false) : Option (Bool)).bind fun j1 =>
some j1
noncomputable def S83 (N : Nat) : Sig := { inn := ⟨[(0, .val true (.leaf rType))], [], [], 0⟩, out := ⟨[(0, .val false (.leaf .bool))], [], [], 0⟩, fn := fun (x : rType.den) => M.daterange_Valid N x }
theorem W83 (N : Nat) : FnOK Tryz.prog 83 (S83 N) := fn_ok (E := ⟨tabs, [], tabnil, mixed⟩) (N := N) (a := (.two .nil (.meet ⟨[(2, .val false (.leaf .bool))], [], [], 32⟩ .nil .nil))) (sg := S83 N) (c := Tryz.f83.body.getD .skip) (rs := Tryz.f83.results.toList) Tryz.func83 (by kernel_rfl) (by kernel_rfl) rfl rfl rfl rfl (fun x => by kernel_rfl)
noncomputable def M.daterange_Contains (N : Nat) (a0 : rType.den) (a1 : Int) : Option (Bool) :=
((M.daterange_Valid N a0).bind fun y2 =>
(if y2 = true then
(if (decide (a0.1 ≤ a1)) = true then
some (decide (a1 < a0.2))
else
some false)
else
some false) : Option (Bool)).bind fun j1 =>
some j1
noncomputable def S75 (N : Nat) : Sig := { inn := ⟨[(0, .val true (.leaf rType)), (1, .val false (.leaf rInt))], [], [], 0⟩, out := ⟨[(0, .val false (.leaf .bool))], [], [], 0⟩, fn := fun (x : rType.den × Int) => M.daterange_Contains N x.1 x.2 }
theorem W75 (N : Nat) : FnOK Tryz.prog 75 (S75 N) := fn_ok (E := ⟨tabs, [(83, S83 N)], (tabcons (W83 N) tabnil), mixed⟩) (N := N) (a := (.two .nil (.meet ⟨[(4, .val false (.leaf .bool))], [], [], 32⟩ .nil .nil))) (sg := S75 N) (c := Tryz.f75.body.getD .skip) (rs := Tryz.f75.results.toList) Tryz.func75 (by kernel_rfl) (by kernel_rfl) rfl rfl rfl rfl (fun x => by kernel_rfl)
noncomputable def M.table_Lookup_c1_v1 (N : Nat) (a0 : rRow.den) (a1 : Int) (a2 : Int) : Option (Bool × Int × Int) :=
((M.daterange_Contains N a0.1 a1).bind fun y2 =>
(if y2 = true then
(if (decide (a0.2.1 ≤ a2)) = true then
some (decide (a2 < a0.2.2.1))
else
some false)
else
some false) : Option (Bool)).bind fun j1 =>
some (j1, a1, a2)
noncomputable def S74v1 (N : Nat) : Sig := { inn := ⟨[(0, .val true (.leaf rRow)), (1, .ptr 0 [] 0), (2, .ptr 1 [] 0)], [(0, .box 3 (.leaf rInt)), (1, .box 3 (.leaf rInt))], [], 2⟩, out := ⟨[(0, .val false (.leaf .bool))], [(0, .box 3 (.leaf rInt)), (1, .box 3 (.leaf rInt))], [], 4⟩, fn := fun (x : rRow.den × Int × Int) => M.table_Lookup_c1_v1 N x.1 x.2.1 x.2.2 }
theorem W74v1 (N : Nat) : FnOK Tryz.prog 74 (S74v1 N) := fn_ok (E := ⟨tabs, [(75, S75 N)], (tabcons (W75 N) tabnil), mixed⟩) (N := N) (a := (.two .nil (.meet ⟨[(4, .val false (.leaf .bool))], [], [], 34⟩ .nil .nil))) (sg := S74v1 N) (c := Tryz.f74.body.getD .skip) (rs := Tryz.f74.results.toList) Tryz.func74 (by kernel_rfl) (by kernel_rfl) rfl rfl rfl rfl (fun x => by kernel_rfl)
noncomputable def M.table_first_guerdon_api_Row_v1 (N : Nat) (a0 : List rRow.den) (a1 : Int) (a2 : Int) : Option (Int × Bool × Int × Int) :=
Loop (S := Int × Int × Int) (X := Int × Bool × Int × Int) (fun s1 =>
(if (decide (s1.1 < (a0.length : Int))) = true then
(idx a0 s1.1).bind fun x2 =>
(M.table_Lookup_c1_v1 N x2 s1.2.1 s1.2.2).bind fun y3 =>
(if y3.1 = true then
some (Sum.inr (s1.1, true, y3.2.1, y3.2.2))
else
some (Sum.inl (IntKind.i64.wrap (s1.1 + (1 : Int)), y3.2.1, y3.2.2)))
else
some (Sum.inr ((0 : Int), false, s1.2.1, s1.2.2)))) N ((0 : Int), a1, a2)
noncomputable def S73v1 (N : Nat) : Sig := { inn := ⟨[(0, .val false (.leaf (.slice rRow))), (1, .fn 74 [(0, [], 0), (1, [], 0)])], [(0, .box 3 (.leaf rInt)), (1, .box 3 (.leaf rInt))], [], 2⟩, out := ⟨[(0, .val false (.leaf rInt)), (1, .val false (.leaf .bool))], [(0, .box 3 (.leaf rInt)), (1, .box 3 (.leaf rInt))], [], 4⟩, fn := fun (x : (List rRow.den) × Int × Int) => M.table_first_guerdon_api_Row_v1 N x.1 x.2.1 x.2.2 }
theorem W73v1 (N : Nat) : FnOK Tryz.prog 73 (S73v1 N) := fn_ok (E := ⟨tabs, [(74, S74v1 N)], (tabcons (W74v1 N) tabnil), mixed⟩) (N := N) (a := (.two .nil (.two (.two .nil (.two (.loop ⟨[(10, .val false (.leaf rInt))], [(0, .box 3 (.leaf rInt)), (1, .box 3 (.leaf rInt))], [], 84⟩ .nil) .nil)) .nil))) (sg := S73v1 N) (c := Tryz.f73.body.getD .skip) (rs := Tryz.f73.results.toList) Tryz.func73 (by kernel_rfl) (by kernel_rfl) rfl rfl rfl rfl (fun x => by kernel_rfl)
noncomputable def M.table_Lookup (N : Nat) (a0 : rTable.den) (a1 : Int) (a2 : Int) : Option (Int × Bool) :=
(M.table_first_guerdon_api_Row_v1 N a0.2.2.2 a1 a2).bind fun y1 =>
some (y1.1, y1.2.1)
noncomputable def S66 (N : Nat) : Sig := { inn := ⟨[(0, .val true (.leaf rTable)), (1, .val false (.leaf rInt)), (2, .val false (.leaf rInt))], [], [], 0⟩, out := ⟨[(0, .val false (.leaf rInt)), (1, .val false (.leaf .bool))], [], [], 0⟩, fn := fun (x : rTable.den × Int × Int) => M.table_Lookup N x.1 x.2.1 x.2.2 }
theorem W66 (N : Nat) : FnOK Tryz.prog 66 (S66 N) := fn_ok (E := ⟨tabs, [(73, S73v1 N)], (tabcons (W73v1 N) tabnil), mixed⟩) (N := N) (a := .nil) (sg := S66 N) (c := Tryz.f66.body.getD .skip) (rs := Tryz.f66.results.toList) Tryz.func66 (by kernel_rfl) (by kernel_rfl) rfl rfl rfl rfl (fun x => by kernel_rfl)
noncomputable def M.math_bits_Mul64 (N : Nat) (a0 : Int) (a1 : Int) : Option (Int × Int) :=
some (IntKind.u64.wrap ((IntKind.u64.wrap ((IntKind.u64.wrap ((shrV .u64 a0 (32 : Int)) * (shrV .u64 a1 (32 : Int)))) + (shrV .u64 (IntKind.u64.wrap ((IntKind.u64.wrap ((shrV .u64 a0 (32 : Int)) * (bitsA .and .u64 a1 (4294967295 : Int)))) + (shrV .u64 (IntKind.u64.wrap ((bitsA .and .u64 a0 (4294967295 : Int)) * (bitsA .and .u64 a1 (4294967295 : Int)))) (32 : Int)))) (32 : Int)))) + (shrV .u64 (IntKind.u64.wrap ((bitsA .and .u64 (IntKind.u64.wrap ((IntKind.u64.wrap ((shrV .u64 a0 (32 : Int)) * (bitsA .and .u64 a1 (4294967295 : Int)))) + (shrV .u64 (IntKind.u64.wrap ((bitsA .and .u64 a0 (4294967295 : Int)) * (bitsA .and .u64 a1 (4294967295 : Int)))) (32 : Int)))) (4294967295 : Int)) + (IntKind.u64.wrap ((bitsA .and .u64 a0 (4294967295 : Int)) * (shrV .u64 a1 (32 : Int)))))) (32 : Int))), IntKind.u64.wrap (a0 * a1))
noncomputable def S84 (N : Nat) : Sig := { inn := ⟨[(0, .val false (.leaf (.int .u64))), (1, .val false (.leaf (.int .u64)))], [], [], 0⟩, out := ⟨[(0, .val false (.leaf (.int .u64))), (1, .val false (.leaf (.int .u64)))], [], [], 0⟩, fn := fun (x : Int × Int) => M.math_bits_Mul64 N x.1 x.2 }
theorem W84 (N : Nat) : FnOK Tryz.prog 84 (S84 N) := fn_ok (E := ⟨tabs, [], tabnil, mixed⟩) (N := N) (a := .nil) (sg := S84 N) (c := Tryz.f84.body.getD .skip) (rs := Tryz.f84.results.toList) Tryz.func84 (by kernel_rfl) (by kernel_rfl) rfl rfl rfl rfl (fun x => by kernel_rfl)
noncomputable def M.math_bits_Len64 (N : Nat) (a0 : Int) : Option (Int) :=
((if (decide ((4294967296 : Int) ≤ a0)) = true then
some (shrV .u64 a0 (32 : Int), (32 : Int))
else
some (a0, (0 : Int))) : Option (Int × Int)).bind fun j1 =>
((if (decide ((65536 : Int) ≤ j1.1)) = true then
some (shrV .u64 j1.1 (16 : Int), IntKind.i64.wrap (j1.2 + (16 : Int)))
else
some (j1.1, j1.2)) : Option (Int × Int)).bind fun j2 =>
((if (decide ((256 : Int) ≤ j2.1)) = true then
some (shrV .u64 j2.1 (8 : Int), IntKind.i64.wrap (j2.2 + (8 : Int)))
else
some (j2.1, j2.2)) : Option (Int × Int)).bind fun j3 =>
(byteA (⟨#[0, 1, 2, 2, 3, 3, 3, 3, 4, 4, 4, 4, 4, 4, 4, 4, 5, 5, 5, 5, 5, 5, 5, 5, 5, 5, 5, 5, 5, 5, 5, 5, 6, 6, 6, 6, 6, 6, 6, 6, 6, 6, 6, 6, 6, 6, 6, 6, 6, 6, 6, 6, 6, 6, 6, 6, 6, 6, 6, 6, 6, 6, 6, 6, 7, 7, 7, 7, 7, 7, 7, 7, 7, 7, 7, 7, 7, 7, 7, 7, 7, 7, 7, 7, 7, 7, 7, 7, 7, 7, 7, 7, 7, 7, 7, 7, 7, 7, 7, 7, 7, 7, 7, 7, 7, 7, 7, 7, 7, 7, 7, 7, 7, 7, 7, 7, 7, 7, 7, 7, 7, 7, 7, 7, 7, 7, 7, 7, 8, 8, 8, 8, 8, 8, 8, 8, 8, 8, 8, 8, 8, 8, 8, 8, 8, 8, 8, 8, 8, 8, 8, 8, 8, 8, 8, 8, 8, 8, 8, 8, 8, 8, 8, 8, 8, 8, 8, 8, 8, 8, 8, 8, 8, 8, 8, 8, 8, 8, 8, 8, 8, 8, 8, 8, 8, 8, 8, 8, 8, 8, 8, 8, 8, 8, 8, 8, 8, 8, 8, 8, 8, 8, 8, 8, 8, 8, 8, 8, 8, 8, 8, 8, 8, 8, 8, 8, 8, 8, 8, 8, 8, 8, 8, 8, 8, 8, 8, 8, 8, 8, 8, 8, 8, 8, 8, 8, 8, 8, 8, 8, 8, 8, 8, 8, 8, 8, 8, 8, 8, 8, 8, 8, 8, 8, 8, 8]⟩ : ByteArray) (IntKind.u8.wrap j3.1)).bind fun x4 =>
some (IntKind.i64.wrap (j3.2 + (IntKind.i64.wrap x4)))
noncomputable def S108 (N : Nat) : Sig := { inn := ⟨[(0, .val false (.leaf (.int .u64)))], [], [], 0⟩, out := ⟨[(0, .val false (.leaf rInt))], [], [], 0⟩, fn := fun (x : Int) => M.math_bits_Len64 N x }
theorem W108 (N : Nat) : FnOK Tryz.prog 108 (S108 N) := fn_ok (E := ⟨tabs, [], tabnil, mixed⟩) (N := N) (a := (.two .nil (.meet ⟨[(0, .val false (.leaf (.int .u64))), (2, .val false (.leaf rInt))], [], [], 16⟩ .nil (.meet ⟨[(0, .val false (.leaf (.int .u64))), (2, .val false (.leaf rInt))], [], [], 16⟩ .nil (.meet ⟨[(0, .val false (.leaf (.int .u64))), (2, .val false (.leaf rInt))], [], [], 16⟩ .nil .nil))))) (sg := S108 N) (c := Tryz.f108.body.getD .skip) (rs := Tryz.f108.results.toList) Tryz.func108 (by kernel_rfl) (by kernel_rfl) rfl rfl rfl rfl (fun x => by kernel_rfl)
noncomputable def M.math_bits_LeadingZeros64 (N : Nat) (a0 : Int) : Option (Int) :=
(M.math_bits_Len64 N a0).bind fun y1 =>
some (IntKind.i64.wrap ((64 : Int) - y1))
noncomputable def S96 (N : Nat) : Sig := { inn := ⟨[(0, .val false (.leaf (.int .u64)))], [], [], 0⟩, out := ⟨[(0, .val false (.leaf rInt))], [], [], 0⟩, fn := fun (x : Int) => M.math_bits_LeadingZeros64 N x }
theorem W96 (N : Nat) : FnOK Tryz.prog 96 (S96 N) := fn_ok (E := ⟨tabs, [(108, S108 N)], (tabcons (W108 N) tabnil), mixed⟩) (N := N) (a := .nil) (sg := S96 N) (c := Tryz.f96.body.getD .skip) (rs := Tryz.f96.results.toList) Tryz.func96 (by kernel_rfl) (by kernel_rfl) rfl rfl rfl rfl (fun x => by kernel_rfl)
noncomputable def M.math_bits_Div64 (N : Nat) (a0 : Int) (a1 : Int) (a2 : Int) : Option (Int × Int) :=
(if (decide (a2 = (0 : Int))) = true then
none
else
(if (decide (a2 ≤ a0)) = true then
none
else
(if (decide (a0 = (0 : Int))) = true then
(quoA a1 a2).bind fun x1 =>
(remA a1 a2).bind fun x2 =>
some (IntKind.u64.wrap x1, x2)
else
(M.math_bits_LeadingZeros64 N a2).bind fun y3 =>
(shlA .u64 a2 (IntKind.u64.wrap y3)).bind fun x4 =>
(shlA .u64 a0 (IntKind.u64.wrap y3)).bind fun x5 =>
(shrA .u64 a1 (IntKind.u64.wrap ((64 : Int) - (IntKind.u64.wrap y3)))).bind fun x6 =>
(shlA .u64 a1 (IntKind.u64.wrap y3)).bind fun x7 =>
(quoA (bitsA .or .u64 x5 x6) (shrV .u64 x4 (32 : Int))).bind fun x8 =>
((Loop (S := Int × Int) (X := Int) (fun s11 =>
((if (decide ((4294967296 : Int) ≤ s11.1)) = true then
some true
else
some (decide ((IntKind.u64.wrap ((IntKind.u64.wrap ((4294967296 : Int) * s11.2)) + (shrV .u64 x7 (32 : Int)))) < (IntKind.u64.wrap (s11.1 * (bitsA .and .u64 x4 (4294967295 : Int))))))) : Option (Bool)).bind fun j12 =>
(if j12 = true then
(if (decide ((4294967296 : Int) ≤ (IntKind.u64.wrap (s11.2 + (shrV .u64 x4 (32 : Int)))))) = true then
some (Sum.inr (IntKind.u64.wrap (s11.1 - (1 : Int))))
else
some (Sum.inl (IntKind.u64.wrap (s11.1 - (1 : Int)), IntKind.u64.wrap (s11.2 + (shrV .u64 x4 (32 : Int))))))
else
some (Sum.inr s11.1))) N (IntKind.u64.wrap x8, IntKind.u64.wrap ((bitsA .or .u64 x5 x6) - (IntKind.u64.wrap ((IntKind.u64.wrap x8) * (shrV .u64 x4 (32 : Int)))))) : Option (Int)).bind fun j10 =>
some j10 : Option (Int)).bind fun j9 =>
(quoA (IntKind.u64.wrap ((IntKind.u64.wrap ((IntKind.u64.wrap ((bitsA .or .u64 x5 x6) * (4294967296 : Int))) + (shrV .u64 x7 (32 : Int)))) - (IntKind.u64.wrap (j9 * x4)))) (shrV .u64 x4 (32 : Int))).bind fun x13 =>
((Loop (S := Int × Int) (X := Int) (fun s16 =>
((if (decide ((4294967296 : Int) ≤ s16.2)) = true then
some true
else
some (decide ((IntKind.u64.wrap ((IntKind.u64.wrap ((4294967296 : Int) * s16.1)) + (bitsA .and .u64 x7 (4294967295 : Int)))) < (IntKind.u64.wrap (s16.2 * (bitsA .and .u64 x4 (4294967295 : Int))))))) : Option (Bool)).bind fun j17 =>
(if j17 = true then
(if (decide ((4294967296 : Int) ≤ (IntKind.u64.wrap (s16.1 + (shrV .u64 x4 (32 : Int)))))) = true then
some (Sum.inr (IntKind.u64.wrap (s16.2 - (1 : Int))))
else
some (Sum.inl (IntKind.u64.wrap (s16.1 + (shrV .u64 x4 (32 : Int))), IntKind.u64.wrap (s16.2 - (1 : Int)))))
else
some (Sum.inr s16.2))) N (IntKind.u64.wrap ((IntKind.u64.wrap ((IntKind.u64.wrap ((IntKind.u64.wrap ((bitsA .or .u64 x5 x6) * (4294967296 : Int))) + (shrV .u64 x7 (32 : Int)))) - (IntKind.u64.wrap (j9 * x4)))) - (IntKind.u64.wrap ((IntKind.u64.wrap x13) * (shrV .u64 x4 (32 : Int))))), IntKind.u64.wrap x13) : Option (Int)).bind fun j15 =>
some j15 : Option (Int)).bind fun j14 =>
(shrA .u64 (IntKind.u64.wrap ((IntKind.u64.wrap ((IntKind.u64.wrap ((IntKind.u64.wrap ((IntKind.u64.wrap ((IntKind.u64.wrap ((bitsA .or .u64 x5 x6) * (4294967296 : Int))) + (shrV .u64 x7 (32 : Int)))) - (IntKind.u64.wrap (j9 * x4)))) * (4294967296 : Int))) + (bitsA .and .u64 x7 (4294967295 : Int)))) - (IntKind.u64.wrap (j14 * x4)))) (IntKind.u64.wrap y3)).bind fun x18 =>
some (IntKind.u64.wrap ((IntKind.u64.wrap (j9 * (4294967296 : Int))) + j14), x18))))
noncomputable def S85 (N : Nat) : Sig := { inn := ⟨[(0, .val false (.leaf (.int .u64))), (1, .val false (.leaf (.int .u64))), (2, .val false (.leaf (.int .u64)))], [], [], 0⟩, out := ⟨[(0, .val false (.leaf (.int .u64))), (1, .val false (.leaf (.int .u64)))], [], [], 0⟩, fn := fun (x : Int × Int × Int) => M.math_bits_Div64 N x.1 x.2.1 x.2.2 }
theorem W85 (N : Nat) : FnOK Tryz.prog 85 (S85 N) := fn_ok (E := ⟨tabs, [(96, S96 N)], (tabcons (W96 N) tabnil), mixed⟩) (N := N) (a := (.two .nil (.two .nil (.two .nil (.two .nil (.two .nil (.two .nil (.two .nil (.two .nil (.two .nil (.two .nil (.two .nil (.two .nil (.two .nil (.two .nil (.meet ⟨[(15, .val false (.leaf (.int .u64)))], [], [], 832⟩ (.meet ⟨[(15, .val false (.leaf (.int .u64)))], [], [], 832⟩ (.loop ⟨[(15, .val false (.leaf (.int .u64))), (16, .val false (.leaf (.int .u64)))], [], [], 832⟩ (.two (.meet ⟨[(78, .val false (.leaf .bool))], [], [], 832⟩ .nil .nil) .nil)) .nil) (.two .nil (.two .nil (.two .nil (.meet ⟨[(18, .val false (.leaf (.int .u64)))], [], [], 1136⟩ (.meet ⟨[(18, .val false (.leaf (.int .u64)))], [], [], 1136⟩ (.loop ⟨[(16, .val false (.leaf (.int .u64))), (18, .val false (.leaf (.int .u64)))], [], [], 1136⟩ (.two (.meet ⟨[(113, .val false (.leaf .bool))], [], [], 1136⟩ .nil .nil) .nil)) .nil) .nil)))))))))))))))))))) (sg := S85 N) (c := Tryz.f85.body.getD .skip) (rs := Tryz.f85.results.toList) Tryz.func85 (by kernel_rfl) (by kernel_rfl) rfl rfl rfl rfl (fun x => by kernel_rfl)
noncomputable def M.table_contribution (N : Nat) (a0 : Int) (a1 : Int) : Option (Int × Int × Bool) :=
((if (decide (a1 < (0 : Int))) = true then
some (IntKind.u64.wrap (0 - (IntKind.u64.wrap a1)))
else
some (IntKind.u64.wrap a1)) : Option (Int)).bind fun j1 =>
(M.math_bits_Mul64 N (IntKind.u64.wrap a0) j1).bind fun y2 =>
(if (decide ((1000000 : Int) ≤ y2.1)) = true then
some ((0 : Int), (0 : Int), false)
else
(M.math_bits_Div64 N y2.1 y2.2 (1000000 : Int)).bind fun y3 =>
(if (decide ((1000000000000000 : Int) < y3.1)) = true then
some ((0 : Int), (0 : Int), false)
else
(if (decide (a1 < (0 : Int))) = true then
some (IntKind.i64.wrap (0 - (IntKind.i64.wrap y3.1)), IntKind.i64.wrap (0 - (IntKind.i64.wrap y3.2)), true)
else
some (IntKind.i64.wrap y3.1, IntKind.i64.wrap y3.2, true))))
noncomputable def S76 (N : Nat) : Sig := { inn := ⟨[(0, .val false (.leaf rInt)), (1, .val false (.leaf rInt))], [], [], 0⟩, out := ⟨[(0, .val false (.leaf rInt)), (1, .val false (.leaf rInt)), (2, .val false (.leaf .bool))], [], [], 0⟩, fn := fun (x : Int × Int) => M.table_contribution N x.1 x.2 }
theorem W76 (N : Nat) : FnOK Tryz.prog 76 (S76 N) := fn_ok (E := ⟨tabs, [(84, S84 N), (85, S85 N)], (tabcons (W84 N) (tabcons (W85 N) tabnil)), mixed⟩) (N := N) (a := (.two .nil (.two .nil (.meet ⟨[(7, .val false (.leaf (.int .u64)))], [], [], 96⟩ .nil .nil)))) (sg := S76 N) (c := Tryz.f76.body.getD .skip) (rs := Tryz.f76.results.toList) Tryz.func76 (by kernel_rfl) (by kernel_rfl) rfl rfl rfl rfl (fun x => by kernel_rfl)
noncomputable def M.money_validMode (N : Nat) (a0 : Int) : Option (Bool) :=
((if (decide ((0 : Int) ≤ a0)) = true then
some (decide (a0 ≤ (5 : Int)))
else
some false) : Option (Bool)).bind fun j1 =>
some j1
noncomputable def S97 (N : Nat) : Sig := { inn := ⟨[(0, .val false (.leaf rInt))], [], [], 0⟩, out := ⟨[(0, .val false (.leaf .bool))], [], [], 0⟩, fn := fun (x : Int) => M.money_validMode N x }
theorem W97 (N : Nat) : FnOK Tryz.prog 97 (S97 N) := fn_ok (E := ⟨tabs, [], tabnil, mixed⟩) (N := N) (a := (.two .nil (.meet ⟨[(2, .val false (.leaf .bool))], [], [], 16⟩ .nil .nil))) (sg := S97 N) (c := Tryz.f97.body.getD .skip) (rs := Tryz.f97.results.toList) Tryz.func97 (by kernel_rfl) (by kernel_rfl) rfl rfl rfl rfl (fun x => by kernel_rfl)
noncomputable def M.money_beyond (N : Nat) (a0 : Int) (a1 : Int) : Option (Bool) :=
((if (decide (a1 < a0)) = true then
some true
else
some (decide (a0 < (IntKind.i64.wrap (0 - a1))))) : Option (Bool)).bind fun j1 =>
some j1
noncomputable def S98 (N : Nat) : Sig := { inn := ⟨[(0, .val false (.leaf rInt)), (1, .val false (.leaf rInt))], [], [], 0⟩, out := ⟨[(0, .val false (.leaf .bool))], [], [], 0⟩, fn := fun (x : Int × Int) => M.money_beyond N x.1 x.2 }
theorem W98 (N : Nat) : FnOK Tryz.prog 98 (S98 N) := fn_ok (E := ⟨tabs, [], tabnil, mixed⟩) (N := N) (a := (.two .nil (.meet ⟨[(4, .val false (.leaf .bool))], [], [], 16⟩ .nil .nil))) (sg := S98 N) (c := Tryz.f98.body.getD .skip) (rs := Tryz.f98.results.toList) Tryz.func98 (by kernel_rfl) (by kernel_rfl) rfl rfl rfl rfl (fun x => by kernel_rfl)
noncomputable def M.money_magnitude (N : Nat) (a0 : Int) : Option (Int) :=
(if (decide (a0 < (0 : Int))) = true then
some (IntKind.u64.wrap (0 - (IntKind.u64.wrap a0)))
else
some (IntKind.u64.wrap a0))
noncomputable def S99 (N : Nat) : Sig := { inn := ⟨[(0, .val false (.leaf rInt))], [], [], 0⟩, out := ⟨[(0, .val false (.leaf (.int .u64)))], [], [], 0⟩, fn := fun (x : Int) => M.money_magnitude N x }
theorem W99 (N : Nat) : FnOK Tryz.prog 99 (S99 N) := fn_ok (E := ⟨tabs, [], tabnil, mixed⟩) (N := N) (a := .nil) (sg := S99 N) (c := Tryz.f99.body.getD .skip) (rs := Tryz.f99.results.toList) Tryz.func99 (by kernel_rfl) (by kernel_rfl) rfl rfl rfl rfl (fun x => by kernel_rfl)
noncomputable def M.money_roundMagnitude (N : Nat) (a0 : Int) (a1 : Int) (a2 : Int) (a3 : Bool) (a4 : Int) : Option (Int) :=
(if (decide (a1 = (0 : Int))) = true then
some a0
else
((if (decide (a4 = (0 : Int))) = true then
some a3
else
(if (decide (a4 = (1 : Int))) = true then
some (!a3)
else
(if (decide (a4 = (3 : Int))) = true then
some true
else
(if (decide (a4 = (4 : Int))) = true then
some (decide ((IntKind.u64.wrap (a2 - a1)) ≤ a1))
else
(if (decide (a4 = (5 : Int))) = true then
(if (decide ((IntKind.u64.wrap (a2 - a1)) < a1)) = true then
some true
else
(if (decide (a1 = (IntKind.u64.wrap (a2 - a1)))) = true then
some (decide ((Int.tmod a0 (2 : Int)) = (1 : Int)))
else
some false))
else
some false))))) : Option (Bool)).bind fun j1 =>
((if j1 = true then
some (IntKind.u64.wrap (a0 + (1 : Int)))
else
some a0) : Option (Int)).bind fun j2 =>
some j2)
noncomputable def S100 (N : Nat) : Sig := { inn := ⟨[(0, .val false (.leaf (.int .u64))), (1, .val false (.leaf (.int .u64))), (2, .val false (.leaf (.int .u64))), (3, .val false (.leaf .bool)), (4, .val false (.leaf rInt))], [], [], 0⟩, out := ⟨[(0, .val false (.leaf (.int .u64)))], [], [], 0⟩, fn := fun (x : Int × Int × Int × Bool × Int) => M.money_roundMagnitude N x.1 x.2.1 x.2.2.1 x.2.2.2.1 x.2.2.2.2 }
theorem W100 (N : Nat) : FnOK Tryz.prog 100 (S100 N) := fn_ok (E := ⟨tabs, [], tabnil, mixed⟩) (N := N) (a := (.two .nil (.two .nil (.two .nil (.two (.two .nil (.meet ⟨[(11, .val false (.leaf .bool))], [], [], 80⟩ .nil .nil)) (.meet ⟨[(0, .val false (.leaf (.int .u64)))], [], [], 80⟩ .nil .nil)))))) (sg := S100 N) (c := Tryz.f100.body.getD .skip) (rs := Tryz.f100.results.toList) Tryz.func100 (by kernel_rfl) (by kernel_rfl) rfl rfl rfl rfl (fun x => by kernel_rfl)
noncomputable def M.money_signed (N : Nat) (a0 : Int) (a1 : Bool) : Option (Int) :=
(if a1 = true then
some (IntKind.i64.wrap (0 - (IntKind.i64.wrap a0)))
else
some (IntKind.i64.wrap a0))
noncomputable def S101 (N : Nat) : Sig := { inn := ⟨[(0, .val false (.leaf (.int .u64))), (1, .val false (.leaf .bool))], [], [], 0⟩, out := ⟨[(0, .val false (.leaf rInt))], [], [], 0⟩, fn := fun (x : Int × Bool) => M.money_signed N x.1 x.2 }
theorem W101 (N : Nat) : FnOK Tryz.prog 101 (S101 N) := fn_ok (E := ⟨tabs, [], tabnil, mixed⟩) (N := N) (a := .nil) (sg := S101 N) (c := Tryz.f101.body.getD .skip) (rs := Tryz.f101.results.toList) Tryz.func101 (by kernel_rfl) (by kernel_rfl) rfl rfl rfl rfl (fun x => by kernel_rfl)
noncomputable def M.money_DivRound (N : Nat) (a0 : Int) (a1 : Int) (a2 : Int) : Option (Int × Int) :=
(M.money_validMode N a2).bind fun y1 =>
(if (!y1) = true then
some ((0 : Int), (1 : Int))
else
(if (decide (a1 = (0 : Int))) = true then
some ((0 : Int), (12 : Int))
else
((M.money_beyond N a0 (4611686018427387904 : Int)).bind fun y3 =>
(if y3 = true then
some true
else
(M.money_beyond N a1 (4611686018427387904 : Int)).bind fun y4 =>
some y4) : Option (Bool)).bind fun j2 =>
(if j2 = true then
some ((0 : Int), (3 : Int))
else
(M.money_magnitude N a0).bind fun y5 =>
(M.money_magnitude N a1).bind fun y6 =>
(quoA y5 y6).bind fun x7 =>
(remA y5 y6).bind fun x8 =>
(M.money_roundMagnitude N (IntKind.u64.wrap x7) x8 y6 (!decide ((decide (a0 < (0 : Int))) = (decide (a1 < (0 : Int))))) a2).bind fun y9 =>
(M.money_signed N y9 (!decide ((decide (a0 < (0 : Int))) = (decide (a1 < (0 : Int)))))).bind fun y10 =>
some (y10, (0 : Int)))))
noncomputable def S86 (N : Nat) : Sig := { inn := ⟨[(0, .val false (.leaf rInt)), (1, .val false (.leaf rInt)), (2, .val false (.leaf rInt))], [], [], 0⟩, out := ⟨[(0, .val false (.leaf rInt)), (1, .val false (.leaf rInt))], [], [], 0⟩, fn := fun (x : Int × Int × Int) => M.money_DivRound N x.1 x.2.1 x.2.2 }
theorem W86 (N : Nat) : FnOK Tryz.prog 86 (S86 N) := fn_ok (E := ⟨tabs, [(97, S97 N), (98, S98 N), (99, S99 N), (100, S100 N), (101, S101 N)], (tabcons (W97 N) (tabcons (W98 N) (tabcons (W99 N) (tabcons (W100 N) (tabcons (W101 N) tabnil))))), mixed⟩) (N := N) (a := (.two .nil (.two .nil (.two .nil (.two (.meet ⟨[(22, .val false (.leaf .bool))], [], [], 112⟩ .nil .nil) .nil))))) (sg := S86 N) (c := Tryz.f86.body.getD .skip) (rs := Tryz.f86.results.toList) Tryz.func86 (by kernel_rfl) (by kernel_rfl) rfl rfl rfl rfl (fun x => by kernel_rfl)
noncomputable def M.table_roundSum (N : Nat) (a0 : Int) (a1 : Int) (a2 : Int) : Option (Int × Int) :=
((if (decide ((IntKind.i64.wrap (a0 + (IntKind.i64.wrap (Int.tdiv a1 (1000000 : Int))))) < (-2000000000000000 : Int))) = true then
some true
else
some (decide ((2000000000000000 : Int) < (IntKind.i64.wrap (a0 + (IntKind.i64.wrap (Int.tdiv a1 (1000000 : Int)))))))) : Option (Bool)).bind fun j1 =>
(if j1 = true then
some ((0 : Int), (3 : Int))
else
((if (decide ((1 : Int) < (IntKind.i64.wrap (a0 + (IntKind.i64.wrap (Int.tdiv a1 (1000000 : Int))))))) = true then
some (IntKind.i64.wrap ((Int.tmod (IntKind.i64.wrap (a0 + (IntKind.i64.wrap (Int.tdiv a1 (1000000 : Int))))) (2 : Int)) + (2 : Int)))
else
(if (decide ((IntKind.i64.wrap (a0 + (IntKind.i64.wrap (Int.tdiv a1 (1000000 : Int))))) < (-1 : Int))) = true then
some (IntKind.i64.wrap ((Int.tmod (IntKind.i64.wrap (a0 + (IntKind.i64.wrap (Int.tdiv a1 (1000000 : Int))))) (2 : Int)) - (2 : Int)))
else
some (Int.tmod (IntKind.i64.wrap (a0 + (IntKind.i64.wrap (Int.tdiv a1 (1000000 : Int))))) (2 : Int)))) : Option (Int)).bind fun j2 =>
(M.money_DivRound N (IntKind.i64.wrap ((IntKind.i64.wrap (j2 * (1000000 : Int))) + (Int.tmod a1 (1000000 : Int)))) (1000000 : Int) a2).bind fun y3 =>
(if (!decide (y3.2 = (0 : Int))) = true then
some ((0 : Int), y3.2)
else
((if (decide ((IntKind.i64.wrap ((IntKind.i64.wrap ((IntKind.i64.wrap (a0 + (IntKind.i64.wrap (Int.tdiv a1 (1000000 : Int))))) - j2)) + y3.1)) < (-1000000000000000 : Int))) = true then
some true
else
some (decide ((1000000000000000 : Int) < (IntKind.i64.wrap ((IntKind.i64.wrap ((IntKind.i64.wrap (a0 + (IntKind.i64.wrap (Int.tdiv a1 (1000000 : Int))))) - j2)) + y3.1))))) : Option (Bool)).bind fun j4 =>
(if j4 = true then
some ((0 : Int), (3 : Int))
else
some (IntKind.i64.wrap ((IntKind.i64.wrap ((IntKind.i64.wrap (a0 + (IntKind.i64.wrap (Int.tdiv a1 (1000000 : Int))))) - j2)) + y3.1), (0 : Int)))))
noncomputable def S77 (N : Nat) : Sig := { inn := ⟨[(0, .val false (.leaf rInt)), (1, .val false (.leaf rInt)), (2, .val false (.leaf rInt))], [], [], 0⟩, out := ⟨[(0, .val false (.leaf rInt)), (1, .val false (.leaf rInt))], [], [], 0⟩, fn := fun (x : Int × Int × Int) => M.table_roundSum N x.1 x.2.1 x.2.2 }
theorem W77 (N : Nat) : FnOK Tryz.prog 77 (S77 N) := fn_ok (E := ⟨tabs, [(86, S86 N)], (tabcons (W86 N) tabnil), mixed⟩) (N := N) (a := (.two .nil (.two .nil (.two .nil (.two (.meet ⟨[(23, .val false (.leaf .bool))], [], [], 160⟩ .nil .nil) (.two .nil (.two (.meet ⟨[(8, .val false (.leaf rInt))], [], [], 208⟩ .nil .nil) (.two .nil (.two .nil (.two .nil (.two (.meet ⟨[(58, .val false (.leaf .bool))], [], [], 512⟩ .nil .nil) .nil))))))))))) (sg := S77 N) (c := Tryz.f77.body.getD .skip) (rs := Tryz.f77.results.toList) Tryz.func77 (by kernel_rfl) (by kernel_rfl) rfl rfl rfl rfl (fun x => by kernel_rfl)
noncomputable def M.table_Brackets (N : Nat) (a0 : rTable.den) (a1 : Int) (a2 : Int) (a3 : Int) : Option (Int × Int) :=
((if (decide (a3 < (0 : Int))) = true then
some true
else
some (decide ((5 : Int) < a3))) : Option (Bool)).bind fun j1 =>
(if j1 = true then
some ((0 : Int), (1 : Int))
else
((if (!(eqR rType a0.2.1 ((3 : Int), (0 : Int)))) = true then
some true
else
some (!(eqR rType a0.2.2.1 ((4 : Int), (0 : Int))))) : Option (Bool)).bind fun j2 =>
(if j2 = true then
some ((0 : Int), (8 : Int))
else
((if (decide (a2 < (-1000000000000000 : Int))) = true then
some true
else
some (decide ((1000000000000000 : Int) < a2))) : Option (Bool)).bind fun j3 =>
(if j3 = true then
some ((0 : Int), (3 : Int))
else
Join (J := Int × Int) (R := Int × Int) (Loop (S := Int × Int × Int) (X := (Int × Int) ⊕ (Int × Int)) (fun s5 =>
(if (decide (s5.2.2 < (a0.2.2.2.length : Int))) = true then
Join (J := Int × Int) (R := (Int × Int × Int) ⊕ ((Int × Int) ⊕ (Int × Int))) ((idx a0.2.2.2 s5.2.2).bind fun x7 =>
((M.daterange_Contains N x7.1 a1).bind fun y9 =>
(if (!y9) = true then
some true
else
some (decide ((if a2 < x7.2.2.1 then a2 else x7.2.2.1) ≤ (if x7.2.1 < (0 : Int) then (0 : Int) else x7.2.1)))) : Option (Bool)).bind fun j8 =>
(if j8 = true then
some (Sum.inl (s5.1, s5.2.1))
else
(M.table_contribution N (IntKind.i64.wrap ((if a2 < x7.2.2.1 then a2 else x7.2.2.1) - (if x7.2.1 < (0 : Int) then (0 : Int) else x7.2.1))) x7.2.2.2).bind fun y10 =>
(if (!y10.2.2) = true then
some (Sum.inr (Sum.inr (Sum.inr ((0 : Int), (3 : Int)))))
else
some (Sum.inl (IntKind.i64.wrap (s5.1 + y10.1), IntKind.i64.wrap (s5.2.1 + y10.2.1)))))) fun j6 =>
some (Sum.inl (j6.1, j6.2, IntKind.i64.wrap (s5.2.2 + (1 : Int))))
else
some (Sum.inr (Sum.inl (s5.1, s5.2.1))))) N ((0 : Int), (0 : Int), (0 : Int))) fun j4 =>
(M.table_roundSum N j4.1 j4.2 a3).bind fun y11 =>
some (y11.1, y11.2))))
noncomputable def S67 (N : Nat) : Sig := { inn := ⟨[(0, .val true (.leaf rTable)), (1, .val false (.leaf rInt)), (2, .val false (.leaf rInt)), (3, .val false (.leaf rInt))], [], [], 0⟩, out := ⟨[(0, .val false (.leaf rInt)), (1, .val false (.leaf rInt))], [], [], 0⟩, fn := fun (x : rTable.den × Int × Int × Int) => M.table_Brackets N x.1 x.2.1 x.2.2.1 x.2.2.2 }
theorem W67 (N : Nat) : FnOK Tryz.prog 67 (S67 N) := fn_ok (E := ⟨tabs, [(75, S75 N), (76, S76 N), (77, S77 N)], (tabcons (W75 N) (tabcons (W76 N) (tabcons (W77 N) tabnil))), mixed⟩) (N := N) (a := (.two .nil (.two (.meet ⟨[(24, .val false (.leaf .bool))], [], [], 48⟩ .nil .nil) (.two (.meet ⟨[(34, .val false (.leaf .bool))], [], [], 48⟩ .nil .nil) (.two (.meet ⟨[(40, .val false (.leaf .bool))], [], [], 48⟩ .nil .nil) (.two .nil (.join ⟨[(10, .val false (.leaf rInt)), (11, .val false (.leaf rInt))], [], [], 80⟩ (.two .nil (.two (.loop ⟨[(10, .val false (.leaf rInt)), (11, .val false (.leaf rInt)), (44, .val false (.leaf rInt))], [], [], 144⟩ (.two .nil (.two .nil (.two (.join ⟨[(10, .val false (.leaf rInt)), (11, .val false (.leaf rInt))], [], [], 160⟩ (.two .nil (.two .nil (.two (.meet ⟨[(64, .val false (.leaf .bool))], [], [], 368⟩ .nil .nil) .nil))) .nil) .nil)))) .nil)) .nil))))))) (sg := S67 N) (c := Tryz.f67.body.getD .skip) (rs := Tryz.f67.results.toList) Tryz.func67 (by kernel_rfl) (by kernel_rfl) rfl rfl rfl rfl (fun x => by kernel_rfl)
noncomputable def M.eval_truth (N : Nat) (a0 : Bool) : Option (rValue.den) :=
(if a0 = true then
some ((1 : Int), ((0 : Int), (1 : Int)))
else
some ((1 : Int), ((0 : Int), (0 : Int))))
noncomputable def S78 (N : Nat) : Sig := { inn := ⟨[(0, .val false (.leaf .bool))], [], [], 0⟩, out := ⟨[(0, .val true (.leaf rValue))], [], [], 0⟩, fn := fun (x : Bool) => M.eval_truth N x }
theorem W78 (N : Nat) : FnOK Tryz.prog 78 (S78 N) := fn_ok (E := ⟨tabs, [], tabnil, mixed⟩) (N := N) (a := .nil) (sg := S78 N) (c := Tryz.f78.body.getD .skip) (rs := Tryz.f78.results.toList) Tryz.func78 (by kernel_rfl) (by kernel_rfl) rfl rfl rfl rfl (fun x => by kernel_rfl)
noncomputable def M.date_valid (N : Nat) (a0 : Int) : Option (Bool) :=
((if (decide ((0 : Int) ≤ a0)) = true then
some (decide (a0 ≤ (109572 : Int)))
else
some false) : Option (Bool)).bind fun j1 =>
some j1
noncomputable def S87 (N : Nat) : Sig := { inn := ⟨[(0, .val false (.leaf rInt))], [], [], 0⟩, out := ⟨[(0, .val false (.leaf .bool))], [], [], 0⟩, fn := fun (x : Int) => M.date_valid N x }
theorem W87 (N : Nat) : FnOK Tryz.prog 87 (S87 N) := fn_ok (E := ⟨tabs, [], tabnil, mixed⟩) (N := N) (a := (.two .nil (.meet ⟨[(2, .val false (.leaf .bool))], [], [], 16⟩ .nil .nil))) (sg := S87 N) (c := Tryz.f87.body.getD .skip) (rs := Tryz.f87.results.toList) Tryz.func87 (by kernel_rfl) (by kernel_rfl) rfl rfl rfl rfl (fun x => by kernel_rfl)
noncomputable def M.date_leapYears (N : Nat) (a0 : Int) : Option (Int) :=
some (IntKind.i64.wrap ((IntKind.i64.wrap ((IntKind.i64.wrap (Int.tdiv a0 (4 : Int))) - (IntKind.i64.wrap (Int.tdiv a0 (100 : Int))))) + (IntKind.i64.wrap (Int.tdiv a0 (400 : Int)))))
noncomputable def S102 (N : Nat) : Sig := { inn := ⟨[(0, .val false (.leaf rInt))], [], [], 0⟩, out := ⟨[(0, .val false (.leaf rInt))], [], [], 0⟩, fn := fun (x : Int) => M.date_leapYears N x }
theorem W102 (N : Nat) : FnOK Tryz.prog 102 (S102 N) := fn_ok (E := ⟨tabs, [], tabnil, mixed⟩) (N := N) (a := .nil) (sg := S102 N) (c := Tryz.f102.body.getD .skip) (rs := Tryz.f102.results.toList) Tryz.func102 (by kernel_rfl) (by kernel_rfl) rfl rfl rfl rfl (fun x => by kernel_rfl)
noncomputable def M.date_yearStart (N : Nat) (a0 : Int) : Option (Int) :=
(M.date_leapYears N (IntKind.i64.wrap (a0 - (1 : Int)))).bind fun y1 =>
(M.date_leapYears N (1899 : Int)).bind fun y2 =>
some (IntKind.i64.wrap ((IntKind.i64.wrap ((IntKind.i64.wrap ((IntKind.i64.wrap (a0 - (1900 : Int))) * (365 : Int))) + y1)) - y2))
noncomputable def S88 (N : Nat) : Sig := { inn := ⟨[(0, .val false (.leaf rInt))], [], [], 0⟩, out := ⟨[(0, .val false (.leaf rInt))], [], [], 0⟩, fn := fun (x : Int) => M.date_yearStart N x }
theorem W88 (N : Nat) : FnOK Tryz.prog 88 (S88 N) := fn_ok (E := ⟨tabs, [(102, S102 N)], (tabcons (W102 N) tabnil), mixed⟩) (N := N) (a := .nil) (sg := S88 N) (c := Tryz.f88.body.getD .skip) (rs := Tryz.f88.results.toList) Tryz.func88 (by kernel_rfl) (by kernel_rfl) rfl rfl rfl rfl (fun x => by kernel_rfl)
noncomputable def M.date_IsLeap (N : Nat) (a0 : Int) : Option (Bool) :=
((if (decide ((Int.tmod a0 (4 : Int)) = (0 : Int))) = true then
(if (!decide ((Int.tmod a0 (100 : Int)) = (0 : Int))) = true then
some true
else
some (decide ((Int.tmod a0 (400 : Int)) = (0 : Int))))
else
some false) : Option (Bool)).bind fun j1 =>
some j1
noncomputable def S103 (N : Nat) : Sig := { inn := ⟨[(0, .val false (.leaf rInt))], [], [], 0⟩, out := ⟨[(0, .val false (.leaf .bool))], [], [], 0⟩, fn := fun (x : Int) => M.date_IsLeap N x }
theorem W103 (N : Nat) : FnOK Tryz.prog 103 (S103 N) := fn_ok (E := ⟨tabs, [], tabnil, mixed⟩) (N := N) (a := (.two .nil (.meet ⟨[(2, .val false (.leaf .bool))], [], [], 16⟩ .nil .nil))) (sg := S103 N) (c := Tryz.f103.body.getD .skip) (rs := Tryz.f103.results.toList) Tryz.func103 (by kernel_rfl) (by kernel_rfl) rfl rfl rfl rfl (fun x => by kernel_rfl)
noncomputable def M.date_DaysInMonth (N : Nat) (a0 : Int) (a1 : Int) : Option (Int) :=
((if (decide (a1 < (1 : Int))) = true then
some true
else
some (decide ((12 : Int) < a1))) : Option (Bool)).bind fun j1 =>
(if j1 = true then
some (0 : Int)
else
((if (decide (a1 = (2 : Int))) = true then
(M.date_IsLeap N a0).bind fun y3 =>
some y3
else
some false) : Option (Bool)).bind fun j2 =>
(if j2 = true then
some (29 : Int)
else
(idx ([(31 : Int), (28 : Int), (31 : Int), (30 : Int), (31 : Int), (30 : Int), (31 : Int), (31 : Int), (30 : Int), (31 : Int), (30 : Int), (31 : Int)] : List Int) (IntKind.i64.wrap (a1 - (1 : Int)))).bind fun x4 =>
some x4))
noncomputable def S89 (N : Nat) : Sig := { inn := ⟨[(0, .val false (.leaf rInt)), (1, .val false (.leaf rInt))], [], [], 0⟩, out := ⟨[(0, .val false (.leaf rInt))], [], [], 0⟩, fn := fun (x : Int × Int) => M.date_DaysInMonth N x.1 x.2 }
theorem W89 (N : Nat) : FnOK Tryz.prog 89 (S89 N) := fn_ok (E := ⟨tabs, [(103, S103 N)], (tabcons (W103 N) tabnil), mixed⟩) (N := N) (a := (.two .nil (.two (.meet ⟨[(10, .val false (.leaf .bool))], [], [], 16⟩ .nil .nil) (.two (.meet ⟨[(16, .val false (.leaf .bool))], [], [], 16⟩ .nil .nil) .nil)))) (sg := S89 N) (c := Tryz.f89.body.getD .skip) (rs := Tryz.f89.results.toList) Tryz.func89 (by kernel_rfl) (by kernel_rfl) rfl rfl rfl rfl (fun x => by kernel_rfl)
noncomputable def M.date_ToYMD (N : Nat) (a0 : Int) : Option (Int × Int × Int) :=
(M.date_valid N a0).bind fun y1 =>
(if (!y1) = true then
some ((0 : Int), (0 : Int), (0 : Int))
else
(Loop (S := Int) (X := Int) (fun s3 =>
(M.date_yearStart N (IntKind.i64.wrap (s3 + (1 : Int)))).bind fun y4 =>
(if (decide (y4 ≤ a0)) = true then
some (Sum.inl (IntKind.i64.wrap (s3 + (1 : Int))))
else
some (Sum.inr s3))) N (IntKind.i64.wrap ((1900 : Int) + (IntKind.i64.wrap (Int.tdiv a0 (366 : Int))))) : Option (Int)).bind fun j2 =>
(M.date_yearStart N j2).bind fun y5 =>
Loop (S := Int × Int) (X := Int × Int × Int) (fun s6 =>
(if (decide (s6.2 < (12 : Int))) = true then
(M.date_DaysInMonth N j2 (IntKind.i64.wrap (s6.2 + (1 : Int)))).bind fun y7 =>
(if (decide (s6.1 < y7)) = true then
some (Sum.inr (j2, IntKind.i64.wrap (s6.2 + (1 : Int)), IntKind.i64.wrap (s6.1 + (1 : Int))))
else
some (Sum.inl (IntKind.i64.wrap (s6.1 - y7), IntKind.i64.wrap (s6.2 + (1 : Int)))))
else
some (Sum.inr ((0 : Int), (0 : Int), (0 : Int))))) N (IntKind.i64.wrap (a0 - y5), (0 : Int)))
noncomputable def S79 (N : Nat) : Sig := { inn := ⟨[(0, .val false (.leaf rInt))], [], [], 0⟩, out := ⟨[(0, .val false (.leaf rInt)), (1, .val false (.leaf rInt)), (2, .val false (.leaf rInt))], [], [], 0⟩, fn := fun (x : Int) => M.date_ToYMD N x }
theorem W79 (N : Nat) : FnOK Tryz.prog 79 (S79 N) := fn_ok (E := ⟨tabs, [(87, S87 N), (88, S88 N), (89, S89 N)], (tabcons (W87 N) (tabcons (W88 N) (tabcons (W89 N) tabnil))), mixed⟩) (N := N) (a := (.two .nil (.two .nil (.two .nil (.meet ⟨[(5, .val false (.leaf rInt))], [], [], 160⟩ (.two (.loop ⟨[(5, .val false (.leaf rInt))], [], [], 160⟩ .nil) .nil) (.two .nil (.two (.two .nil (.two (.loop ⟨[(6, .val false (.leaf rInt)), (26, .val false (.leaf rInt))], [], [], 256⟩ .nil) .nil)) .nil))))))) (sg := S79 N) (c := Tryz.f79.body.getD .skip) (rs := Tryz.f79.results.toList) Tryz.func79 (by kernel_rfl) (by kernel_rfl) rfl rfl rfl rfl (fun x => by kernel_rfl)
noncomputable def M.eval_unary (N : Nat) (a0 : Int) (a1 : rValue.den) : Option (rValue.den) :=
(if (decide (a0 = (10 : Int))) = true then
some (a1.1, ((0 : Int), IntKind.i64.wrap (0 - a1.2.2)))
else
(if (decide (a0 = (25 : Int))) = true then
(M.eval_truth N (decide (a1.2.2 = (0 : Int)))).bind fun y1 =>
some y1
else
(M.date_ToYMD N a1.2.2).bind fun y2 =>
(if (decide (a0 = (31 : Int))) = true then
some ((2 : Int), ((0 : Int), y2.1))
else
some ((2 : Int), ((0 : Int), y2.2.1)))))
noncomputable def S68 (N : Nat) : Sig := { inn := ⟨[(0, .val false (.leaf rInt)), (1, .val true (.leaf rValue))], [], [], 0⟩, out := ⟨[(0, .val true (.leaf rValue))], [], [], 0⟩, fn := fun (x : Int × rValue.den) => M.eval_unary N x.1 x.2 }
theorem W68 (N : Nat) : FnOK Tryz.prog 68 (S68 N) := fn_ok (E := ⟨tabs, [(78, S78 N), (79, S79 N)], (tabcons (W78 N) (tabcons (W79 N) tabnil)), mixed⟩) (N := N) (a := .nil) (sg := S68 N) (c := Tryz.f68.body.getD .skip) (rs := Tryz.f68.results.toList) Tryz.func68 (by kernel_rfl) (by kernel_rfl) rfl rfl rfl rfl (fun x => by kernel_rfl)
noncomputable def M.eval_product (N : Nat) (a0 : Int) (a1 : Int) : Option (Int × Int) :=
(M.math_bits_Mul64 N (IntKind.u64.wrap (if a0 < (IntKind.i64.wrap (0 - a0)) then (IntKind.i64.wrap (0 - a0)) else a0)) (IntKind.u64.wrap (if a1 < (IntKind.i64.wrap (0 - a1)) then (IntKind.i64.wrap (0 - a1)) else a1))).bind fun y1 =>
((if (!decide (y1.1 = (0 : Int))) = true then
some true
else
some (decide ((1000000000000000 : Int) < y1.2))) : Option (Bool)).bind fun j2 =>
(if j2 = true then
some ((0 : Int), (3 : Int))
else
(if (!decide ((decide (a0 < (0 : Int))) = (decide (a1 < (0 : Int))))) = true then
some (IntKind.i64.wrap (0 - (IntKind.i64.wrap y1.2)), (0 : Int))
else
some (IntKind.i64.wrap y1.2, (0 : Int))))
noncomputable def S90 (N : Nat) : Sig := { inn := ⟨[(0, .val false (.leaf rInt)), (1, .val false (.leaf rInt))], [], [], 0⟩, out := ⟨[(0, .val false (.leaf rInt)), (1, .val false (.leaf rInt))], [], [], 0⟩, fn := fun (x : Int × Int) => M.eval_product N x.1 x.2 }
theorem W90 (N : Nat) : FnOK Tryz.prog 90 (S90 N) := fn_ok (E := ⟨tabs, [(84, S84 N)], (tabcons (W84 N) tabnil), mixed⟩) (N := N) (a := (.two .nil (.two .nil (.two (.meet ⟨[(27, .val false (.leaf .bool))], [], [], 288⟩ .nil .nil) .nil)))) (sg := S90 N) (c := Tryz.f90.body.getD .skip) (rs := Tryz.f90.results.toList) Tryz.func90 (by kernel_rfl) (by kernel_rfl) rfl rfl rfl rfl (fun x => by kernel_rfl)
noncomputable def M.money_MulDiv (N : Nat) (a0 : Int) (a1 : Int) (a2 : Int) (a3 : Int) : Option (Int × Int) :=
(M.money_validMode N a3).bind fun y1 =>
(if (!y1) = true then
some ((0 : Int), (1 : Int))
else
(if (decide (a2 = (0 : Int))) = true then
some ((0 : Int), (12 : Int))
else
((M.money_beyond N a0 (1000000000000000 : Int)).bind fun y3 =>
(if y3 = true then
some true
else
(M.money_beyond N a1 (1000000000 : Int)).bind fun y4 =>
(if y4 = true then
some true
else
(M.money_beyond N a2 (1000000000 : Int)).bind fun y5 =>
some y5)) : Option (Bool)).bind fun j2 =>
(if j2 = true then
some ((0 : Int), (3 : Int))
else
(M.money_magnitude N a0).bind fun y6 =>
(M.money_magnitude N a1).bind fun y7 =>
(M.math_bits_Mul64 N y6 y7).bind fun y8 =>
(M.money_magnitude N a2).bind fun y9 =>
(if (decide (y9 ≤ y8.1)) = true then
some ((0 : Int), (3 : Int))
else
(M.math_bits_Div64 N y8.1 y8.2 y9).bind fun y10 =>
(if (decide ((1000000000000000 : Int) < y10.1)) = true then
some ((0 : Int), (3 : Int))
else
(M.money_roundMagnitude N y10.1 y10.2 y9 (!decide ((!decide ((decide (a0 < (0 : Int))) = (decide (a1 < (0 : Int))))) = (decide (a2 < (0 : Int))))) a3).bind fun y11 =>
(if (decide ((1000000000000000 : Int) < y11)) = true then
some ((0 : Int), (3 : Int))
else
(M.money_signed N y11 (!decide ((!decide ((decide (a0 < (0 : Int))) = (decide (a1 < (0 : Int))))) = (decide (a2 < (0 : Int)))))).bind fun y12 =>
some (y12, (0 : Int))))))))
noncomputable def S104 (N : Nat) : Sig := { inn := ⟨[(0, .val false (.leaf rInt)), (1, .val false (.leaf rInt)), (2, .val false (.leaf rInt)), (3, .val false (.leaf rInt))], [], [], 0⟩, out := ⟨[(0, .val false (.leaf rInt)), (1, .val false (.leaf rInt))], [], [], 0⟩, fn := fun (x : Int × Int × Int × Int) => M.money_MulDiv N x.1 x.2.1 x.2.2.1 x.2.2.2 }
theorem W104 (N : Nat) : FnOK Tryz.prog 104 (S104 N) := fn_ok (E := ⟨tabs, [(84, S84 N), (85, S85 N), (97, S97 N), (98, S98 N), (99, S99 N), (100, S100 N), (101, S101 N)], (tabcons (W84 N) (tabcons (W85 N) (tabcons (W97 N) (tabcons (W98 N) (tabcons (W99 N) (tabcons (W100 N) (tabcons (W101 N) tabnil))))))), mixed⟩) (N := N) (a := (.two .nil (.two .nil (.two .nil (.two (.meet ⟨[(30, .val false (.leaf .bool))], [], [], 112⟩ .nil .nil) .nil))))) (sg := S104 N) (c := Tryz.f104.body.getD .skip) (rs := Tryz.f104.results.toList) Tryz.func104 (by kernel_rfl) (by kernel_rfl) rfl rfl rfl rfl (fun x => by kernel_rfl)
noncomputable def M.rate_Apply (N : Nat) (a0 : Int) (a1 : Int) (a2 : Int) : Option (Int × Int) :=
(M.money_MulDiv N a0 a1 (1000000 : Int) a2).bind fun y1 =>
some (y1.1, y1.2)
noncomputable def S91 (N : Nat) : Sig := { inn := ⟨[(0, .val false (.leaf rInt)), (1, .val false (.leaf rInt)), (2, .val false (.leaf rInt))], [], [], 0⟩, out := ⟨[(0, .val false (.leaf rInt)), (1, .val false (.leaf rInt))], [], [], 0⟩, fn := fun (x : Int × Int × Int) => M.rate_Apply N x.1 x.2.1 x.2.2 }
theorem W91 (N : Nat) : FnOK Tryz.prog 91 (S91 N) := fn_ok (E := ⟨tabs, [(104, S104 N)], (tabcons (W104 N) tabnil), mixed⟩) (N := N) (a := .nil) (sg := S91 N) (c := Tryz.f91.body.getD .skip) (rs := Tryz.f91.results.toList) Tryz.func91 (by kernel_rfl) (by kernel_rfl) rfl rfl rfl rfl (fun x => by kernel_rfl)
noncomputable def M.rate_validMode (N : Nat) (a0 : Int) : Option (Bool) :=
((if (decide ((0 : Int) ≤ a0)) = true then
some (decide (a0 ≤ (5 : Int)))
else
some false) : Option (Bool)).bind fun j1 =>
some j1
noncomputable def S105 (N : Nat) : Sig := { inn := ⟨[(0, .val false (.leaf rInt))], [], [], 0⟩, out := ⟨[(0, .val false (.leaf .bool))], [], [], 0⟩, fn := fun (x : Int) => M.rate_validMode N x }
theorem W105 (N : Nat) : FnOK Tryz.prog 105 (S105 N) := fn_ok (E := ⟨tabs, [], tabnil, mixed⟩) (N := N) (a := (.two .nil (.meet ⟨[(2, .val false (.leaf .bool))], [], [], 16⟩ .nil .nil))) (sg := S105 N) (c := Tryz.f105.body.getD .skip) (rs := Tryz.f105.results.toList) Tryz.func105 (by kernel_rfl) (by kernel_rfl) rfl rfl rfl rfl (fun x => by kernel_rfl)
noncomputable def M.rate_beyond (N : Nat) (a0 : Int) (a1 : Int) : Option (Bool) :=
((if (decide (a1 < a0)) = true then
some true
else
some (decide (a0 < (IntKind.i64.wrap (0 - a1))))) : Option (Bool)).bind fun j1 =>
some j1
noncomputable def S106 (N : Nat) : Sig := { inn := ⟨[(0, .val false (.leaf rInt)), (1, .val false (.leaf rInt))], [], [], 0⟩, out := ⟨[(0, .val false (.leaf .bool))], [], [], 0⟩, fn := fun (x : Int × Int) => M.rate_beyond N x.1 x.2 }
theorem W106 (N : Nat) : FnOK Tryz.prog 106 (S106 N) := fn_ok (E := ⟨tabs, [], tabnil, mixed⟩) (N := N) (a := (.two .nil (.meet ⟨[(4, .val false (.leaf .bool))], [], [], 16⟩ .nil .nil))) (sg := S106 N) (c := Tryz.f106.body.getD .skip) (rs := Tryz.f106.results.toList) Tryz.func106 (by kernel_rfl) (by kernel_rfl) rfl rfl rfl rfl (fun x => by kernel_rfl)
noncomputable def M.rate_Mul (N : Nat) (a0 : Int) (a1 : Int) (a2 : Int) : Option (Int × Int) :=
(M.rate_validMode N a2).bind fun y1 =>
(if (!y1) = true then
some ((0 : Int), (1 : Int))
else
((M.rate_beyond N a0 (1000000000 : Int)).bind fun y3 =>
(if y3 = true then
some true
else
(M.rate_beyond N a1 (1000000000 : Int)).bind fun y4 =>
some y4) : Option (Bool)).bind fun j2 =>
(if j2 = true then
some ((0 : Int), (3 : Int))
else
(M.money_DivRound N (IntKind.i64.wrap (a0 * a1)) (1000000 : Int) a2).bind fun y5 =>
(if (!decide (y5.2 = (0 : Int))) = true then
some ((0 : Int), y5.2)
else
(M.rate_beyond N y5.1 (1000000000 : Int)).bind fun y6 =>
(if y6 = true then
some ((0 : Int), (3 : Int))
else
some (y5.1, (0 : Int))))))
noncomputable def S92 (N : Nat) : Sig := { inn := ⟨[(0, .val false (.leaf rInt)), (1, .val false (.leaf rInt)), (2, .val false (.leaf rInt))], [], [], 0⟩, out := ⟨[(0, .val false (.leaf rInt)), (1, .val false (.leaf rInt))], [], [], 0⟩, fn := fun (x : Int × Int × Int) => M.rate_Mul N x.1 x.2.1 x.2.2 }
theorem W92 (N : Nat) : FnOK Tryz.prog 92 (S92 N) := fn_ok (E := ⟨tabs, [(86, S86 N), (105, S105 N), (106, S106 N)], (tabcons (W86 N) (tabcons (W105 N) (tabcons (W106 N) tabnil))), mixed⟩) (N := N) (a := (.two .nil (.two .nil (.two (.meet ⟨[(18, .val false (.leaf .bool))], [], [], 80⟩ .nil .nil) .nil)))) (sg := S92 N) (c := Tryz.f92.body.getD .skip) (rs := Tryz.f92.results.toList) Tryz.func92 (by kernel_rfl) (by kernel_rfl) rfl rfl rfl rfl (fun x => by kernel_rfl)
noncomputable def M.money_RoundTo (N : Nat) (a0 : Int) (a1 : Int) (a2 : Int) : Option (Int × Int) :=
(M.money_validMode N a2).bind fun y1 =>
(if (!y1) = true then
some ((0 : Int), (1 : Int))
else
(if (decide (a1 < (1 : Int))) = true then
some ((0 : Int), (12 : Int))
else
((M.money_beyond N a0 (1000000000000000 : Int)).bind fun y3 =>
(if y3 = true then
some true
else
some (decide ((1000000000000000 : Int) < a1))) : Option (Bool)).bind fun j2 =>
(if j2 = true then
some ((0 : Int), (3 : Int))
else
(M.money_DivRound N a0 a1 a2).bind fun y4 =>
(if (!decide (y4.2 = (0 : Int))) = true then
some ((0 : Int), y4.2)
else
(M.money_beyond N (IntKind.i64.wrap (y4.1 * a1)) (1000000000000000 : Int)).bind fun y5 =>
(if y5 = true then
some ((0 : Int), (3 : Int))
else
some (IntKind.i64.wrap (y4.1 * a1), (0 : Int)))))))
noncomputable def S93 (N : Nat) : Sig := { inn := ⟨[(0, .val false (.leaf rInt)), (1, .val false (.leaf rInt)), (2, .val false (.leaf rInt))], [], [], 0⟩, out := ⟨[(0, .val false (.leaf rInt)), (1, .val false (.leaf rInt))], [], [], 0⟩, fn := fun (x : Int × Int × Int) => M.money_RoundTo N x.1 x.2.1 x.2.2 }
theorem W93 (N : Nat) : FnOK Tryz.prog 93 (S93 N) := fn_ok (E := ⟨tabs, [(86, S86 N), (97, S97 N), (98, S98 N)], (tabcons (W86 N) (tabcons (W97 N) (tabcons (W98 N) tabnil))), mixed⟩) (N := N) (a := (.two .nil (.two .nil (.two .nil (.two (.meet ⟨[(20, .val false (.leaf .bool))], [], [], 112⟩ .nil .nil) .nil))))) (sg := S93 N) (c := Tryz.f93.body.getD .skip) (rs := Tryz.f93.results.toList) Tryz.func93 (by kernel_rfl) (by kernel_rfl) rfl rfl rfl rfl (fun x => by kernel_rfl)
noncomputable def M.rate_roundsUp (N : Nat) (a0 : Int) (a1 : Int) (a2 : Int) (a3 : Bool) (a4 : Int) : Option (Bool) :=
(if (decide (a1 = (0 : Int))) = true then
some false
else
(if (decide (a4 = (0 : Int))) = true then
some a3
else
(if (decide (a4 = (1 : Int))) = true then
some (!a3)
else
(if (decide (a4 = (3 : Int))) = true then
some true
else
(if (decide (a4 = (4 : Int))) = true then
some (decide ((IntKind.u64.wrap (a2 - a1)) ≤ a1))
else
(if (decide (a4 = (5 : Int))) = true then
((if (decide ((IntKind.u64.wrap (a2 - a1)) < a1)) = true then
some true
else
(if (decide (a1 = (IntKind.u64.wrap (a2 - a1)))) = true then
some (decide ((Int.tmod a0 (2 : Int)) = (1 : Int)))
else
some false)) : Option (Bool)).bind fun j1 =>
some j1
else
some false))))))
noncomputable def S107 (N : Nat) : Sig := { inn := ⟨[(0, .val false (.leaf (.int .u64))), (1, .val false (.leaf (.int .u64))), (2, .val false (.leaf (.int .u64))), (3, .val false (.leaf .bool)), (4, .val false (.leaf rInt))], [], [], 0⟩, out := ⟨[(0, .val false (.leaf .bool))], [], [], 0⟩, fn := fun (x : Int × Int × Int × Bool × Int) => M.rate_roundsUp N x.1 x.2.1 x.2.2.1 x.2.2.2.1 x.2.2.2.2 }
theorem W107 (N : Nat) : FnOK Tryz.prog 107 (S107 N) := fn_ok (E := ⟨tabs, [], tabnil, mixed⟩) (N := N) (a := (.two .nil (.two .nil (.two (.two .nil (.two (.two .nil (.two .nil (.two .nil (.two .nil (.two .nil (.two .nil (.two .nil (.two .nil (.two .nil (.two (.meet ⟨[(10, .val false (.leaf .bool))], [], [], 224⟩ .nil .nil) .nil)))))))))) .nil)) .nil)))) (sg := S107 N) (c := Tryz.f107.body.getD .skip) (rs := Tryz.f107.results.toList) Tryz.func107 (by kernel_rfl) (by kernel_rfl) rfl rfl rfl rfl (fun x => by kernel_rfl)
noncomputable def M.rate_FromRatio (N : Nat) (a0 : Int) (a1 : Int) (a2 : Int) : Option (Int × Int) :=
(M.rate_validMode N a2).bind fun y1 =>
(if (!y1) = true then
some ((0 : Int), (1 : Int))
else
(if (decide (a1 = (0 : Int))) = true then
some ((0 : Int), (12 : Int))
else
((M.rate_beyond N a0 (1000000000000000 : Int)).bind fun y3 =>
(if y3 = true then
some true
else
(M.rate_beyond N a1 (1000000000000000 : Int)).bind fun y4 =>
some y4) : Option (Bool)).bind fun j2 =>
(if j2 = true then
some ((0 : Int), (3 : Int))
else
(M.math_bits_Mul64 N (IntKind.u64.wrap (if a0 < (IntKind.i64.wrap (0 - a0)) then (IntKind.i64.wrap (0 - a0)) else a0)) (1000000 : Int)).bind fun y5 =>
(if (decide ((IntKind.u64.wrap (if a1 < (IntKind.i64.wrap (0 - a1)) then (IntKind.i64.wrap (0 - a1)) else a1)) ≤ y5.1)) = true then
some ((0 : Int), (3 : Int))
else
(M.math_bits_Div64 N y5.1 y5.2 (IntKind.u64.wrap (if a1 < (IntKind.i64.wrap (0 - a1)) then (IntKind.i64.wrap (0 - a1)) else a1))).bind fun y6 =>
(if (decide ((1000000000 : Int) < y6.1)) = true then
some ((0 : Int), (3 : Int))
else
((M.rate_roundsUp N y6.1 y6.2 (IntKind.u64.wrap (if a1 < (IntKind.i64.wrap (0 - a1)) then (IntKind.i64.wrap (0 - a1)) else a1)) (!decide ((decide (a0 < (0 : Int))) = (decide (a1 < (0 : Int))))) a2).bind fun y8 =>
(if y8 = true then
some (IntKind.i64.wrap ((IntKind.i64.wrap y6.1) + (1 : Int)))
else
some (IntKind.i64.wrap y6.1)) : Option (Int)).bind fun j7 =>
(if (decide ((1000000000 : Int) < j7)) = true then
some ((0 : Int), (3 : Int))
else
((if (!decide ((decide (a0 < (0 : Int))) = (decide (a1 < (0 : Int))))) = true then
some (IntKind.i64.wrap (0 - j7))
else
some j7) : Option (Int)).bind fun j9 =>
some (j9, (0 : Int))))))))
noncomputable def S94 (N : Nat) : Sig := { inn := ⟨[(0, .val false (.leaf rInt)), (1, .val false (.leaf rInt)), (2, .val false (.leaf rInt))], [], [], 0⟩, out := ⟨[(0, .val false (.leaf rInt)), (1, .val false (.leaf rInt))], [], [], 0⟩, fn := fun (x : Int × Int × Int) => M.rate_FromRatio N x.1 x.2.1 x.2.2 }
theorem W94 (N : Nat) : FnOK Tryz.prog 94 (S94 N) := fn_ok (E := ⟨tabs, [(84, S84 N), (85, S85 N), (105, S105 N), (106, S106 N), (107, S107 N)], (tabcons (W84 N) (tabcons (W85 N) (tabcons (W105 N) (tabcons (W106 N) (tabcons (W107 N) tabnil))))), mixed⟩) (N := N) (a := (.two .nil (.two .nil (.two .nil (.two (.meet ⟨[(25, .val false (.leaf .bool))], [], [], 112⟩ .nil .nil) (.two .nil (.two .nil (.two .nil (.two .nil (.two .nil (.two .nil (.two .nil (.meet ⟨[(14, .val false (.leaf rInt))], [], [], 752⟩ .nil (.two .nil (.meet ⟨[(14, .val false (.leaf rInt))], [], [], 784⟩ .nil .nil))))))))))))))) (sg := S94 N) (c := Tryz.f94.body.getD .skip) (rs := Tryz.f94.results.toList) Tryz.func94 (by kernel_rfl) (by kernel_rfl) rfl rfl rfl rfl (fun x => by kernel_rfl)
noncomputable def M.eval_scaled (N : Nat) (a0 : rType.den) (a1 : rValue.den) (a2 : rValue.den) : Option (rValue.den × Int) :=
((if (decide (a0.1 = (13 : Int))) = true then
(M.eval_product N a1.2.2 a2.2.2).bind fun y2 =>
some (y2.2, (a1.1, ((0 : Int), y2.1)))
else
((if (decide (a0.1 = (14 : Int))) = true then
some (decide (a1.1 = (3 : Int)))
else
some false) : Option (Bool)).bind fun j3 =>
(if j3 = true then
(M.rate_Apply N a1.2.2 a2.2.2 a0.2).bind fun y4 =>
some (y4.2, (a1.1, ((0 : Int), y4.1)))
else
(if (decide (a0.1 = (14 : Int))) = true then
(M.rate_Mul N a1.2.2 a2.2.2 a0.2).bind fun y5 =>
some (y5.2, (a1.1, ((0 : Int), y5.1)))
else
(if (decide (a0.1 = (16 : Int))) = true then
(M.money_RoundTo N a1.2.2 a2.2.2 a0.2).bind fun y6 =>
some (y6.2, (a1.1, ((0 : Int), y6.1)))
else
(if (decide (a2.1 = (2 : Int))) = true then
(M.money_DivRound N a1.2.2 a2.2.2 a0.2).bind fun y7 =>
some (y7.2, (a1.1, ((0 : Int), y7.1)))
else
(M.rate_FromRatio N a1.2.2 a2.2.2 a0.2).bind fun y8 =>
some (y8.2, ((4 : Int), ((0 : Int), y8.1)))))))) : Option (Int × rValue.den)).bind fun j1 =>
some (j1.2, j1.1)
noncomputable def S80 (N : Nat) : Sig := { inn := ⟨[(0, .val true (.leaf rType)), (1, .val true (.leaf rValue)), (2, .val true (.leaf rValue))], [], [], 0⟩, out := ⟨[(0, .val true (.leaf rValue)), (1, .val false (.leaf rInt))], [], [], 0⟩, fn := fun (x : rType.den × rValue.den × rValue.den) => M.eval_scaled N x.1 x.2.1 x.2.2 }
theorem W80 (N : Nat) : FnOK Tryz.prog 80 (S80 N) := fn_ok (E := ⟨tabs, [(86, S86 N), (90, S90 N), (91, S91 N), (92, S92 N), (93, S93 N), (94, S94 N)], (tabcons (W86 N) (tabcons (W90 N) (tabcons (W91 N) (tabcons (W92 N) (tabcons (W93 N) (tabcons (W94 N) tabnil)))))), mixed⟩) (N := N) (a := (.two .nil (.two .nil (.two (.meet ⟨[(9, .val false (.leaf rInt))], [(128, .box 50 (.leaf rValue))], [], 177⟩ (.two .nil (.two .nil (.meet ⟨[(38, .val false (.leaf .bool))], [], [], 240⟩ .nil .nil))) .nil) .nil)))) (sg := S80 N) (c := Tryz.f80.body.getD .skip) (rs := Tryz.f80.results.toList) Tryz.func80 (by kernel_rfl) (by kernel_rfl) rfl rfl rfl rfl (fun x => by kernel_rfl)
noncomputable def M.date_FromYMD (N : Nat) (a0 : Int) (a1 : Int) (a2 : Int) : Option (Int × Int) :=
((if (decide (a0 < (1900 : Int))) = true then
some true
else
(if (decide ((2199 : Int) < a0)) = true then
some true
else
(if (decide (a1 < (1 : Int))) = true then
some true
else
(if (decide ((12 : Int) < a1)) = true then
some true
else
(if (decide (a2 < (1 : Int))) = true then
some true
else
(M.date_DaysInMonth N a0 a1).bind fun y2 =>
some (decide (y2 < a2))))))) : Option (Bool)).bind fun j1 =>
(if j1 = true then
some ((0 : Int), (3 : Int))
else
(M.date_yearStart N a0).bind fun y3 =>
(Loop (S := Int × Int) (X := Int) (fun s5 =>
(if (decide (s5.2 < (IntKind.i64.wrap (a1 - (1 : Int))))) = true then
(M.date_DaysInMonth N a0 (IntKind.i64.wrap (s5.2 + (1 : Int)))).bind fun y6 =>
some (Sum.inl (IntKind.i64.wrap (s5.1 + y6), IntKind.i64.wrap (s5.2 + (1 : Int))))
else
some (Sum.inr s5.1))) N (y3, (0 : Int)) : Option (Int)).bind fun j4 =>
some (IntKind.i64.wrap ((IntKind.i64.wrap (j4 + a2)) - (1 : Int)), (0 : Int)))
noncomputable def S95 (N : Nat) : Sig := { inn := ⟨[(0, .val false (.leaf rInt)), (1, .val false (.leaf rInt)), (2, .val false (.leaf rInt))], [], [], 0⟩, out := ⟨[(0, .val false (.leaf rInt)), (1, .val false (.leaf rInt))], [], [], 0⟩, fn := fun (x : Int × Int × Int) => M.date_FromYMD N x.1 x.2.1 x.2.2 }
theorem W95 (N : Nat) : FnOK Tryz.prog 95 (S95 N) := fn_ok (E := ⟨tabs, [(88, S88 N), (89, S89 N)], (tabcons (W88 N) (tabcons (W89 N) tabnil)), mixed⟩) (N := N) (a := (.two .nil (.two (.meet ⟨[(34, .val false (.leaf .bool))], [], [], 32⟩ .nil .nil) (.two .nil (.meet ⟨[(8, .val false (.leaf rInt))], [], [], 80⟩ (.two .nil (.two (.loop ⟨[(8, .val false (.leaf rInt)), (39, .val false (.leaf rInt))], [], [], 128⟩ .nil) .nil)) .nil))))) (sg := S95 N) (c := Tryz.f95.body.getD .skip) (rs := Tryz.f95.results.toList) Tryz.func95 (by kernel_rfl) (by kernel_rfl) rfl rfl rfl rfl (fun x => by kernel_rfl)
noncomputable def M.date_AddMonths (N : Nat) (a0 : Int) (a1 : Int) : Option (Int × Int) :=
((M.date_valid N a0).bind fun y2 =>
(if (!y2) = true then
some true
else
(if (decide (a1 < (-3600 : Int))) = true then
some true
else
some (decide ((3600 : Int) < a1)))) : Option (Bool)).bind fun j1 =>
(if j1 = true then
some ((0 : Int), (3 : Int))
else
(M.date_ToYMD N a0).bind fun y3 =>
((if (decide ((IntKind.i64.wrap ((IntKind.i64.wrap ((IntKind.i64.wrap ((IntKind.i64.wrap ((IntKind.i64.wrap (y3.1 - (1900 : Int))) * (12 : Int))) + y3.2.1)) - (1 : Int))) + a1)) < (0 : Int))) = true then
some true
else
some (decide ((3599 : Int) < (IntKind.i64.wrap ((IntKind.i64.wrap ((IntKind.i64.wrap ((IntKind.i64.wrap ((IntKind.i64.wrap (y3.1 - (1900 : Int))) * (12 : Int))) + y3.2.1)) - (1 : Int))) + a1))))) : Option (Bool)).bind fun j4 =>
(if j4 = true then
some ((0 : Int), (3 : Int))
else
(M.date_DaysInMonth N (IntKind.i64.wrap ((1900 : Int) + (IntKind.i64.wrap (Int.tdiv (IntKind.i64.wrap ((IntKind.i64.wrap ((IntKind.i64.wrap ((IntKind.i64.wrap ((IntKind.i64.wrap (y3.1 - (1900 : Int))) * (12 : Int))) + y3.2.1)) - (1 : Int))) + a1)) (12 : Int))))) (IntKind.i64.wrap ((Int.tmod (IntKind.i64.wrap ((IntKind.i64.wrap ((IntKind.i64.wrap ((IntKind.i64.wrap ((IntKind.i64.wrap (y3.1 - (1900 : Int))) * (12 : Int))) + y3.2.1)) - (1 : Int))) + a1)) (12 : Int)) + (1 : Int)))).bind fun y5 =>
(M.date_FromYMD N (IntKind.i64.wrap ((1900 : Int) + (IntKind.i64.wrap (Int.tdiv (IntKind.i64.wrap ((IntKind.i64.wrap ((IntKind.i64.wrap ((IntKind.i64.wrap ((IntKind.i64.wrap (y3.1 - (1900 : Int))) * (12 : Int))) + y3.2.1)) - (1 : Int))) + a1)) (12 : Int))))) (IntKind.i64.wrap ((Int.tmod (IntKind.i64.wrap ((IntKind.i64.wrap ((IntKind.i64.wrap ((IntKind.i64.wrap ((IntKind.i64.wrap (y3.1 - (1900 : Int))) * (12 : Int))) + y3.2.1)) - (1 : Int))) + a1)) (12 : Int)) + (1 : Int))) (if y5 < y3.2.2 then y5 else y3.2.2)).bind fun y6 =>
some (y6.1, y6.2)))
noncomputable def S81 (N : Nat) : Sig := { inn := ⟨[(0, .val false (.leaf rInt)), (1, .val false (.leaf rInt))], [], [], 0⟩, out := ⟨[(0, .val false (.leaf rInt)), (1, .val false (.leaf rInt))], [], [], 0⟩, fn := fun (x : Int × Int) => M.date_AddMonths N x.1 x.2 }
theorem W81 (N : Nat) : FnOK Tryz.prog 81 (S81 N) := fn_ok (E := ⟨tabs, [(79, S79 N), (87, S87 N), (89, S89 N), (95, S95 N)], (tabcons (W79 N) (tabcons (W87 N) (tabcons (W89 N) (tabcons (W95 N) tabnil)))), mixed⟩) (N := N) (a := (.two .nil (.two (.meet ⟨[(20, .val false (.leaf .bool))], [], [], 32⟩ .nil .nil) (.two .nil (.two .nil (.two (.meet ⟨[(40, .val false (.leaf .bool))], [], [], 320⟩ .nil .nil) .nil)))))) (sg := S81 N) (c := Tryz.f81.body.getD .skip) (rs := Tryz.f81.results.toList) Tryz.func81 (by kernel_rfl) (by kernel_rfl) rfl rfl rfl rfl (fun x => by kernel_rfl)
noncomputable def M.date_YearsBetween (N : Nat) (a0 : Int) (a1 : Int) : Option (Int) :=
((M.date_valid N a0).bind fun y2 =>
(if (!y2) = true then
some true
else
(M.date_valid N a1).bind fun y3 =>
(if (!y3) = true then
some true
else
some (decide (a1 < a0)))) : Option (Bool)).bind fun j1 =>
(if j1 = true then
some (0 : Int)
else
(M.date_ToYMD N a0).bind fun y4 =>
(M.date_ToYMD N a1).bind fun y5 =>
((M.date_AddMonths N a0 (IntKind.i64.wrap ((12 : Int) * (IntKind.i64.wrap (y5.1 - y4.1))))).bind fun y7 =>
((if (!decide (y7.2 = (0 : Int))) = true then
some true
else
some (decide (a1 < y7.1))) : Option (Bool)).bind fun j8 =>
(if j8 = true then
some (IntKind.i64.wrap ((IntKind.i64.wrap (y5.1 - y4.1)) - (1 : Int)))
else
some (IntKind.i64.wrap (y5.1 - y4.1))) : Option (Int)).bind fun j6 =>
some (if j6 < (0 : Int) then (0 : Int) else j6))
noncomputable def S82 (N : Nat) : Sig := { inn := ⟨[(0, .val false (.leaf rInt)), (1, .val false (.leaf rInt))], [], [], 0⟩, out := ⟨[(0, .val false (.leaf rInt))], [], [], 0⟩, fn := fun (x : Int × Int) => M.date_YearsBetween N x.1 x.2 }
theorem W82 (N : Nat) : FnOK Tryz.prog 82 (S82 N) := fn_ok (E := ⟨tabs, [(79, S79 N), (81, S81 N), (87, S87 N)], (tabcons (W79 N) (tabcons (W81 N) (tabcons (W87 N) tabnil))), mixed⟩) (N := N) (a := (.two .nil (.two (.meet ⟨[(26, .val false (.leaf .bool))], [], [], 16⟩ .nil .nil) (.two .nil (.two .nil (.two .nil (.meet ⟨[(11, .val false (.leaf rInt))], [], [], 368⟩ (.two .nil (.meet ⟨[(55, .val false (.leaf .bool))], [], [], 512⟩ .nil .nil)) .nil))))))) (sg := S82 N) (c := Tryz.f82.body.getD .skip) (rs := Tryz.f82.results.toList) Tryz.func82 (by kernel_rfl) (by kernel_rfl) rfl rfl rfl rfl (fun x => by kernel_rfl)
noncomputable def M.eval_binary (N : Nat) (a0 : rType.den) (a1 : rValue.den) (a2 : rValue.den) : Option (rValue.den × Int) :=
((if (decide (a0.1 = (11 : Int))) = true then
some (decide (a0.1 = (11 : Int)))
else
some (decide (a0.1 = (27 : Int)))) : Option (Bool)).bind fun j1 =>
(if j1 = true then
some ((a1.1, ((0 : Int), IntKind.i64.wrap (a1.2.2 + a2.2.2))), (0 : Int))
else
(if (decide (a0.1 = (12 : Int))) = true then
some ((a1.1, ((0 : Int), IntKind.i64.wrap (a1.2.2 - a2.2.2))), (0 : Int))
else
((if (decide (a0.1 = (13 : Int))) = true then
some (decide (a0.1 = (13 : Int)))
else
(if (decide (a0.1 = (14 : Int))) = true then
some (decide (a0.1 = (14 : Int)))
else
(if (decide (a0.1 = (15 : Int))) = true then
some (decide (a0.1 = (15 : Int)))
else
some (decide (a0.1 = (16 : Int)))))) : Option (Bool)).bind fun j2 =>
(if j2 = true then
(M.eval_scaled N a0 a1 a2).bind fun y3 =>
some (y3.1, y3.2)
else
((if (decide (a0.1 = (17 : Int))) = true then
some (decide (a0.1 = (17 : Int)))
else
some (decide (a0.1 = (18 : Int)))) : Option (Bool)).bind fun j4 =>
(if j4 = true then
(if (decide ((decide (a0.1 = (17 : Int))) = (decide (a2.2.2 < a1.2.2)))) = true then
some (a2, (0 : Int))
else
some (a1, (0 : Int)))
else
(if (decide (a0.1 = (19 : Int))) = true then
(M.eval_truth N (decide (a1.2.2 = a2.2.2))).bind fun y5 =>
some (y5, (0 : Int))
else
(if (decide (a0.1 = (20 : Int))) = true then
(M.eval_truth N (!decide (a1.2.2 = a2.2.2))).bind fun y6 =>
some (y6, (0 : Int))
else
(if (decide (a0.1 = (21 : Int))) = true then
(M.eval_truth N (decide (a1.2.2 < a2.2.2))).bind fun y7 =>
some (y7, (0 : Int))
else
(if (decide (a0.1 = (22 : Int))) = true then
(M.eval_truth N (decide (a1.2.2 ≤ a2.2.2))).bind fun y8 =>
some (y8, (0 : Int))
else
(if (decide (a0.1 = (23 : Int))) = true then
((if (decide (a1.2.2 = (1 : Int))) = true then
(M.eval_truth N (decide (a2.2.2 = (1 : Int)))).bind fun y10 =>
some ((0 : Int), y10)
else
(M.eval_truth N false).bind fun y11 =>
some ((0 : Int), y11)) : Option (Int × rValue.den)).bind fun j9 =>
some (j9.2, j9.1)
else
(if (decide (a0.1 = (24 : Int))) = true then
((if (decide (a1.2.2 = (1 : Int))) = true then
(M.eval_truth N true).bind fun y13 =>
some ((0 : Int), y13)
else
(M.eval_truth N (decide (a2.2.2 = (1 : Int)))).bind fun y14 =>
some ((0 : Int), y14)) : Option (Int × rValue.den)).bind fun j12 =>
some (j12.2, j12.1)
else
(if (decide (a0.1 = (28 : Int))) = true then
(M.date_AddMonths N a1.2.2 a2.2.2).bind fun y15 =>
some (((5 : Int), ((0 : Int), y15.1)), y15.2)
else
(if (decide (a0.1 = (29 : Int))) = true then
some (((2 : Int), ((0 : Int), IntKind.i64.wrap (a2.2.2 - a1.2.2))), (0 : Int))
else
(M.date_YearsBetween N a1.2.2 a2.2.2).bind fun y16 =>
some (((2 : Int), ((0 : Int), y16)), (0 : Int))))))))))))))
noncomputable def S69 (N : Nat) : Sig := { inn := ⟨[(0, .val true (.leaf rType)), (1, .val true (.leaf rValue)), (2, .val true (.leaf rValue))], [], [], 0⟩, out := ⟨[(0, .val true (.leaf rValue)), (1, .val false (.leaf rInt))], [], [], 0⟩, fn := fun (x : rType.den × rValue.den × rValue.den) => M.eval_binary N x.1 x.2.1 x.2.2 }
theorem W69 (N : Nat) : FnOK Tryz.prog 69 (S69 N) := fn_ok (E := ⟨tabs, [(78, S78 N), (80, S80 N), (81, S81 N), (82, S82 N)], (tabcons (W78 N) (tabcons (W80 N) (tabcons (W81 N) (tabcons (W82 N) tabnil)))), mixed⟩) (N := N) (a := (.two .nil (.two (.two .nil (.two (.meet ⟨[(12, .val false (.leaf .bool))], [], [], 112⟩ .nil (.two .nil (.two .nil (.two .nil (.meet ⟨[(33, .val false (.leaf .bool))], [], [], 144⟩ .nil (.two .nil (.meet ⟨[(44, .val false (.leaf .bool))], [], [], 144⟩ .nil (.two .nil (.two .nil (.two .nil (.two .nil (.two .nil (.two .nil (.two .nil (.two .nil (.two .nil (.two .nil (.two (.meet ⟨[(7, .val false (.leaf rInt))], [(48, .box 50 (.leaf rValue))], [], 305⟩ .nil .nil) (.two .nil (.two (.meet ⟨[(7, .val false (.leaf rInt))], [(48, .box 50 (.leaf rValue))], [], 337⟩ .nil .nil) .nil)))))))))))))))))))) .nil)) .nil))) (sg := S69 N) (c := Tryz.f69.body.getD .skip) (rs := Tryz.f69.results.toList) Tryz.func69 (by kernel_rfl) (by kernel_rfl) rfl rfl rfl rfl (fun x => by kernel_rfl)
noncomputable def M.eval_compute (N : Nat) (a0 : rType.den) (a1 : List rValue.den) (a2 : rEnv.den) : Option (rValue.den × Int) :=
((if (decide (a0.1 = (1 : Int))) = true then
some (decide (a0.1 = (1 : Int)))
else
(if (decide (a0.1 = (2 : Int))) = true then
some (decide (a0.1 = (2 : Int)))
else
(if (decide (a0.1 = (3 : Int))) = true then
some (decide (a0.1 = (3 : Int)))
else
(if (decide (a0.1 = (4 : Int))) = true then
some (decide (a0.1 = (4 : Int)))
else
some (decide (a0.1 = (5 : Int))))))) : Option (Bool)).bind fun j1 =>
(if j1 = true then
some ((a0.1, ((0 : Int), a0.2)), (0 : Int))
else
(if (decide (a0.1 = (6 : Int))) = true then
some (((6 : Int), (IntKind.i64.wrap (Int.tdiv a0.2 (16 : Int)), Int.tmod a0.2 (16 : Int))), (0 : Int))
else
(if (decide (a0.1 = (7 : Int))) = true then
(idx a2.2.1 a0.2).bind fun x2 =>
some (x2, (0 : Int))
else
(if (decide (a0.1 = (8 : Int))) = true then
(idx a2.2.2.1 a0.2).bind fun x3 =>
some (x3, (0 : Int))
else
(if (decide (a0.1 = (9 : Int))) = true then
some (((5 : Int), ((0 : Int), a2.1)), (0 : Int))
else
(if (decide (a0.1 = (35 : Int))) = true then
some (((2 : Int), ((0 : Int), (a2.2.2.2.1.length : Int))), (0 : Int))
else
((if (decide (a0.1 = (36 : Int))) = true then
some (decide (a0.1 = (36 : Int)))
else
(if (decide (a0.1 = (37 : Int))) = true then
some (decide (a0.1 = (37 : Int)))
else
(if (decide (a0.1 = (38 : Int))) = true then
some (decide (a0.1 = (38 : Int)))
else
some (decide (a0.1 = (39 : Int)))))) : Option (Bool)).bind fun j4 =>
(if j4 = true then
(M.eval_overMembers N a0 a2).bind fun y5 =>
some (y5.1, y5.2)
else
(if (decide (a0.1 = (33 : Int))) = true then
(idx a2.2.2.2.2.2 a0.2).bind fun x6 =>
(idx a1 (0 : Int)).bind fun x7 =>
(M.table_Lookup N x6 a2.1 x7.2.2).bind fun y8 =>
(if (!y8.2) = true then
some (((0 : Int), ((0 : Int), (0 : Int))), (6 : Int))
else
(idx x6.2.2.2 y8.1).bind fun x9 =>
some ((x6.2.2.1.1, (x6.2.2.1.2, x9.2.2.2)), (0 : Int)))
else
(if (decide (a0.1 = (34 : Int))) = true then
(idx a2.2.2.2.2.2 (IntKind.i64.wrap (Int.tdiv a0.2 (8 : Int)))).bind fun x10 =>
(idx a1 (0 : Int)).bind fun x11 =>
(M.table_Brackets N x10 a2.1 x11.2.2 (Int.tmod a0.2 (8 : Int))).bind fun y12 =>
some (((3 : Int), ((0 : Int), y12.1)), y12.2)
else
(if (decide ((a1.length : Int) = (1 : Int))) = true then
(idx a1 (0 : Int)).bind fun x13 =>
(M.eval_unary N a0.1 x13).bind fun y14 =>
some (y14, (0 : Int))
else
(if (decide ((a1.length : Int) = (2 : Int))) = true then
(idx a1 (0 : Int)).bind fun x15 =>
(idx a1 (1 : Int)).bind fun x16 =>
(M.eval_binary N a0 x15 x16).bind fun y17 =>
some (y17.1, y17.2)
else
(idx a1 (0 : Int)).bind fun x18 =>
(if (decide (x18.2.2 = (1 : Int))) = true then
(idx a1 (1 : Int)).bind fun x19 =>
some (x19, (0 : Int))
else
(idx a1 (2 : Int)).bind fun x20 =>
some (x20, (0 : Int))))))))))))))
noncomputable def S47 (N : Nat) : Sig := { inn := ⟨[(0, .val true (.leaf rType)), (1, .val false (.leaf (.slice rValue))), (2, .val true (.leaf rEnv))], [], [], 0⟩, out := ⟨[(0, .val true (.leaf rValue)), (1, .val false (.leaf rInt))], [], [], 0⟩, fn := fun (x : rType.den × (List rValue.den) × rEnv.den) => M.eval_compute N x.1 x.2.1 x.2.2 }
theorem W47 (N : Nat) : FnOK Tryz.prog 47 (S47 N) := fn_ok (E := ⟨tabs, [(65, S65 N), (66, S66 N), (67, S67 N), (68, S68 N), (69, S69 N)], (tabcons (W65 N) (tabcons (W66 N) (tabcons (W67 N) (tabcons (W68 N) (tabcons (W69 N) tabnil))))), mixed⟩) (N := N) (a := (.two .nil (.two (.two .nil (.two (.meet ⟨[(15, .val false (.leaf .bool))], [], [], 96⟩ .nil (.two .nil (.two .nil (.two .nil (.two .nil (.two .nil (.two .nil (.two .nil (.two .nil (.two .nil (.two .nil (.two .nil (.meet ⟨[(62, .val false (.leaf .bool))], [], [], 256⟩ .nil .nil))))))))))))) .nil)) .nil))) (sg := S47 N) (c := Tryz.f47.body.getD .skip) (rs := Tryz.f47.results.toList) Tryz.func47 (by kernel_rfl) (by kernel_rfl) rfl rfl rfl rfl (fun x => by kernel_rfl)
noncomputable def M.eval_Apply (N : Nat) (a0 : rType.den) (a1 : List rValue.den) (a2 : rEnv.den) : Option (rValue.den × Int) :=
((M.eval_wellFormed N a0).bind fun y2 =>
(if (!y2) = true then
some true
else
(M.expr_Arity N a0.1).bind fun y3 =>
some (!decide ((a1.length : Int) = y3))) : Option (Bool)).bind fun j1 =>
(if j1 = true then
some (((0 : Int), ((0 : Int), (0 : Int))), (2 : Int))
else
(M.eval_exists N a0 a2).bind fun y4 =>
(if (!y4) = true then
some (((0 : Int), ((0 : Int), (0 : Int))), (6 : Int))
else
((M.eval_allPlausible N a1).bind fun y6 =>
(if (!y6) = true then
some true
else
(M.eval_allowed N a0 a1 a2).bind fun y7 =>
some (!y7)) : Option (Bool)).bind fun j5 =>
(if j5 = true then
some (((0 : Int), ((0 : Int), (0 : Int))), (8 : Int))
else
(M.eval_compute N a0 a1 a2).bind fun y8 =>
(if (!decide (y8.2 = (0 : Int))) = true then
some (((0 : Int), ((0 : Int), (0 : Int))), y8.2)
else
(M.eval_plausible N y8.1).bind fun y9 =>
(if (!y9) = true then
some (((0 : Int), ((0 : Int), (0 : Int))), (3 : Int))
else
some (y8.1, (0 : Int)))))))
noncomputable def S27 (N : Nat) : Sig := { inn := ⟨[(0, .val true (.leaf rType)), (1, .val false (.leaf (.slice rValue))), (2, .val true (.leaf rEnv))], [], [], 0⟩, out := ⟨[(0, .val true (.leaf rValue)), (1, .val false (.leaf rInt))], [], [], 0⟩, fn := fun (x : rType.den × (List rValue.den) × rEnv.den) => M.eval_Apply N x.1 x.2.1 x.2.2 }
theorem W27 (N : Nat) : FnOK Tryz.prog 27 (S27 N) := fn_ok (E := ⟨tabs, [(21, S21 N), (43, S43 N), (44, S44 N), (45, S45 N), (46, S46 N), (47, S47 N), (48, S48 N)], (tabcons (W21 N) (tabcons (W43 N) (tabcons (W44 N) (tabcons (W45 N) (tabcons (W46 N) (tabcons (W47 N) (tabcons (W48 N) tabnil))))))), mixed⟩) (N := N) (a := (.two .nil (.two (.meet ⟨[(20, .val false (.leaf .bool))], [], [], 64⟩ .nil .nil) (.two .nil (.two (.meet ⟨[(36, .val false (.leaf .bool))], [], [], 128⟩ .nil .nil) .nil))))) (sg := S27 N) (c := Tryz.f27.body.getD .skip) (rs := Tryz.f27.results.toList) Tryz.func27 (by kernel_rfl) (by kernel_rfl) rfl rfl rfl rfl (fun x => by kernel_rfl)
noncomputable def M.vm_Run (N : Nat) (a0 : List rType.den) (a1 : rEnv.den) : Option (rValue.den × Int × Int) :=
(M.bytecode_Verify N a0).bind fun y1 =>
(if (!decide (y1.2 = (0 : Int))) = true then
some (((0 : Int), ((0 : Int), (0 : Int))), (0 : Int), (1 : Int))
else
Join (J := Int × List rValue.den) (R := rValue.den × Int × Int) (Loop (S := Int × Int × List rValue.den) (X := (Int × List rValue.den) ⊕ (rValue.den × Int × Int)) (fun s3 =>
(if (decide (s3.2.1 < (a0.length : Int))) = true then
Join (J := Int × Int × List rValue.den) (R := (Int × Int × List rValue.den) ⊕ ((Int × List rValue.den) ⊕ (rValue.den × Int × Int))) ((idx a0 s3.2.1).bind fun x5 =>
(if (decide (x5.1 = (51 : Int))) = true then
some (Sum.inl (IntKind.i64.wrap (s3.1 + (1 : Int)), x5.2, s3.2.2))
else
(M.vm_isConditional N x5.1).bind fun y6 =>
(if (!y6) = true then
(M.expr_Arity N x5.1).bind fun y7 =>
(cutA s3.2.2 (IntKind.i64.wrap ((s3.2.2.length : Int) - y7)) (s3.2.2.length : Int)).bind fun l8 =>
(M.eval_Apply N x5 l8 a1).bind fun y9 =>
(if (!decide (y9.2 = (0 : Int))) = true then
some (Sum.inr (Sum.inr (Sum.inr (((0 : Int), ((0 : Int), (0 : Int))), (0 : Int), y9.2))))
else
(cutA s3.2.2 (0 : Int) (IntKind.i64.wrap ((s3.2.2.length : Int) - y7))).bind fun l10 =>
(appA l10 ([y9.1] : List rValue.den)).bind fun l11 =>
some (Sum.inl (IntKind.i64.wrap (s3.1 + (1 : Int)), IntKind.i64.wrap (s3.2.1 + (1 : Int)), l11)))
else
(idx s3.2.2 (IntKind.i64.wrap ((s3.2.2.length : Int) - (1 : Int)))).bind fun x12 =>
((if (!decide (x12.1 = (1 : Int))) = true then
some true
else
(if (!decide (x12.2.2 = (0 : Int))) = true then
some (!decide (x12.2.2 = (1 : Int)))
else
some false)) : Option (Bool)).bind fun j13 =>
(if j13 = true then
some (Sum.inr (Sum.inr (Sum.inr (((0 : Int), ((0 : Int), (0 : Int))), (0 : Int), (8 : Int)))))
else
((if (decide ((decide (x12.2.2 = (1 : Int))) = (decide (x5.1 = (53 : Int))))) = true then
some x5.2
else
some (IntKind.i64.wrap (s3.2.1 + (1 : Int)))) : Option (Int)).bind fun j14 =>
((if (!(decide ((decide (x12.2.2 = (1 : Int))) = (decide (x5.1 = (53 : Int)))))) = true then
some true
else
some (decide (x5.1 = (50 : Int)))) : Option (Bool)).bind fun j15 =>
(if j15 = true then
(cutA s3.2.2 (0 : Int) (IntKind.i64.wrap ((s3.2.2.length : Int) - (1 : Int)))).bind fun l16 =>
some (Sum.inl (IntKind.i64.wrap (s3.1 + (1 : Int)), j14, l16))
else
some (Sum.inl (IntKind.i64.wrap (s3.1 + (1 : Int)), j14, s3.2.2))))))) fun j4 =>
some (Sum.inl (j4.1, j4.2.1, j4.2.2))
else
some (Sum.inr (Sum.inl (s3.1, s3.2.2))))) N ((0 : Int), (0 : Int), ([] : List rValue.den))) fun j2 =>
(idx j2.2 (0 : Int)).bind fun x17 =>
some (x17, j2.1, (0 : Int)))
noncomputable def S12 (N : Nat) : Sig := { inn := ⟨[(0, .val false (.leaf (.slice rType))), (1, .val true (.leaf rEnv))], [], [], 0⟩, out := ⟨[(0, .val true (.leaf rValue)), (1, .val false (.leaf rInt)), (2, .val false (.leaf rInt))], [], [], 0⟩, fn := fun (x : (List rType.den) × rEnv.den) => M.vm_Run N x.1 x.2 }
theorem W12 (N : Nat) : FnOK Tryz.prog 12 (S12 N) := fn_ok (E := ⟨tabs, [(21, S21 N), (25, S25 N), (26, S26 N), (27, S27 N)], (tabcons (W21 N) (tabcons (W25 N) (tabcons (W26 N) (tabcons (W27 N) tabnil)))), mixed⟩) (N := N) (a := (.two .nil (.two .nil (.two .nil (.two .nil (.join ⟨[(9, .val false (.own 240)), (10, .val false (.leaf rInt))], [(240, .own 50 rValue)], [], 241⟩ (.two .nil (.two (.loop ⟨[(9, .val false (.own 256)), (10, .val false (.leaf rInt)), (11, .val false (.leaf rInt))], [(256, .own 50 rValue)], [], 257⟩ (.two .nil (.join ⟨[(9, .val false (.own 321)), (10, .val false (.leaf rInt)), (11, .val false (.leaf rInt))], [(321, .own 50 rValue)], [256], 322⟩ (.two .nil (.two .nil (.two .nil (.two .nil (.two .nil (.two .nil (.two (.meet ⟨[(90, .val false (.leaf .bool))], [], [], 753⟩ .nil .nil) (.two .nil (.meet ⟨[(11, .val false (.leaf rInt))], [], [], 881⟩ .nil (.meet ⟨[(108, .val false (.leaf .bool))], [], [], 881⟩ .nil .nil)))))))))) .nil))) .nil)) .nil)))))) (sg := S12 N) (c := Tryz.f12.body.getD .skip) (rs := Tryz.f12.results.toList) Tryz.func12 (by kernel_rfl) (by kernel_rfl) rfl rfl rfl rfl (fun x => by kernel_rfl)
noncomputable def M.law27_awake (N : Nat) : Option (Bool) :=
(M.vm_Run N ([((2 : Int), (2 : Int)), ((2 : Int), (3 : Int)), ((11 : Int), (0 : Int))] : List rType.den) ((0 : Int), (([] : List rValue.den), (([] : List rValue.den), (([] : List (List rValue.den)), (([] : List rType.den), ([] : List rTable.den))))))).bind fun y1 =>
(M.vm_Run N ([((1 : Int), (0 : Int)), ((52 : Int), (3 : Int)), ((1 : Int), (1 : Int))] : List rType.den) ((0 : Int), (([] : List rValue.den), (([] : List rValue.den), (([] : List (List rValue.den)), (([] : List rType.den), ([] : List rTable.den))))))).bind fun y2 =>
(M.vm_Run N ([((2 : Int), (1 : Int)), ((52 : Int), (3 : Int)), ((1 : Int), (1 : Int))] : List rType.den) ((0 : Int), (([] : List rValue.den), (([] : List rValue.den), (([] : List (List rValue.den)), (([] : List rType.den), ([] : List rTable.den))))))).bind fun y3 =>
(M.vm_Run N ([] : List rType.den) ((0 : Int), (([] : List rValue.den), (([] : List rValue.den), (([] : List (List rValue.den)), (([] : List rType.den), ([] : List rTable.den))))))).bind fun y4 =>
((if (!(eqR rValue y1.1 ((2 : Int), ((0 : Int), (5 : Int))))) = true then
some true
else
(if (!decide (y1.2.1 = (3 : Int))) = true then
some true
else
(if (!decide (y1.2.2 = (0 : Int))) = true then
some true
else
(if (!(eqR rValue y2.1 ((1 : Int), ((0 : Int), (0 : Int))))) = true then
some true
else
(if (!decide (y2.2.1 = (2 : Int))) = true then
some true
else
some (!decide (y2.2.2 = (0 : Int)))))))) : Option (Bool)).bind fun j5 =>
(if j5 = true then
some false
else
((if (decide (y3.2.2 = (8 : Int))) = true then
some (decide (y4.2.2 = (1 : Int)))
else
some false) : Option (Bool)).bind fun j6 =>
some j6)
noncomputable def S8 (N : Nat) : Sig := { inn := ⟨[], [], [], 0⟩, out := ⟨[(0, .val false (.leaf .bool))], [], [], 0⟩, fn := fun (x : Unit) => M.law27_awake N }
theorem W8 (N : Nat) : FnOK Tryz.prog 8 (S8 N) := fn_ok (E := ⟨tabs, [(12, S12 N)], (tabcons (W12 N) tabnil), mixed⟩) (N := N) (a := (.two .nil (.two .nil (.two .nil (.two .nil (.two .nil (.two (.meet ⟨[(72, .val false (.leaf .bool))], [], [], 848⟩ .nil .nil) (.meet ⟨[(0, .val false (.leaf .bool))], [], [], 848⟩ .nil .nil)))))))) (sg := S8 N) (c := Tryz.f8.body.getD .skip) (rs := Tryz.f8.results.toList) Tryz.func8 (by kernel_rfl) (by kernel_rfl) rfl rfl rfl rfl (fun x => by kernel_rfl)
noncomputable def M.ref09_ValidType (N : Nat) (a0 : rType.den) (a1 : List rEnum.den) : Option (Bool) :=
(if (decide (a0.1 = (6 : Int))) = true then
((if (decide ((0 : Int) ≤ a0.2)) = true then
some (decide (a0.2 < (a1.length : Int)))
else
some false) : Option (Bool)).bind fun j1 =>
some j1
else
((if (decide ((1 : Int) ≤ a0.1)) = true then
(if (decide (a0.1 ≤ (5 : Int))) = true then
some (decide (a0.2 = (0 : Int)))
else
some false)
else
some false) : Option (Bool)).bind fun j2 =>
some j2)
noncomputable def S16 (N : Nat) : Sig := { inn := ⟨[(0, .val true (.leaf rType)), (1, .val false (.leaf (.slice rEnum)))], [], [], 0⟩, out := ⟨[(0, .val false (.leaf .bool))], [], [], 0⟩, fn := fun (x : rType.den × List rEnum.den) => M.ref09_ValidType N x.1 x.2 }
theorem W16 (N : Nat) : FnOK Tryz.prog 16 (S16 N) := fn_ok (E := ⟨tabs, [], tabnil, mixed⟩) (N := N) (a := (.two .nil (.two (.two .nil (.two (.meet ⟨[(4, .val false (.leaf .bool))], [], [], 80⟩ .nil .nil) .nil)) (.meet ⟨[(4, .val false (.leaf .bool))], [], [], 80⟩ .nil .nil)))) (sg := S16 N) (c := Tryz.f16.body.getD .skip) (rs := Tryz.f16.results.toList) Tryz.func16 (by kernel_rfl) (by kernel_rfl) rfl rfl rfl rfl (fun x => by kernel_rfl)
noncomputable def M.ref05_Valid (N : Nat) (a0 : rType.den) : Option (Bool) :=
((if (decide ((0 : Int) ≤ a0.1)) = true then
(if (decide (a0.1 ≤ a0.2)) = true then
some (decide (a0.2 ≤ (109573 : Int)))
else
some false)
else
some false) : Option (Bool)).bind fun j1 =>
some j1
noncomputable def S31 (N : Nat) : Sig := { inn := ⟨[(0, .val true (.leaf rType))], [], [], 0⟩, out := ⟨[(0, .val false (.leaf .bool))], [], [], 0⟩, fn := fun (x : rType.den) => M.ref05_Valid N x }
theorem W31 (N : Nat) : FnOK Tryz.prog 31 (S31 N) := fn_ok (E := ⟨tabs, [], tabnil, mixed⟩) (N := N) (a := (.two .nil (.meet ⟨[(2, .val false (.leaf .bool))], [], [], 32⟩ .nil .nil))) (sg := S31 N) (c := Tryz.f31.body.getD .skip) (rs := Tryz.f31.results.toList) Tryz.func31 (by kernel_rfl) (by kernel_rfl) rfl rfl rfl rfl (fun x => by kernel_rfl)
noncomputable def M.ref09_Bounds (N : Nat) (a0 : rType.den) (a1 : List rEnum.den) : Option (Int × Int) :=
(M.ref09_ValidType N a0 a1).bind fun y1 =>
(if (!y1) = true then
some ((0 : Int), (-1 : Int))
else
(if (decide (a0.1 = (1 : Int))) = true then
some ((0 : Int), (1 : Int))
else
(if (decide (a0.1 = (2 : Int))) = true then
some ((-1000000000000 : Int), (1000000000000 : Int))
else
(if (decide (a0.1 = (3 : Int))) = true then
some ((-1000000000000000 : Int), (1000000000000000 : Int))
else
(if (decide (a0.1 = (4 : Int))) = true then
some ((-1000000000 : Int), (1000000000 : Int))
else
(if (decide (a0.1 = (5 : Int))) = true then
some ((0 : Int), (109572 : Int))
else
(idx a1 a0.2).bind fun x2 =>
some ((0 : Int), IntKind.i64.wrap ((x2.2.length : Int) - (1 : Int)))))))))
noncomputable def S52 (N : Nat) : Sig := { inn := ⟨[(0, .val true (.leaf rType)), (1, .val false (.leaf (.slice rEnum)))], [], [], 0⟩, out := ⟨[(0, .val false (.leaf rInt)), (1, .val false (.leaf rInt))], [], [], 0⟩, fn := fun (x : rType.den × List rEnum.den) => M.ref09_Bounds N x.1 x.2 }
theorem W52 (N : Nat) : FnOK Tryz.prog 52 (S52 N) := fn_ok (E := ⟨tabs, [(16, S16 N)], (tabcons (W16 N) tabnil), mixed⟩) (N := N) (a := .nil) (sg := S52 N) (c := Tryz.f52.body.getD .skip) (rs := Tryz.f52.results.toList) Tryz.func52 (by kernel_rfl) (by kernel_rfl) rfl rfl rfl rfl (fun x => by kernel_rfl)
noncomputable def M.ref09_In (N : Nat) (a0 : Int) (a1 : rType.den) (a2 : List rEnum.den) : Option (Bool) :=
(M.ref09_Bounds N a1 a2).bind fun y1 =>
((if (decide (y1.1 ≤ a0)) = true then
some (decide (a0 ≤ y1.2))
else
some false) : Option (Bool)).bind fun j2 =>
some j2
noncomputable def S32 (N : Nat) : Sig := { inn := ⟨[(0, .val false (.leaf rInt)), (1, .val true (.leaf rType)), (2, .val false (.leaf (.slice rEnum)))], [], [], 0⟩, out := ⟨[(0, .val false (.leaf .bool))], [], [], 0⟩, fn := fun (x : Int × rType.den × List rEnum.den) => M.ref09_In N x.1 x.2.1 x.2.2 }
theorem W32 (N : Nat) : FnOK Tryz.prog 32 (S32 N) := fn_ok (E := ⟨tabs, [(52, S52 N)], (tabcons (W52 N) tabnil), mixed⟩) (N := N) (a := (.two .nil (.two .nil (.meet ⟨[(6, .val false (.leaf .bool))], [], [], 160⟩ .nil .nil)))) (sg := S32 N) (c := Tryz.f32.body.getD .skip) (rs := Tryz.f32.results.toList) Tryz.func32 (by kernel_rfl) (by kernel_rfl) rfl rfl rfl rfl (fun x => by kernel_rfl)
noncomputable def M.ref12_wrong (N : Nat) (a0 : rRow.den) (a1 : rTable.den) (a2 : List rEnum.den) : Option (Bool) :=
((M.ref05_Valid N a0.1).bind fun y2 =>
(if (!y2) = true then
some true
else
(if (decide (a0.1.1 = a0.1.2)) = true then
some true
else
some (decide (a0.2.2.1 ≤ a0.2.1)))) : Option (Bool)).bind fun j1 =>
(if j1 = true then
some true
else
((M.ref09_In N a0.2.1 a1.2.1 a2).bind fun y4 =>
(if (!y4) = true then
some true
else
(M.ref09_In N (IntKind.i64.wrap (a0.2.2.1 - (1 : Int))) a1.2.1 a2).bind fun y5 =>
(if (!y5) = true then
some true
else
(M.ref09_In N a0.2.2.2 a1.2.2.1 a2).bind fun y6 =>
some (!y6))) : Option (Bool)).bind fun j3 =>
some j3)
noncomputable def S17 (N : Nat) : Sig := { inn := ⟨[(0, .val true (.leaf rRow)), (1, .val true (.leaf rTable)), (2, .val false (.leaf (.slice rEnum)))], [], [], 0⟩, out := ⟨[(0, .val false (.leaf .bool))], [], [], 0⟩, fn := fun (x : rRow.den × rTable.den × List rEnum.den) => M.ref12_wrong N x.1 x.2.1 x.2.2 }
theorem W17 (N : Nat) : FnOK Tryz.prog 17 (S17 N) := fn_ok (E := ⟨tabs, [(31, S31 N), (32, S32 N)], (tabcons (W31 N) (tabcons (W32 N) tabnil)), mixed⟩) (N := N) (a := (.two .nil (.two (.meet ⟨[(26, .val false (.leaf .bool))], [], [], 48⟩ .nil .nil) (.meet ⟨[(6, .val false (.leaf .bool))], [], [], 48⟩ .nil .nil)))) (sg := S17 N) (c := Tryz.f17.body.getD .skip) (rs := Tryz.f17.results.toList) Tryz.func17 (by kernel_rfl) (by kernel_rfl) rfl rfl rfl rfl (fun x => by kernel_rfl)
noncomputable def M.ref05_Intersect (N : Nat) (a0 : rType.den) (a1 : rType.den) : Option (rType.den × Bool) :=
((M.ref05_Valid N a0).bind fun y2 =>
(if (!y2) = true then
some true
else
(M.ref05_Valid N a1).bind fun y3 =>
some (!y3)) : Option (Bool)).bind fun j1 =>
(if j1 = true then
some (((0 : Int), (0 : Int)), false)
else
(if (decide ((if a1.2 < a0.2 then a1.2 else a0.2) ≤ (if a0.1 < a1.1 then a1.1 else a0.1))) = true then
some (((0 : Int), (0 : Int)), false)
else
some ((if a0.1 < a1.1 then a1.1 else a0.1, if a1.2 < a0.2 then a1.2 else a0.2), true)))
noncomputable def S33 (N : Nat) : Sig := { inn := ⟨[(0, .val true (.leaf rType)), (1, .val true (.leaf rType))], [], [], 0⟩, out := ⟨[(0, .val true (.leaf rType)), (1, .val false (.leaf .bool))], [], [], 0⟩, fn := fun (x : rType.den × rType.den) => M.ref05_Intersect N x.1 x.2 }
theorem W33 (N : Nat) : FnOK Tryz.prog 33 (S33 N) := fn_ok (E := ⟨tabs, [(31, S31 N)], (tabcons (W31 N) tabnil), mixed⟩) (N := N) (a := (.two .nil (.two (.meet ⟨[(14, .val false (.leaf .bool))], [], [], 64⟩ .nil .nil) .nil))) (sg := S33 N) (c := Tryz.f33.body.getD .skip) (rs := Tryz.f33.results.toList) Tryz.func33 (by kernel_rfl) (by kernel_rfl) rfl rfl rfl rfl (fun x => by kernel_rfl)
noncomputable def M.ref12_conflict (N : Nat) (a0 : rRow.den) (a1 : rRow.den) : Option (Bool) :=
(M.ref05_Intersect N a0.1 a1.1).bind fun y1 =>
((if y1.2 = true then
some (decide ((if a0.2.1 < a1.2.1 then a1.2.1 else a0.2.1) < (if a1.2.2.1 < a0.2.2.1 then a1.2.2.1 else a0.2.2.1)))
else
some false) : Option (Bool)).bind fun j2 =>
some j2
noncomputable def S18 (N : Nat) : Sig := { inn := ⟨[(0, .val true (.leaf rRow)), (1, .val true (.leaf rRow))], [], [], 0⟩, out := ⟨[(0, .val false (.leaf .bool))], [], [], 0⟩, fn := fun (x : rRow.den × rRow.den) => M.ref12_conflict N x.1 x.2 }
theorem W18 (N : Nat) : FnOK Tryz.prog 18 (S18 N) := fn_ok (E := ⟨tabs, [(33, S33 N)], (tabcons (W33 N) tabnil), mixed⟩) (N := N) (a := (.two .nil (.two .nil (.meet ⟨[(4, .val false (.leaf .bool))], [], [], 224⟩ .nil .nil)))) (sg := S18 N) (c := Tryz.f18.body.getD .skip) (rs := Tryz.f18.results.toList) Tryz.func18 (by kernel_rfl) (by kernel_rfl) rfl rfl rfl rfl (fun x => by kernel_rfl)
noncomputable def M.ref12_Validate (N : Nat) (a0 : rTable.den) (a1 : List rEnum.den) : Option (Int × Int) :=
(if (decide ((64 : Int) < (a0.2.2.2.length : Int))) = true then
some ((64 : Int), (4 : Int))
else
((M.ref09_ValidType N a0.2.1 a1).bind fun y2 =>
(if (!y2) = true then
some true
else
(M.ref09_ValidType N a0.2.2.1 a1).bind fun y3 =>
some (!y3)) : Option (Bool)).bind fun j1 =>
(if j1 = true then
some ((-1 : Int), (8 : Int))
else
Loop (S := Int) (X := Int × Int) (fun s4 =>
(if (decide (s4 < (a0.2.2.2.length : Int))) = true then
Join (J := Unit) (R := (Int) ⊕ (Int × Int)) ((idx a0.2.2.2 s4).bind fun x6 =>
(M.ref12_wrong N x6 a0 a1).bind fun y7 =>
(if y7 = true then
some (Sum.inr (Sum.inr (s4, (3 : Int))))
else
Loop (S := Int) (X := (Unit) ⊕ ((Int) ⊕ (Int × Int))) (fun s8 =>
(if (decide (s8 < s4)) = true then
(idx a0.2.2.2 s8).bind fun x9 =>
(idx a0.2.2.2 s4).bind fun x10 =>
(M.ref12_conflict N x9 x10).bind fun y11 =>
(if y11 = true then
some (Sum.inr (Sum.inr (Sum.inr (s4, (11 : Int)))))
else
some (Sum.inl (IntKind.i64.wrap (s8 + (1 : Int)))))
else
some (Sum.inr (Sum.inl ())))) N (0 : Int))) fun j5 =>
some (Sum.inl (IntKind.i64.wrap (s4 + (1 : Int))))
else
some (Sum.inr ((0 : Int), (0 : Int))))) N (0 : Int)))
noncomputable def S9 (N : Nat) : Sig := { inn := ⟨[(0, .val true (.leaf rTable)), (1, .val false (.leaf (.slice rEnum)))], [], [], 0⟩, out := ⟨[(0, .val false (.leaf rInt)), (1, .val false (.leaf rInt))], [], [], 0⟩, fn := fun (x : rTable.den × List rEnum.den) => M.ref12_Validate N x.1 x.2 }
theorem W9 (N : Nat) : FnOK Tryz.prog 9 (S9 N) := fn_ok (E := ⟨tabs, [(16, S16 N), (17, S17 N), (18, S18 N)], (tabcons (W16 N) (tabcons (W17 N) (tabcons (W18 N) tabnil))), mixed⟩) (N := N) (a := (.two .nil (.two .nil (.two (.meet ⟨[(23, .val false (.leaf .bool))], [], [], 112⟩ .nil .nil) (.two (.two .nil (.two (.loop ⟨[(6, .val false (.leaf rInt))], [], [], 128⟩ (.two .nil (.join ⟨[], [], [], 208⟩ (.two (.two .nil (.two .nil (.two (.loop ⟨[(7, .val false (.leaf rInt))], [], [], 352⟩ .nil) .nil))) .nil) .nil))) .nil)) .nil))))) (sg := S9 N) (c := Tryz.f9.body.getD .skip) (rs := Tryz.f9.results.toList) Tryz.func9 (by kernel_rfl) (by kernel_rfl) rfl rfl rfl rfl (fun x => by kernel_rfl)
noncomputable def M.expr_structure (N : Nat) (a0 : List rType.den) : Option (Int × Int × List Int) :=
(if (decide ((48 : Int) < (a0.length : Int))) = true then
some ((0 : Int), (4 : Int), ([] : List Int))
else
(if (decide ((a0.length : Int) = (0 : Int))) = true then
some ((0 : Int), (5 : Int), ([] : List Int))
else
(mkL (a0.length : Int) (0 : Int)).bind fun l1 =>
Join (J := (List Int) × List Int) (R := Int × Int × List Int) (Loop (S := Int × (List Int) × List Int) (X := ((List Int) × List Int) ⊕ (Int × Int × List Int)) (fun s3 =>
(if (decide (s3.1 < (a0.length : Int))) = true then
(idx a0 s3.1).bind fun x4 =>
(M.expr_Arity N x4.1).bind fun y5 =>
(if (decide (y5 < (0 : Int))) = true then
some (Sum.inr (Sum.inr (s3.1, (2 : Int), ([] : List Int))))
else
(if (decide ((s3.2.2.length : Int) < y5)) = true then
some (Sum.inr (Sum.inr (s3.1, (5 : Int), ([] : List Int))))
else
(idx s3.2.1 s3.1).bind fun x6 =>
((if (decide ((0 : Int) < y5)) = true then
(idx s3.2.2 (IntKind.i64.wrap ((s3.2.2.length : Int) - y5))).bind fun x8 =>
(idx (setL s3.2.1 s3.1 s3.1) s3.1).bind fun x9 =>
some (setL (setL s3.2.1 s3.1 s3.1) s3.1 x8)
else
some (setL s3.2.1 s3.1 s3.1)) : Option (List Int)).bind fun j7 =>
(cutA s3.2.2 (0 : Int) (IntKind.i64.wrap ((s3.2.2.length : Int) - y5))).bind fun l10 =>
(idx j7 s3.1).bind fun x11 =>
(appA l10 ([x11] : List Int)).bind fun l12 =>
(if (decide ((12 : Int) < (l12.length : Int))) = true then
some (Sum.inr (Sum.inr (s3.1, (16 : Int), ([] : List Int))))
else
some (Sum.inl (IntKind.i64.wrap (s3.1 + (1 : Int)), j7, l12)))))
else
some (Sum.inr (Sum.inl (s3.2.1, s3.2.2))))) N ((0 : Int), l1, ([] : List Int))) fun j2 =>
(if (decide ((1 : Int) < (j2.2.length : Int))) = true then
some ((a0.length : Int), (4 : Int), ([] : List Int))
else
some ((0 : Int), (0 : Int), j2.1))))
noncomputable def S19 (N : Nat) : Sig := { inn := ⟨[(0, .val false (.leaf (.slice rType)))], [], [], 0⟩, out := ⟨[(0, .val false (.own 0)), (1, .val false (.leaf rInt)), (2, .val false (.leaf rInt))], [(0, .own 3 rInt)], [], 1⟩, fn := fun (x : List rType.den) => M.expr_structure N x }
theorem W19 (N : Nat) : FnOK Tryz.prog 19 (S19 N) := fn_ok (E := ⟨tabs, [(21, S21 N)], (tabcons (W21 N) tabnil), mixed⟩) (N := N) (a := (.two .nil (.two .nil (.two .nil (.two .nil (.two .nil (.join ⟨[(6, .val false (.own 224))], [(176, .own 3 rInt), (224, .own 3 rInt)], [], 226⟩ (.two .nil (.two (.loop ⟨[(6, .val false (.own 272)), (21, .val false (.leaf rInt))], [(176, .own 3 rInt), (272, .own 3 rInt)], [], 274⟩ (.two .nil (.two .nil (.two (.two (.two .nil (.two .nil (.two .nil (.two .nil (.two .nil (.meet ⟨[], [(176, .own 3 rInt)], [], 627⟩ .nil .nil)))))) .nil) .nil)))) .nil)) .nil))))))) (sg := S19 N) (c := Tryz.f19.body.getD .skip) (rs := Tryz.f19.results.toList) Tryz.func19 (by kernel_rfl) (by kernel_rfl) rfl rfl rfl rfl (fun x => by kernel_rfl)
noncomputable def M.value_ValidType (N : Nat) (a0 : rType.den) (a1 : List rEnum.den) : Option (Bool) :=
((if (decide (a0.1 = (1 : Int))) = true then
some (decide (a0.1 = (1 : Int)))
else
(if (decide (a0.1 = (2 : Int))) = true then
some (decide (a0.1 = (2 : Int)))
else
(if (decide (a0.1 = (3 : Int))) = true then
some (decide (a0.1 = (3 : Int)))
else
(if (decide (a0.1 = (4 : Int))) = true then
some (decide (a0.1 = (4 : Int)))
else
some (decide (a0.1 = (5 : Int))))))) : Option (Bool)).bind fun j1 =>
(if j1 = true then
some (decide (a0.2 = (0 : Int)))
else
(if (decide (a0.1 = (6 : Int))) = true then
((if (decide ((0 : Int) ≤ a0.2)) = true then
some (decide (a0.2 < (a1.length : Int)))
else
some false) : Option (Bool)).bind fun j2 =>
some j2
else
some false))
noncomputable def S54 (N : Nat) : Sig := { inn := ⟨[(0, .val true (.leaf rType)), (1, .val false (.leaf (.slice rEnum)))], [], [], 0⟩, out := ⟨[(0, .val false (.leaf .bool))], [], [], 0⟩, fn := fun (x : rType.den × List rEnum.den) => M.value_ValidType N x.1 x.2 }
theorem W54 (N : Nat) : FnOK Tryz.prog 54 (S54 N) := fn_ok (E := ⟨tabs, [], tabnil, mixed⟩) (N := N) (a := (.two .nil (.two (.two .nil (.two (.meet ⟨[(7, .val false (.leaf .bool))], [], [], 64⟩ .nil (.two .nil (.two .nil (.two (.meet ⟨[(4, .val false (.leaf .bool))], [], [], 96⟩ .nil .nil) .nil)))) .nil)) .nil))) (sg := S54 N) (c := Tryz.f54.body.getD .skip) (rs := Tryz.f54.results.toList) Tryz.func54 (by kernel_rfl) (by kernel_rfl) rfl rfl rfl rfl (fun x => by kernel_rfl)
noncomputable def M.value_Bounds (N : Nat) (a0 : rType.den) (a1 : List rEnum.den) : Option (Int × Int) :=
(M.value_ValidType N a0 a1).bind fun y1 =>
(if (!y1) = true then
some ((0 : Int), (-1 : Int))
else
(if (decide (a0.1 = (1 : Int))) = true then
some ((0 : Int), (1 : Int))
else
(if (decide (a0.1 = (2 : Int))) = true then
some ((-1000000000000 : Int), (1000000000000 : Int))
else
(if (decide (a0.1 = (3 : Int))) = true then
some ((-1000000000000000 : Int), (1000000000000000 : Int))
else
(if (decide (a0.1 = (4 : Int))) = true then
some ((-1000000000 : Int), (1000000000 : Int))
else
(if (decide (a0.1 = (5 : Int))) = true then
some ((0 : Int), (109572 : Int))
else
(idx a1 a0.2).bind fun x2 =>
some ((0 : Int), IntKind.i64.wrap ((x2.2.length : Int) - (1 : Int)))))))))
noncomputable def S53 (N : Nat) : Sig := { inn := ⟨[(0, .val true (.leaf rType)), (1, .val false (.leaf (.slice rEnum)))], [], [], 0⟩, out := ⟨[(0, .val false (.leaf rInt)), (1, .val false (.leaf rInt))], [], [], 0⟩, fn := fun (x : rType.den × List rEnum.den) => M.value_Bounds N x.1 x.2 }
theorem W53 (N : Nat) : FnOK Tryz.prog 53 (S53 N) := fn_ok (E := ⟨tabs, [(54, S54 N)], (tabcons (W54 N) tabnil), mixed⟩) (N := N) (a := .nil) (sg := S53 N) (c := Tryz.f53.body.getD .skip) (rs := Tryz.f53.results.toList) Tryz.func53 (by kernel_rfl) (by kernel_rfl) rfl rfl rfl rfl (fun x => by kernel_rfl)
noncomputable def M.expr_literalType (N : Nat) (a0 : Int) (a1 : Int) (a2 : rSignature.den) : Option (rType.den × Int) :=
(M.value_Bounds N (a1, (0 : Int)) a2.1).bind fun y1 =>
((if (decide (a0 < y1.1)) = true then
some true
else
some (decide (y1.2 < a0))) : Option (Bool)).bind fun j2 =>
(if j2 = true then
some (((0 : Int), (0 : Int)), (3 : Int))
else
some ((a1, (0 : Int)), (0 : Int)))
noncomputable def S34 (N : Nat) : Sig := { inn := ⟨[(0, .val false (.leaf rInt)), (1, .val false (.leaf rInt)), (2, .val true (.leaf rSignature))], [], [], 0⟩, out := ⟨[(0, .val true (.leaf rType)), (1, .val false (.leaf rInt))], [], [], 0⟩, fn := fun (x : Int × Int × rSignature.den) => M.expr_literalType N x.1 x.2.1 x.2.2 }
theorem W34 (N : Nat) : FnOK Tryz.prog 34 (S34 N) := fn_ok (E := ⟨tabs, [(53, S53 N)], (tabcons (W53 N) tabnil), mixed⟩) (N := N) (a := (.two .nil (.two .nil (.two (.two .nil (.meet ⟨[(27, .val false (.leaf .bool))], [], [], 256⟩ .nil .nil)) .nil)))) (sg := S34 N) (c := Tryz.f34.body.getD .skip) (rs := Tryz.f34.results.toList) Tryz.func34 (by kernel_rfl) (by kernel_rfl) rfl rfl rfl rfl (fun x => by kernel_rfl)
noncomputable def M.expr_enumType (N : Nat) (a0 : Int) (a1 : rSignature.den) : Option (rType.den × Int) :=
(if (decide (a0 < (0 : Int))) = true then
some (((0 : Int), (0 : Int)), (3 : Int))
else
((if (decide ((a1.1.length : Int) ≤ (IntKind.i64.wrap (Int.tdiv a0 (16 : Int))))) = true then
some true
else
(idx a1.1 (IntKind.i64.wrap (Int.tdiv a0 (16 : Int)))).bind fun x2 =>
some (decide ((x2.2.length : Int) ≤ (Int.tmod a0 (16 : Int))))) : Option (Bool)).bind fun j1 =>
(if j1 = true then
some (((0 : Int), (0 : Int)), (6 : Int))
else
some (((6 : Int), IntKind.i64.wrap (Int.tdiv a0 (16 : Int))), (0 : Int))))
noncomputable def S35 (N : Nat) : Sig := { inn := ⟨[(0, .val false (.leaf rInt)), (1, .val true (.leaf rSignature))], [], [], 0⟩, out := ⟨[(0, .val true (.leaf rType)), (1, .val false (.leaf rInt))], [], [], 0⟩, fn := fun (x : Int × rSignature.den) => M.expr_enumType N x.1 x.2 }
theorem W35 (N : Nat) : FnOK Tryz.prog 35 (S35 N) := fn_ok (E := ⟨tabs, [], tabnil, mixed⟩) (N := N) (a := (.two .nil (.two .nil (.two .nil (.two (.meet ⟨[(30, .val false (.leaf .bool))], [], [], 176⟩ .nil .nil) .nil))))) (sg := S35 N) (c := Tryz.f35.body.getD .skip) (rs := Tryz.f35.results.toList) Tryz.func35 (by kernel_rfl) (by kernel_rfl) rfl rfl rfl rfl (fun x => by kernel_rfl)
noncomputable def M.expr_listedType (N : Nat) (a0 : Int) (a1 : List rType.den) (a2 : rSignature.den) : Option (rType.den × Int) :=
((if (decide (a0 < (0 : Int))) = true then
some true
else
some (decide ((a1.length : Int) ≤ a0))) : Option (Bool)).bind fun j1 =>
(if j1 = true then
some (((0 : Int), (0 : Int)), (6 : Int))
else
(idx a1 a0).bind fun x2 =>
(M.value_ValidType N x2 a2.1).bind fun y3 =>
(if (!y3) = true then
some (((0 : Int), (0 : Int)), (8 : Int))
else
(idx a1 a0).bind fun x4 =>
some (x4, (0 : Int))))
noncomputable def S36 (N : Nat) : Sig := { inn := ⟨[(0, .val false (.leaf rInt)), (1, .val false (.leaf (.slice rType))), (2, .val true (.leaf rSignature))], [], [], 0⟩, out := ⟨[(0, .val true (.leaf rType)), (1, .val false (.leaf rInt))], [], [], 0⟩, fn := fun (x : Int × (List rType.den) × rSignature.den) => M.expr_listedType N x.1 x.2.1 x.2.2 }
theorem W36 (N : Nat) : FnOK Tryz.prog 36 (S36 N) := fn_ok (E := ⟨tabs, [(54, S54 N)], (tabcons (W54 N) tabnil), mixed⟩) (N := N) (a := (.two .nil (.two (.meet ⟨[(15, .val false (.leaf .bool))], [], [], 48⟩ .nil .nil) .nil))) (sg := S36 N) (c := Tryz.f36.body.getD .skip) (rs := Tryz.f36.results.toList) Tryz.func36 (by kernel_rfl) (by kernel_rfl) rfl rfl rfl rfl (fun x => by kernel_rfl)
noncomputable def M.expr_validMode (N : Nat) (a0 : Int) : Option (Bool) :=
((if (decide ((0 : Int) ≤ a0)) = true then
some (decide (a0 ≤ (5 : Int)))
else
some false) : Option (Bool)).bind fun j1 =>
some j1
noncomputable def S39 (N : Nat) : Sig := { inn := ⟨[(0, .val false (.leaf rInt))], [], [], 0⟩, out := ⟨[(0, .val false (.leaf .bool))], [], [], 0⟩, fn := fun (x : Int) => M.expr_validMode N x }
theorem W39 (N : Nat) : FnOK Tryz.prog 39 (S39 N) := fn_ok (E := ⟨tabs, [], tabnil, mixed⟩) (N := N) (a := (.two .nil (.meet ⟨[(2, .val false (.leaf .bool))], [], [], 16⟩ .nil .nil))) (sg := S39 N) (c := Tryz.f39.body.getD .skip) (rs := Tryz.f39.results.toList) Tryz.func39 (by kernel_rfl) (by kernel_rfl) rfl rfl rfl rfl (fun x => by kernel_rfl)
noncomputable def M.expr_tableType (N : Nat) (a0 : rType.den) (a1 : rType.den) (a2 : rSignature.den) : Option (rType.den × Int) :=
Join (J := Int) (R := rType.den × Int) ((if (decide (a0.1 = (34 : Int))) = true then
((if (decide (a0.2 < (0 : Int))) = true then
some true
else
(M.expr_validMode N (Int.tmod a0.2 (8 : Int))).bind fun y3 =>
some (!y3)) : Option (Bool)).bind fun j2 =>
(if j2 = true then
some (Sum.inr (((0 : Int), (0 : Int)), (3 : Int)))
else
some (Sum.inl (IntKind.i64.wrap (Int.tdiv a0.2 (8 : Int)))))
else
some (Sum.inl a0.2))) fun j1 =>
((if (decide (j1 < (0 : Int))) = true then
some true
else
some (decide ((a2.2.1.length : Int) ≤ j1))) : Option (Bool)).bind fun j4 =>
(if j4 = true then
some (((0 : Int), (0 : Int)), (6 : Int))
else
(idx a2.2.1 j1).bind fun x5 =>
(idx a2.2.1 j1).bind fun x6 =>
((M.value_ValidType N x5.2.1 a2.1).bind fun y8 =>
(if (!y8) = true then
some true
else
(M.value_ValidType N x6.2.2.1 a2.1).bind fun y9 =>
(if (!y9) = true then
some true
else
some (!(eqR rType a1 x5.2.1)))) : Option (Bool)).bind fun j7 =>
(if j7 = true then
some (((0 : Int), (0 : Int)), (8 : Int))
else
(if (decide (a0.1 = (34 : Int))) = true then
((if (!decide (x5.2.1.1 = (3 : Int))) = true then
some true
else
some (!decide (x6.2.2.1.1 = (4 : Int)))) : Option (Bool)).bind fun j10 =>
(if j10 = true then
some (((0 : Int), (0 : Int)), (8 : Int))
else
some (x5.2.1, (0 : Int)))
else
some (x6.2.2.1, (0 : Int)))))
noncomputable def S37 (N : Nat) : Sig := { inn := ⟨[(0, .val true (.leaf rType)), (1, .val true (.leaf rType)), (2, .val true (.leaf rSignature))], [], [], 0⟩, out := ⟨[(0, .val true (.leaf rType)), (1, .val false (.leaf rInt))], [], [], 0⟩, fn := fun (x : rType.den × rType.den × rSignature.den) => M.expr_tableType N x.1 x.2.1 x.2.2 }
theorem W37 (N : Nat) : FnOK Tryz.prog 37 (S37 N) := fn_ok (E := ⟨tabs, [(39, S39 N), (54, S54 N)], (tabcons (W39 N) (tabcons (W54 N) tabnil)), mixed⟩) (N := N) (a := (.two .nil (.two .nil (.join ⟨[(8, .val false (.leaf rInt))], [], [], 128⟩ (.two .nil (.two (.two (.meet ⟨[(25, .val false (.leaf .bool))], [], [], 176⟩ .nil .nil) .nil) .nil)) (.two (.meet ⟨[(38, .val false (.leaf .bool))], [], [], 128⟩ .nil .nil) (.two .nil (.two (.meet ⟨[(68, .val false (.leaf .bool))], [], [], 384⟩ .nil .nil) (.two (.two .nil (.two (.two (.meet ⟨[(80, .val false (.leaf .bool))], [], [], 432⟩ .nil .nil) .nil) .nil)) .nil)))))))) (sg := S37 N) (c := Tryz.f37.body.getD .skip) (rs := Tryz.f37.results.toList) Tryz.func37 (by kernel_rfl) (by kernel_rfl) rfl rfl rfl rfl (fun x => by kernel_rfl)
noncomputable def M.expr_isNumber (N : Nat) (a0 : Int) : Option (Bool) :=
((if (decide (a0 = (2 : Int))) = true then
some true
else
(if (decide (a0 = (3 : Int))) = true then
some true
else
some (decide (a0 = (4 : Int))))) : Option (Bool)).bind fun j1 =>
some j1
noncomputable def S55 (N : Nat) : Sig := { inn := ⟨[(0, .val false (.leaf rInt))], [], [], 0⟩, out := ⟨[(0, .val false (.leaf .bool))], [], [], 0⟩, fn := fun (x : Int) => M.expr_isNumber N x }
theorem W55 (N : Nat) : FnOK Tryz.prog 55 (S55 N) := fn_ok (E := ⟨tabs, [], tabnil, mixed⟩) (N := N) (a := (.two .nil (.meet ⟨[(2, .val false (.leaf .bool))], [], [], 16⟩ .nil .nil))) (sg := S55 N) (c := Tryz.f55.body.getD .skip) (rs := Tryz.f55.results.toList) Tryz.func55 (by kernel_rfl) (by kernel_rfl) rfl rfl rfl rfl (fun x => by kernel_rfl)
noncomputable def M.expr_memberType (N : Nat) (a0 : rType.den) (a1 : rSignature.den) : Option (rType.den × Int) :=
(if (!a1.2.2.2.2.2) = true then
some (((0 : Int), (0 : Int)), (6 : Int))
else
(if (decide (a0.1 = (35 : Int))) = true then
some (((2 : Int), (0 : Int)), (0 : Int))
else
(M.expr_listedType N a0.2 a1.2.2.2.2.1 a1).bind fun y1 =>
(if (!decide (y1.2 = (0 : Int))) = true then
some (((0 : Int), (0 : Int)), y1.2)
else
((if (decide (a0.1 = (36 : Int))) = true then
(if (decide (y1.1.1 = (2 : Int))) = true then
some true
else
some (decide (y1.1.1 = (3 : Int))))
else
((if (decide (a0.1 = (37 : Int))) = true then
some (decide (a0.1 = (37 : Int)))
else
some (decide (a0.1 = (38 : Int)))) : Option (Bool)).bind fun j3 =>
(if j3 = true then
some (decide (y1.1.1 = (1 : Int)))
else
(if (decide (a0.1 = (39 : Int))) = true then
(M.expr_isNumber N y1.1.1).bind fun y4 =>
(if y4 = true then
some true
else
some (decide (y1.1.1 = (5 : Int))))
else
some false))) : Option (Bool)).bind fun j2 =>
(if (!j2) = true then
some (((0 : Int), (0 : Int)), (8 : Int))
else
some (y1.1, (0 : Int))))))
noncomputable def S38 (N : Nat) : Sig := { inn := ⟨[(0, .val true (.leaf rType)), (1, .val true (.leaf rSignature))], [], [], 0⟩, out := ⟨[(0, .val true (.leaf rType)), (1, .val false (.leaf rInt))], [], [], 0⟩, fn := fun (x : rType.den × rSignature.den) => M.expr_memberType N x.1 x.2 }
theorem W38 (N : Nat) : FnOK Tryz.prog 38 (S38 N) := fn_ok (E := ⟨tabs, [(36, S36 N), (55, S55 N)], (tabcons (W36 N) (tabcons (W55 N) tabnil)), mixed⟩) (N := N) (a := (.two .nil (.two .nil (.two .nil (.two .nil (.two .nil (.two .nil (.two (.two .nil (.meet ⟨[(8, .val false (.leaf .bool))], [], [], 432⟩ (.two .nil (.two .nil (.meet ⟨[(42, .val false (.leaf .bool))], [], [], 464⟩ .nil .nil))) .nil)) .nil)))))))) (sg := S38 N) (c := Tryz.f38.body.getD .skip) (rs := Tryz.f38.results.toList) Tryz.func38 (by kernel_rfl) (by kernel_rfl) rfl rfl rfl rfl (fun x => by kernel_rfl)
noncomputable def M.expr_productType (N : Nat) (a0 : Int) (a1 : Int) (a2 : Int) : Option (rType.den × Bool) :=
(if (decide (a0 = (14 : Int))) = true then
((if (decide (a2 = (4 : Int))) = true then
(if (decide (a1 = (3 : Int))) = true then
some (true, (a1, (0 : Int)))
else
some (decide (a1 = (4 : Int)), (a1, (0 : Int))))
else
some (false, (a1, (0 : Int)))) : Option (Bool × rType.den)).bind fun j1 =>
some (j1.2, j1.1)
else
(if (decide (a2 = (2 : Int))) = true then
((if (decide (a1 = (2 : Int))) = true then
some (true, (a1, (0 : Int)))
else
some (decide (a1 = (3 : Int)), (a1, (0 : Int)))) : Option (Bool × rType.den)).bind fun j2 =>
some (j2.2, j2.1)
else
((if (decide (a0 = (15 : Int))) = true then
(if (decide (a1 = (3 : Int))) = true then
some (decide (a2 = (3 : Int)))
else
some false)
else
some false) : Option (Bool)).bind fun j3 =>
(if j3 = true then
some (((4 : Int), (0 : Int)), true)
else
some (((0 : Int), (0 : Int)), false))))
noncomputable def S56 (N : Nat) : Sig := { inn := ⟨[(0, .val false (.leaf rInt)), (1, .val false (.leaf rInt)), (2, .val false (.leaf rInt))], [], [], 0⟩, out := ⟨[(0, .val true (.leaf rType)), (1, .val false (.leaf .bool))], [], [], 0⟩, fn := fun (x : Int × Int × Int) => M.expr_productType N x.1 x.2.1 x.2.2 }
theorem W56 (N : Nat) : FnOK Tryz.prog 56 (S56 N) := fn_ok (E := ⟨tabs, [], tabnil, mixed⟩) (N := N) (a := (.two .nil (.two (.two (.two .nil (.two (.meet ⟨[(7, .val false (.leaf .bool))], [(0, .box 41 (.leaf rType))], [], 81⟩ .nil .nil) (.two .nil (.two (.meet ⟨[(7, .val false (.leaf .bool))], [(0, .box 41 (.leaf rType))], [], 129⟩ .nil .nil) (.meet ⟨[(34, .val false (.leaf .bool))], [], [], 128⟩ .nil .nil))))) .nil) .nil))) (sg := S56 N) (c := Tryz.f56.body.getD .skip) (rs := Tryz.f56.results.toList) Tryz.func56 (by kernel_rfl) (by kernel_rfl) rfl rfl rfl rfl (fun x => by kernel_rfl)
noncomputable def M.expr_resultType (N : Nat) (a0 : Int) (a1 : List rType.den) : Option (rType.den × Bool) :=
(if (decide (a0 = (10 : Int))) = true then
(idx a1 (0 : Int)).bind fun x1 =>
(idx a1 (0 : Int)).bind fun x2 =>
(M.expr_isNumber N x2.1).bind fun y3 =>
some (x1, y3)
else
(if (decide (a0 = (25 : Int))) = true then
(idx a1 (0 : Int)).bind fun x4 =>
some (((1 : Int), (0 : Int)), decide (x4.1 = (1 : Int)))
else
((if (decide (a0 = (11 : Int))) = true then
some (decide (a0 = (11 : Int)))
else
some (decide (a0 = (12 : Int)))) : Option (Bool)).bind fun j5 =>
(if j5 = true then
((idx a1 (0 : Int)).bind fun x7 =>
(idx a1 (0 : Int)).bind fun x8 =>
(idx a1 (1 : Int)).bind fun x9 =>
(if (eqR rType x8 x9) = true then
(idx a1 (0 : Int)).bind fun x10 =>
(M.expr_isNumber N x10.1).bind fun y11 =>
some (y11, x7)
else
some (false, x7)) : Option (Bool × rType.den)).bind fun j6 =>
some (j6.2, j6.1)
else
((if (decide (a0 = (13 : Int))) = true then
some (decide (a0 = (13 : Int)))
else
(if (decide (a0 = (14 : Int))) = true then
some (decide (a0 = (14 : Int)))
else
some (decide (a0 = (15 : Int))))) : Option (Bool)).bind fun j12 =>
(if j12 = true then
(idx a1 (0 : Int)).bind fun x13 =>
(idx a1 (1 : Int)).bind fun x14 =>
(M.expr_productType N a0 x13.1 x14.1).bind fun y15 =>
some (y15.1, y15.2)
else
(if (decide (a0 = (16 : Int))) = true then
((idx a1 (0 : Int)).bind fun x17 =>
(idx a1 (0 : Int)).bind fun x18 =>
(if (decide (x18.1 = (3 : Int))) = true then
(idx a1 (1 : Int)).bind fun x19 =>
some (decide (x19.1 = (3 : Int)), x17)
else
some (false, x17)) : Option (Bool × rType.den)).bind fun j16 =>
some (j16.2, j16.1)
else
((if (decide (a0 = (17 : Int))) = true then
some (decide (a0 = (17 : Int)))
else
some (decide (a0 = (18 : Int)))) : Option (Bool)).bind fun j20 =>
(if j20 = true then
((idx a1 (0 : Int)).bind fun x22 =>
(idx a1 (0 : Int)).bind fun x23 =>
(idx a1 (1 : Int)).bind fun x24 =>
(if (eqR rType x23 x24) = true then
(idx a1 (0 : Int)).bind fun x25 =>
(M.expr_isNumber N x25.1).bind fun y26 =>
(if y26 = true then
some (true, x22)
else
(idx a1 (0 : Int)).bind fun x27 =>
some (decide (x27.1 = (5 : Int)), x22))
else
some (false, x22)) : Option (Bool × rType.den)).bind fun j21 =>
some (j21.2, j21.1)
else
((if (decide (a0 = (19 : Int))) = true then
some (decide (a0 = (19 : Int)))
else
some (decide (a0 = (20 : Int)))) : Option (Bool)).bind fun j28 =>
(if j28 = true then
(idx a1 (0 : Int)).bind fun x29 =>
(idx a1 (1 : Int)).bind fun x30 =>
some (((1 : Int), (0 : Int)), (eqR rType x29 x30))
else
((if (decide (a0 = (21 : Int))) = true then
some (decide (a0 = (21 : Int)))
else
some (decide (a0 = (22 : Int)))) : Option (Bool)).bind fun j31 =>
(if j31 = true then
((idx a1 (0 : Int)).bind fun x33 =>
(idx a1 (1 : Int)).bind fun x34 =>
(if (eqR rType x33 x34) = true then
(idx a1 (0 : Int)).bind fun x35 =>
(M.expr_isNumber N x35.1).bind fun y36 =>
(if y36 = true then
some (true, ((1 : Int), (0 : Int)))
else
(idx a1 (0 : Int)).bind fun x37 =>
some (decide (x37.1 = (5 : Int)), ((1 : Int), (0 : Int))))
else
some (false, ((1 : Int), (0 : Int)))) : Option (Bool × rType.den)).bind fun j32 =>
some (j32.2, j32.1)
else
((if (decide (a0 = (23 : Int))) = true then
some (decide (a0 = (23 : Int)))
else
some (decide (a0 = (24 : Int)))) : Option (Bool)).bind fun j38 =>
(if j38 = true then
((idx a1 (0 : Int)).bind fun x40 =>
(if (decide (x40.1 = (1 : Int))) = true then
(idx a1 (1 : Int)).bind fun x41 =>
some (decide (x41.1 = (1 : Int)), ((1 : Int), (0 : Int)))
else
some (false, ((1 : Int), (0 : Int)))) : Option (Bool × rType.den)).bind fun j39 =>
some (j39.2, j39.1)
else
(if (decide (a0 = (26 : Int))) = true then
((idx a1 (1 : Int)).bind fun x43 =>
(idx a1 (0 : Int)).bind fun x44 =>
(if (decide (x44.1 = (1 : Int))) = true then
(idx a1 (1 : Int)).bind fun x45 =>
(idx a1 (2 : Int)).bind fun x46 =>
some ((eqR rType x45 x46), x43)
else
some (false, x43)) : Option (Bool × rType.den)).bind fun j42 =>
some (j42.2, j42.1)
else
((if (decide (a0 = (27 : Int))) = true then
some (decide (a0 = (27 : Int)))
else
some (decide (a0 = (28 : Int)))) : Option (Bool)).bind fun j47 =>
(if j47 = true then
((idx a1 (0 : Int)).bind fun x49 =>
(idx a1 (0 : Int)).bind fun x50 =>
(if (decide (x50.1 = (5 : Int))) = true then
(idx a1 (1 : Int)).bind fun x51 =>
some (decide (x51.1 = (2 : Int)), x49)
else
some (false, x49)) : Option (Bool × rType.den)).bind fun j48 =>
some (j48.2, j48.1)
else
((if (decide (a0 = (29 : Int))) = true then
some (decide (a0 = (29 : Int)))
else
some (decide (a0 = (30 : Int)))) : Option (Bool)).bind fun j52 =>
(if j52 = true then
((idx a1 (0 : Int)).bind fun x54 =>
(if (decide (x54.1 = (5 : Int))) = true then
(idx a1 (1 : Int)).bind fun x55 =>
some (decide (x55.1 = (5 : Int)), ((2 : Int), (0 : Int)))
else
some (false, ((2 : Int), (0 : Int)))) : Option (Bool × rType.den)).bind fun j53 =>
some (j53.2, j53.1)
else
((if (decide (a0 = (31 : Int))) = true then
some (decide (a0 = (31 : Int)))
else
some (decide (a0 = (32 : Int)))) : Option (Bool)).bind fun j56 =>
(if j56 = true then
(idx a1 (0 : Int)).bind fun x57 =>
some (((2 : Int), (0 : Int)), decide (x57.1 = (5 : Int)))
else
some (((0 : Int), (0 : Int)), false))))))))))))))
noncomputable def S40 (N : Nat) : Sig := { inn := ⟨[(0, .val false (.leaf rInt)), (1, .val false (.leaf (.slice rType)))], [], [], 0⟩, out := ⟨[(0, .val true (.leaf rType)), (1, .val false (.leaf .bool))], [], [], 0⟩, fn := fun (x : Int × List rType.den) => M.expr_resultType N x.1 x.2 }
theorem W40 (N : Nat) : FnOK Tryz.prog 40 (S40 N) := fn_ok (E := ⟨tabs, [(55, S55 N), (56, S56 N)], (tabcons (W55 N) (tabcons (W56 N) tabnil)), mixed⟩) (N := N) (a := (.two .nil (.two .nil (.two (.two .nil (.two (.two .nil (.two .nil (.two .nil (.two .nil (.meet ⟨[(27, .val false (.leaf .bool))], [], [], 160⟩ .nil (.two (.meet ⟨[(5, .val false (.leaf .bool))], [(0, .box 41 (.leaf rType))], [], 161⟩ .nil .nil) (.meet ⟨[(47, .val false (.leaf .bool))], [], [], 160⟩ .nil (.two .nil (.two .nil (.two (.meet ⟨[(5, .val false (.leaf .bool))], [(0, .box 41 (.leaf rType))], [], 193⟩ .nil .nil) (.meet ⟨[(80, .val false (.leaf .bool))], [], [], 192⟩ .nil (.two (.meet ⟨[(5, .val false (.leaf .bool))], [(0, .box 41 (.leaf rType))], [], 193⟩ .nil .nil) (.meet ⟨[(107, .val false (.leaf .bool))], [], [], 192⟩ .nil (.two .nil (.meet ⟨[(118, .val false (.leaf .bool))], [], [], 192⟩ .nil (.two (.meet ⟨[(5, .val false (.leaf .bool))], [(0, .box 41 (.leaf rType))], [], 193⟩ .nil .nil) (.meet ⟨[(143, .val false (.leaf .bool))], [], [], 192⟩ .nil (.two (.meet ⟨[(5, .val false (.leaf .bool))], [(0, .box 41 (.leaf rType))], [], 193⟩ .nil .nil) (.two .nil (.two (.meet ⟨[(5, .val false (.leaf .bool))], [(0, .box 41 (.leaf rType))], [], 225⟩ .nil .nil) (.meet ⟨[(178, .val false (.leaf .bool))], [], [], 224⟩ .nil (.two (.meet ⟨[(5, .val false (.leaf .bool))], [(0, .box 41 (.leaf rType))], [], 225⟩ .nil .nil) (.meet ⟨[(196, .val false (.leaf .bool))], [], [], 224⟩ .nil (.two (.meet ⟨[(5, .val false (.leaf .bool))], [(0, .box 41 (.leaf rType))], [], 225⟩ .nil .nil) (.meet ⟨[(212, .val false (.leaf .bool))], [], [], 224⟩ .nil .nil))))))))))))))))))))))))) .nil)) .nil)))) (sg := S40 N) (c := Tryz.f40.body.getD .skip) (rs := Tryz.f40.results.toList) Tryz.func40 (by kernel_rfl) (by kernel_rfl) rfl rfl rfl rfl (fun x => by kernel_rfl)
noncomputable def M.expr_nodeType (N : Nat) (a0 : rType.den) (a1 : List rType.den) (a2 : rSignature.den) : Option (rType.den × Int) :=
Join (J := Unit) (R := rType.den × Int) ((if (decide (a0.1 = (1 : Int))) = true then
(M.expr_literalType N a0.2 (1 : Int) a2).bind fun y2 =>
some (Sum.inr (y2.1, y2.2))
else
(if (decide (a0.1 = (2 : Int))) = true then
(M.expr_literalType N a0.2 (2 : Int) a2).bind fun y3 =>
some (Sum.inr (y3.1, y3.2))
else
(if (decide (a0.1 = (3 : Int))) = true then
(M.expr_literalType N a0.2 (3 : Int) a2).bind fun y4 =>
some (Sum.inr (y4.1, y4.2))
else
(if (decide (a0.1 = (4 : Int))) = true then
(M.expr_literalType N a0.2 (4 : Int) a2).bind fun y5 =>
some (Sum.inr (y5.1, y5.2))
else
(if (decide (a0.1 = (5 : Int))) = true then
(M.expr_literalType N a0.2 (5 : Int) a2).bind fun y6 =>
some (Sum.inr (y6.1, y6.2))
else
(if (decide (a0.1 = (6 : Int))) = true then
(M.expr_enumType N a0.2 a2).bind fun y7 =>
some (Sum.inr (y7.1, y7.2))
else
(if (decide (a0.1 = (7 : Int))) = true then
(M.expr_listedType N a0.2 a2.2.2.1 a2).bind fun y8 =>
some (Sum.inr (y8.1, y8.2))
else
(if (decide (a0.1 = (8 : Int))) = true then
(M.expr_listedType N a0.2 a2.2.2.2.1 a2).bind fun y9 =>
some (Sum.inr (y9.1, y9.2))
else
(if (decide (a0.1 = (9 : Int))) = true then
some (Sum.inr (((5 : Int), (0 : Int)), (0 : Int)))
else
((if (decide (a0.1 = (33 : Int))) = true then
some (decide (a0.1 = (33 : Int)))
else
some (decide (a0.1 = (34 : Int)))) : Option (Bool)).bind fun j10 =>
(if j10 = true then
(idx a1 (0 : Int)).bind fun x11 =>
(M.expr_tableType N a0 x11 a2).bind fun y12 =>
some (Sum.inr (y12.1, y12.2))
else
((if (decide (a0.1 = (35 : Int))) = true then
some (decide (a0.1 = (35 : Int)))
else
(if (decide (a0.1 = (36 : Int))) = true then
some (decide (a0.1 = (36 : Int)))
else
(if (decide (a0.1 = (37 : Int))) = true then
some (decide (a0.1 = (37 : Int)))
else
(if (decide (a0.1 = (38 : Int))) = true then
some (decide (a0.1 = (38 : Int)))
else
some (decide (a0.1 = (39 : Int))))))) : Option (Bool)).bind fun j13 =>
(if j13 = true then
(M.expr_memberType N a0 a2).bind fun y14 =>
some (Sum.inr (y14.1, y14.2))
else
((if (decide (a0.1 = (14 : Int))) = true then
some (decide (a0.1 = (14 : Int)))
else
(if (decide (a0.1 = (15 : Int))) = true then
some (decide (a0.1 = (15 : Int)))
else
some (decide (a0.1 = (16 : Int))))) : Option (Bool)).bind fun j15 =>
(if j15 = true then
(M.expr_validMode N a0.2).bind fun y16 =>
(if (!y16) = true then
some (Sum.inr (((0 : Int), (0 : Int)), (3 : Int)))
else
some (Sum.inl ()))
else
some (Sum.inl ())))))))))))))) fun j1 =>
(M.expr_resultType N a0.1 a1).bind fun y17 =>
(if (!y17.2) = true then
some (((0 : Int), (0 : Int)), (8 : Int))
else
some (y17.1, (0 : Int)))
noncomputable def S22 (N : Nat) : Sig := { inn := ⟨[(0, .val true (.leaf rType)), (1, .val false (.leaf (.slice rType))), (2, .val true (.leaf rSignature))], [], [], 0⟩, out := ⟨[(0, .val true (.leaf rType)), (1, .val false (.leaf rInt))], [], [], 0⟩, fn := fun (x : rType.den × (List rType.den) × rSignature.den) => M.expr_nodeType N x.1 x.2.1 x.2.2 }
theorem W22 (N : Nat) : FnOK Tryz.prog 22 (S22 N) := fn_ok (E := ⟨tabs, [(34, S34 N), (35, S35 N), (36, S36 N), (37, S37 N), (38, S38 N), (39, S39 N), (40, S40 N)], (tabcons (W34 N) (tabcons (W35 N) (tabcons (W36 N) (tabcons (W37 N) (tabcons (W38 N) (tabcons (W39 N) (tabcons (W40 N) tabnil))))))), mixed⟩) (N := N) (a := (.two .nil (.two (.two .nil (.join ⟨[], [], [], 96⟩ (.two .nil (.two .nil (.two .nil (.two .nil (.two .nil (.two .nil (.two .nil (.two .nil (.two .nil (.two .nil (.two .nil (.two .nil (.two .nil (.two .nil (.two .nil (.two .nil (.two .nil (.two .nil (.meet ⟨[(83, .val false (.leaf .bool))], [], [], 384⟩ .nil (.two .nil (.meet ⟨[(94, .val false (.leaf .bool))], [], [], 384⟩ .nil (.two .nil (.meet ⟨[(105, .val false (.leaf .bool))], [], [], 384⟩ .nil .nil))))))))))))))))))))))) .nil)) .nil))) (sg := S22 N) (c := Tryz.f22.body.getD .skip) (rs := Tryz.f22.results.toList) Tryz.func22 (by kernel_rfl) (by kernel_rfl) rfl rfl rfl rfl (fun x => by kernel_rfl)
noncomputable def M.expr_TypeOf (N : Nat) (a0 : List rType.den) (a1 : rSignature.den) : Option (rType.den × Int × Int) :=
(M.expr_structure N a0).bind fun y1 =>
(if (!decide (y1.2.1 = (0 : Int))) = true then
some (((0 : Int), (0 : Int)), y1.1, y1.2.1)
else
Join (J := List rType.den) (R := rType.den × Int × Int) (Loop (S := Int × List rType.den) (X := (List rType.den) ⊕ (rType.den × Int × Int)) (fun s3 =>
(if (decide (s3.1 < (a0.length : Int))) = true then
(idx a0 s3.1).bind fun x4 =>
((if (!decide (x4.2 = (0 : Int))) = true then
(M.expr_UsesN N x4.1).bind fun y6 =>
some (!y6)
else
some false) : Option (Bool)).bind fun j5 =>
(if j5 = true then
some (Sum.inr (Sum.inr (((0 : Int), (0 : Int)), s3.1, (2 : Int))))
else
(M.expr_Arity N x4.1).bind fun y7 =>
(cutA s3.2 (IntKind.i64.wrap ((s3.2.length : Int) - y7)) (s3.2.length : Int)).bind fun l8 =>
(M.expr_nodeType N x4 l8 a1).bind fun y9 =>
(if (!decide (y9.2 = (0 : Int))) = true then
some (Sum.inr (Sum.inr (((0 : Int), (0 : Int)), s3.1, y9.2)))
else
(cutA s3.2 (0 : Int) (IntKind.i64.wrap ((s3.2.length : Int) - y7))).bind fun l10 =>
(appA l10 ([y9.1] : List rType.den)).bind fun l11 =>
some (Sum.inl (IntKind.i64.wrap (s3.1 + (1 : Int)), l11))))
else
some (Sum.inr (Sum.inl s3.2)))) N ((0 : Int), ([] : List rType.den))) fun j2 =>
(idx j2 (0 : Int)).bind fun x12 =>
some (x12, (0 : Int), (0 : Int)))
noncomputable def S10 (N : Nat) : Sig := { inn := ⟨[(0, .val false (.leaf (.slice rType))), (1, .val true (.leaf rSignature))], [], [], 0⟩, out := ⟨[(0, .val true (.leaf rType)), (1, .val false (.leaf rInt)), (2, .val false (.leaf rInt))], [], [], 0⟩, fn := fun (x : (List rType.den) × rSignature.den) => M.expr_TypeOf N x.1 x.2 }
theorem W10 (N : Nat) : FnOK Tryz.prog 10 (S10 N) := fn_ok (E := ⟨tabs, [(19, S19 N), (20, S20 N), (21, S21 N), (22, S22 N)], (tabcons (W19 N) (tabcons (W20 N) (tabcons (W21 N) (tabcons (W22 N) tabnil)))), mixed⟩) (N := N) (a := (.two .nil (.two .nil (.two .nil (.two .nil (.join ⟨[(10, .val false (.own 256))], [(256, .own 41 rType)], [], 257⟩ (.two .nil (.two (.loop ⟨[(10, .val false (.own 304)), (29, .val false (.leaf rInt))], [(304, .own 41 rType)], [], 305⟩ (.two .nil (.two .nil (.two (.two (.two .nil (.two (.meet ⟨[(42, .val false (.leaf .bool))], [], [], 417⟩ .nil .nil) .nil)) .nil) .nil)))) .nil)) .nil)))))) (sg := S10 N) (c := Tryz.f10.body.getD .skip) (rs := Tryz.f10.results.toList) Tryz.func10 (by kernel_rfl) (by kernel_rfl) rfl rfl rfl rfl (fun x => by kernel_rfl)
noncomputable def M.expr_Starts (N : Nat) (a0 : List rType.den) : Option (Int × List Int) :=
(M.expr_structure N a0).bind fun y1 =>
some (y1.2.1, y1.2.2)
noncomputable def S23 (N : Nat) : Sig := { inn := ⟨[(0, .val false (.leaf (.slice rType)))], [], [], 0⟩, out := ⟨[(0, .val false (.own 0)), (1, .val false (.leaf rInt))], [(0, .own 3 rInt)], [], 1⟩, fn := fun (x : List rType.den) => M.expr_Starts N x }
theorem W23 (N : Nat) : FnOK Tryz.prog 23 (S23 N) := fn_ok (E := ⟨tabs, [(19, S19 N)], (tabcons (W19 N) tabnil), mixed⟩) (N := N) (a := .nil) (sg := S23 N) (c := Tryz.f23.body.getD .skip) (rs := Tryz.f23.results.toList) Tryz.func23 (by kernel_rfl) (by kernel_rfl) rfl rfl rfl rfl (fun x => by kernel_rfl)
noncomputable def M.expr_Operands (N : Nat) (a0 : List rType.den) (a1 : Int) : Option (List Int) :=
(M.expr_Starts N a0).bind fun y1 =>
((if (!decide (y1.1 = (0 : Int))) = true then
some true
else
(if (decide (a1 < (0 : Int))) = true then
some true
else
some (decide ((a0.length : Int) ≤ a1)))) : Option (Bool)).bind fun j2 =>
(if j2 = true then
some ([] : List Int)
else
(idx a0 a1).bind fun x3 =>
(M.expr_Arity N x3.1).bind fun y4 =>
(mkL y4 (0 : Int)).bind fun l5 =>
Loop (S := Int × Int × List Int) (X := List Int) (fun s6 =>
(if (decide ((0 : Int) ≤ s6.2.1)) = true then
(idx s6.2.2 s6.2.1).bind fun x7 =>
(idx y1.2 s6.1).bind fun x8 =>
some (Sum.inl (IntKind.i64.wrap (x8 - (1 : Int)), IntKind.i64.wrap (s6.2.1 - (1 : Int)), setL s6.2.2 s6.2.1 s6.1))
else
some (Sum.inr s6.2.2))) N (IntKind.i64.wrap (a1 - (1 : Int)), IntKind.i64.wrap ((l5.length : Int) - (1 : Int)), l5))
noncomputable def S41 (N : Nat) : Sig := { inn := ⟨[(0, .val false (.leaf (.slice rType))), (1, .val false (.leaf rInt))], [], [], 0⟩, out := ⟨[(0, .val false (.own 0))], [(0, .own 3 rInt)], [], 1⟩, fn := fun (x : (List rType.den) × Int) => M.expr_Operands N x.1 x.2 }
theorem W41 (N : Nat) : FnOK Tryz.prog 41 (S41 N) := fn_ok (E := ⟨tabs, [(21, S21 N), (23, S23 N)], (tabcons (W21 N) (tabcons (W23 N) tabnil)), mixed⟩) (N := N) (a := (.two .nil (.two .nil (.two (.meet ⟨[(26, .val false (.leaf .bool))], [], [], 128⟩ .nil .nil) (.two .nil (.two .nil (.two (.two .nil (.two (.loop ⟨[(8, .val false (.leaf rInt)), (9, .val false (.leaf rInt))], [(224, .own 3 rInt)], [], 369⟩ .nil) .nil)) .nil))))))) (sg := S41 N) (c := Tryz.f41.body.getD .skip) (rs := Tryz.f41.results.toList) Tryz.func41 (by kernel_rfl) (by kernel_rfl) rfl rfl rfl rfl (fun x => by kernel_rfl)
noncomputable def M.bytecode_compileNode_r (B : Nat) : Nat → (List rType.den) → Int → (List rType.den) → Option (List rType.den)
  | 0, _, _, _ => none
  | N + 1, a0, a1, a2 =>
   (M.expr_Operands B a0 a1).bind fun y2 =>
   (idx a0 a1).bind fun x61 =>
   ((if (decide (x61.1 = (23 : Int))) = true then
   some (decide (x61.1 = (23 : Int)))
   else
   some (decide (x61.1 = (24 : Int)))) : Option (Bool)).bind fun j62 =>
   (if j62 = true then
   ((idx a0 a1).bind fun x64 =>
   (if (decide (x64.1 = (24 : Int))) = true then
   some (53 : Int)
   else
   some (52 : Int)) : Option (Int)).bind fun j63 =>
   (idx y2 (0 : Int)).bind fun x65 =>
   (M.bytecode_compileNode_r B N a0 x65 a2).bind fun y66 =>
   (appA y66 ([(j63, (0 : Int))] : List rType.den)).bind fun l67 =>
   (idx y2 (1 : Int)).bind fun x68 =>
   (M.bytecode_compileNode_r B N a0 x68 l67).bind fun y69 =>
   (idx y69 (y66.length : Int)).bind fun x70 =>
   some (setL y69 (y66.length : Int) (x70.1, (y69.length : Int)))
   else
   (if (decide (x61.1 = (26 : Int))) = true then
   (idx y2 (0 : Int)).bind fun x71 =>
   (M.bytecode_compileNode_r B N a0 x71 a2).bind fun y72 =>
   (appA y72 ([((50 : Int), (0 : Int))] : List rType.den)).bind fun l73 =>
   (idx y2 (1 : Int)).bind fun x74 =>
   (M.bytecode_compileNode_r B N a0 x74 l73).bind fun y75 =>
   (appA y75 ([((51 : Int), (0 : Int))] : List rType.den)).bind fun l76 =>
   (idx l76 (y72.length : Int)).bind fun x77 =>
   (idx y2 (2 : Int)).bind fun x78 =>
   (M.bytecode_compileNode_r B N a0 x78 (setL l76 (y72.length : Int) (x77.1, (l76.length : Int)))).bind fun y79 =>
   (idx y79 (y75.length : Int)).bind fun x80 =>
   some (setL y79 (y75.length : Int) (x80.1, (y79.length : Int)))
   else
   (Loop (S := Int × List rType.den) (X := List rType.den) (fun s102 =>
   (if (decide (s102.1 < (y2.length : Int))) = true then
   (idx y2 s102.1).bind fun x103 =>
   (M.bytecode_compileNode_r B N a0 x103 s102.2).bind fun y104 =>
   some (Sum.inl (IntKind.i64.wrap (s102.1 + (1 : Int)), y104))
   else
   some (Sum.inr s102.2))) B ((0 : Int), a2) : Option (List rType.den)).bind fun j101 =>
   (idx a0 a1).bind fun x107 =>
   (appA j101 ([x107] : List rType.den)).bind fun l108 =>
   some l108))
noncomputable def M.bytecode_compileNode (N : Nat) (a0 : List rType.den) (a1 : Int) (a2 : List rType.den) : Option (List rType.den) := M.bytecode_compileNode_r N N a0 a1 a2
noncomputable def S24 (N : Nat) : Sig := { inn := ⟨[(0, .val false (.own 0)), (1, .val false (.leaf (.slice rType))), (2, .val false (.leaf rInt))], [(0, .own 62 rType)], [], 1⟩, out := ⟨[(0, .val false (.own 1))], [(1, .own 62 rType)], [], 2⟩, fn := fun (x : (List rType.den) × Int × List rType.den) => M.bytecode_compileNode N x.1 x.2.1 x.2.2 }
noncomputable def R24 (B N : Nat) : Sig := { inn := ⟨[(0, .val false (.own 0)), (1, .val false (.leaf (.slice rType))), (2, .val false (.leaf rInt))], [(0, .own 62 rType)], [], 1⟩, out := ⟨[(0, .val false (.own 1))], [(1, .own 62 rType)], [], 2⟩, fn := fun (x : (List rType.den) × Int × List rType.den) => M.bytecode_compileNode_r B N x.1 x.2.1 x.2.2 }
theorem WS24 (B : Nat) : ∀ N, FnOK Tryz.prog 24 (R24 B N)
  | 0 => fn_none Tryz.func24 (by kernel_rfl) (by kernel_rfl) fun _ => rfl
  | N + 1 => fn_ok (E := ⟨tabs, [(24, R24 B N), (41, S41 B)], (tabcons (WS24 B N) (tabcons (W41 B) tabnil)), mixed⟩) (N := B) (a := (.two .nil (.two .nil (.two (.two .nil (.two (.meet ⟨[(22, .val false (.leaf .bool))], [], [], 161⟩ .nil (.two (.two .nil (.meet ⟨[(8, .val false (.leaf rInt))], [], [], 177⟩ .nil .nil)) .nil)) .nil)) (.meet ⟨[(0, .val false (.own 193))], [(193, .own 62 rType)], [0], 194⟩ (.two .nil (.two (.loop ⟨[(0, .val false (.own 241)), (104, .val false (.leaf rInt))], [(241, .own 62 rType)], [0], 242⟩ .nil) .nil)) .nil))))) (sg := R24 B (N + 1)) (c := Tryz.f24.body.getD .skip) (rs := Tryz.f24.results.toList) Tryz.func24 (by kernel_rfl) (by kernel_rfl) rfl rfl rfl rfl (fun x => by kernel_rfl)
theorem W24 (N : Nat) : FnOK Tryz.prog 24 (S24 N) := WS24 N N
noncomputable def M.bytecode_Compile (N : Nat) (a0 : List rType.den) : Option (Int × List rType.den) :=
(M.expr_Starts N a0).bind fun y1 =>
(if (!decide (y1.1 = (0 : Int))) = true then
some (y1.1, ([] : List rType.den))
else
(M.bytecode_compileNode N a0 (IntKind.i64.wrap ((a0.length : Int) - (1 : Int))) ([] : List rType.den)).bind fun y2 =>
some ((0 : Int), y2))
noncomputable def S11 (N : Nat) : Sig := { inn := ⟨[(0, .val false (.leaf (.slice rType)))], [], [], 0⟩, out := ⟨[(0, .val false (.own 0)), (1, .val false (.leaf rInt))], [(0, .own 62 rType)], [], 1⟩, fn := fun (x : List rType.den) => M.bytecode_Compile N x }
theorem W11 (N : Nat) : FnOK Tryz.prog 11 (S11 N) := fn_ok (E := ⟨tabs, [(23, S23 N), (24, S24 N)], (tabcons (W23 N) (tabcons (W24 N) tabnil)), mixed⟩) (N := N) (a := .nil) (sg := S11 N) (c := Tryz.f11.body.getD .skip) (rs := Tryz.f11.results.toList) Tryz.func11 (by kernel_rfl) (by kernel_rfl) rfl rfl rfl rfl (fun x => by kernel_rfl)
noncomputable def M.eval_evaluator_operands (N : Nat) (a0 : reval_evaluator.den) (a1 : Int) : Option (List Int) :=
(idx a0.1 a1).bind fun x1 =>
(M.expr_Arity N x1.1).bind fun y2 =>
(mkL y2 (0 : Int)).bind fun l3 =>
Loop (S := Int × Int × List Int) (X := List Int) (fun s4 =>
(if (decide ((0 : Int) ≤ s4.2.1)) = true then
(idx s4.2.2 s4.2.1).bind fun x5 =>
(idx a0.2.1 s4.1).bind fun x6 =>
some (Sum.inl (IntKind.i64.wrap (x6 - (1 : Int)), IntKind.i64.wrap (s4.2.1 - (1 : Int)), setL s4.2.2 s4.2.1 s4.1))
else
some (Sum.inr s4.2.2))) N (IntKind.i64.wrap (a1 - (1 : Int)), IntKind.i64.wrap ((l3.length : Int) - (1 : Int)), l3)
noncomputable def S49 (N : Nat) : Sig := { inn := ⟨[(0, .val true (.leaf reval_evaluator)), (1, .val false (.leaf rInt))], [], [], 0⟩, out := ⟨[(0, .val false (.own 0))], [(0, .own 3 rInt)], [], 1⟩, fn := fun (x : reval_evaluator.den × Int) => M.eval_evaluator_operands N x.1 x.2 }
theorem W49 (N : Nat) : FnOK Tryz.prog 49 (S49 N) := fn_ok (E := ⟨tabs, [(21, S21 N)], (tabcons (W21 N) tabnil), mixed⟩) (N := N) (a := (.two .nil (.two .nil (.two .nil (.two (.two .nil (.two (.loop ⟨[(6, .val false (.leaf rInt)), (7, .val false (.leaf rInt))], [(144, .own 3 rInt)], [], 289⟩ .nil) .nil)) .nil))))) (sg := S49 N) (c := Tryz.f49.body.getD .skip) (rs := Tryz.f49.results.toList) Tryz.func49 (by kernel_rfl) (by kernel_rfl) rfl rfl rfl rfl (fun x => by kernel_rfl)
mutual
noncomputable def M.eval_evaluator_node_r (B : Nat) : Nat → reval_evaluator.den → Int → Option (rValue.den × Int)
  | 0, _, _ => none
  | N + 1, a0, a1 =>
   (idx a0.1 a1).bind fun x2 =>
   (M.eval_evaluator_operands B a0 a1).bind fun y4 =>
   ((if (decide (x2.1 = (23 : Int))) = true then
   some (decide (x2.1 = (23 : Int)))
   else
   (if (decide (x2.1 = (24 : Int))) = true then
   some (decide (x2.1 = (24 : Int)))
   else
   some (decide (x2.1 = (26 : Int))))) : Option (Bool)).bind fun j10 =>
   (if j10 = true then
   (M.eval_evaluator_lazy_r B N a0 x2 y4).bind fun y11 =>
   some (y11.1, y11.2)
   else
   (mkL (y4.length : Int) ((0 : Int), ((0 : Int), (0 : Int)))).bind fun l13 =>
   Join (J := List rValue.den) (R := rValue.den × Int) (Loop (S := Int × List rValue.den) (X := (List rValue.den) ⊕ (rValue.den × Int)) (fun s45 =>
   (if (decide (s45.1 < (y4.length : Int))) = true then
   (idx y4 s45.1).bind fun x46 =>
   (M.eval_evaluator_node_r B N a0 x46).bind fun y47 =>
   (if (!decide (y47.2 = (0 : Int))) = true then
   some (Sum.inr (Sum.inr (((0 : Int), ((0 : Int), (0 : Int))), y47.2)))
   else
   (idx s45.2 s45.1).bind fun x48 =>
   some (Sum.inl (IntKind.i64.wrap (s45.1 + (1 : Int)), setL s45.2 s45.1 y47.1)))
   else
   some (Sum.inr (Sum.inl s45.2)))) B ((0 : Int), l13)) fun j44 =>
   (M.eval_Apply B x2 j44 a0.2.2).bind fun y50 =>
   some (y50.1, y50.2))
noncomputable def M.eval_evaluator_lazy_r (B : Nat) : Nat → reval_evaluator.den → rType.den → (List Int) → Option (rValue.den × Int)
  | 0, _, _, _ => none
  | N + 1, a0, a1, a2 =>
   (if (!decide (a1.2 = (0 : Int))) = true then
   some (((0 : Int), ((0 : Int), (0 : Int))), (2 : Int))
   else
   (idx a2 (0 : Int)).bind fun x3 =>
   (M.eval_evaluator_boolean_r B N a0 x3).bind fun y4 =>
   (if (!decide (y4.2 = (0 : Int))) = true then
   some (((0 : Int), ((0 : Int), (0 : Int))), y4.2)
   else
   ((if (decide (a1.1 = (26 : Int))) = true then
   some (decide (y4.1.2.2 = (1 : Int)))
   else
   some false) : Option (Bool)).bind fun j19 =>
   (if j19 = true then
   (idx a2 (1 : Int)).bind fun x20 =>
   (M.eval_evaluator_node_r B N a0 x20).bind fun y21 =>
   some (y21.1, y21.2)
   else
   (if (decide (a1.1 = (26 : Int))) = true then
   (idx a2 (2 : Int)).bind fun x22 =>
   (M.eval_evaluator_node_r B N a0 x22).bind fun y23 =>
   some (y23.1, y23.2)
   else
   (if (decide ((decide (a1.1 = (23 : Int))) = (decide (y4.1.2.2 = (0 : Int))))) = true then
   some (y4.1, (0 : Int))
   else
   (idx a2 (1 : Int)).bind fun x26 =>
   (M.eval_evaluator_boolean_r B N a0 x26).bind fun y27 =>
   some (y27.1, y27.2))))))
noncomputable def M.eval_evaluator_boolean_r (B : Nat) : Nat → reval_evaluator.den → Int → Option (rValue.den × Int)
  | 0, _, _ => none
  | N + 1, a0, a1 =>
   (M.eval_evaluator_node_r B N a0 a1).bind fun y2 =>
   (if (!decide (y2.2 = (0 : Int))) = true then
   some (((0 : Int), ((0 : Int), (0 : Int))), y2.2)
   else
   ((if (!decide (y2.1.1 = (1 : Int))) = true then
   some true
   else
   (M.eval_plausible B y2.1).bind fun y7 =>
   some (!y7)) : Option (Bool)).bind fun j6 =>
   (if j6 = true then
   some (((0 : Int), ((0 : Int), (0 : Int))), (8 : Int))
   else
   some (y2.1, (0 : Int))))
end
noncomputable def M.eval_evaluator_node (N : Nat) (a0 : reval_evaluator.den) (a1 : Int) : Option (rValue.den × Int) := M.eval_evaluator_node_r N N a0 a1
noncomputable def S28 (N : Nat) : Sig := { inn := ⟨[(0, .val true (.leaf reval_evaluator)), (1, .val false (.leaf rInt))], [], [], 0⟩, out := ⟨[(0, .val true (.leaf rValue)), (1, .val false (.leaf rInt))], [], [], 0⟩, fn := fun (x : reval_evaluator.den × Int) => M.eval_evaluator_node N x.1 x.2 }
noncomputable def R28 (B N : Nat) : Sig := { inn := ⟨[(0, .val true (.leaf reval_evaluator)), (1, .val false (.leaf rInt))], [], [], 0⟩, out := ⟨[(0, .val true (.leaf rValue)), (1, .val false (.leaf rInt))], [], [], 0⟩, fn := fun (x : reval_evaluator.den × Int) => M.eval_evaluator_node_r B N x.1 x.2 }
noncomputable def M.eval_evaluator_lazy (N : Nat) (a0 : reval_evaluator.den) (a1 : rType.den) (a2 : List Int) : Option (rValue.den × Int) := M.eval_evaluator_lazy_r N N a0 a1 a2
noncomputable def S50 (N : Nat) : Sig := { inn := ⟨[(0, .val true (.leaf reval_evaluator)), (1, .val true (.leaf rType)), (2, .val false (.leaf (.slice rInt)))], [], [], 0⟩, out := ⟨[(0, .val true (.leaf rValue)), (1, .val false (.leaf rInt))], [], [], 0⟩, fn := fun (x : reval_evaluator.den × rType.den × List Int) => M.eval_evaluator_lazy N x.1 x.2.1 x.2.2 }
noncomputable def R50 (B N : Nat) : Sig := { inn := ⟨[(0, .val true (.leaf reval_evaluator)), (1, .val true (.leaf rType)), (2, .val false (.leaf (.slice rInt)))], [], [], 0⟩, out := ⟨[(0, .val true (.leaf rValue)), (1, .val false (.leaf rInt))], [], [], 0⟩, fn := fun (x : reval_evaluator.den × rType.den × List Int) => M.eval_evaluator_lazy_r B N x.1 x.2.1 x.2.2 }
noncomputable def M.eval_evaluator_boolean (N : Nat) (a0 : reval_evaluator.den) (a1 : Int) : Option (rValue.den × Int) := M.eval_evaluator_boolean_r N N a0 a1
noncomputable def S70 (N : Nat) : Sig := { inn := ⟨[(0, .val true (.leaf reval_evaluator)), (1, .val false (.leaf rInt))], [], [], 0⟩, out := ⟨[(0, .val true (.leaf rValue)), (1, .val false (.leaf rInt))], [], [], 0⟩, fn := fun (x : reval_evaluator.den × Int) => M.eval_evaluator_boolean N x.1 x.2 }
noncomputable def R70 (B N : Nat) : Sig := { inn := ⟨[(0, .val true (.leaf reval_evaluator)), (1, .val false (.leaf rInt))], [], [], 0⟩, out := ⟨[(0, .val true (.leaf rValue)), (1, .val false (.leaf rInt))], [], [], 0⟩, fn := fun (x : reval_evaluator.den × Int) => M.eval_evaluator_boolean_r B N x.1 x.2 }
theorem WS28 (B : Nat) : ∀ N, FnOK Tryz.prog 28 (R28 B N) ∧ FnOK Tryz.prog 50 (R50 B N) ∧ FnOK Tryz.prog 70 (R70 B N)
  | 0 => ⟨fn_none Tryz.func28 (by kernel_rfl) (by kernel_rfl) fun _ => rfl, fn_none Tryz.func50 (by kernel_rfl) (by kernel_rfl) fun _ => rfl, fn_none Tryz.func70 (by kernel_rfl) (by kernel_rfl) fun _ => rfl⟩
  | N + 1 => ⟨fn_ok (E := ⟨tabs, [(27, S27 B), (28, R28 B N), (49, S49 B), (50, R50 B N)], (tabcons (W27 B) (tabcons ((WS28 B N).1) (tabcons (W49 B) (tabcons ((WS28 B N).2.1) tabnil)))), mixed⟩) (N := B) (a := (.two .nil (.two .nil (.two .nil (.two (.two .nil (.two (.meet ⟨[(23, .val false (.leaf .bool))], [], [], 256⟩ .nil .nil) .nil)) (.two .nil (.join ⟨[], [(288, .own 50 rValue)], [], 321⟩ (.two .nil (.two (.loop ⟨[(38, .val false (.leaf rInt))], [(288, .own 50 rValue)], [], 369⟩ .nil) .nil)) .nil))))))) (sg := R28 B (N + 1)) (c := Tryz.f28.body.getD .skip) (rs := Tryz.f28.results.toList) Tryz.func28 (by kernel_rfl) (by kernel_rfl) rfl rfl rfl rfl (fun x => by kernel_rfl),
    fn_ok (E := ⟨tabs, [(28, R28 B N), (70, R70 B N)], (tabcons ((WS28 B N).1) (tabcons ((WS28 B N).2.2) tabnil)), mixed⟩) (N := B) (a := (.two .nil (.two .nil (.two .nil (.two .nil (.two (.two (.meet ⟨[(26, .val false (.leaf .bool))], [], [], 320⟩ .nil .nil) .nil) .nil)))))) (sg := R50 B (N + 1)) (c := Tryz.f50.body.getD .skip) (rs := Tryz.f50.results.toList) Tryz.func50 (by kernel_rfl) (by kernel_rfl) rfl rfl rfl rfl (fun x => by kernel_rfl),
    fn_ok (E := ⟨tabs, [(28, R28 B N), (48, S48 B)], (tabcons ((WS28 B N).1) (tabcons (W48 B) tabnil)), mixed⟩) (N := B) (a := (.two .nil (.two .nil (.two .nil (.two (.meet ⟨[(25, .val false (.leaf .bool))], [], [], 224⟩ .nil .nil) .nil))))) (sg := R70 B (N + 1)) (c := Tryz.f70.body.getD .skip) (rs := Tryz.f70.results.toList) Tryz.func70 (by kernel_rfl) (by kernel_rfl) rfl rfl rfl rfl (fun x => by kernel_rfl)⟩
theorem W28 (N : Nat) : FnOK Tryz.prog 28 (S28 N) := (WS28 N N).1
theorem W50 (N : Nat) : FnOK Tryz.prog 50 (S50 N) := (WS28 N N).2.1
theorem W70 (N : Nat) : FnOK Tryz.prog 70 (S70 N) := (WS28 N N).2.2
noncomputable def M.eval_Eval (N : Nat) (a0 : List rType.den) (a1 : rEnv.den) : Option (rValue.den × Int) :=
(M.expr_Starts N a0).bind fun y1 =>
(if (!decide (y1.1 = (0 : Int))) = true then
some (((0 : Int), ((0 : Int), (0 : Int))), y1.1)
else
(M.eval_evaluator_node N (a0, (y1.2, a1)) (IntKind.i64.wrap ((a0.length : Int) - (1 : Int)))).bind fun y2 =>
some (y2.1, y2.2))
noncomputable def S13 (N : Nat) : Sig := { inn := ⟨[(0, .val false (.leaf (.slice rType))), (1, .val true (.leaf rEnv))], [], [], 0⟩, out := ⟨[(0, .val true (.leaf rValue)), (1, .val false (.leaf rInt))], [], [], 0⟩, fn := fun (x : (List rType.den) × rEnv.den) => M.eval_Eval N x.1 x.2 }
theorem W13 (N : Nat) : FnOK Tryz.prog 13 (S13 N) := fn_ok (E := ⟨tabs, [(23, S23 N), (28, S28 N)], (tabcons (W23 N) (tabcons (W28 N) tabnil)), mixed⟩) (N := N) (a := .nil) (sg := S13 N) (c := Tryz.f13.body.getD .skip) (rs := Tryz.f13.results.toList) Tryz.func13 (by kernel_rfl) (by kernel_rfl) rfl rfl rfl rfl (fun x => by kernel_rfl)
noncomputable def M.law27_VmAgrees (N : Nat) (a0 : List rType.den) (a1 : rSignature.den) (a2 : rEnv.den) : Option (Bool) :=
((if (decide ((100 : Int) < (a0.length : Int))) = true then
some true
else
(M.ref10_Small N a1).bind fun y2 =>
(if (!y2) = true then
some true
else
(M.ref13_Small N a2).bind fun y3 =>
(if (!y3) = true then
some true
else
(M.ref13_Agrees N a2 a1).bind fun y4 =>
(if (!y4) = true then
some true
else
(M.same_Tables N a2.2.2.2.2.2 a1.2.1).bind fun y5 =>
some (!y5))))) : Option (Bool)).bind fun j1 =>
(if j1 = true then
(M.law27_awake N).bind fun y6 =>
some y6
else
Join (J := Unit) (R := Bool) (Loop (S := Int) (X := (Unit) ⊕ (Bool)) (fun s8 =>
(if (decide (s8 < (a2.2.2.2.2.2.length : Int))) = true then
(idx a2.2.2.2.2.2 s8).bind fun x9 =>
(M.ref12_Validate N x9 a1.1).bind fun y10 =>
(if (!decide (y10.2 = (0 : Int))) = true then
(M.law27_awake N).bind fun y11 =>
some (Sum.inr (Sum.inr y11))
else
some (Sum.inl (IntKind.i64.wrap (s8 + (1 : Int)))))
else
some (Sum.inr (Sum.inl ())))) N (0 : Int)) fun j7 =>
(M.expr_TypeOf N a0 a1).bind fun y12 =>
(if (!decide (y12.2.2 = (0 : Int))) = true then
(M.law27_awake N).bind fun y13 =>
some y13
else
(M.bytecode_Compile N a0).bind fun y14 =>
(if (!decide (y14.1 = (0 : Int))) = true then
some false
else
(M.vm_Run N y14.2 a2).bind fun y15 =>
(M.eval_Eval N a0 a2).bind fun y16 =>
((if (eqR rValue y15.1 y16.1) = true then
(if (decide (y15.2.2 = y16.2)) = true then
(M.law27_awake N).bind fun y18 =>
some y18
else
some false)
else
some false) : Option (Bool)).bind fun j17 =>
some j17)))
noncomputable def S3 (N : Nat) : Sig := { inn := ⟨[(0, .val false (.leaf (.slice rType))), (1, .val true (.leaf rSignature)), (2, .val true (.leaf rEnv))], [], [], 0⟩, out := ⟨[(0, .val false (.leaf .bool))], [], [], 0⟩, fn := fun (x : (List rType.den) × rSignature.den × rEnv.den) => M.law27_VmAgrees N x.1 x.2.1 x.2.2 }
theorem W3 (N : Nat) : FnOK Tryz.prog 3 (S3 N) := fn_ok (E := ⟨tabs, [(4, S4 N), (5, S5 N), (6, S6 N), (7, S7 N), (8, S8 N), (9, S9 N), (10, S10 N), (11, S11 N), (12, S12 N), (13, S13 N)], (tabcons (W4 N) (tabcons (W5 N) (tabcons (W6 N) (tabcons (W7 N) (tabcons (W8 N) (tabcons (W9 N) (tabcons (W10 N) (tabcons (W11 N) (tabcons (W12 N) (tabcons (W13 N) tabnil)))))))))), mixed⟩) (N := N) (a := (.two .nil (.two (.meet ⟨[(46, .val false (.leaf .bool))], [], [], 48⟩ .nil .nil) (.join ⟨[], [], [], 48⟩ (.two .nil (.two (.loop ⟨[(7, .val false (.leaf rInt))], [], [], 64⟩ .nil) .nil)) (.two .nil (.two .nil (.two .nil (.two .nil (.two .nil (.two .nil (.meet ⟨[(6, .val false (.leaf .bool))], [], [], 720⟩ .nil .nil))))))))))) (sg := S3 N) (c := Tryz.f3.body.getD .skip) (rs := Tryz.f3.results.toList) Tryz.func3 (by kernel_rfl) (by kernel_rfl) rfl rfl rfl rfl (fun x => by kernel_rfl)
end Go.Proofs.YtomgmnkalommeaaGreatDoor
