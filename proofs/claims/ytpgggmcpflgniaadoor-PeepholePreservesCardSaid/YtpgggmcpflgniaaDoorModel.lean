/- Written by rx.py: models and walks. -/
import Derived.Test.YtpgggmcpflgniaaDoorJump
import Derived.Test.YtpgggmcpflgniaaDoorProg
namespace Go.Proofs.YtpgggmcpflgniaaDoor
open Go Go.RowKit
set_option maxRecDepth 100000
set_option linter.unusedVariables false

@[reducible] def rNode : Row := .pair rInt rInt
@[reducible] def rValue : Row := .pair rInt rNode
@[reducible] def rRow : Row := .pair rNode rValue
@[reducible] def rTable : Row := .pair .str (.pair rNode (.pair rNode (.slice rRow)))
@[reducible] def rEnv : Row := .pair rInt (.pair (.slice rValue) (.pair (.slice rValue) (.pair (.slice (.slice rValue)) (.pair (.slice rNode) (.slice rTable)))))
theorem Ti3 : TI Tryd.prog 3 rInt := TI.mk (k := 1) (by kernel_rfl) rfl
theorem Ti4 : TI Tryd.prog 4 .bool := TI.mk (k := 1) (by kernel_rfl) rfl
theorem Ti27 : TI Tryd.prog 27 (.slice rValue) := TI.mk (k := 1) (by kernel_rfl) rfl
theorem Ti28 : TI Tryd.prog 28 (.slice (.slice rValue)) := TI.mk (k := 1) (by kernel_rfl) rfl
theorem Ti29 : TI Tryd.prog 29 (.slice rNode) := TI.mk (k := 1) (by kernel_rfl) rfl
theorem Ti30 : TI Tryd.prog 30 (.slice rTable) := TI.mk (k := 1) (by kernel_rfl) rfl
theorem Ti32 : TI Tryd.prog 32 rEnv := TI.mk (k := 6) (by kernel_rfl) rfl
theorem Ti39 : TI Tryd.prog 39 rNode := TI.mk (k := 2) (by kernel_rfl) rfl
theorem Ti48 : TI Tryd.prog 48 (.slice rInt) := TI.mk (k := 1) (by kernel_rfl) rfl
theorem Ti50 : TI Tryd.prog 50 (.slice rInt) := TI.mk (k := 1) (by kernel_rfl) rfl
theorem Ti53 : TI Tryd.prog 53 rValue := TI.mk (k := 3) (by kernel_rfl) rfl
theorem Ti71 : TI Tryd.prog 71 rNode := TI.mk (k := 2) (by kernel_rfl) rfl
theorem Ti72 : TI Tryd.prog 72 (.slice rRow) := TI.mk (k := 1) (by kernel_rfl) rfl
theorem Ti74 : TI Tryd.prog 74 rTable := TI.mk (k := 6) (by kernel_rfl) rfl
theorem Ti84 : TI Tryd.prog 84 rNode := TI.mk (k := 2) (by kernel_rfl) rfl
theorem Ti86 : TI Tryd.prog 86 rRow := TI.mk (k := 5) (by kernel_rfl) rfl
theorem Eq3 : EqOK Tryd.prog 3 rInt 1 := eqT_int Tryd.underlying3
theorem Eq71 : EqOK Tryd.prog 71 rNode 2 := eqT_struct Tryd.underlying71 (by kernel_rfl) (eqF_cons rfl rfl Tryd.underlying3 (by simp [aggD]) Ti3 Eq3 (eqF_last rfl rfl Tryd.underlying3 (by simp [aggD]) Ti3 Eq3))
theorem Eq39 : EqOK Tryd.prog 39 rNode 2 := eqT_struct Tryd.underlying39 (by kernel_rfl) (eqF_cons rfl rfl Tryd.underlying3 (by simp [aggD]) Ti3 Eq3 (eqF_last rfl rfl Tryd.underlying3 (by simp [aggD]) Ti3 Eq3))
theorem Eq53 : EqOK Tryd.prog 53 rValue 2 := eqT_struct Tryd.underlying53 (by kernel_rfl) (eqF_cons rfl rfl Tryd.underlying3 (by simp [aggD]) Ti3 Eq3 (eqF_cons rfl rfl Tryd.underlying3 (by simp [aggD]) Ti3 Eq3 (eqF_last rfl rfl Tryd.underlying3 (by simp [aggD]) Ti3 Eq3)))
theorem tu : ∀ p ∈ ([(3, .int .i64), (4, .bool), (5, .int .u8), (9, .str), (22, .slice 39), (27, .slice 53), (28, .slice 27), (29, .slice 71), (30, .slice 74), (32, .struct [(3, 0), (27, 1), (27, 2), (28, 3), (29, 4), (30, 5)]), (39, .struct [(3, 0), (3, 1)]), (40, .slice 4), (47, .other), (48, .slice 3), (50, .struct [(48, 0)]), (53, .struct [(3, 0), (3, 1), (3, 2)]), (71, .struct [(3, 0), (3, 1)]), (72, .slice 86), (74, .struct [(9, 0), (71, 1), (71, 3), (72, 5)]), (84, .struct [(3, 0), (3, 1)]), (86, .struct [(84, 0), (3, 2), (3, 3), (3, 4)]), (92, .other), (102, .int .u64), (106, .int .u64), (113, .array 12 3)] : List (Nat × TyK)), TyKOK Tryd.prog p.1 p.2 := by
  simp only [List.forall_mem_cons]
  exact ⟨Tryd.underlying3, Tryd.underlying4, Tryd.underlying5, Tryd.underlying9, Tryd.underlying22, Tryd.underlying27, Tryd.underlying28, Tryd.underlying29, Tryd.underlying30, ⟨_, Tryd.underlying32, rfl⟩, ⟨_, Tryd.underlying39, rfl⟩, Tryd.underlying40, ⟨_, Tryd.underlying47, rfl⟩, Tryd.underlying48, ⟨_, Tryd.underlying50, rfl⟩, ⟨_, Tryd.underlying53, rfl⟩, ⟨_, Tryd.underlying71, rfl⟩, Tryd.underlying72, ⟨_, Tryd.underlying74, rfl⟩, ⟨_, Tryd.underlying84, rfl⟩, ⟨_, Tryd.underlying86, rfl⟩, ⟨_, Tryd.underlying92, rfl⟩, Tryd.underlying102, Tryd.underlying106, Tryd.underlying113,  fun _ h => absurd h (by simp)⟩
theorem tr : ∀ p ∈ ([(3, rInt), (4, .bool), (27, (.slice rValue)), (28, (.slice (.slice rValue))), (29, (.slice rNode)), (30, (.slice rTable)), (32, rEnv), (39, rNode), (48, (.slice rInt)), (50, (.slice rInt)), (53, rValue), (71, rNode), (72, (.slice rRow)), (74, rTable), (84, rNode), (86, rRow)] : List (Nat × Row)), TI Tryd.prog p.1 p.2 := by
  simp only [List.forall_mem_cons]
  exact ⟨Ti3, Ti4, Ti27, Ti28, Ti29, Ti30, Ti32, Ti39, Ti48, Ti50, Ti53, Ti71, Ti72, Ti74, Ti84, Ti86,  fun _ h => absurd h (by simp)⟩
theorem te : ∀ p ∈ ([(39, rNode), (53, rValue), (71, rNode)] : List (Nat × Row)), ∃ K d, EqOK Tryd.prog p.1 p.2 K ∧ d + K = 10000 ∧ Tryd.prog.eqGuardType Tryd.prog.depth p.1 = false ∧ (Tryd.prog.underlying p.1).any aggD = true := by
  simp only [List.forall_mem_cons]
  exact ⟨⟨2, 9998, Eq39, rfl, by kernel_rfl, by kernel_rfl⟩, ⟨2, 9998, Eq53, rfl, by kernel_rfl, by kernel_rfl⟩, ⟨2, 9998, Eq71, rfl, by kernel_rfl, by kernel_rfl⟩,  fun _ h => absurd h (by simp)⟩
def tabs : Tabs Tryd.prog := ⟨_, _, _, [], forall_find tu, forall_find tr, forall_find te, fun _ _ _ h => by cases h⟩
theorem mixed : Tryd.prog.follows .mixedOrders = true := by kernel_rfl
noncomputable def M.slices_Clone_guerdon_api_Node_guerdon_api_Node (N : Nat) (a0 : List rNode.den) : Option (List rNode.den) :=
(if Nat.beq (a0).length 0 = true then
Both (some ([] : List rNode.den))
((appA ([] : List rNode.den) a0).bind fun l1 =>
some l1)
else
(appA ([] : List rNode.den) a0).bind fun l2 =>
some l2)
noncomputable def S13 (N : Nat) : Sig := { inn := ⟨[(0, .val false (.leaf (.slice rNode)))], [], [], 0⟩, out := ⟨[(0, .val false (.own 0))], [(0, .own 39 rNode)], [], 1⟩, fn := fun (x : List rNode.den) => M.slices_Clone_guerdon_api_Node_guerdon_api_Node N x }
theorem W13 (N : Nat) : FnOK Tryd.prog 13 (S13 N) := fn_ok (E := ⟨tabs, [], tabnil, mixed⟩) (N := N) (a := .nil) (sg := S13 N) (c := Tryd.f13.body.getD .skip) (rs := Tryd.f13.results.toList) Tryd.func13 (by kernel_rfl) (by kernel_rfl) rfl rfl rfl rfl (fun x => by kernel_rfl)
noncomputable def M.expr_Arity (N : Nat) (a0 : Int) : Option (Int) :=
((if (decide (a0 = (1 : Int))) = true then
some (decide (a0 = (1 : Int)))
else
(if (decide (a0 = (2 : Int))) = true then
some (decide (a0 = (2 : Int)))
else
(if (decide (a0 = (3 : Int))) = true then
some (decide (a0 = (3 : Int)))
else
(if (decide (a0 = (4 : Int))) = true then
some (decide (a0 = (4 : Int)))
else
(if (decide (a0 = (5 : Int))) = true then
some (decide (a0 = (5 : Int)))
else
(if (decide (a0 = (6 : Int))) = true then
some (decide (a0 = (6 : Int)))
else
(if (decide (a0 = (7 : Int))) = true then
some (decide (a0 = (7 : Int)))
else
(if (decide (a0 = (8 : Int))) = true then
some (decide (a0 = (8 : Int)))
else
(if (decide (a0 = (9 : Int))) = true then
some (decide (a0 = (9 : Int)))
else
(if (decide (a0 = (35 : Int))) = true then
some (decide (a0 = (35 : Int)))
else
(if (decide (a0 = (36 : Int))) = true then
some (decide (a0 = (36 : Int)))
else
(if (decide (a0 = (37 : Int))) = true then
some (decide (a0 = (37 : Int)))
else
(if (decide (a0 = (38 : Int))) = true then
some (decide (a0 = (38 : Int)))
else
some (decide (a0 = (39 : Int)))))))))))))))) : Option (Bool)).bind fun j1 =>
(if j1 = true then
some (0 : Int)
else
((if (decide (a0 = (10 : Int))) = true then
some (decide (a0 = (10 : Int)))
else
(if (decide (a0 = (25 : Int))) = true then
some (decide (a0 = (25 : Int)))
else
(if (decide (a0 = (31 : Int))) = true then
some (decide (a0 = (31 : Int)))
else
(if (decide (a0 = (32 : Int))) = true then
some (decide (a0 = (32 : Int)))
else
(if (decide (a0 = (33 : Int))) = true then
some (decide (a0 = (33 : Int)))
else
some (decide (a0 = (34 : Int)))))))) : Option (Bool)).bind fun j2 =>
(if j2 = true then
some (1 : Int)
else
((if (decide (a0 = (11 : Int))) = true then
some (decide (a0 = (11 : Int)))
else
(if (decide (a0 = (12 : Int))) = true then
some (decide (a0 = (12 : Int)))
else
(if (decide (a0 = (13 : Int))) = true then
some (decide (a0 = (13 : Int)))
else
(if (decide (a0 = (14 : Int))) = true then
some (decide (a0 = (14 : Int)))
else
(if (decide (a0 = (15 : Int))) = true then
some (decide (a0 = (15 : Int)))
else
(if (decide (a0 = (16 : Int))) = true then
some (decide (a0 = (16 : Int)))
else
(if (decide (a0 = (17 : Int))) = true then
some (decide (a0 = (17 : Int)))
else
(if (decide (a0 = (18 : Int))) = true then
some (decide (a0 = (18 : Int)))
else
(if (decide (a0 = (19 : Int))) = true then
some (decide (a0 = (19 : Int)))
else
(if (decide (a0 = (20 : Int))) = true then
some (decide (a0 = (20 : Int)))
else
(if (decide (a0 = (21 : Int))) = true then
some (decide (a0 = (21 : Int)))
else
(if (decide (a0 = (22 : Int))) = true then
some (decide (a0 = (22 : Int)))
else
(if (decide (a0 = (23 : Int))) = true then
some (decide (a0 = (23 : Int)))
else
(if (decide (a0 = (24 : Int))) = true then
some (decide (a0 = (24 : Int)))
else
(if (decide (a0 = (27 : Int))) = true then
some (decide (a0 = (27 : Int)))
else
(if (decide (a0 = (28 : Int))) = true then
some (decide (a0 = (28 : Int)))
else
(if (decide (a0 = (29 : Int))) = true then
some (decide (a0 = (29 : Int)))
else
some (decide (a0 = (30 : Int)))))))))))))))))))) : Option (Bool)).bind fun j3 =>
(if j3 = true then
some (2 : Int)
else
(if (decide (a0 = (26 : Int))) = true then
some (3 : Int)
else
some (-1 : Int)))))
noncomputable def S24 (N : Nat) : Sig := { inn := ⟨[(0, .val false (.leaf rInt))], [], [], 0⟩, out := ⟨[(0, .val false (.leaf rInt))], [], [], 0⟩, fn := fun (x : Int) => M.expr_Arity N x }
theorem W24 (N : Nat) : FnOK Tryd.prog 24 (S24 N) := fn_ok (E := ⟨tabs, [], tabnil, mixed⟩) (N := N) (a := (.two .nil (.two (.two .nil (.two (.meet ⟨[(4, .val false (.leaf .bool))], [], [], 32⟩ .nil (.two .nil (.meet ⟨[(19, .val false (.leaf .bool))], [], [], 32⟩ .nil (.two .nil (.meet ⟨[(26, .val false (.leaf .bool))], [], [], 32⟩ .nil .nil))))) .nil)) .nil))) (sg := S24 N) (c := Tryd.f24.body.getD .skip) (rs := Tryd.f24.results.toList) Tryd.func24 (by kernel_rfl) (by kernel_rfl) rfl rfl rfl rfl (fun x => by kernel_rfl)
noncomputable def M.bytecode_isJump (N : Nat) (a0 : Int) : Option (Bool) :=
((if (decide ((50 : Int) ≤ a0)) = true then
some (decide (a0 ≤ (53 : Int)))
else
some false) : Option (Bool)).bind fun j1 =>
some j1
noncomputable def S29 (N : Nat) : Sig := { inn := ⟨[(0, .val false (.leaf rInt))], [], [], 0⟩, out := ⟨[(0, .val false (.leaf .bool))], [], [], 0⟩, fn := fun (x : Int) => M.bytecode_isJump N x }
theorem W29 (N : Nat) : FnOK Tryd.prog 29 (S29 N) := fn_ok (E := ⟨tabs, [], tabnil, mixed⟩) (N := N) (a := (.two .nil (.meet ⟨[(2, .val false (.leaf .bool))], [], [], 16⟩ .nil .nil))) (sg := S29 N) (c := Tryd.f29.body.getD .skip) (rs := Tryd.f29.results.toList) Tryd.func29 (by kernel_rfl) (by kernel_rfl) rfl rfl rfl rfl (fun x => by kernel_rfl)
noncomputable def M.bytecode_isInstruction (N : Nat) (a0 : Int) : Option (Bool) :=
((if (decide (a0 = (23 : Int))) = true then
some (decide (a0 = (23 : Int)))
else
(if (decide (a0 = (24 : Int))) = true then
some (decide (a0 = (24 : Int)))
else
some (decide (a0 = (26 : Int))))) : Option (Bool)).bind fun j1 =>
(if j1 = true then
some false
else
((M.bytecode_isJump N a0).bind fun y3 =>
(if y3 = true then
some true
else
(M.expr_Arity N a0).bind fun y4 =>
some (decide ((0 : Int) ≤ y4))) : Option (Bool)).bind fun j2 =>
some j2)
noncomputable def S28 (N : Nat) : Sig := { inn := ⟨[(0, .val false (.leaf rInt))], [], [], 0⟩, out := ⟨[(0, .val false (.leaf .bool))], [], [], 0⟩, fn := fun (x : Int) => M.bytecode_isInstruction N x }
theorem W28 (N : Nat) : FnOK Tryd.prog 28 (S28 N) := fn_ok (E := ⟨tabs, [(24, S24 N), (29, S29 N)], (tabcons (W24 N) (tabcons (W29 N) tabnil)), mixed⟩) (N := N) (a := (.two .nil (.two (.two .nil (.two (.meet ⟨[(4, .val false (.leaf .bool))], [], [], 32⟩ .nil .nil) .nil)) (.meet ⟨[(2, .val false (.leaf .bool))], [], [], 32⟩ .nil .nil)))) (sg := S28 N) (c := Tryd.f28.body.getD .skip) (rs := Tryd.f28.results.toList) Tryd.func28 (by kernel_rfl) (by kernel_rfl) rfl rfl rfl rfl (fun x => by kernel_rfl)
noncomputable def M.bytecode_verifier_reach (N : Nat) (a0 : Int) (a1 : Int) (a2 : List Int) : Option (Int × List Int) :=
((idx a2 a0).bind fun x2 =>
(if (decide ((0 : Int) ≤ x2)) = true then
(idx a2 a0).bind fun x3 =>
some (!decide (x3 = a1))
else
some false) : Option (Bool)).bind fun j1 =>
(if j1 = true then
some ((9 : Int), a2)
else
(idx a2 a0).bind fun x4 =>
some ((0 : Int), setL a2 a0 a1))
noncomputable def S30 (N : Nat) : Sig := { inn := ⟨[(0, .ptr 0 [] 0), (1, .val false (.leaf rInt)), (2, .val false (.leaf rInt))], [(0, .box 50 (.own 1)), (1, .own 3 rInt)], [], 2⟩, out := ⟨[(0, .val false (.leaf rInt))], [(0, .box 50 (.own 1)), (1, .own 3 rInt)], [], 4⟩, fn := fun (x : Int × Int × List Int) => M.bytecode_verifier_reach N x.1 x.2.1 x.2.2 }
theorem W30 (N : Nat) : FnOK Tryd.prog 30 (S30 N) := fn_ok (E := ⟨tabs, [], tabnil, mixed⟩) (N := N) (a := (.two .nil (.two (.meet ⟨[(25, .val false (.leaf .bool))], [], [], 18⟩ .nil .nil) .nil))) (sg := S30 N) (c := Tryd.f30.body.getD .skip) (rs := Tryd.f30.results.toList) Tryd.func30 (by kernel_rfl) (by kernel_rfl) rfl rfl rfl rfl (fun x => by kernel_rfl)
noncomputable def M.bytecode_verifier_step (N : Nat) (a0 : List rNode.den) (a1 : Int) (a2 : rNode.den) (a3 : List Int) : Option (Int × List Int) :=
((M.bytecode_isInstruction N a2.1).bind fun y2 =>
(if (!y2) = true then
some true
else
(M.bytecode_isJump N a2.1).bind fun y3 =>
(if y3 = true then
(if (decide (a2.2 ≤ a1)) = true then
some true
else
some (decide ((a0.length : Int) < a2.2)))
else
some false)) : Option (Bool)).bind fun j1 =>
(if j1 = true then
some ((2 : Int), a3)
else
(idx a3 a1).bind fun x4 =>
(if (decide (a2.1 = (51 : Int))) = true then
(M.bytecode_verifier_reach N a2.2 x4 a3).bind fun y5 =>
some (y5.1, y5.2)
else
((if (decide (a2.1 = (50 : Int))) = true then
some (decide (a2.1 = (50 : Int)))
else
(if (decide (a2.1 = (52 : Int))) = true then
some (decide (a2.1 = (52 : Int)))
else
some (decide (a2.1 = (53 : Int))))) : Option (Bool)).bind fun j6 =>
(if j6 = true then
(if (decide (x4 < (1 : Int))) = true then
some ((5 : Int), a3)
else
(M.bytecode_verifier_reach N (IntKind.i64.wrap (a1 + (1 : Int))) (IntKind.i64.wrap (x4 - (1 : Int))) a3).bind fun y7 =>
(if (!decide (y7.1 = (0 : Int))) = true then
some (y7.1, y7.2)
else
((if (decide (a2.1 = (50 : Int))) = true then
some (IntKind.i64.wrap (x4 - (1 : Int)))
else
some x4) : Option (Int)).bind fun j8 =>
(M.bytecode_verifier_reach N a2.2 j8 y7.2).bind fun y9 =>
some (y9.1, y9.2)))
else
(M.expr_Arity N a2.1).bind fun y10 =>
(if (decide (x4 < y10)) = true then
some ((5 : Int), a3)
else
(if (decide ((12 : Int) < (IntKind.i64.wrap ((IntKind.i64.wrap (x4 - y10)) + (1 : Int))))) = true then
some ((16 : Int), a3)
else
(M.bytecode_verifier_reach N (IntKind.i64.wrap (a1 + (1 : Int))) (IntKind.i64.wrap ((IntKind.i64.wrap (x4 - y10)) + (1 : Int))) a3).bind fun y11 =>
some (y11.1, y11.2))))))
noncomputable def S20 (N : Nat) : Sig := { inn := ⟨[(0, .ptr 0 [] 0), (1, .val false (.leaf (.slice rNode))), (2, .val false (.leaf rInt)), (3, .val true (.leaf rNode))], [(0, .box 50 (.own 1)), (1, .own 3 rInt)], [], 2⟩, out := ⟨[(0, .val false (.leaf rInt))], [(0, .box 50 (.own 1)), (1, .own 3 rInt)], [], 4⟩, fn := fun (x : (List rNode.den) × Int × rNode.den × List Int) => M.bytecode_verifier_step N x.1 x.2.1 x.2.2.1 x.2.2.2 }
theorem W20 (N : Nat) : FnOK Tryd.prog 20 (S20 N) := fn_ok (E := ⟨tabs, [(24, S24 N), (28, S28 N), (29, S29 N), (30, S30 N)], (tabcons (W24 N) (tabcons (W28 N) (tabcons (W29 N) (tabcons (W30 N) tabnil)))), mixed⟩) (N := N) (a := (.two .nil (.two (.meet ⟨[(33, .val false (.leaf .bool))], [], [], 34⟩ .nil .nil) (.two .nil (.two (.two .nil (.two (.two .nil (.two .nil (.meet ⟨[(50, .val false (.leaf .bool))], [], [], 226⟩ .nil (.two (.two .nil (.two .nil (.meet ⟨[(9, .val false (.leaf rInt))], [], [], 402⟩ .nil .nil))) .nil)))) .nil)) .nil))))) (sg := S20 N) (c := Tryd.f20.body.getD .skip) (rs := Tryd.f20.results.toList) Tryd.func20 (by kernel_rfl) (by kernel_rfl) rfl rfl rfl rfl (fun x => by kernel_rfl)
noncomputable def M.bytecode_Verify (N : Nat) (a0 : List rNode.den) : Option (Int × Int) :=
(if (decide ((128 : Int) < (a0.length : Int))) = true then
some ((0 : Int), (4 : Int))
else
(if (decide ((a0.length : Int) = (0 : Int))) = true then
some ((0 : Int), (5 : Int))
else
(mkL (IntKind.i64.wrap ((a0.length : Int) + (1 : Int))) (0 : Int)).bind fun l1 =>
(Loop (S := Int × List Int) (X := List Int) (fun s3 =>
(if (decide (s3.1 < (l1.length : Int))) = true then
(idx s3.2 s3.1).bind fun x4 =>
some (Sum.inl (IntKind.i64.wrap (s3.1 + (1 : Int)), setL s3.2 s3.1 (-1 : Int)))
else
some (Sum.inr s3.2))) N ((0 : Int), l1) : Option (List Int)).bind fun j2 =>
(idx j2 (0 : Int)).bind fun x5 =>
Join (J := Int × List Int) (R := Int × Int) (Loop (S := Int × Int × List Int) (X := (Int × List Int) ⊕ (Int × Int)) (fun s7 =>
(if (decide (s7.2.1 < (a0.length : Int))) = true then
Join (J := Int × List Int) (R := (Int × Int × List Int) ⊕ ((Int × List Int) ⊕ (Int × Int))) ((idx a0 s7.2.1).bind fun x9 =>
(idx s7.2.2 s7.2.1).bind fun x10 =>
(if (decide (x10 < (0 : Int))) = true then
some (Sum.inl (s7.1, s7.2.2))
else
(idx s7.2.2 s7.2.1).bind fun x11 =>
(M.bytecode_verifier_step N a0 s7.2.1 x9 s7.2.2).bind fun y12 =>
(if (!decide (y12.1 = (0 : Int))) = true then
some (Sum.inr (Sum.inr (Sum.inr ((0 : Int), y12.1))))
else
some (Sum.inl (if s7.1 < x11 then x11 else s7.1, y12.2))))) fun j8 =>
some (Sum.inl (j8.1, IntKind.i64.wrap (s7.2.1 + (1 : Int)), j8.2))
else
some (Sum.inr (Sum.inl (s7.1, s7.2.2))))) N ((0 : Int), (0 : Int), setL j2 (0 : Int) (0 : Int))) fun j6 =>
(idx j6.2 (a0.length : Int)).bind fun x13 =>
(if (decide (x13 ≤ (0 : Int))) = true then
some ((0 : Int), (5 : Int))
else
(if (decide ((1 : Int) < x13)) = true then
some ((0 : Int), (4 : Int))
else
some (if j6.1 < x13 then x13 else j6.1, (0 : Int))))))
noncomputable def S9 (N : Nat) : Sig := { inn := ⟨[(0, .val false (.leaf (.slice rNode)))], [], [], 0⟩, out := ⟨[(0, .val false (.leaf rInt)), (1, .val false (.leaf rInt))], [], [], 0⟩, fn := fun (x : List rNode.den) => M.bytecode_Verify N x }
theorem W9 (N : Nat) : FnOK Tryd.prog 9 (S9 N) := fn_ok (E := ⟨tabs, [(20, S20 N)], (tabcons (W20 N) tabnil), mixed⟩) (N := N) (a := (.two .nil (.two .nil (.two .nil (.two .nil (.meet ⟨[], [(176, .own 3 rInt)], [], 241⟩ (.two .nil (.two (.loop ⟨[(28, .val false (.leaf rInt))], [(176, .own 3 rInt)], [], 337⟩ .nil) .nil)) (.two .nil (.two .nil (.join ⟨[(6, .val false (.leaf rInt))], [(176, .own 3 rInt), (208, .box 50 (.own 176))], [], 355⟩ (.two .nil (.two (.loop ⟨[(6, .val false (.leaf rInt)), (45, .val false (.leaf rInt))], [(176, .own 3 rInt), (208, .box 50 (.own 176))], [], 403⟩ (.two .nil (.two .nil (.two (.join ⟨[(6, .val false (.leaf rInt))], [(176, .own 3 rInt), (208, .box 50 (.own 176))], [], 421⟩ .nil .nil) .nil)))) .nil)) .nil))))))))) (sg := S9 N) (c := Tryd.f9.body.getD .skip) (rs := Tryd.f9.results.toList) Tryd.func9 (by kernel_rfl) (by kernel_rfl) rfl rfl rfl rfl (fun x => by kernel_rfl)
noncomputable def M.peephole_accepted (N : Nat) (a0 : List rNode.den) : Option (Bool) :=
(M.bytecode_Verify N a0).bind fun y1 =>
some (decide (y1.2 = (0 : Int)))
noncomputable def S14 (N : Nat) : Sig := { inn := ⟨[(0, .val false (.leaf (.slice rNode)))], [], [], 0⟩, out := ⟨[(0, .val false (.leaf .bool))], [], [], 0⟩, fn := fun (x : List rNode.den) => M.peephole_accepted N x }
theorem W14 (N : Nat) : FnOK Tryd.prog 14 (S14 N) := fn_ok (E := ⟨tabs, [(9, S9 N)], (tabcons (W9 N) tabnil), mixed⟩) (N := N) (a := .nil) (sg := S14 N) (c := Tryd.f14.body.getD .skip) (rs := Tryd.f14.results.toList) Tryd.func14 (by kernel_rfl) (by kernel_rfl) rfl rfl rfl rfl (fun x => by kernel_rfl)
noncomputable def M.peephole_isJump (N : Nat) (a0 : Int) : Option (Bool) :=
((if (decide ((50 : Int) ≤ a0)) = true then
some (decide (a0 ≤ (53 : Int)))
else
some false) : Option (Bool)).bind fun j1 =>
some j1
noncomputable def S22 (N : Nat) : Sig := { inn := ⟨[(0, .val false (.leaf rInt))], [], [], 0⟩, out := ⟨[(0, .val false (.leaf .bool))], [], [], 0⟩, fn := fun (x : Int) => M.peephole_isJump N x }
theorem W22 (N : Nat) : FnOK Tryd.prog 22 (S22 N) := fn_ok (E := ⟨tabs, [], tabnil, mixed⟩) (N := N) (a := (.two .nil (.meet ⟨[(2, .val false (.leaf .bool))], [], [], 16⟩ .nil .nil))) (sg := S22 N) (c := Tryd.f22.body.getD .skip) (rs := Tryd.f22.results.toList) Tryd.func22 (by kernel_rfl) (by kernel_rfl) rfl rfl rfl rfl (fun x => by kernel_rfl)
noncomputable def M.peephole_reachable (N : Nat) (a0 : List rNode.den) : Option (List Bool) :=
(mkL (IntKind.i64.wrap ((a0.length : Int) + (1 : Int))) false).bind fun l1 =>
(idx l1 (0 : Int)).bind fun x2 =>
(Loop (S := Int × List Bool) (X := List Bool) (fun s4 =>
(if (decide (s4.1 < (a0.length : Int))) = true then
((idx a0 s4.1).bind fun x6 =>
(idx s4.2 s4.1).bind fun x7 =>
(if (!x7) = true then
some s4.2
else
((if (!decide (x6.1 = (51 : Int))) = true then
(idx s4.2 (IntKind.i64.wrap (s4.1 + (1 : Int)))).bind fun x9 =>
some (setL s4.2 (IntKind.i64.wrap (s4.1 + (1 : Int))) true)
else
some s4.2) : Option (List Bool)).bind fun j8 =>
(M.peephole_isJump N x6.1).bind fun y10 =>
(if y10 = true then
(idx j8 x6.2).bind fun x11 =>
some (setL j8 x6.2 true)
else
some j8)) : Option (List Bool)).bind fun j5 =>
some (Sum.inl (IntKind.i64.wrap (s4.1 + (1 : Int)), j5))
else
some (Sum.inr s4.2))) N ((0 : Int), setL l1 (0 : Int) true) : Option (List Bool)).bind fun j3 =>
(cutA j3 (0 : Int) (a0.length : Int)).bind fun l12 =>
some l12
noncomputable def S15 (N : Nat) : Sig := { inn := ⟨[(0, .val false (.leaf (.slice rNode)))], [], [], 0⟩, out := ⟨[(0, .val false (.own 0))], [(0, .own 4 .bool)], [], 1⟩, fn := fun (x : List rNode.den) => M.peephole_reachable N x }
theorem W15 (N : Nat) : FnOK Tryd.prog 15 (S15 N) := fn_ok (E := ⟨tabs, [(22, S22 N)], (tabcons (W22 N) tabnil), mixed⟩) (N := N) (a := (.two .nil (.two .nil (.two .nil (.meet ⟨[], [(64, .own 4 .bool)], [], 145⟩ (.two .nil (.two (.loop ⟨[(14, .val false (.leaf rInt))], [(64, .own 4 .bool)], [], 193⟩ (.two .nil (.two .nil (.two (.meet ⟨[], [(64, .own 4 .bool)], [], 210⟩ (.two .nil (.two .nil (.meet ⟨[], [(64, .own 4 .bool)], [], 386⟩ .nil .nil))) .nil) .nil)))) .nil)) .nil))))) (sg := S15 N) (c := Tryd.f15.body.getD .skip) (rs := Tryd.f15.results.toList) Tryd.func15 (by kernel_rfl) (by kernel_rfl) rfl rfl rfl rfl (fun x => by kernel_rfl)
noncomputable def M.slices_Index_bool_bool (N : Nat) (a0 : List Bool) (a1 : Bool) : Option (Int) :=
Loop (S := Int) (X := Int) (fun s1 =>
(if (decide (s1 < (a0.length : Int))) = true then
(idx a0 s1).bind fun x2 =>
(if (decide (a1 = x2)) = true then
some (Sum.inr s1)
else
some (Sum.inl (IntKind.i64.wrap (s1 + (1 : Int)))))
else
some (Sum.inr (-1 : Int)))) N (0 : Int)
noncomputable def S23 (N : Nat) : Sig := { inn := ⟨[(0, .val false (.leaf (.slice .bool))), (1, .val false (.leaf .bool))], [], [], 0⟩, out := ⟨[(0, .val false (.leaf rInt))], [], [], 0⟩, fn := fun (x : (List Bool) × Bool) => M.slices_Index_bool_bool N x.1 x.2 }
theorem W23 (N : Nat) : FnOK Tryd.prog 23 (S23 N) := fn_ok (E := ⟨tabs, [], tabnil, mixed⟩) (N := N) (a := (.two .nil (.two (.two .nil (.two (.loop ⟨[(8, .val false (.leaf rInt))], [], [], 64⟩ .nil) .nil)) .nil))) (sg := S23 N) (c := Tryd.f23.body.getD .skip) (rs := Tryd.f23.results.toList) Tryd.func23 (by kernel_rfl) (by kernel_rfl) rfl rfl rfl rfl (fun x => by kernel_rfl)
noncomputable def M.slices_Contains_bool_bool (N : Nat) (a0 : List Bool) (a1 : Bool) : Option (Bool) :=
(M.slices_Index_bool_bool N a0 a1).bind fun y1 =>
some (decide ((0 : Int) ≤ y1))
noncomputable def S16 (N : Nat) : Sig := { inn := ⟨[(0, .val false (.leaf (.slice .bool))), (1, .val false (.leaf .bool))], [], [], 0⟩, out := ⟨[(0, .val false (.leaf .bool))], [], [], 0⟩, fn := fun (x : (List Bool) × Bool) => M.slices_Contains_bool_bool N x.1 x.2 }
theorem W16 (N : Nat) : FnOK Tryd.prog 16 (S16 N) := fn_ok (E := ⟨tabs, [(23, S23 N)], (tabcons (W23 N) tabnil), mixed⟩) (N := N) (a := .nil) (sg := S16 N) (c := Tryd.f16.body.getD .skip) (rs := Tryd.f16.results.toList) Tryd.func16 (by kernel_rfl) (by kernel_rfl) rfl rfl rfl rfl (fun x => by kernel_rfl)
noncomputable def M.peephole_removeOthers (N : Nat) (a0 : List rNode.den) (a1 : List Bool) : Option (List rNode.den) :=
(mkL (IntKind.i64.wrap ((a0.length : Int) + (1 : Int))) (0 : Int)).bind fun l1 =>
(Loop (S := Int × (List Int) × List rNode.den) (X := (List Int) × List rNode.den) (fun s3 =>
(if (decide (s3.1 < (a0.length : Int))) = true then
((idx a0 s3.1).bind fun x5 =>
(idx s3.2.1 s3.1).bind fun x6 =>
(idx a1 s3.1).bind fun x7 =>
(if x7 = true then
(appA s3.2.2 ([x5] : List rNode.den)).bind fun l8 =>
some (setL s3.2.1 s3.1 (s3.2.2.length : Int), l8)
else
some (setL s3.2.1 s3.1 (s3.2.2.length : Int), s3.2.2)) : Option ((List Int) × List rNode.den)).bind fun j4 =>
some (Sum.inl (IntKind.i64.wrap (s3.1 + (1 : Int)), j4.1, j4.2))
else
some (Sum.inr (s3.2.1, s3.2.2)))) N ((0 : Int), l1, ([] : List rNode.den)) : Option ((List Int) × List rNode.den)).bind fun j2 =>
(idx j2.1 (a0.length : Int)).bind fun x9 =>
Loop (S := Int × List rNode.den) (X := List rNode.den) (fun s10 =>
(if (decide (s10.1 < (j2.2.length : Int))) = true then
((idx s10.2 s10.1).bind fun x12 =>
(M.peephole_isJump N x12.1).bind fun y13 =>
(if y13 = true then
(idx (setL j2.1 (a0.length : Int) (j2.2.length : Int)) x12.2).bind fun x14 =>
(idx s10.2 s10.1).bind fun x15 =>
some (setL s10.2 s10.1 (x15.1, x14))
else
some s10.2) : Option (List rNode.den)).bind fun j11 =>
some (Sum.inl (IntKind.i64.wrap (s10.1 + (1 : Int)), j11))
else
some (Sum.inr s10.2))) N ((0 : Int), j2.2)
noncomputable def S17 (N : Nat) : Sig := { inn := ⟨[(0, .val false (.leaf (.slice rNode))), (1, .val false (.leaf (.slice .bool)))], [], [], 0⟩, out := ⟨[(0, .val false (.own 0))], [(0, .own 39 rNode)], [], 1⟩, fn := fun (x : (List rNode.den) × List Bool) => M.peephole_removeOthers N x.1 x.2 }
theorem W17 (N : Nat) : FnOK Tryd.prog 17 (S17 N) := fn_ok (E := ⟨tabs, [(22, S22 N)], (tabcons (W22 N) tabnil), mixed⟩) (N := N) (a := (.two .nil (.two .nil (.two .nil (.meet ⟨[(6, .val false (.own 112))], [(64, .own 3 rInt), (112, .own 39 rNode)], [], 114⟩ (.two .nil (.two (.loop ⟨[(6, .val false (.own 160)), (17, .val false (.leaf rInt))], [(64, .own 3 rInt), (160, .own 39 rNode)], [], 162⟩ (.two .nil (.two .nil (.two (.meet ⟨[(6, .val false (.own 178))], [(64, .own 3 rInt), (178, .own 39 rNode)], [160], 180⟩ .nil .nil) .nil)))) .nil)) (.two .nil (.two (.two .nil (.two (.loop ⟨[(44, .val false (.leaf rInt))], [(112, .own 39 rNode)], [], 275⟩ (.two .nil (.two .nil (.two (.meet ⟨[], [(112, .own 39 rNode)], [], 292⟩ .nil .nil) .nil)))) .nil)) .nil))))))) (sg := S17 N) (c := Tryd.f17.body.getD .skip) (rs := Tryd.f17.results.toList) Tryd.func17 (by kernel_rfl) (by kernel_rfl) rfl rfl rfl rfl (fun x => by kernel_rfl)
noncomputable def M.peephole_RemoveUnreachable (N : Nat) (a0 : List rNode.den) : Option (List rNode.den) :=
Join (J := List rNode.den) (R := List rNode.den) ((M.slices_Clone_guerdon_api_Node_guerdon_api_Node N a0).bind fun y1 =>
(M.peephole_accepted N a0).bind fun y2 =>
(if (!y2) = true then
some (Sum.inr y1)
else
some (Sum.inl y1)) : Option ((List rNode.den) ⊕ (List rNode.den))) fun s3 =>
Loop (S := List rNode.den) (X := List rNode.den) (fun s4 =>
(M.peephole_reachable N s4).bind fun y5 =>
(Loop (S := Int × List Bool) (X := List Bool) (fun s7 =>
(if (decide (s7.1 < (s4.length : Int))) = true then
((idx s4 s7.1).bind fun x9 =>
((if (decide (x9.1 = (51 : Int))) = true then
some (decide (x9.2 = (IntKind.i64.wrap (s7.1 + (1 : Int)))))
else
some false) : Option (Bool)).bind fun j10 =>
(if j10 = true then
(idx s7.2 s7.1).bind fun x11 =>
some (setL s7.2 s7.1 false)
else
some s7.2) : Option (List Bool)).bind fun j8 =>
some (Sum.inl (IntKind.i64.wrap (s7.1 + (1 : Int)), j8))
else
some (Sum.inr s7.2))) N ((0 : Int), y5) : Option (List Bool)).bind fun j6 =>
(M.slices_Contains_bool_bool N j6 false).bind fun y12 =>
(if y12 = true then
(M.peephole_removeOthers N s4 j6).bind fun y13 =>
some (Sum.inl y13)
else
some (Sum.inr s4))) N s3
noncomputable def S6 (N : Nat) : Sig := { inn := ⟨[(0, .val false (.leaf (.slice rNode)))], [], [], 0⟩, out := ⟨[(0, .val false (.own 0))], [(0, .own 39 rNode)], [], 1⟩, fn := fun (x : List rNode.den) => M.peephole_RemoveUnreachable N x }
theorem W6 (N : Nat) : FnOK Tryd.prog 6 (S6 N) := fn_okJ (E := ⟨tabs, [(13, S13 N), (14, S14 N), (15, S15 N), (16, S16 N), (17, S17 N)], (tabcons (W13 N) (tabcons (W14 N) (tabcons (W15 N) (tabcons (W16 N) (tabcons (W17 N) tabnil))))), mixed⟩) (N := N) (l := 0) (L := ⟨[(3, .val false (.own 16))], [(16, .own 39 rNode)], [], 17⟩) (a0 := .nil) (a1 := (.two .nil (.two .nil (.two .nil .nil)))) (a2 := (.two .nil (.meet ⟨[], [(33, .own 4 .bool)], [], 66⟩ (.two .nil (.two (.loop ⟨[(17, .val false (.leaf rInt))], [(33, .own 4 .bool)], [], 114⟩ (.two .nil (.two .nil (.two (.meet ⟨[], [(33, .own 4 .bool)], [], 131⟩ (.two .nil (.meet ⟨[(31, .val false (.leaf .bool))], [], [], 226⟩ .nil .nil)) .nil) .nil)))) .nil)) .nil))) (sg := S6 N) (c := Tryd.f6.body.getD .skip) (rs := Tryd.f6.results.toList) Tryd.func6 (by kernel_rfl) (by kernel_rfl) rfl rfl rfl rfl (fun x => by kernel_rfl)
noncomputable def M.peephole_literalValue (N : Nat) (a0 : rNode.den) : Option (rValue.den × Bool) :=
Join (J := Unit) (R := rValue.den × Bool) ((if (decide (a0.1 = (1 : Int))) = true then
some (Sum.inr (((1 : Int), ((0 : Int), a0.2)), true))
else
(if (decide (a0.1 = (2 : Int))) = true then
some (Sum.inr (((2 : Int), ((0 : Int), a0.2)), true))
else
(if (decide (a0.1 = (3 : Int))) = true then
some (Sum.inr (((3 : Int), ((0 : Int), a0.2)), true))
else
(if (decide (a0.1 = (4 : Int))) = true then
some (Sum.inr (((4 : Int), ((0 : Int), a0.2)), true))
else
(if (decide (a0.1 = (5 : Int))) = true then
some (Sum.inr (((5 : Int), ((0 : Int), a0.2)), true))
else
(if (decide (a0.1 = (6 : Int))) = true then
((if (decide ((0 : Int) ≤ a0.2)) = true then
some (decide (a0.2 < (128 : Int)))
else
some false) : Option (Bool)).bind fun j2 =>
(if j2 = true then
some (Sum.inr (((6 : Int), (IntKind.i64.wrap (Int.tdiv a0.2 (16 : Int)), Int.tmod a0.2 (16 : Int))), true))
else
some (Sum.inl ()))
else
some (Sum.inl ())))))))) fun j1 =>
some (((0 : Int), ((0 : Int), (0 : Int))), false)
noncomputable def S25 (N : Nat) : Sig := { inn := ⟨[(0, .val true (.leaf rNode))], [], [], 0⟩, out := ⟨[(0, .val true (.leaf rValue)), (1, .val false (.leaf .bool))], [], [], 0⟩, fn := fun (x : rNode.den) => M.peephole_literalValue N x }
theorem W25 (N : Nat) : FnOK Tryd.prog 25 (S25 N) := fn_ok (E := ⟨tabs, [], tabnil, mixed⟩) (N := N) (a := (.two .nil (.two (.two .nil (.join ⟨[], [], [], 80⟩ (.two .nil (.two .nil (.two .nil (.two .nil (.two .nil (.two .nil (.two .nil (.two .nil (.two .nil (.two .nil (.two .nil (.two (.meet ⟨[(40, .val false (.leaf .bool))], [], [], 272⟩ .nil .nil) .nil)))))))))))) .nil)) .nil))) (sg := S25 N) (c := Tryd.f25.body.getD .skip) (rs := Tryd.f25.results.toList) Tryd.func25 (by kernel_rfl) (by kernel_rfl) rfl rfl rfl rfl (fun x => by kernel_rfl)
noncomputable def M.expr_UsesN (N : Nat) (a0 : Int) : Option (Bool) :=
((if (decide (a0 = (1 : Int))) = true then
some (decide (a0 = (1 : Int)))
else
(if (decide (a0 = (2 : Int))) = true then
some (decide (a0 = (2 : Int)))
else
(if (decide (a0 = (3 : Int))) = true then
some (decide (a0 = (3 : Int)))
else
(if (decide (a0 = (4 : Int))) = true then
some (decide (a0 = (4 : Int)))
else
(if (decide (a0 = (5 : Int))) = true then
some (decide (a0 = (5 : Int)))
else
(if (decide (a0 = (6 : Int))) = true then
some (decide (a0 = (6 : Int)))
else
(if (decide (a0 = (7 : Int))) = true then
some (decide (a0 = (7 : Int)))
else
(if (decide (a0 = (8 : Int))) = true then
some (decide (a0 = (8 : Int)))
else
(if (decide (a0 = (14 : Int))) = true then
some (decide (a0 = (14 : Int)))
else
(if (decide (a0 = (15 : Int))) = true then
some (decide (a0 = (15 : Int)))
else
(if (decide (a0 = (16 : Int))) = true then
some (decide (a0 = (16 : Int)))
else
(if (decide (a0 = (33 : Int))) = true then
some (decide (a0 = (33 : Int)))
else
(if (decide (a0 = (34 : Int))) = true then
some (decide (a0 = (34 : Int)))
else
(if (decide (a0 = (36 : Int))) = true then
some (decide (a0 = (36 : Int)))
else
(if (decide (a0 = (37 : Int))) = true then
some (decide (a0 = (37 : Int)))
else
(if (decide (a0 = (38 : Int))) = true then
some (decide (a0 = (38 : Int)))
else
some (decide (a0 = (39 : Int))))))))))))))))))) : Option (Bool)).bind fun j1 =>
(if j1 = true then
some true
else
some false)
noncomputable def S38 (N : Nat) : Sig := { inn := ⟨[(0, .val false (.leaf rInt))], [], [], 0⟩, out := ⟨[(0, .val false (.leaf .bool))], [], [], 0⟩, fn := fun (x : Int) => M.expr_UsesN N x }
theorem W38 (N : Nat) : FnOK Tryd.prog 38 (S38 N) := fn_ok (E := ⟨tabs, [], tabnil, mixed⟩) (N := N) (a := (.two .nil (.two (.two .nil (.two (.meet ⟨[(4, .val false (.leaf .bool))], [], [], 32⟩ .nil .nil) .nil)) .nil))) (sg := S38 N) (c := Tryd.f38.body.getD .skip) (rs := Tryd.f38.results.toList) Tryd.func38 (by kernel_rfl) (by kernel_rfl) rfl rfl rfl rfl (fun x => by kernel_rfl)
noncomputable def M.eval_wellFormed (N : Nat) (a0 : rNode.den) : Option (Bool) :=
((M.expr_Arity N a0.1).bind fun y2 =>
(if (decide (y2 < (0 : Int))) = true then
some true
else
(if (!decide (a0.2 = (0 : Int))) = true then
(M.expr_UsesN N a0.1).bind fun y3 =>
some (!y3)
else
some false)) : Option (Bool)).bind fun j1 =>
(if j1 = true then
some false
else
((if (decide (a0.1 = (14 : Int))) = true then
some (decide (a0.1 = (14 : Int)))
else
(if (decide (a0.1 = (15 : Int))) = true then
some (decide (a0.1 = (15 : Int)))
else
some (decide (a0.1 = (16 : Int))))) : Option (Bool)).bind fun j4 =>
(if j4 = true then
((if (decide ((0 : Int) ≤ a0.2)) = true then
some (decide (a0.2 ≤ (5 : Int)))
else
some false) : Option (Bool)).bind fun j5 =>
some j5
else
(if (decide (a0.1 = (34 : Int))) = true then
((if (decide ((0 : Int) ≤ a0.2)) = true then
some (decide ((Int.tmod a0.2 (8 : Int)) ≤ (5 : Int)))
else
some false) : Option (Bool)).bind fun j6 =>
some j6
else
(if (decide (a0.1 = (6 : Int))) = true then
some (decide ((0 : Int) ≤ a0.2))
else
some true))))
noncomputable def S32 (N : Nat) : Sig := { inn := ⟨[(0, .val true (.leaf rNode))], [], [], 0⟩, out := ⟨[(0, .val false (.leaf .bool))], [], [], 0⟩, fn := fun (x : rNode.den) => M.eval_wellFormed N x }
theorem W32 (N : Nat) : FnOK Tryd.prog 32 (S32 N) := fn_ok (E := ⟨tabs, [(24, S24 N), (38, S38 N)], (tabcons (W24 N) (tabcons (W38 N) tabnil)), mixed⟩) (N := N) (a := (.two .nil (.two (.meet ⟨[(17, .val false (.leaf .bool))], [], [], 32⟩ .nil .nil) (.two (.two .nil (.two (.meet ⟨[(20, .val false (.leaf .bool))], [], [], 64⟩ .nil (.two (.meet ⟨[(2, .val false (.leaf .bool))], [], [], 64⟩ .nil .nil) (.two .nil (.two (.meet ⟨[(2, .val false (.leaf .bool))], [], [], 96⟩ .nil .nil) .nil)))) .nil)) .nil)))) (sg := S32 N) (c := Tryd.f32.body.getD .skip) (rs := Tryd.f32.results.toList) Tryd.func32 (by kernel_rfl) (by kernel_rfl) rfl rfl rfl rfl (fun x => by kernel_rfl)
noncomputable def M.eval_exists (N : Nat) (a0 : rNode.den) (a1 : rEnv.den) : Option (Bool) :=
(if (decide (a0.1 = (7 : Int))) = true then
((if (decide ((0 : Int) ≤ a0.2)) = true then
some (decide (a0.2 < (a1.2.1.length : Int)))
else
some false) : Option (Bool)).bind fun j1 =>
some j1
else
(if (decide (a0.1 = (8 : Int))) = true then
((if (decide ((0 : Int) ≤ a0.2)) = true then
(if (decide (a0.2 < (a1.2.2.1.length : Int))) = true then
(idx a1.2.2.1 a0.2).bind fun x3 =>
some (!decide (x3.1 = (0 : Int)))
else
some false)
else
some false) : Option (Bool)).bind fun j2 =>
some j2
else
(if (decide (a0.1 = (33 : Int))) = true then
((if (decide ((0 : Int) ≤ a0.2)) = true then
some (decide (a0.2 < (a1.2.2.2.2.2.length : Int)))
else
some false) : Option (Bool)).bind fun j4 =>
some j4
else
(if (decide (a0.1 = (34 : Int))) = true then
some (decide ((IntKind.i64.wrap (Int.tdiv a0.2 (8 : Int))) < (a1.2.2.2.2.2.length : Int)))
else
((if (decide (a0.1 = (36 : Int))) = true then
some (decide (a0.1 = (36 : Int)))
else
(if (decide (a0.1 = (37 : Int))) = true then
some (decide (a0.1 = (37 : Int)))
else
(if (decide (a0.1 = (38 : Int))) = true then
some (decide (a0.1 = (38 : Int)))
else
some (decide (a0.1 = (39 : Int)))))) : Option (Bool)).bind fun j5 =>
(if j5 = true then
((if (decide ((0 : Int) ≤ a0.2)) = true then
some (decide (a0.2 < (a1.2.2.2.2.1.length : Int)))
else
some false) : Option (Bool)).bind fun j6 =>
some j6
else
some true)))))
noncomputable def S33 (N : Nat) : Sig := { inn := ⟨[(0, .val true (.leaf rNode)), (1, .val true (.leaf rEnv))], [], [], 0⟩, out := ⟨[(0, .val false (.leaf .bool))], [], [], 0⟩, fn := fun (x : rNode.den × rEnv.den) => M.eval_exists N x.1 x.2 }
theorem W33 (N : Nat) : FnOK Tryd.prog 33 (S33 N) := fn_ok (E := ⟨tabs, [], tabnil, mixed⟩) (N := N) (a := (.two .nil (.two (.two .nil (.two (.two .nil (.two (.meet ⟨[(4, .val false (.leaf .bool))], [], [], 112⟩ .nil .nil) (.two .nil (.two (.meet ⟨[(4, .val false (.leaf .bool))], [], [], 144⟩ .nil .nil) (.two .nil (.two (.meet ⟨[(4, .val false (.leaf .bool))], [], [], 176⟩ .nil .nil) (.two .nil (.two .nil (.meet ⟨[(65, .val false (.leaf .bool))], [], [], 208⟩ .nil (.two (.meet ⟨[(4, .val false (.leaf .bool))], [], [], 208⟩ .nil .nil) .nil)))))))))) .nil)) .nil))) (sg := S33 N) (c := Tryd.f33.body.getD .skip) (rs := Tryd.f33.results.toList) Tryd.func33 (by kernel_rfl) (by kernel_rfl) rfl rfl rfl rfl (fun x => by kernel_rfl)
noncomputable def M.eval_plausible (N : Nat) (a0 : rValue.den) : Option (Bool) :=
((if (!decide (a0.1 = (6 : Int))) = true then
some (!decide (a0.2.1 = (0 : Int)))
else
some false) : Option (Bool)).bind fun j1 =>
(if j1 = true then
some false
else
(if (decide (a0.1 = (1 : Int))) = true then
((if (decide (a0.2.2 = (0 : Int))) = true then
some true
else
some (decide (a0.2.2 = (1 : Int)))) : Option (Bool)).bind fun j2 =>
some j2
else
(if (decide (a0.1 = (2 : Int))) = true then
((if (decide ((-1000000000000 : Int) ≤ a0.2.2)) = true then
some (decide (a0.2.2 ≤ (1000000000000 : Int)))
else
some false) : Option (Bool)).bind fun j3 =>
some j3
else
(if (decide (a0.1 = (3 : Int))) = true then
((if (decide ((-1000000000000000 : Int) ≤ a0.2.2)) = true then
some (decide (a0.2.2 ≤ (1000000000000000 : Int)))
else
some false) : Option (Bool)).bind fun j4 =>
some j4
else
(if (decide (a0.1 = (4 : Int))) = true then
((if (decide ((-1000000000 : Int) ≤ a0.2.2)) = true then
some (decide (a0.2.2 ≤ (1000000000 : Int)))
else
some false) : Option (Bool)).bind fun j5 =>
some j5
else
(if (decide (a0.1 = (5 : Int))) = true then
((if (decide ((0 : Int) ≤ a0.2.2)) = true then
some (decide (a0.2.2 ≤ (109572 : Int)))
else
some false) : Option (Bool)).bind fun j6 =>
some j6
else
(if (decide (a0.1 = (6 : Int))) = true then
((if (decide ((0 : Int) ≤ a0.2.1)) = true then
(if (decide (a0.2.1 < (8 : Int))) = true then
(if (decide ((0 : Int) ≤ a0.2.2)) = true then
some (decide (a0.2.2 < (16 : Int)))
else
some false)
else
some false)
else
some false) : Option (Bool)).bind fun j7 =>
some j7
else
some false)))))))
noncomputable def S37 (N : Nat) : Sig := { inn := ⟨[(0, .val true (.leaf rValue))], [], [], 0⟩, out := ⟨[(0, .val false (.leaf .bool))], [], [], 0⟩, fn := fun (x : rValue.den) => M.eval_plausible N x }
theorem W37 (N : Nat) : FnOK Tryd.prog 37 (S37 N) := fn_ok (E := ⟨tabs, [], tabnil, mixed⟩) (N := N) (a := (.two .nil (.two (.meet ⟨[(10, .val false (.leaf .bool))], [], [], 32⟩ .nil .nil) (.two (.two .nil (.two (.two .nil (.two (.meet ⟨[(2, .val false (.leaf .bool))], [], [], 96⟩ .nil .nil) (.two .nil (.two (.meet ⟨[(2, .val false (.leaf .bool))], [], [], 128⟩ .nil .nil) (.two .nil (.two (.meet ⟨[(2, .val false (.leaf .bool))], [], [], 160⟩ .nil .nil) (.two .nil (.two (.meet ⟨[(2, .val false (.leaf .bool))], [], [], 192⟩ .nil .nil) (.two .nil (.two (.meet ⟨[(2, .val false (.leaf .bool))], [], [], 224⟩ .nil .nil) (.two .nil (.two (.meet ⟨[(2, .val false (.leaf .bool))], [], [], 256⟩ .nil .nil) .nil)))))))))))) .nil)) .nil)))) (sg := S37 N) (c := Tryd.f37.body.getD .skip) (rs := Tryd.f37.results.toList) Tryd.func37 (by kernel_rfl) (by kernel_rfl) rfl rfl rfl rfl (fun x => by kernel_rfl)
noncomputable def M.eval_allPlausible (N : Nat) (a0 : List rValue.den) : Option (Bool) :=
Loop (S := Int) (X := Bool) (fun s1 =>
(if (decide (s1 < (a0.length : Int))) = true then
(idx a0 s1).bind fun x2 =>
(M.eval_plausible N x2).bind fun y3 =>
(if (!y3) = true then
some (Sum.inr false)
else
some (Sum.inl (IntKind.i64.wrap (s1 + (1 : Int)))))
else
some (Sum.inr true))) N (0 : Int)
noncomputable def S34 (N : Nat) : Sig := { inn := ⟨[(0, .val false (.leaf (.slice rValue)))], [], [], 0⟩, out := ⟨[(0, .val false (.leaf .bool))], [], [], 0⟩, fn := fun (x : List rValue.den) => M.eval_allPlausible N x }
theorem W34 (N : Nat) : FnOK Tryd.prog 34 (S34 N) := fn_ok (E := ⟨tabs, [(37, S37 N)], (tabcons (W37 N) tabnil), mixed⟩) (N := N) (a := (.two .nil (.two (.two .nil (.two (.loop ⟨[(7, .val false (.leaf rInt))], [], [], 64⟩ .nil) .nil)) .nil))) (sg := S34 N) (c := Tryd.f34.body.getD .skip) (rs := Tryd.f34.results.toList) Tryd.func34 (by kernel_rfl) (by kernel_rfl) rfl rfl rfl rfl (fun x => by kernel_rfl)
noncomputable def M.eval_hasType (N : Nat) (a0 : rValue.den) (a1 : rNode.den) : Option (Bool) :=
((M.eval_plausible N a0).bind fun y2 =>
(if y2 = true then
(if (decide (a0.1 = a1.1)) = true then
some (decide (a0.2.1 = a1.2))
else
some false)
else
some false) : Option (Bool)).bind fun j1 =>
some j1
noncomputable def S39 (N : Nat) : Sig := { inn := ⟨[(0, .val true (.leaf rValue)), (1, .val true (.leaf rNode))], [], [], 0⟩, out := ⟨[(0, .val false (.leaf .bool))], [], [], 0⟩, fn := fun (x : rValue.den × rNode.den) => M.eval_hasType N x.1 x.2 }
theorem W39 (N : Nat) : FnOK Tryd.prog 39 (S39 N) := fn_ok (E := ⟨tabs, [(37, S37 N)], (tabcons (W37 N) tabnil), mixed⟩) (N := N) (a := (.two .nil (.meet ⟨[(4, .val false (.leaf .bool))], [], [], 48⟩ .nil .nil))) (sg := S39 N) (c := Tryd.f39.body.getD .skip) (rs := Tryd.f39.results.toList) Tryd.func39 (by kernel_rfl) (by kernel_rfl) rfl rfl rfl rfl (fun x => by kernel_rfl)
noncomputable def M.eval_isNumber (N : Nat) (a0 : Int) : Option (Bool) :=
((if (decide (a0 = (2 : Int))) = true then
some true
else
(if (decide (a0 = (3 : Int))) = true then
some true
else
some (decide (a0 = (4 : Int))))) : Option (Bool)).bind fun j1 =>
some j1
noncomputable def S49 (N : Nat) : Sig := { inn := ⟨[(0, .val false (.leaf rInt))], [], [], 0⟩, out := ⟨[(0, .val false (.leaf .bool))], [], [], 0⟩, fn := fun (x : Int) => M.eval_isNumber N x }
theorem W49 (N : Nat) : FnOK Tryd.prog 49 (S49 N) := fn_ok (E := ⟨tabs, [], tabnil, mixed⟩) (N := N) (a := (.two .nil (.meet ⟨[(2, .val false (.leaf .bool))], [], [], 16⟩ .nil .nil))) (sg := S49 N) (c := Tryd.f49.body.getD .skip) (rs := Tryd.f49.results.toList) Tryd.func49 (by kernel_rfl) (by kernel_rfl) rfl rfl rfl rfl (fun x => by kernel_rfl)
noncomputable def M.eval_memberAllowed (N : Nat) (a0 : Int) (a1 : rNode.den) : Option (Bool) :=
(if (!decide (a1.2 = (0 : Int))) = true then
some false
else
(if (decide (a0 = (36 : Int))) = true then
((if (decide (a1.1 = (2 : Int))) = true then
some true
else
some (decide (a1.1 = (3 : Int)))) : Option (Bool)).bind fun j1 =>
some j1
else
(if (decide (a0 = (39 : Int))) = true then
((M.eval_isNumber N a1.1).bind fun y3 =>
(if y3 = true then
some true
else
some (decide (a1.1 = (5 : Int)))) : Option (Bool)).bind fun j2 =>
some j2
else
some (decide (a1.1 = (1 : Int))))))
noncomputable def S40 (N : Nat) : Sig := { inn := ⟨[(0, .val false (.leaf rInt)), (1, .val true (.leaf rNode))], [], [], 0⟩, out := ⟨[(0, .val false (.leaf .bool))], [], [], 0⟩, fn := fun (x : Int × rNode.den) => M.eval_memberAllowed N x.1 x.2 }
theorem W40 (N : Nat) : FnOK Tryd.prog 40 (S40 N) := fn_ok (E := ⟨tabs, [(49, S49 N)], (tabcons (W49 N) tabnil), mixed⟩) (N := N) (a := (.two .nil (.two .nil (.two (.two .nil (.two (.two .nil (.two (.meet ⟨[(4, .val false (.leaf .bool))], [], [], 128⟩ .nil .nil) (.two .nil (.two (.meet ⟨[(4, .val false (.leaf .bool))], [], [], 160⟩ .nil .nil) .nil)))) .nil)) .nil)))) (sg := S40 N) (c := Tryd.f40.body.getD .skip) (rs := Tryd.f40.results.toList) Tryd.func40 (by kernel_rfl) (by kernel_rfl) rfl rfl rfl rfl (fun x => by kernel_rfl)
noncomputable def M.eval_unaryAllowed (N : Nat) (a0 : Int) (a1 : Int) : Option (Bool) :=
(if (decide (a0 = (10 : Int))) = true then
(M.eval_isNumber N a1).bind fun y1 =>
some y1
else
(if (decide (a0 = (25 : Int))) = true then
some (decide (a1 = (1 : Int)))
else
some (decide (a1 = (5 : Int)))))
noncomputable def S41 (N : Nat) : Sig := { inn := ⟨[(0, .val false (.leaf rInt)), (1, .val false (.leaf rInt))], [], [], 0⟩, out := ⟨[(0, .val false (.leaf .bool))], [], [], 0⟩, fn := fun (x : Int × Int) => M.eval_unaryAllowed N x.1 x.2 }
theorem W41 (N : Nat) : FnOK Tryd.prog 41 (S41 N) := fn_ok (E := ⟨tabs, [(49, S49 N)], (tabcons (W49 N) tabnil), mixed⟩) (N := N) (a := .nil) (sg := S41 N) (c := Tryd.f41.body.getD .skip) (rs := Tryd.f41.results.toList) Tryd.func41 (by kernel_rfl) (by kernel_rfl) rfl rfl rfl rfl (fun x => by kernel_rfl)
noncomputable def M.eval_sameType (N : Nat) (a0 : rValue.den) (a1 : rValue.den) : Option (Bool) :=
((if (decide (a0.1 = a1.1)) = true then
some (decide (a0.2.1 = a1.2.1))
else
some false) : Option (Bool)).bind fun j1 =>
some j1
noncomputable def S43 (N : Nat) : Sig := { inn := ⟨[(0, .val true (.leaf rValue)), (1, .val true (.leaf rValue))], [], [], 0⟩, out := ⟨[(0, .val false (.leaf .bool))], [], [], 0⟩, fn := fun (x : rValue.den × rValue.den) => M.eval_sameType N x.1 x.2 }
theorem W43 (N : Nat) : FnOK Tryd.prog 43 (S43 N) := fn_ok (E := ⟨tabs, [], tabnil, mixed⟩) (N := N) (a := (.two .nil (.meet ⟨[(4, .val false (.leaf .bool))], [], [], 48⟩ .nil .nil))) (sg := S43 N) (c := Tryd.f43.body.getD .skip) (rs := Tryd.f43.results.toList) Tryd.func43 (by kernel_rfl) (by kernel_rfl) rfl rfl rfl rfl (fun x => by kernel_rfl)
noncomputable def M.eval_binaryAllowed (N : Nat) (a0 : Int) (a1 : rValue.den) (a2 : rValue.den) : Option (Bool) :=
((if (decide (a0 = (11 : Int))) = true then
some (decide (a0 = (11 : Int)))
else
some (decide (a0 = (12 : Int)))) : Option (Bool)).bind fun j1 =>
(if j1 = true then
((M.eval_sameType N a1 a2).bind fun y3 =>
(if y3 = true then
(M.eval_isNumber N a1.1).bind fun y4 =>
some y4
else
some false) : Option (Bool)).bind fun j2 =>
some j2
else
(if (decide (a0 = (13 : Int))) = true then
((if (decide (a2.1 = (2 : Int))) = true then
(if (decide (a1.1 = (2 : Int))) = true then
some true
else
some (decide (a1.1 = (3 : Int))))
else
some false) : Option (Bool)).bind fun j5 =>
some j5
else
(if (decide (a0 = (14 : Int))) = true then
((if (decide (a2.1 = (4 : Int))) = true then
(if (decide (a1.1 = (3 : Int))) = true then
some true
else
some (decide (a1.1 = (4 : Int))))
else
some false) : Option (Bool)).bind fun j6 =>
some j6
else
(if (decide (a0 = (15 : Int))) = true then
(if (decide (a2.1 = (2 : Int))) = true then
((if (decide (a1.1 = (2 : Int))) = true then
some true
else
some (decide (a1.1 = (3 : Int)))) : Option (Bool)).bind fun j7 =>
some j7
else
((if (decide (a1.1 = (3 : Int))) = true then
some (decide (a2.1 = (3 : Int)))
else
some false) : Option (Bool)).bind fun j8 =>
some j8)
else
(if (decide (a0 = (16 : Int))) = true then
((if (decide (a1.1 = (3 : Int))) = true then
some (decide (a2.1 = (3 : Int)))
else
some false) : Option (Bool)).bind fun j9 =>
some j9
else
((if (decide (a0 = (17 : Int))) = true then
some (decide (a0 = (17 : Int)))
else
(if (decide (a0 = (18 : Int))) = true then
some (decide (a0 = (18 : Int)))
else
(if (decide (a0 = (21 : Int))) = true then
some (decide (a0 = (21 : Int)))
else
some (decide (a0 = (22 : Int)))))) : Option (Bool)).bind fun j10 =>
(if j10 = true then
((M.eval_sameType N a1 a2).bind fun y12 =>
(if y12 = true then
(M.eval_isNumber N a1.1).bind fun y13 =>
(if y13 = true then
some true
else
some (decide (a1.1 = (5 : Int))))
else
some false) : Option (Bool)).bind fun j11 =>
some j11
else
((if (decide (a0 = (19 : Int))) = true then
some (decide (a0 = (19 : Int)))
else
some (decide (a0 = (20 : Int)))) : Option (Bool)).bind fun j14 =>
(if j14 = true then
(M.eval_sameType N a1 a2).bind fun y15 =>
some y15
else
((if (decide (a0 = (23 : Int))) = true then
some (decide (a0 = (23 : Int)))
else
some (decide (a0 = (24 : Int)))) : Option (Bool)).bind fun j16 =>
(if j16 = true then
((if (decide (a1.1 = (1 : Int))) = true then
some (decide (a2.1 = (1 : Int)))
else
some false) : Option (Bool)).bind fun j17 =>
some j17
else
((if (decide (a0 = (27 : Int))) = true then
some (decide (a0 = (27 : Int)))
else
some (decide (a0 = (28 : Int)))) : Option (Bool)).bind fun j18 =>
(if j18 = true then
((if (decide (a1.1 = (5 : Int))) = true then
some (decide (a2.1 = (2 : Int)))
else
some false) : Option (Bool)).bind fun j19 =>
some j19
else
((if (decide (a1.1 = (5 : Int))) = true then
some (decide (a2.1 = (5 : Int)))
else
some false) : Option (Bool)).bind fun j20 =>
some j20)))))))))
noncomputable def S42 (N : Nat) : Sig := { inn := ⟨[(0, .val false (.leaf rInt)), (1, .val true (.leaf rValue)), (2, .val true (.leaf rValue))], [], [], 0⟩, out := ⟨[(0, .val false (.leaf .bool))], [], [], 0⟩, fn := fun (x : Int × rValue.den × rValue.den) => M.eval_binaryAllowed N x.1 x.2.1 x.2.2 }
theorem W42 (N : Nat) : FnOK Tryd.prog 42 (S42 N) := fn_ok (E := ⟨tabs, [(43, S43 N), (49, S49 N)], (tabcons (W43 N) (tabcons (W49 N) tabnil)), mixed⟩) (N := N) (a := (.two .nil (.two (.two .nil (.two (.meet ⟨[(8, .val false (.leaf .bool))], [], [], 64⟩ .nil (.two (.meet ⟨[(6, .val false (.leaf .bool))], [], [], 64⟩ .nil .nil) (.two .nil (.two (.meet ⟨[(6, .val false (.leaf .bool))], [], [], 96⟩ .nil .nil) (.two .nil (.two (.meet ⟨[(6, .val false (.leaf .bool))], [], [], 128⟩ .nil .nil) (.two .nil (.two (.two (.two .nil (.two (.meet ⟨[(6, .val false (.leaf .bool))], [], [], 208⟩ .nil .nil) .nil)) (.meet ⟨[(6, .val false (.leaf .bool))], [], [], 208⟩ .nil .nil)) (.two .nil (.two (.meet ⟨[(6, .val false (.leaf .bool))], [], [], 192⟩ .nil .nil) (.meet ⟨[(80, .val false (.leaf .bool))], [], [], 192⟩ .nil (.two (.meet ⟨[(6, .val false (.leaf .bool))], [], [], 192⟩ .nil .nil) (.meet ⟨[(98, .val false (.leaf .bool))], [], [], 192⟩ .nil (.two .nil (.meet ⟨[(104, .val false (.leaf .bool))], [], [], 192⟩ .nil (.two (.meet ⟨[(6, .val false (.leaf .bool))], [], [], 192⟩ .nil .nil) (.meet ⟨[(115, .val false (.leaf .bool))], [], [], 192⟩ .nil (.two (.meet ⟨[(6, .val false (.leaf .bool))], [], [], 192⟩ .nil .nil) .nil)))))))))))))))))) .nil)) (.meet ⟨[(6, .val false (.leaf .bool))], [], [], 192⟩ .nil .nil)))) (sg := S42 N) (c := Tryd.f42.body.getD .skip) (rs := Tryd.f42.results.toList) Tryd.func42 (by kernel_rfl) (by kernel_rfl) rfl rfl rfl rfl (fun x => by kernel_rfl)
noncomputable def M.eval_allowed (N : Nat) (a0 : rNode.den) (a1 : List rValue.den) (a2 : rEnv.den) : Option (Bool) :=
(if (decide (a0.1 = (7 : Int))) = true then
(idx a2.2.1 a0.2).bind fun x1 =>
(M.eval_plausible N x1).bind fun y2 =>
some y2
else
(if (decide (a0.1 = (8 : Int))) = true then
(idx a2.2.2.1 a0.2).bind fun x3 =>
(M.eval_plausible N x3).bind fun y4 =>
some y4
else
(if (decide (a0.1 = (33 : Int))) = true then
(idx a2.2.2.2.2.2 a0.2).bind fun x5 =>
((idx a1 (0 : Int)).bind fun x7 =>
(M.eval_hasType N x7 x5.2.1).bind fun y8 =>
(if y8 = true then
(if (decide ((1 : Int) ≤ x5.2.2.1.1)) = true then
some (decide (x5.2.2.1.1 ≤ (6 : Int)))
else
some false)
else
some false) : Option (Bool)).bind fun j6 =>
some j6
else
(if (decide (a0.1 = (34 : Int))) = true then
(idx a2.2.2.2.2.2 (IntKind.i64.wrap (Int.tdiv a0.2 (8 : Int)))).bind fun x9 =>
((idx a1 (0 : Int)).bind fun x11 =>
(if (decide (x11.1 = (3 : Int))) = true then
(if (eqR rNode x9.2.1 ((3 : Int), (0 : Int))) = true then
some (eqR rNode x9.2.2.1 ((4 : Int), (0 : Int)))
else
some false)
else
some false) : Option (Bool)).bind fun j10 =>
some j10
else
((if (decide (a0.1 = (36 : Int))) = true then
some (decide (a0.1 = (36 : Int)))
else
(if (decide (a0.1 = (37 : Int))) = true then
some (decide (a0.1 = (37 : Int)))
else
(if (decide (a0.1 = (38 : Int))) = true then
some (decide (a0.1 = (38 : Int)))
else
some (decide (a0.1 = (39 : Int)))))) : Option (Bool)).bind fun j12 =>
(if j12 = true then
(idx a2.2.2.2.2.1 a0.2).bind fun x13 =>
(M.eval_memberAllowed N a0.1 x13).bind fun y14 =>
some y14
else
(if (decide ((a1.length : Int) = (1 : Int))) = true then
(idx a1 (0 : Int)).bind fun x15 =>
(M.eval_unaryAllowed N a0.1 x15.1).bind fun y16 =>
some y16
else
(if (decide ((a1.length : Int) = (2 : Int))) = true then
(idx a1 (0 : Int)).bind fun x17 =>
(idx a1 (1 : Int)).bind fun x18 =>
(M.eval_binaryAllowed N a0.1 x17 x18).bind fun y19 =>
some y19
else
(if (decide ((a1.length : Int) = (3 : Int))) = true then
((idx a1 (0 : Int)).bind fun x21 =>
(if (decide (x21.1 = (1 : Int))) = true then
(idx a1 (1 : Int)).bind fun x22 =>
(idx a1 (2 : Int)).bind fun x23 =>
(M.eval_sameType N x22 x23).bind fun y24 =>
some y24
else
some false) : Option (Bool)).bind fun j20 =>
some j20
else
some true))))))))
noncomputable def S35 (N : Nat) : Sig := { inn := ⟨[(0, .val true (.leaf rNode)), (1, .val false (.leaf (.slice rValue))), (2, .val true (.leaf rEnv))], [], [], 0⟩, out := ⟨[(0, .val false (.leaf .bool))], [], [], 0⟩, fn := fun (x : rNode.den × (List rValue.den) × rEnv.den) => M.eval_allowed N x.1 x.2.1 x.2.2 }
theorem W35 (N : Nat) : FnOK Tryd.prog 35 (S35 N) := fn_ok (E := ⟨tabs, [(37, S37 N), (39, S39 N), (40, S40 N), (41, S41 N), (42, S42 N), (43, S43 N)], (tabcons (W37 N) (tabcons (W39 N) (tabcons (W40 N) (tabcons (W41 N) (tabcons (W42 N) (tabcons (W43 N) tabnil)))))), mixed⟩) (N := N) (a := (.two .nil (.two (.two .nil (.two (.two .nil (.two .nil (.two .nil (.two .nil (.two .nil (.two (.two .nil (.meet ⟨[(6, .val false (.leaf .bool))], [], [], 304⟩ .nil .nil)) (.two .nil (.two (.two .nil (.meet ⟨[(6, .val false (.leaf .bool))], [], [], 352⟩ .nil .nil)) (.meet ⟨[(81, .val false (.leaf .bool))], [], [], 208⟩ .nil .nil))))))))) .nil)) (.two (.two .nil (.two (.two .nil (.two .nil (.two .nil (.two .nil (.two .nil (.two (.meet ⟨[(6, .val false (.leaf .bool))], [], [], 336⟩ .nil .nil) .nil)))))) .nil)) .nil)))) (sg := S35 N) (c := Tryd.f35.body.getD .skip) (rs := Tryd.f35.results.toList) Tryd.func35 (by kernel_rfl) (by kernel_rfl) rfl rfl rfl rfl (fun x => by kernel_rfl)
noncomputable def M.eval_overMembers (N : Nat) (a0 : rNode.den) (a1 : rEnv.den) : Option (rValue.den × Int) :=
(idx a1.2.2.2.2.1 a0.2).bind fun x1 =>
((if (decide (a0.1 = (37 : Int))) = true then
some (x1.1, (x1.2, (1 : Int)))
else
some (x1.1, (x1.2, (0 : Int)))) : Option (rValue.den)).bind fun j2 =>
((if (decide (a0.1 = (39 : Int))) = true then
some (decide ((a1.2.2.2.1.length : Int) = (0 : Int)))
else
some false) : Option (Bool)).bind fun j3 =>
(if j3 = true then
some (((0 : Int), ((0 : Int), (0 : Int))), (6 : Int))
else
Join (J := rValue.den) (R := rValue.den × Int) (Loop (S := Int × rValue.den) (X := (rValue.den) ⊕ (rValue.den × Int)) (fun s5 =>
(if (decide (s5.1 < (a1.2.2.2.1.length : Int))) = true then
(idx a1.2.2.2.1 s5.1).bind fun x6 =>
((if (decide ((x6.length : Int) ≤ a0.2)) = true then
some true
else
(idx x6 a0.2).bind fun x8 =>
some (decide (x8.1 = (0 : Int)))) : Option (Bool)).bind fun j7 =>
(if j7 = true then
some (Sum.inr (Sum.inr (((0 : Int), ((0 : Int), (0 : Int))), (6 : Int))))
else
(idx x6 a0.2).bind fun x9 =>
(M.eval_hasType N x9 x1).bind fun y10 =>
(if (!y10) = true then
some (Sum.inr (Sum.inr (((0 : Int), ((0 : Int), (0 : Int))), (8 : Int))))
else
Join (J := rValue.den) (R := (Int × rValue.den) ⊕ ((rValue.den) ⊕ (rValue.den × Int))) ((if (decide (a0.1 = (36 : Int))) = true then
(M.eval_plausible N (s5.2.1, (s5.2.2.1, IntKind.i64.wrap (s5.2.2.2 + x9.2.2)))).bind fun y12 =>
(if (!y12) = true then
some (Sum.inr (Sum.inr (Sum.inr (((0 : Int), ((0 : Int), (0 : Int))), (3 : Int)))))
else
some (Sum.inl (s5.2.1, (s5.2.2.1, IntKind.i64.wrap (s5.2.2.2 + x9.2.2)))))
else
(if (decide (a0.1 = (37 : Int))) = true then
some (Sum.inl (s5.2.1, (s5.2.2.1, if x9.2.2 < s5.2.2.2 then x9.2.2 else s5.2.2.2)))
else
(if (decide (a0.1 = (38 : Int))) = true then
some (Sum.inl (s5.2.1, (s5.2.2.1, if s5.2.2.2 < x9.2.2 then x9.2.2 else s5.2.2.2)))
else
(if (decide (a0.1 = (39 : Int))) = true then
((if (decide (s5.1 = (0 : Int))) = true then
some true
else
some (decide (s5.2.2.2 < x9.2.2))) : Option (Bool)).bind fun j13 =>
(if j13 = true then
some (Sum.inl x9)
else
some (Sum.inl s5.2))
else
some (Sum.inl s5.2)))))) fun j11 =>
some (Sum.inl (IntKind.i64.wrap (s5.1 + (1 : Int)), j11))))
else
some (Sum.inr (Sum.inl s5.2)))) N ((0 : Int), j2)) fun j4 =>
some (j4, (0 : Int)))
noncomputable def S44 (N : Nat) : Sig := { inn := ⟨[(0, .val true (.leaf rNode)), (1, .val true (.leaf rEnv))], [], [], 0⟩, out := ⟨[(0, .val true (.leaf rValue)), (1, .val false (.leaf rInt))], [], [], 0⟩, fn := fun (x : rNode.den × rEnv.den) => M.eval_overMembers N x.1 x.2 }
theorem W44 (N : Nat) : FnOK Tryd.prog 44 (S44 N) := fn_ok (E := ⟨tabs, [(37, S37 N), (39, S39 N)], (tabcons (W37 N) (tabcons (W39 N) tabnil)), mixed⟩) (N := N) (a := (.two .nil (.two .nil (.two .nil (.meet ⟨[], [(272, .box 53 (.leaf rValue))], [], 305⟩ .nil (.two (.meet ⟨[(34, .val false (.leaf .bool))], [], [], 305⟩ .nil .nil) (.join ⟨[], [(272, .box 53 (.leaf rValue))], [], 306⟩ (.two .nil (.two (.loop ⟨[(39, .val false (.leaf rInt))], [(272, .box 53 (.leaf rValue))], [], 370⟩ (.two .nil (.two .nil (.two (.two (.two .nil (.two (.meet ⟨[(57, .val false (.leaf .bool))], [], [], 466⟩ .nil .nil) (.two .nil (.two .nil (.two .nil (.join ⟨[], [(272, .box 53 (.leaf rValue))], [], 675⟩ (.two .nil (.two .nil (.two .nil (.two .nil (.two .nil (.two .nil (.two .nil (.two (.meet ⟨[(109, .val false (.leaf .bool))], [], [], 802⟩ .nil .nil) .nil)))))))) .nil)))))) .nil) .nil)))) .nil)) .nil))))))) (sg := S44 N) (c := Tryd.f44.body.getD .skip) (rs := Tryd.f44.results.toList) Tryd.func44 (by kernel_rfl) (by kernel_rfl) rfl rfl rfl rfl (fun x => by kernel_rfl)
noncomputable def M.daterange_Valid (N : Nat) (a0 : rNode.den) : Option (Bool) :=
((if (decide ((0 : Int) ≤ a0.1)) = true then
(if (decide (a0.1 ≤ a0.2)) = true then
some (decide (a0.2 ≤ (109573 : Int)))
else
some false)
else
some false) : Option (Bool)).bind fun j1 =>
some j1
noncomputable def S60 (N : Nat) : Sig := { inn := ⟨[(0, .val true (.leaf rNode))], [], [], 0⟩, out := ⟨[(0, .val false (.leaf .bool))], [], [], 0⟩, fn := fun (x : rNode.den) => M.daterange_Valid N x }
theorem W60 (N : Nat) : FnOK Tryd.prog 60 (S60 N) := fn_ok (E := ⟨tabs, [], tabnil, mixed⟩) (N := N) (a := (.two .nil (.meet ⟨[(2, .val false (.leaf .bool))], [], [], 32⟩ .nil .nil))) (sg := S60 N) (c := Tryd.f60.body.getD .skip) (rs := Tryd.f60.results.toList) Tryd.func60 (by kernel_rfl) (by kernel_rfl) rfl rfl rfl rfl (fun x => by kernel_rfl)
noncomputable def M.daterange_Contains (N : Nat) (a0 : rNode.den) (a1 : Int) : Option (Bool) :=
((M.daterange_Valid N a0).bind fun y2 =>
(if y2 = true then
(if (decide (a0.1 ≤ a1)) = true then
some (decide (a1 < a0.2))
else
some false)
else
some false) : Option (Bool)).bind fun j1 =>
some j1
noncomputable def S52 (N : Nat) : Sig := { inn := ⟨[(0, .val true (.leaf rNode)), (1, .val false (.leaf rInt))], [], [], 0⟩, out := ⟨[(0, .val false (.leaf .bool))], [], [], 0⟩, fn := fun (x : rNode.den × Int) => M.daterange_Contains N x.1 x.2 }
theorem W52 (N : Nat) : FnOK Tryd.prog 52 (S52 N) := fn_ok (E := ⟨tabs, [(60, S60 N)], (tabcons (W60 N) tabnil), mixed⟩) (N := N) (a := (.two .nil (.meet ⟨[(4, .val false (.leaf .bool))], [], [], 32⟩ .nil .nil))) (sg := S52 N) (c := Tryd.f52.body.getD .skip) (rs := Tryd.f52.results.toList) Tryd.func52 (by kernel_rfl) (by kernel_rfl) rfl rfl rfl rfl (fun x => by kernel_rfl)
noncomputable def M.table_Lookup_c1_v1 (N : Nat) (a0 : rRow.den) (a1 : Int) (a2 : Int) : Option (Bool × Int × Int) :=
((M.daterange_Contains N a0.1 a1).bind fun y2 =>
(if y2 = true then
(if (decide (a0.2.1 ≤ a2)) = true then
some (decide (a2 < a0.2.2.1))
else
some false)
else
some false) : Option (Bool)).bind fun j1 =>
some (j1, a1, a2)
noncomputable def S51v1 (N : Nat) : Sig := { inn := ⟨[(0, .val true (.leaf rRow)), (1, .ptr 0 [] 0), (2, .ptr 1 [] 0)], [(0, .box 3 (.leaf rInt)), (1, .box 3 (.leaf rInt))], [], 2⟩, out := ⟨[(0, .val false (.leaf .bool))], [(0, .box 3 (.leaf rInt)), (1, .box 3 (.leaf rInt))], [], 4⟩, fn := fun (x : rRow.den × Int × Int) => M.table_Lookup_c1_v1 N x.1 x.2.1 x.2.2 }
theorem W51v1 (N : Nat) : FnOK Tryd.prog 51 (S51v1 N) := fn_ok (E := ⟨tabs, [(52, S52 N)], (tabcons (W52 N) tabnil), mixed⟩) (N := N) (a := (.two .nil (.meet ⟨[(4, .val false (.leaf .bool))], [], [], 34⟩ .nil .nil))) (sg := S51v1 N) (c := Tryd.f51.body.getD .skip) (rs := Tryd.f51.results.toList) Tryd.func51 (by kernel_rfl) (by kernel_rfl) rfl rfl rfl rfl (fun x => by kernel_rfl)
noncomputable def M.table_first_guerdon_api_Row_v1 (N : Nat) (a0 : List rRow.den) (a1 : Int) (a2 : Int) : Option (Int × Bool × Int × Int) :=
Loop (S := Int × Int × Int) (X := Int × Bool × Int × Int) (fun s1 =>
(if (decide (s1.1 < (a0.length : Int))) = true then
(idx a0 s1.1).bind fun x2 =>
(M.table_Lookup_c1_v1 N x2 s1.2.1 s1.2.2).bind fun y3 =>
(if y3.1 = true then
some (Sum.inr (s1.1, true, y3.2.1, y3.2.2))
else
some (Sum.inl (IntKind.i64.wrap (s1.1 + (1 : Int)), y3.2.1, y3.2.2)))
else
some (Sum.inr ((0 : Int), false, s1.2.1, s1.2.2)))) N ((0 : Int), a1, a2)
noncomputable def S50v1 (N : Nat) : Sig := { inn := ⟨[(0, .val false (.leaf (.slice rRow))), (1, .fn 51 [(0, [], 0), (1, [], 0)])], [(0, .box 3 (.leaf rInt)), (1, .box 3 (.leaf rInt))], [], 2⟩, out := ⟨[(0, .val false (.leaf rInt)), (1, .val false (.leaf .bool))], [(0, .box 3 (.leaf rInt)), (1, .box 3 (.leaf rInt))], [], 4⟩, fn := fun (x : (List rRow.den) × Int × Int) => M.table_first_guerdon_api_Row_v1 N x.1 x.2.1 x.2.2 }
theorem W50v1 (N : Nat) : FnOK Tryd.prog 50 (S50v1 N) := fn_ok (E := ⟨tabs, [(51, S51v1 N)], (tabcons (W51v1 N) tabnil), mixed⟩) (N := N) (a := (.two .nil (.two (.two .nil (.two (.loop ⟨[(10, .val false (.leaf rInt))], [(0, .box 3 (.leaf rInt)), (1, .box 3 (.leaf rInt))], [], 84⟩ .nil) .nil)) .nil))) (sg := S50v1 N) (c := Tryd.f50.body.getD .skip) (rs := Tryd.f50.results.toList) Tryd.func50 (by kernel_rfl) (by kernel_rfl) rfl rfl rfl rfl (fun x => by kernel_rfl)
noncomputable def M.table_Lookup (N : Nat) (a0 : rTable.den) (a1 : Int) (a2 : Int) : Option (Int × Bool) :=
(M.table_first_guerdon_api_Row_v1 N a0.2.2.2 a1 a2).bind fun y1 =>
some (y1.1, y1.2.1)
noncomputable def S45 (N : Nat) : Sig := { inn := ⟨[(0, .val true (.leaf rTable)), (1, .val false (.leaf rInt)), (2, .val false (.leaf rInt))], [], [], 0⟩, out := ⟨[(0, .val false (.leaf rInt)), (1, .val false (.leaf .bool))], [], [], 0⟩, fn := fun (x : rTable.den × Int × Int) => M.table_Lookup N x.1 x.2.1 x.2.2 }
theorem W45 (N : Nat) : FnOK Tryd.prog 45 (S45 N) := fn_ok (E := ⟨tabs, [(50, S50v1 N)], (tabcons (W50v1 N) tabnil), mixed⟩) (N := N) (a := .nil) (sg := S45 N) (c := Tryd.f45.body.getD .skip) (rs := Tryd.f45.results.toList) Tryd.func45 (by kernel_rfl) (by kernel_rfl) rfl rfl rfl rfl (fun x => by kernel_rfl)
noncomputable def M.math_bits_Mul64 (N : Nat) (a0 : Int) (a1 : Int) : Option (Int × Int) :=
some (IntKind.u64.wrap ((IntKind.u64.wrap ((IntKind.u64.wrap ((shrV .u64 a0 (32 : Int)) * (shrV .u64 a1 (32 : Int)))) + (shrV .u64 (IntKind.u64.wrap ((IntKind.u64.wrap ((shrV .u64 a0 (32 : Int)) * (bitsA .and .u64 a1 (4294967295 : Int)))) + (shrV .u64 (IntKind.u64.wrap ((bitsA .and .u64 a0 (4294967295 : Int)) * (bitsA .and .u64 a1 (4294967295 : Int)))) (32 : Int)))) (32 : Int)))) + (shrV .u64 (IntKind.u64.wrap ((bitsA .and .u64 (IntKind.u64.wrap ((IntKind.u64.wrap ((shrV .u64 a0 (32 : Int)) * (bitsA .and .u64 a1 (4294967295 : Int)))) + (shrV .u64 (IntKind.u64.wrap ((bitsA .and .u64 a0 (4294967295 : Int)) * (bitsA .and .u64 a1 (4294967295 : Int)))) (32 : Int)))) (4294967295 : Int)) + (IntKind.u64.wrap ((bitsA .and .u64 a0 (4294967295 : Int)) * (shrV .u64 a1 (32 : Int)))))) (32 : Int))), IntKind.u64.wrap (a0 * a1))
noncomputable def S61 (N : Nat) : Sig := { inn := ⟨[(0, .val false (.leaf (.int .u64))), (1, .val false (.leaf (.int .u64)))], [], [], 0⟩, out := ⟨[(0, .val false (.leaf (.int .u64))), (1, .val false (.leaf (.int .u64)))], [], [], 0⟩, fn := fun (x : Int × Int) => M.math_bits_Mul64 N x.1 x.2 }
theorem W61 (N : Nat) : FnOK Tryd.prog 61 (S61 N) := fn_ok (E := ⟨tabs, [], tabnil, mixed⟩) (N := N) (a := .nil) (sg := S61 N) (c := Tryd.f61.body.getD .skip) (rs := Tryd.f61.results.toList) Tryd.func61 (by kernel_rfl) (by kernel_rfl) rfl rfl rfl rfl (fun x => by kernel_rfl)
noncomputable def M.math_bits_Len64 (N : Nat) (a0 : Int) : Option (Int) :=
((if (decide ((4294967296 : Int) ≤ a0)) = true then
some (shrV .u64 a0 (32 : Int), (32 : Int))
else
some (a0, (0 : Int))) : Option (Int × Int)).bind fun j1 =>
((if (decide ((65536 : Int) ≤ j1.1)) = true then
some (shrV .u64 j1.1 (16 : Int), IntKind.i64.wrap (j1.2 + (16 : Int)))
else
some (j1.1, j1.2)) : Option (Int × Int)).bind fun j2 =>
((if (decide ((256 : Int) ≤ j2.1)) = true then
some (shrV .u64 j2.1 (8 : Int), IntKind.i64.wrap (j2.2 + (8 : Int)))
else
some (j2.1, j2.2)) : Option (Int × Int)).bind fun j3 =>
(byteA (⟨#[0, 1, 2, 2, 3, 3, 3, 3, 4, 4, 4, 4, 4, 4, 4, 4, 5, 5, 5, 5, 5, 5, 5, 5, 5, 5, 5, 5, 5, 5, 5, 5, 6, 6, 6, 6, 6, 6, 6, 6, 6, 6, 6, 6, 6, 6, 6, 6, 6, 6, 6, 6, 6, 6, 6, 6, 6, 6, 6, 6, 6, 6, 6, 6, 7, 7, 7, 7, 7, 7, 7, 7, 7, 7, 7, 7, 7, 7, 7, 7, 7, 7, 7, 7, 7, 7, 7, 7, 7, 7, 7, 7, 7, 7, 7, 7, 7, 7, 7, 7, 7, 7, 7, 7, 7, 7, 7, 7, 7, 7, 7, 7, 7, 7, 7, 7, 7, 7, 7, 7, 7, 7, 7, 7, 7, 7, 7, 7, 8, 8, 8, 8, 8, 8, 8, 8, 8, 8, 8, 8, 8, 8, 8, 8, 8, 8, 8, 8, 8, 8, 8, 8, 8, 8, 8, 8, 8, 8, 8, 8, 8, 8, 8, 8, 8, 8, 8, 8, 8, 8, 8, 8, 8, 8, 8, 8, 8, 8, 8, 8, 8, 8, 8, 8, 8, 8, 8, 8, 8, 8, 8, 8, 8, 8, 8, 8, 8, 8, 8, 8, 8, 8, 8, 8, 8, 8, 8, 8, 8, 8, 8, 8, 8, 8, 8, 8, 8, 8, 8, 8, 8, 8, 8, 8, 8, 8, 8, 8, 8, 8, 8, 8, 8, 8, 8, 8, 8, 8, 8, 8, 8, 8, 8, 8, 8, 8, 8, 8, 8, 8, 8, 8, 8, 8, 8, 8]⟩ : ByteArray) (IntKind.u8.wrap j3.1)).bind fun x4 =>
some (IntKind.i64.wrap (j3.2 + (IntKind.i64.wrap x4)))
noncomputable def S85 (N : Nat) : Sig := { inn := ⟨[(0, .val false (.leaf (.int .u64)))], [], [], 0⟩, out := ⟨[(0, .val false (.leaf rInt))], [], [], 0⟩, fn := fun (x : Int) => M.math_bits_Len64 N x }
theorem W85 (N : Nat) : FnOK Tryd.prog 85 (S85 N) := fn_ok (E := ⟨tabs, [], tabnil, mixed⟩) (N := N) (a := (.two .nil (.meet ⟨[(0, .val false (.leaf (.int .u64))), (2, .val false (.leaf rInt))], [], [], 16⟩ .nil (.meet ⟨[(0, .val false (.leaf (.int .u64))), (2, .val false (.leaf rInt))], [], [], 16⟩ .nil (.meet ⟨[(0, .val false (.leaf (.int .u64))), (2, .val false (.leaf rInt))], [], [], 16⟩ .nil .nil))))) (sg := S85 N) (c := Tryd.f85.body.getD .skip) (rs := Tryd.f85.results.toList) Tryd.func85 (by kernel_rfl) (by kernel_rfl) rfl rfl rfl rfl (fun x => by kernel_rfl)
noncomputable def M.math_bits_LeadingZeros64 (N : Nat) (a0 : Int) : Option (Int) :=
(M.math_bits_Len64 N a0).bind fun y1 =>
some (IntKind.i64.wrap ((64 : Int) - y1))
noncomputable def S73 (N : Nat) : Sig := { inn := ⟨[(0, .val false (.leaf (.int .u64)))], [], [], 0⟩, out := ⟨[(0, .val false (.leaf rInt))], [], [], 0⟩, fn := fun (x : Int) => M.math_bits_LeadingZeros64 N x }
theorem W73 (N : Nat) : FnOK Tryd.prog 73 (S73 N) := fn_ok (E := ⟨tabs, [(85, S85 N)], (tabcons (W85 N) tabnil), mixed⟩) (N := N) (a := .nil) (sg := S73 N) (c := Tryd.f73.body.getD .skip) (rs := Tryd.f73.results.toList) Tryd.func73 (by kernel_rfl) (by kernel_rfl) rfl rfl rfl rfl (fun x => by kernel_rfl)
noncomputable def M.math_bits_Div64 (N : Nat) (a0 : Int) (a1 : Int) (a2 : Int) : Option (Int × Int) :=
(if (decide (a2 = (0 : Int))) = true then
none
else
(if (decide (a2 ≤ a0)) = true then
none
else
(if (decide (a0 = (0 : Int))) = true then
(quoA a1 a2).bind fun x1 =>
(remA a1 a2).bind fun x2 =>
some (IntKind.u64.wrap x1, x2)
else
(M.math_bits_LeadingZeros64 N a2).bind fun y3 =>
(shlA .u64 a2 (IntKind.u64.wrap y3)).bind fun x4 =>
(shlA .u64 a0 (IntKind.u64.wrap y3)).bind fun x5 =>
(shrA .u64 a1 (IntKind.u64.wrap ((64 : Int) - (IntKind.u64.wrap y3)))).bind fun x6 =>
(shlA .u64 a1 (IntKind.u64.wrap y3)).bind fun x7 =>
(quoA (bitsA .or .u64 x5 x6) (shrV .u64 x4 (32 : Int))).bind fun x8 =>
((Loop (S := Int × Int) (X := Int) (fun s11 =>
((if (decide ((4294967296 : Int) ≤ s11.1)) = true then
some true
else
some (decide ((IntKind.u64.wrap ((IntKind.u64.wrap ((4294967296 : Int) * s11.2)) + (shrV .u64 x7 (32 : Int)))) < (IntKind.u64.wrap (s11.1 * (bitsA .and .u64 x4 (4294967295 : Int))))))) : Option (Bool)).bind fun j12 =>
(if j12 = true then
(if (decide ((4294967296 : Int) ≤ (IntKind.u64.wrap (s11.2 + (shrV .u64 x4 (32 : Int)))))) = true then
some (Sum.inr (IntKind.u64.wrap (s11.1 - (1 : Int))))
else
some (Sum.inl (IntKind.u64.wrap (s11.1 - (1 : Int)), IntKind.u64.wrap (s11.2 + (shrV .u64 x4 (32 : Int))))))
else
some (Sum.inr s11.1))) N (IntKind.u64.wrap x8, IntKind.u64.wrap ((bitsA .or .u64 x5 x6) - (IntKind.u64.wrap ((IntKind.u64.wrap x8) * (shrV .u64 x4 (32 : Int)))))) : Option (Int)).bind fun j10 =>
some j10 : Option (Int)).bind fun j9 =>
(quoA (IntKind.u64.wrap ((IntKind.u64.wrap ((IntKind.u64.wrap ((bitsA .or .u64 x5 x6) * (4294967296 : Int))) + (shrV .u64 x7 (32 : Int)))) - (IntKind.u64.wrap (j9 * x4)))) (shrV .u64 x4 (32 : Int))).bind fun x13 =>
((Loop (S := Int × Int) (X := Int) (fun s16 =>
((if (decide ((4294967296 : Int) ≤ s16.2)) = true then
some true
else
some (decide ((IntKind.u64.wrap ((IntKind.u64.wrap ((4294967296 : Int) * s16.1)) + (bitsA .and .u64 x7 (4294967295 : Int)))) < (IntKind.u64.wrap (s16.2 * (bitsA .and .u64 x4 (4294967295 : Int))))))) : Option (Bool)).bind fun j17 =>
(if j17 = true then
(if (decide ((4294967296 : Int) ≤ (IntKind.u64.wrap (s16.1 + (shrV .u64 x4 (32 : Int)))))) = true then
some (Sum.inr (IntKind.u64.wrap (s16.2 - (1 : Int))))
else
some (Sum.inl (IntKind.u64.wrap (s16.1 + (shrV .u64 x4 (32 : Int))), IntKind.u64.wrap (s16.2 - (1 : Int)))))
else
some (Sum.inr s16.2))) N (IntKind.u64.wrap ((IntKind.u64.wrap ((IntKind.u64.wrap ((IntKind.u64.wrap ((bitsA .or .u64 x5 x6) * (4294967296 : Int))) + (shrV .u64 x7 (32 : Int)))) - (IntKind.u64.wrap (j9 * x4)))) - (IntKind.u64.wrap ((IntKind.u64.wrap x13) * (shrV .u64 x4 (32 : Int))))), IntKind.u64.wrap x13) : Option (Int)).bind fun j15 =>
some j15 : Option (Int)).bind fun j14 =>
(shrA .u64 (IntKind.u64.wrap ((IntKind.u64.wrap ((IntKind.u64.wrap ((IntKind.u64.wrap ((IntKind.u64.wrap ((IntKind.u64.wrap ((bitsA .or .u64 x5 x6) * (4294967296 : Int))) + (shrV .u64 x7 (32 : Int)))) - (IntKind.u64.wrap (j9 * x4)))) * (4294967296 : Int))) + (bitsA .and .u64 x7 (4294967295 : Int)))) - (IntKind.u64.wrap (j14 * x4)))) (IntKind.u64.wrap y3)).bind fun x18 =>
some (IntKind.u64.wrap ((IntKind.u64.wrap (j9 * (4294967296 : Int))) + j14), x18))))
noncomputable def S62 (N : Nat) : Sig := { inn := ⟨[(0, .val false (.leaf (.int .u64))), (1, .val false (.leaf (.int .u64))), (2, .val false (.leaf (.int .u64)))], [], [], 0⟩, out := ⟨[(0, .val false (.leaf (.int .u64))), (1, .val false (.leaf (.int .u64)))], [], [], 0⟩, fn := fun (x : Int × Int × Int) => M.math_bits_Div64 N x.1 x.2.1 x.2.2 }
theorem W62 (N : Nat) : FnOK Tryd.prog 62 (S62 N) := fn_ok (E := ⟨tabs, [(73, S73 N)], (tabcons (W73 N) tabnil), mixed⟩) (N := N) (a := (.two .nil (.two .nil (.two .nil (.two .nil (.two .nil (.two .nil (.two .nil (.two .nil (.two .nil (.two .nil (.two .nil (.two .nil (.two .nil (.two .nil (.meet ⟨[(15, .val false (.leaf (.int .u64)))], [], [], 832⟩ (.meet ⟨[(15, .val false (.leaf (.int .u64)))], [], [], 832⟩ (.loop ⟨[(15, .val false (.leaf (.int .u64))), (16, .val false (.leaf (.int .u64)))], [], [], 832⟩ (.two (.meet ⟨[(78, .val false (.leaf .bool))], [], [], 832⟩ .nil .nil) .nil)) .nil) (.two .nil (.two .nil (.two .nil (.meet ⟨[(18, .val false (.leaf (.int .u64)))], [], [], 1136⟩ (.meet ⟨[(18, .val false (.leaf (.int .u64)))], [], [], 1136⟩ (.loop ⟨[(16, .val false (.leaf (.int .u64))), (18, .val false (.leaf (.int .u64)))], [], [], 1136⟩ (.two (.meet ⟨[(113, .val false (.leaf .bool))], [], [], 1136⟩ .nil .nil) .nil)) .nil) .nil)))))))))))))))))))) (sg := S62 N) (c := Tryd.f62.body.getD .skip) (rs := Tryd.f62.results.toList) Tryd.func62 (by kernel_rfl) (by kernel_rfl) rfl rfl rfl rfl (fun x => by kernel_rfl)
noncomputable def M.table_contribution (N : Nat) (a0 : Int) (a1 : Int) : Option (Int × Int × Bool) :=
((if (decide (a1 < (0 : Int))) = true then
some (IntKind.u64.wrap (0 - (IntKind.u64.wrap a1)))
else
some (IntKind.u64.wrap a1)) : Option (Int)).bind fun j1 =>
(M.math_bits_Mul64 N (IntKind.u64.wrap a0) j1).bind fun y2 =>
(if (decide ((1000000 : Int) ≤ y2.1)) = true then
some ((0 : Int), (0 : Int), false)
else
(M.math_bits_Div64 N y2.1 y2.2 (1000000 : Int)).bind fun y3 =>
(if (decide ((1000000000000000 : Int) < y3.1)) = true then
some ((0 : Int), (0 : Int), false)
else
(if (decide (a1 < (0 : Int))) = true then
some (IntKind.i64.wrap (0 - (IntKind.i64.wrap y3.1)), IntKind.i64.wrap (0 - (IntKind.i64.wrap y3.2)), true)
else
some (IntKind.i64.wrap y3.1, IntKind.i64.wrap y3.2, true))))
noncomputable def S53 (N : Nat) : Sig := { inn := ⟨[(0, .val false (.leaf rInt)), (1, .val false (.leaf rInt))], [], [], 0⟩, out := ⟨[(0, .val false (.leaf rInt)), (1, .val false (.leaf rInt)), (2, .val false (.leaf .bool))], [], [], 0⟩, fn := fun (x : Int × Int) => M.table_contribution N x.1 x.2 }
theorem W53 (N : Nat) : FnOK Tryd.prog 53 (S53 N) := fn_ok (E := ⟨tabs, [(61, S61 N), (62, S62 N)], (tabcons (W61 N) (tabcons (W62 N) tabnil)), mixed⟩) (N := N) (a := (.two .nil (.two .nil (.meet ⟨[(7, .val false (.leaf (.int .u64)))], [], [], 96⟩ .nil .nil)))) (sg := S53 N) (c := Tryd.f53.body.getD .skip) (rs := Tryd.f53.results.toList) Tryd.func53 (by kernel_rfl) (by kernel_rfl) rfl rfl rfl rfl (fun x => by kernel_rfl)
noncomputable def M.money_validMode (N : Nat) (a0 : Int) : Option (Bool) :=
((if (decide ((0 : Int) ≤ a0)) = true then
some (decide (a0 ≤ (5 : Int)))
else
some false) : Option (Bool)).bind fun j1 =>
some j1
noncomputable def S74 (N : Nat) : Sig := { inn := ⟨[(0, .val false (.leaf rInt))], [], [], 0⟩, out := ⟨[(0, .val false (.leaf .bool))], [], [], 0⟩, fn := fun (x : Int) => M.money_validMode N x }
theorem W74 (N : Nat) : FnOK Tryd.prog 74 (S74 N) := fn_ok (E := ⟨tabs, [], tabnil, mixed⟩) (N := N) (a := (.two .nil (.meet ⟨[(2, .val false (.leaf .bool))], [], [], 16⟩ .nil .nil))) (sg := S74 N) (c := Tryd.f74.body.getD .skip) (rs := Tryd.f74.results.toList) Tryd.func74 (by kernel_rfl) (by kernel_rfl) rfl rfl rfl rfl (fun x => by kernel_rfl)
noncomputable def M.money_beyond (N : Nat) (a0 : Int) (a1 : Int) : Option (Bool) :=
((if (decide (a1 < a0)) = true then
some true
else
some (decide (a0 < (IntKind.i64.wrap (0 - a1))))) : Option (Bool)).bind fun j1 =>
some j1
noncomputable def S75 (N : Nat) : Sig := { inn := ⟨[(0, .val false (.leaf rInt)), (1, .val false (.leaf rInt))], [], [], 0⟩, out := ⟨[(0, .val false (.leaf .bool))], [], [], 0⟩, fn := fun (x : Int × Int) => M.money_beyond N x.1 x.2 }
theorem W75 (N : Nat) : FnOK Tryd.prog 75 (S75 N) := fn_ok (E := ⟨tabs, [], tabnil, mixed⟩) (N := N) (a := (.two .nil (.meet ⟨[(4, .val false (.leaf .bool))], [], [], 16⟩ .nil .nil))) (sg := S75 N) (c := Tryd.f75.body.getD .skip) (rs := Tryd.f75.results.toList) Tryd.func75 (by kernel_rfl) (by kernel_rfl) rfl rfl rfl rfl (fun x => by kernel_rfl)
noncomputable def M.money_magnitude (N : Nat) (a0 : Int) : Option (Int) :=
(if (decide (a0 < (0 : Int))) = true then
some (IntKind.u64.wrap (0 - (IntKind.u64.wrap a0)))
else
some (IntKind.u64.wrap a0))
noncomputable def S76 (N : Nat) : Sig := { inn := ⟨[(0, .val false (.leaf rInt))], [], [], 0⟩, out := ⟨[(0, .val false (.leaf (.int .u64)))], [], [], 0⟩, fn := fun (x : Int) => M.money_magnitude N x }
theorem W76 (N : Nat) : FnOK Tryd.prog 76 (S76 N) := fn_ok (E := ⟨tabs, [], tabnil, mixed⟩) (N := N) (a := .nil) (sg := S76 N) (c := Tryd.f76.body.getD .skip) (rs := Tryd.f76.results.toList) Tryd.func76 (by kernel_rfl) (by kernel_rfl) rfl rfl rfl rfl (fun x => by kernel_rfl)
noncomputable def M.money_roundMagnitude (N : Nat) (a0 : Int) (a1 : Int) (a2 : Int) (a3 : Bool) (a4 : Int) : Option (Int) :=
(if (decide (a1 = (0 : Int))) = true then
some a0
else
((if (decide (a4 = (0 : Int))) = true then
some a3
else
(if (decide (a4 = (1 : Int))) = true then
some (!a3)
else
(if (decide (a4 = (3 : Int))) = true then
some true
else
(if (decide (a4 = (4 : Int))) = true then
some (decide ((IntKind.u64.wrap (a2 - a1)) ≤ a1))
else
(if (decide (a4 = (5 : Int))) = true then
(if (decide ((IntKind.u64.wrap (a2 - a1)) < a1)) = true then
some true
else
(if (decide (a1 = (IntKind.u64.wrap (a2 - a1)))) = true then
some (decide ((Int.tmod a0 (2 : Int)) = (1 : Int)))
else
some false))
else
some false))))) : Option (Bool)).bind fun j1 =>
((if j1 = true then
some (IntKind.u64.wrap (a0 + (1 : Int)))
else
some a0) : Option (Int)).bind fun j2 =>
some j2)
noncomputable def S77 (N : Nat) : Sig := { inn := ⟨[(0, .val false (.leaf (.int .u64))), (1, .val false (.leaf (.int .u64))), (2, .val false (.leaf (.int .u64))), (3, .val false (.leaf .bool)), (4, .val false (.leaf rInt))], [], [], 0⟩, out := ⟨[(0, .val false (.leaf (.int .u64)))], [], [], 0⟩, fn := fun (x : Int × Int × Int × Bool × Int) => M.money_roundMagnitude N x.1 x.2.1 x.2.2.1 x.2.2.2.1 x.2.2.2.2 }
theorem W77 (N : Nat) : FnOK Tryd.prog 77 (S77 N) := fn_ok (E := ⟨tabs, [], tabnil, mixed⟩) (N := N) (a := (.two .nil (.two .nil (.two .nil (.two (.two .nil (.meet ⟨[(11, .val false (.leaf .bool))], [], [], 80⟩ .nil .nil)) (.meet ⟨[(0, .val false (.leaf (.int .u64)))], [], [], 80⟩ .nil .nil)))))) (sg := S77 N) (c := Tryd.f77.body.getD .skip) (rs := Tryd.f77.results.toList) Tryd.func77 (by kernel_rfl) (by kernel_rfl) rfl rfl rfl rfl (fun x => by kernel_rfl)
noncomputable def M.money_signed (N : Nat) (a0 : Int) (a1 : Bool) : Option (Int) :=
(if a1 = true then
some (IntKind.i64.wrap (0 - (IntKind.i64.wrap a0)))
else
some (IntKind.i64.wrap a0))
noncomputable def S78 (N : Nat) : Sig := { inn := ⟨[(0, .val false (.leaf (.int .u64))), (1, .val false (.leaf .bool))], [], [], 0⟩, out := ⟨[(0, .val false (.leaf rInt))], [], [], 0⟩, fn := fun (x : Int × Bool) => M.money_signed N x.1 x.2 }
theorem W78 (N : Nat) : FnOK Tryd.prog 78 (S78 N) := fn_ok (E := ⟨tabs, [], tabnil, mixed⟩) (N := N) (a := .nil) (sg := S78 N) (c := Tryd.f78.body.getD .skip) (rs := Tryd.f78.results.toList) Tryd.func78 (by kernel_rfl) (by kernel_rfl) rfl rfl rfl rfl (fun x => by kernel_rfl)
noncomputable def M.money_DivRound (N : Nat) (a0 : Int) (a1 : Int) (a2 : Int) : Option (Int × Int) :=
(M.money_validMode N a2).bind fun y1 =>
(if (!y1) = true then
some ((0 : Int), (1 : Int))
else
(if (decide (a1 = (0 : Int))) = true then
some ((0 : Int), (12 : Int))
else
((M.money_beyond N a0 (4611686018427387904 : Int)).bind fun y3 =>
(if y3 = true then
some true
else
(M.money_beyond N a1 (4611686018427387904 : Int)).bind fun y4 =>
some y4) : Option (Bool)).bind fun j2 =>
(if j2 = true then
some ((0 : Int), (3 : Int))
else
(M.money_magnitude N a0).bind fun y5 =>
(M.money_magnitude N a1).bind fun y6 =>
(quoA y5 y6).bind fun x7 =>
(remA y5 y6).bind fun x8 =>
(M.money_roundMagnitude N (IntKind.u64.wrap x7) x8 y6 (!decide ((decide (a0 < (0 : Int))) = (decide (a1 < (0 : Int))))) a2).bind fun y9 =>
(M.money_signed N y9 (!decide ((decide (a0 < (0 : Int))) = (decide (a1 < (0 : Int)))))).bind fun y10 =>
some (y10, (0 : Int)))))
noncomputable def S63 (N : Nat) : Sig := { inn := ⟨[(0, .val false (.leaf rInt)), (1, .val false (.leaf rInt)), (2, .val false (.leaf rInt))], [], [], 0⟩, out := ⟨[(0, .val false (.leaf rInt)), (1, .val false (.leaf rInt))], [], [], 0⟩, fn := fun (x : Int × Int × Int) => M.money_DivRound N x.1 x.2.1 x.2.2 }
theorem W63 (N : Nat) : FnOK Tryd.prog 63 (S63 N) := fn_ok (E := ⟨tabs, [(74, S74 N), (75, S75 N), (76, S76 N), (77, S77 N), (78, S78 N)], (tabcons (W74 N) (tabcons (W75 N) (tabcons (W76 N) (tabcons (W77 N) (tabcons (W78 N) tabnil))))), mixed⟩) (N := N) (a := (.two .nil (.two .nil (.two .nil (.two (.meet ⟨[(22, .val false (.leaf .bool))], [], [], 112⟩ .nil .nil) .nil))))) (sg := S63 N) (c := Tryd.f63.body.getD .skip) (rs := Tryd.f63.results.toList) Tryd.func63 (by kernel_rfl) (by kernel_rfl) rfl rfl rfl rfl (fun x => by kernel_rfl)
noncomputable def M.table_roundSum (N : Nat) (a0 : Int) (a1 : Int) (a2 : Int) : Option (Int × Int) :=
((if (decide ((IntKind.i64.wrap (a0 + (IntKind.i64.wrap (Int.tdiv a1 (1000000 : Int))))) < (-2000000000000000 : Int))) = true then
some true
else
some (decide ((2000000000000000 : Int) < (IntKind.i64.wrap (a0 + (IntKind.i64.wrap (Int.tdiv a1 (1000000 : Int)))))))) : Option (Bool)).bind fun j1 =>
(if j1 = true then
some ((0 : Int), (3 : Int))
else
((if (decide ((1 : Int) < (IntKind.i64.wrap (a0 + (IntKind.i64.wrap (Int.tdiv a1 (1000000 : Int))))))) = true then
some (IntKind.i64.wrap ((Int.tmod (IntKind.i64.wrap (a0 + (IntKind.i64.wrap (Int.tdiv a1 (1000000 : Int))))) (2 : Int)) + (2 : Int)))
else
(if (decide ((IntKind.i64.wrap (a0 + (IntKind.i64.wrap (Int.tdiv a1 (1000000 : Int))))) < (-1 : Int))) = true then
some (IntKind.i64.wrap ((Int.tmod (IntKind.i64.wrap (a0 + (IntKind.i64.wrap (Int.tdiv a1 (1000000 : Int))))) (2 : Int)) - (2 : Int)))
else
some (Int.tmod (IntKind.i64.wrap (a0 + (IntKind.i64.wrap (Int.tdiv a1 (1000000 : Int))))) (2 : Int)))) : Option (Int)).bind fun j2 =>
(M.money_DivRound N (IntKind.i64.wrap ((IntKind.i64.wrap (j2 * (1000000 : Int))) + (Int.tmod a1 (1000000 : Int)))) (1000000 : Int) a2).bind fun y3 =>
(if (!decide (y3.2 = (0 : Int))) = true then
some ((0 : Int), y3.2)
else
((if (decide ((IntKind.i64.wrap ((IntKind.i64.wrap ((IntKind.i64.wrap (a0 + (IntKind.i64.wrap (Int.tdiv a1 (1000000 : Int))))) - j2)) + y3.1)) < (-1000000000000000 : Int))) = true then
some true
else
some (decide ((1000000000000000 : Int) < (IntKind.i64.wrap ((IntKind.i64.wrap ((IntKind.i64.wrap (a0 + (IntKind.i64.wrap (Int.tdiv a1 (1000000 : Int))))) - j2)) + y3.1))))) : Option (Bool)).bind fun j4 =>
(if j4 = true then
some ((0 : Int), (3 : Int))
else
some (IntKind.i64.wrap ((IntKind.i64.wrap ((IntKind.i64.wrap (a0 + (IntKind.i64.wrap (Int.tdiv a1 (1000000 : Int))))) - j2)) + y3.1), (0 : Int)))))
noncomputable def S54 (N : Nat) : Sig := { inn := ⟨[(0, .val false (.leaf rInt)), (1, .val false (.leaf rInt)), (2, .val false (.leaf rInt))], [], [], 0⟩, out := ⟨[(0, .val false (.leaf rInt)), (1, .val false (.leaf rInt))], [], [], 0⟩, fn := fun (x : Int × Int × Int) => M.table_roundSum N x.1 x.2.1 x.2.2 }
theorem W54 (N : Nat) : FnOK Tryd.prog 54 (S54 N) := fn_ok (E := ⟨tabs, [(63, S63 N)], (tabcons (W63 N) tabnil), mixed⟩) (N := N) (a := (.two .nil (.two .nil (.two .nil (.two (.meet ⟨[(23, .val false (.leaf .bool))], [], [], 160⟩ .nil .nil) (.two .nil (.two (.meet ⟨[(8, .val false (.leaf rInt))], [], [], 208⟩ .nil .nil) (.two .nil (.two .nil (.two .nil (.two (.meet ⟨[(58, .val false (.leaf .bool))], [], [], 512⟩ .nil .nil) .nil))))))))))) (sg := S54 N) (c := Tryd.f54.body.getD .skip) (rs := Tryd.f54.results.toList) Tryd.func54 (by kernel_rfl) (by kernel_rfl) rfl rfl rfl rfl (fun x => by kernel_rfl)
noncomputable def M.table_Brackets (N : Nat) (a0 : rTable.den) (a1 : Int) (a2 : Int) (a3 : Int) : Option (Int × Int) :=
((if (decide (a3 < (0 : Int))) = true then
some true
else
some (decide ((5 : Int) < a3))) : Option (Bool)).bind fun j1 =>
(if j1 = true then
some ((0 : Int), (1 : Int))
else
((if (!(eqR rNode a0.2.1 ((3 : Int), (0 : Int)))) = true then
some true
else
some (!(eqR rNode a0.2.2.1 ((4 : Int), (0 : Int))))) : Option (Bool)).bind fun j2 =>
(if j2 = true then
some ((0 : Int), (8 : Int))
else
((if (decide (a2 < (-1000000000000000 : Int))) = true then
some true
else
some (decide ((1000000000000000 : Int) < a2))) : Option (Bool)).bind fun j3 =>
(if j3 = true then
some ((0 : Int), (3 : Int))
else
Join (J := Int × Int) (R := Int × Int) (Loop (S := Int × Int × Int) (X := (Int × Int) ⊕ (Int × Int)) (fun s5 =>
(if (decide (s5.2.2 < (a0.2.2.2.length : Int))) = true then
Join (J := Int × Int) (R := (Int × Int × Int) ⊕ ((Int × Int) ⊕ (Int × Int))) ((idx a0.2.2.2 s5.2.2).bind fun x7 =>
((M.daterange_Contains N x7.1 a1).bind fun y9 =>
(if (!y9) = true then
some true
else
some (decide ((if a2 < x7.2.2.1 then a2 else x7.2.2.1) ≤ (if x7.2.1 < (0 : Int) then (0 : Int) else x7.2.1)))) : Option (Bool)).bind fun j8 =>
(if j8 = true then
some (Sum.inl (s5.1, s5.2.1))
else
(M.table_contribution N (IntKind.i64.wrap ((if a2 < x7.2.2.1 then a2 else x7.2.2.1) - (if x7.2.1 < (0 : Int) then (0 : Int) else x7.2.1))) x7.2.2.2).bind fun y10 =>
(if (!y10.2.2) = true then
some (Sum.inr (Sum.inr (Sum.inr ((0 : Int), (3 : Int)))))
else
some (Sum.inl (IntKind.i64.wrap (s5.1 + y10.1), IntKind.i64.wrap (s5.2.1 + y10.2.1)))))) fun j6 =>
some (Sum.inl (j6.1, j6.2, IntKind.i64.wrap (s5.2.2 + (1 : Int))))
else
some (Sum.inr (Sum.inl (s5.1, s5.2.1))))) N ((0 : Int), (0 : Int), (0 : Int))) fun j4 =>
(M.table_roundSum N j4.1 j4.2 a3).bind fun y11 =>
some (y11.1, y11.2))))
noncomputable def S46 (N : Nat) : Sig := { inn := ⟨[(0, .val true (.leaf rTable)), (1, .val false (.leaf rInt)), (2, .val false (.leaf rInt)), (3, .val false (.leaf rInt))], [], [], 0⟩, out := ⟨[(0, .val false (.leaf rInt)), (1, .val false (.leaf rInt))], [], [], 0⟩, fn := fun (x : rTable.den × Int × Int × Int) => M.table_Brackets N x.1 x.2.1 x.2.2.1 x.2.2.2 }
theorem W46 (N : Nat) : FnOK Tryd.prog 46 (S46 N) := fn_ok (E := ⟨tabs, [(52, S52 N), (53, S53 N), (54, S54 N)], (tabcons (W52 N) (tabcons (W53 N) (tabcons (W54 N) tabnil))), mixed⟩) (N := N) (a := (.two .nil (.two (.meet ⟨[(24, .val false (.leaf .bool))], [], [], 48⟩ .nil .nil) (.two (.meet ⟨[(34, .val false (.leaf .bool))], [], [], 48⟩ .nil .nil) (.two (.meet ⟨[(40, .val false (.leaf .bool))], [], [], 48⟩ .nil .nil) (.two .nil (.join ⟨[(10, .val false (.leaf rInt)), (11, .val false (.leaf rInt))], [], [], 80⟩ (.two .nil (.two (.loop ⟨[(10, .val false (.leaf rInt)), (11, .val false (.leaf rInt)), (44, .val false (.leaf rInt))], [], [], 144⟩ (.two .nil (.two .nil (.two (.join ⟨[(10, .val false (.leaf rInt)), (11, .val false (.leaf rInt))], [], [], 160⟩ (.two .nil (.two .nil (.two (.meet ⟨[(64, .val false (.leaf .bool))], [], [], 368⟩ .nil .nil) .nil))) .nil) .nil)))) .nil)) .nil))))))) (sg := S46 N) (c := Tryd.f46.body.getD .skip) (rs := Tryd.f46.results.toList) Tryd.func46 (by kernel_rfl) (by kernel_rfl) rfl rfl rfl rfl (fun x => by kernel_rfl)
noncomputable def M.eval_truth (N : Nat) (a0 : Bool) : Option (rValue.den) :=
(if a0 = true then
some ((1 : Int), ((0 : Int), (1 : Int)))
else
some ((1 : Int), ((0 : Int), (0 : Int))))
noncomputable def S55 (N : Nat) : Sig := { inn := ⟨[(0, .val false (.leaf .bool))], [], [], 0⟩, out := ⟨[(0, .val true (.leaf rValue))], [], [], 0⟩, fn := fun (x : Bool) => M.eval_truth N x }
theorem W55 (N : Nat) : FnOK Tryd.prog 55 (S55 N) := fn_ok (E := ⟨tabs, [], tabnil, mixed⟩) (N := N) (a := .nil) (sg := S55 N) (c := Tryd.f55.body.getD .skip) (rs := Tryd.f55.results.toList) Tryd.func55 (by kernel_rfl) (by kernel_rfl) rfl rfl rfl rfl (fun x => by kernel_rfl)
noncomputable def M.date_valid (N : Nat) (a0 : Int) : Option (Bool) :=
((if (decide ((0 : Int) ≤ a0)) = true then
some (decide (a0 ≤ (109572 : Int)))
else
some false) : Option (Bool)).bind fun j1 =>
some j1
noncomputable def S64 (N : Nat) : Sig := { inn := ⟨[(0, .val false (.leaf rInt))], [], [], 0⟩, out := ⟨[(0, .val false (.leaf .bool))], [], [], 0⟩, fn := fun (x : Int) => M.date_valid N x }
theorem W64 (N : Nat) : FnOK Tryd.prog 64 (S64 N) := fn_ok (E := ⟨tabs, [], tabnil, mixed⟩) (N := N) (a := (.two .nil (.meet ⟨[(2, .val false (.leaf .bool))], [], [], 16⟩ .nil .nil))) (sg := S64 N) (c := Tryd.f64.body.getD .skip) (rs := Tryd.f64.results.toList) Tryd.func64 (by kernel_rfl) (by kernel_rfl) rfl rfl rfl rfl (fun x => by kernel_rfl)
noncomputable def M.date_leapYears (N : Nat) (a0 : Int) : Option (Int) :=
some (IntKind.i64.wrap ((IntKind.i64.wrap ((IntKind.i64.wrap (Int.tdiv a0 (4 : Int))) - (IntKind.i64.wrap (Int.tdiv a0 (100 : Int))))) + (IntKind.i64.wrap (Int.tdiv a0 (400 : Int)))))
noncomputable def S79 (N : Nat) : Sig := { inn := ⟨[(0, .val false (.leaf rInt))], [], [], 0⟩, out := ⟨[(0, .val false (.leaf rInt))], [], [], 0⟩, fn := fun (x : Int) => M.date_leapYears N x }
theorem W79 (N : Nat) : FnOK Tryd.prog 79 (S79 N) := fn_ok (E := ⟨tabs, [], tabnil, mixed⟩) (N := N) (a := .nil) (sg := S79 N) (c := Tryd.f79.body.getD .skip) (rs := Tryd.f79.results.toList) Tryd.func79 (by kernel_rfl) (by kernel_rfl) rfl rfl rfl rfl (fun x => by kernel_rfl)
noncomputable def M.date_yearStart (N : Nat) (a0 : Int) : Option (Int) :=
(M.date_leapYears N (IntKind.i64.wrap (a0 - (1 : Int)))).bind fun y1 =>
(M.date_leapYears N (1899 : Int)).bind fun y2 =>
some (IntKind.i64.wrap ((IntKind.i64.wrap ((IntKind.i64.wrap ((IntKind.i64.wrap (a0 - (1900 : Int))) * (365 : Int))) + y1)) - y2))
noncomputable def S65 (N : Nat) : Sig := { inn := ⟨[(0, .val false (.leaf rInt))], [], [], 0⟩, out := ⟨[(0, .val false (.leaf rInt))], [], [], 0⟩, fn := fun (x : Int) => M.date_yearStart N x }
theorem W65 (N : Nat) : FnOK Tryd.prog 65 (S65 N) := fn_ok (E := ⟨tabs, [(79, S79 N)], (tabcons (W79 N) tabnil), mixed⟩) (N := N) (a := .nil) (sg := S65 N) (c := Tryd.f65.body.getD .skip) (rs := Tryd.f65.results.toList) Tryd.func65 (by kernel_rfl) (by kernel_rfl) rfl rfl rfl rfl (fun x => by kernel_rfl)
noncomputable def M.date_IsLeap (N : Nat) (a0 : Int) : Option (Bool) :=
((if (decide ((Int.tmod a0 (4 : Int)) = (0 : Int))) = true then
(if (!decide ((Int.tmod a0 (100 : Int)) = (0 : Int))) = true then
some true
else
some (decide ((Int.tmod a0 (400 : Int)) = (0 : Int))))
else
some false) : Option (Bool)).bind fun j1 =>
some j1
noncomputable def S80 (N : Nat) : Sig := { inn := ⟨[(0, .val false (.leaf rInt))], [], [], 0⟩, out := ⟨[(0, .val false (.leaf .bool))], [], [], 0⟩, fn := fun (x : Int) => M.date_IsLeap N x }
theorem W80 (N : Nat) : FnOK Tryd.prog 80 (S80 N) := fn_ok (E := ⟨tabs, [], tabnil, mixed⟩) (N := N) (a := (.two .nil (.meet ⟨[(2, .val false (.leaf .bool))], [], [], 16⟩ .nil .nil))) (sg := S80 N) (c := Tryd.f80.body.getD .skip) (rs := Tryd.f80.results.toList) Tryd.func80 (by kernel_rfl) (by kernel_rfl) rfl rfl rfl rfl (fun x => by kernel_rfl)
noncomputable def M.date_DaysInMonth (N : Nat) (a0 : Int) (a1 : Int) : Option (Int) :=
((if (decide (a1 < (1 : Int))) = true then
some true
else
some (decide ((12 : Int) < a1))) : Option (Bool)).bind fun j1 =>
(if j1 = true then
some (0 : Int)
else
((if (decide (a1 = (2 : Int))) = true then
(M.date_IsLeap N a0).bind fun y3 =>
some y3
else
some false) : Option (Bool)).bind fun j2 =>
(if j2 = true then
some (29 : Int)
else
(idx ([(31 : Int), (28 : Int), (31 : Int), (30 : Int), (31 : Int), (30 : Int), (31 : Int), (31 : Int), (30 : Int), (31 : Int), (30 : Int), (31 : Int)] : List Int) (IntKind.i64.wrap (a1 - (1 : Int)))).bind fun x4 =>
some x4))
noncomputable def S66 (N : Nat) : Sig := { inn := ⟨[(0, .val false (.leaf rInt)), (1, .val false (.leaf rInt))], [], [], 0⟩, out := ⟨[(0, .val false (.leaf rInt))], [], [], 0⟩, fn := fun (x : Int × Int) => M.date_DaysInMonth N x.1 x.2 }
theorem W66 (N : Nat) : FnOK Tryd.prog 66 (S66 N) := fn_ok (E := ⟨tabs, [(80, S80 N)], (tabcons (W80 N) tabnil), mixed⟩) (N := N) (a := (.two .nil (.two (.meet ⟨[(10, .val false (.leaf .bool))], [], [], 16⟩ .nil .nil) (.two (.meet ⟨[(16, .val false (.leaf .bool))], [], [], 16⟩ .nil .nil) .nil)))) (sg := S66 N) (c := Tryd.f66.body.getD .skip) (rs := Tryd.f66.results.toList) Tryd.func66 (by kernel_rfl) (by kernel_rfl) rfl rfl rfl rfl (fun x => by kernel_rfl)
noncomputable def M.date_ToYMD (N : Nat) (a0 : Int) : Option (Int × Int × Int) :=
(M.date_valid N a0).bind fun y1 =>
(if (!y1) = true then
some ((0 : Int), (0 : Int), (0 : Int))
else
(Loop (S := Int) (X := Int) (fun s3 =>
(M.date_yearStart N (IntKind.i64.wrap (s3 + (1 : Int)))).bind fun y4 =>
(if (decide (y4 ≤ a0)) = true then
some (Sum.inl (IntKind.i64.wrap (s3 + (1 : Int))))
else
some (Sum.inr s3))) N (IntKind.i64.wrap ((1900 : Int) + (IntKind.i64.wrap (Int.tdiv a0 (366 : Int))))) : Option (Int)).bind fun j2 =>
(M.date_yearStart N j2).bind fun y5 =>
Loop (S := Int × Int) (X := Int × Int × Int) (fun s6 =>
(if (decide (s6.2 < (12 : Int))) = true then
(M.date_DaysInMonth N j2 (IntKind.i64.wrap (s6.2 + (1 : Int)))).bind fun y7 =>
(if (decide (s6.1 < y7)) = true then
some (Sum.inr (j2, IntKind.i64.wrap (s6.2 + (1 : Int)), IntKind.i64.wrap (s6.1 + (1 : Int))))
else
some (Sum.inl (IntKind.i64.wrap (s6.1 - y7), IntKind.i64.wrap (s6.2 + (1 : Int)))))
else
some (Sum.inr ((0 : Int), (0 : Int), (0 : Int))))) N (IntKind.i64.wrap (a0 - y5), (0 : Int)))
noncomputable def S56 (N : Nat) : Sig := { inn := ⟨[(0, .val false (.leaf rInt))], [], [], 0⟩, out := ⟨[(0, .val false (.leaf rInt)), (1, .val false (.leaf rInt)), (2, .val false (.leaf rInt))], [], [], 0⟩, fn := fun (x : Int) => M.date_ToYMD N x }
theorem W56 (N : Nat) : FnOK Tryd.prog 56 (S56 N) := fn_ok (E := ⟨tabs, [(64, S64 N), (65, S65 N), (66, S66 N)], (tabcons (W64 N) (tabcons (W65 N) (tabcons (W66 N) tabnil))), mixed⟩) (N := N) (a := (.two .nil (.two .nil (.two .nil (.meet ⟨[(5, .val false (.leaf rInt))], [], [], 160⟩ (.two (.loop ⟨[(5, .val false (.leaf rInt))], [], [], 160⟩ .nil) .nil) (.two .nil (.two (.two .nil (.two (.loop ⟨[(6, .val false (.leaf rInt)), (26, .val false (.leaf rInt))], [], [], 256⟩ .nil) .nil)) .nil))))))) (sg := S56 N) (c := Tryd.f56.body.getD .skip) (rs := Tryd.f56.results.toList) Tryd.func56 (by kernel_rfl) (by kernel_rfl) rfl rfl rfl rfl (fun x => by kernel_rfl)
noncomputable def M.eval_unary (N : Nat) (a0 : Int) (a1 : rValue.den) : Option (rValue.den) :=
(if (decide (a0 = (10 : Int))) = true then
some (a1.1, ((0 : Int), IntKind.i64.wrap (0 - a1.2.2)))
else
(if (decide (a0 = (25 : Int))) = true then
(M.eval_truth N (decide (a1.2.2 = (0 : Int)))).bind fun y1 =>
some y1
else
(M.date_ToYMD N a1.2.2).bind fun y2 =>
(if (decide (a0 = (31 : Int))) = true then
some ((2 : Int), ((0 : Int), y2.1))
else
some ((2 : Int), ((0 : Int), y2.2.1)))))
noncomputable def S47 (N : Nat) : Sig := { inn := ⟨[(0, .val false (.leaf rInt)), (1, .val true (.leaf rValue))], [], [], 0⟩, out := ⟨[(0, .val true (.leaf rValue))], [], [], 0⟩, fn := fun (x : Int × rValue.den) => M.eval_unary N x.1 x.2 }
theorem W47 (N : Nat) : FnOK Tryd.prog 47 (S47 N) := fn_ok (E := ⟨tabs, [(55, S55 N), (56, S56 N)], (tabcons (W55 N) (tabcons (W56 N) tabnil)), mixed⟩) (N := N) (a := .nil) (sg := S47 N) (c := Tryd.f47.body.getD .skip) (rs := Tryd.f47.results.toList) Tryd.func47 (by kernel_rfl) (by kernel_rfl) rfl rfl rfl rfl (fun x => by kernel_rfl)
noncomputable def M.eval_product (N : Nat) (a0 : Int) (a1 : Int) : Option (Int × Int) :=
(M.math_bits_Mul64 N (IntKind.u64.wrap (if a0 < (IntKind.i64.wrap (0 - a0)) then (IntKind.i64.wrap (0 - a0)) else a0)) (IntKind.u64.wrap (if a1 < (IntKind.i64.wrap (0 - a1)) then (IntKind.i64.wrap (0 - a1)) else a1))).bind fun y1 =>
((if (!decide (y1.1 = (0 : Int))) = true then
some true
else
some (decide ((1000000000000000 : Int) < y1.2))) : Option (Bool)).bind fun j2 =>
(if j2 = true then
some ((0 : Int), (3 : Int))
else
(if (!decide ((decide (a0 < (0 : Int))) = (decide (a1 < (0 : Int))))) = true then
some (IntKind.i64.wrap (0 - (IntKind.i64.wrap y1.2)), (0 : Int))
else
some (IntKind.i64.wrap y1.2, (0 : Int))))
noncomputable def S67 (N : Nat) : Sig := { inn := ⟨[(0, .val false (.leaf rInt)), (1, .val false (.leaf rInt))], [], [], 0⟩, out := ⟨[(0, .val false (.leaf rInt)), (1, .val false (.leaf rInt))], [], [], 0⟩, fn := fun (x : Int × Int) => M.eval_product N x.1 x.2 }
theorem W67 (N : Nat) : FnOK Tryd.prog 67 (S67 N) := fn_ok (E := ⟨tabs, [(61, S61 N)], (tabcons (W61 N) tabnil), mixed⟩) (N := N) (a := (.two .nil (.two .nil (.two (.meet ⟨[(27, .val false (.leaf .bool))], [], [], 288⟩ .nil .nil) .nil)))) (sg := S67 N) (c := Tryd.f67.body.getD .skip) (rs := Tryd.f67.results.toList) Tryd.func67 (by kernel_rfl) (by kernel_rfl) rfl rfl rfl rfl (fun x => by kernel_rfl)
noncomputable def M.money_MulDiv (N : Nat) (a0 : Int) (a1 : Int) (a2 : Int) (a3 : Int) : Option (Int × Int) :=
(M.money_validMode N a3).bind fun y1 =>
(if (!y1) = true then
some ((0 : Int), (1 : Int))
else
(if (decide (a2 = (0 : Int))) = true then
some ((0 : Int), (12 : Int))
else
((M.money_beyond N a0 (1000000000000000 : Int)).bind fun y3 =>
(if y3 = true then
some true
else
(M.money_beyond N a1 (1000000000 : Int)).bind fun y4 =>
(if y4 = true then
some true
else
(M.money_beyond N a2 (1000000000 : Int)).bind fun y5 =>
some y5)) : Option (Bool)).bind fun j2 =>
(if j2 = true then
some ((0 : Int), (3 : Int))
else
(M.money_magnitude N a0).bind fun y6 =>
(M.money_magnitude N a1).bind fun y7 =>
(M.math_bits_Mul64 N y6 y7).bind fun y8 =>
(M.money_magnitude N a2).bind fun y9 =>
(if (decide (y9 ≤ y8.1)) = true then
some ((0 : Int), (3 : Int))
else
(M.math_bits_Div64 N y8.1 y8.2 y9).bind fun y10 =>
(if (decide ((1000000000000000 : Int) < y10.1)) = true then
some ((0 : Int), (3 : Int))
else
(M.money_roundMagnitude N y10.1 y10.2 y9 (!decide ((!decide ((decide (a0 < (0 : Int))) = (decide (a1 < (0 : Int))))) = (decide (a2 < (0 : Int))))) a3).bind fun y11 =>
(if (decide ((1000000000000000 : Int) < y11)) = true then
some ((0 : Int), (3 : Int))
else
(M.money_signed N y11 (!decide ((!decide ((decide (a0 < (0 : Int))) = (decide (a1 < (0 : Int))))) = (decide (a2 < (0 : Int)))))).bind fun y12 =>
some (y12, (0 : Int))))))))
noncomputable def S81 (N : Nat) : Sig := { inn := ⟨[(0, .val false (.leaf rInt)), (1, .val false (.leaf rInt)), (2, .val false (.leaf rInt)), (3, .val false (.leaf rInt))], [], [], 0⟩, out := ⟨[(0, .val false (.leaf rInt)), (1, .val false (.leaf rInt))], [], [], 0⟩, fn := fun (x : Int × Int × Int × Int) => M.money_MulDiv N x.1 x.2.1 x.2.2.1 x.2.2.2 }
theorem W81 (N : Nat) : FnOK Tryd.prog 81 (S81 N) := fn_ok (E := ⟨tabs, [(61, S61 N), (62, S62 N), (74, S74 N), (75, S75 N), (76, S76 N), (77, S77 N), (78, S78 N)], (tabcons (W61 N) (tabcons (W62 N) (tabcons (W74 N) (tabcons (W75 N) (tabcons (W76 N) (tabcons (W77 N) (tabcons (W78 N) tabnil))))))), mixed⟩) (N := N) (a := (.two .nil (.two .nil (.two .nil (.two (.meet ⟨[(30, .val false (.leaf .bool))], [], [], 112⟩ .nil .nil) .nil))))) (sg := S81 N) (c := Tryd.f81.body.getD .skip) (rs := Tryd.f81.results.toList) Tryd.func81 (by kernel_rfl) (by kernel_rfl) rfl rfl rfl rfl (fun x => by kernel_rfl)
noncomputable def M.rate_Apply (N : Nat) (a0 : Int) (a1 : Int) (a2 : Int) : Option (Int × Int) :=
(M.money_MulDiv N a0 a1 (1000000 : Int) a2).bind fun y1 =>
some (y1.1, y1.2)
noncomputable def S68 (N : Nat) : Sig := { inn := ⟨[(0, .val false (.leaf rInt)), (1, .val false (.leaf rInt)), (2, .val false (.leaf rInt))], [], [], 0⟩, out := ⟨[(0, .val false (.leaf rInt)), (1, .val false (.leaf rInt))], [], [], 0⟩, fn := fun (x : Int × Int × Int) => M.rate_Apply N x.1 x.2.1 x.2.2 }
theorem W68 (N : Nat) : FnOK Tryd.prog 68 (S68 N) := fn_ok (E := ⟨tabs, [(81, S81 N)], (tabcons (W81 N) tabnil), mixed⟩) (N := N) (a := .nil) (sg := S68 N) (c := Tryd.f68.body.getD .skip) (rs := Tryd.f68.results.toList) Tryd.func68 (by kernel_rfl) (by kernel_rfl) rfl rfl rfl rfl (fun x => by kernel_rfl)
noncomputable def M.rate_validMode (N : Nat) (a0 : Int) : Option (Bool) :=
((if (decide ((0 : Int) ≤ a0)) = true then
some (decide (a0 ≤ (5 : Int)))
else
some false) : Option (Bool)).bind fun j1 =>
some j1
noncomputable def S82 (N : Nat) : Sig := { inn := ⟨[(0, .val false (.leaf rInt))], [], [], 0⟩, out := ⟨[(0, .val false (.leaf .bool))], [], [], 0⟩, fn := fun (x : Int) => M.rate_validMode N x }
theorem W82 (N : Nat) : FnOK Tryd.prog 82 (S82 N) := fn_ok (E := ⟨tabs, [], tabnil, mixed⟩) (N := N) (a := (.two .nil (.meet ⟨[(2, .val false (.leaf .bool))], [], [], 16⟩ .nil .nil))) (sg := S82 N) (c := Tryd.f82.body.getD .skip) (rs := Tryd.f82.results.toList) Tryd.func82 (by kernel_rfl) (by kernel_rfl) rfl rfl rfl rfl (fun x => by kernel_rfl)
noncomputable def M.rate_beyond (N : Nat) (a0 : Int) (a1 : Int) : Option (Bool) :=
((if (decide (a1 < a0)) = true then
some true
else
some (decide (a0 < (IntKind.i64.wrap (0 - a1))))) : Option (Bool)).bind fun j1 =>
some j1
noncomputable def S83 (N : Nat) : Sig := { inn := ⟨[(0, .val false (.leaf rInt)), (1, .val false (.leaf rInt))], [], [], 0⟩, out := ⟨[(0, .val false (.leaf .bool))], [], [], 0⟩, fn := fun (x : Int × Int) => M.rate_beyond N x.1 x.2 }
theorem W83 (N : Nat) : FnOK Tryd.prog 83 (S83 N) := fn_ok (E := ⟨tabs, [], tabnil, mixed⟩) (N := N) (a := (.two .nil (.meet ⟨[(4, .val false (.leaf .bool))], [], [], 16⟩ .nil .nil))) (sg := S83 N) (c := Tryd.f83.body.getD .skip) (rs := Tryd.f83.results.toList) Tryd.func83 (by kernel_rfl) (by kernel_rfl) rfl rfl rfl rfl (fun x => by kernel_rfl)
noncomputable def M.rate_Mul (N : Nat) (a0 : Int) (a1 : Int) (a2 : Int) : Option (Int × Int) :=
(M.rate_validMode N a2).bind fun y1 =>
(if (!y1) = true then
some ((0 : Int), (1 : Int))
else
((M.rate_beyond N a0 (1000000000 : Int)).bind fun y3 =>
(if y3 = true then
some true
else
(M.rate_beyond N a1 (1000000000 : Int)).bind fun y4 =>
some y4) : Option (Bool)).bind fun j2 =>
(if j2 = true then
some ((0 : Int), (3 : Int))
else
(M.money_DivRound N (IntKind.i64.wrap (a0 * a1)) (1000000 : Int) a2).bind fun y5 =>
(if (!decide (y5.2 = (0 : Int))) = true then
some ((0 : Int), y5.2)
else
(M.rate_beyond N y5.1 (1000000000 : Int)).bind fun y6 =>
(if y6 = true then
some ((0 : Int), (3 : Int))
else
some (y5.1, (0 : Int))))))
noncomputable def S69 (N : Nat) : Sig := { inn := ⟨[(0, .val false (.leaf rInt)), (1, .val false (.leaf rInt)), (2, .val false (.leaf rInt))], [], [], 0⟩, out := ⟨[(0, .val false (.leaf rInt)), (1, .val false (.leaf rInt))], [], [], 0⟩, fn := fun (x : Int × Int × Int) => M.rate_Mul N x.1 x.2.1 x.2.2 }
theorem W69 (N : Nat) : FnOK Tryd.prog 69 (S69 N) := fn_ok (E := ⟨tabs, [(63, S63 N), (82, S82 N), (83, S83 N)], (tabcons (W63 N) (tabcons (W82 N) (tabcons (W83 N) tabnil))), mixed⟩) (N := N) (a := (.two .nil (.two .nil (.two (.meet ⟨[(18, .val false (.leaf .bool))], [], [], 80⟩ .nil .nil) .nil)))) (sg := S69 N) (c := Tryd.f69.body.getD .skip) (rs := Tryd.f69.results.toList) Tryd.func69 (by kernel_rfl) (by kernel_rfl) rfl rfl rfl rfl (fun x => by kernel_rfl)
noncomputable def M.money_RoundTo (N : Nat) (a0 : Int) (a1 : Int) (a2 : Int) : Option (Int × Int) :=
(M.money_validMode N a2).bind fun y1 =>
(if (!y1) = true then
some ((0 : Int), (1 : Int))
else
(if (decide (a1 < (1 : Int))) = true then
some ((0 : Int), (12 : Int))
else
((M.money_beyond N a0 (1000000000000000 : Int)).bind fun y3 =>
(if y3 = true then
some true
else
some (decide ((1000000000000000 : Int) < a1))) : Option (Bool)).bind fun j2 =>
(if j2 = true then
some ((0 : Int), (3 : Int))
else
(M.money_DivRound N a0 a1 a2).bind fun y4 =>
(if (!decide (y4.2 = (0 : Int))) = true then
some ((0 : Int), y4.2)
else
(M.money_beyond N (IntKind.i64.wrap (y4.1 * a1)) (1000000000000000 : Int)).bind fun y5 =>
(if y5 = true then
some ((0 : Int), (3 : Int))
else
some (IntKind.i64.wrap (y4.1 * a1), (0 : Int)))))))
noncomputable def S70 (N : Nat) : Sig := { inn := ⟨[(0, .val false (.leaf rInt)), (1, .val false (.leaf rInt)), (2, .val false (.leaf rInt))], [], [], 0⟩, out := ⟨[(0, .val false (.leaf rInt)), (1, .val false (.leaf rInt))], [], [], 0⟩, fn := fun (x : Int × Int × Int) => M.money_RoundTo N x.1 x.2.1 x.2.2 }
theorem W70 (N : Nat) : FnOK Tryd.prog 70 (S70 N) := fn_ok (E := ⟨tabs, [(63, S63 N), (74, S74 N), (75, S75 N)], (tabcons (W63 N) (tabcons (W74 N) (tabcons (W75 N) tabnil))), mixed⟩) (N := N) (a := (.two .nil (.two .nil (.two .nil (.two (.meet ⟨[(20, .val false (.leaf .bool))], [], [], 112⟩ .nil .nil) .nil))))) (sg := S70 N) (c := Tryd.f70.body.getD .skip) (rs := Tryd.f70.results.toList) Tryd.func70 (by kernel_rfl) (by kernel_rfl) rfl rfl rfl rfl (fun x => by kernel_rfl)
noncomputable def M.rate_roundsUp (N : Nat) (a0 : Int) (a1 : Int) (a2 : Int) (a3 : Bool) (a4 : Int) : Option (Bool) :=
(if (decide (a1 = (0 : Int))) = true then
some false
else
(if (decide (a4 = (0 : Int))) = true then
some a3
else
(if (decide (a4 = (1 : Int))) = true then
some (!a3)
else
(if (decide (a4 = (3 : Int))) = true then
some true
else
(if (decide (a4 = (4 : Int))) = true then
some (decide ((IntKind.u64.wrap (a2 - a1)) ≤ a1))
else
(if (decide (a4 = (5 : Int))) = true then
((if (decide ((IntKind.u64.wrap (a2 - a1)) < a1)) = true then
some true
else
(if (decide (a1 = (IntKind.u64.wrap (a2 - a1)))) = true then
some (decide ((Int.tmod a0 (2 : Int)) = (1 : Int)))
else
some false)) : Option (Bool)).bind fun j1 =>
some j1
else
some false))))))
noncomputable def S84 (N : Nat) : Sig := { inn := ⟨[(0, .val false (.leaf (.int .u64))), (1, .val false (.leaf (.int .u64))), (2, .val false (.leaf (.int .u64))), (3, .val false (.leaf .bool)), (4, .val false (.leaf rInt))], [], [], 0⟩, out := ⟨[(0, .val false (.leaf .bool))], [], [], 0⟩, fn := fun (x : Int × Int × Int × Bool × Int) => M.rate_roundsUp N x.1 x.2.1 x.2.2.1 x.2.2.2.1 x.2.2.2.2 }
theorem W84 (N : Nat) : FnOK Tryd.prog 84 (S84 N) := fn_ok (E := ⟨tabs, [], tabnil, mixed⟩) (N := N) (a := (.two .nil (.two .nil (.two (.two .nil (.two (.two .nil (.two .nil (.two .nil (.two .nil (.two .nil (.two .nil (.two .nil (.two .nil (.two .nil (.two (.meet ⟨[(10, .val false (.leaf .bool))], [], [], 224⟩ .nil .nil) .nil)))))))))) .nil)) .nil)))) (sg := S84 N) (c := Tryd.f84.body.getD .skip) (rs := Tryd.f84.results.toList) Tryd.func84 (by kernel_rfl) (by kernel_rfl) rfl rfl rfl rfl (fun x => by kernel_rfl)
noncomputable def M.rate_FromRatio (N : Nat) (a0 : Int) (a1 : Int) (a2 : Int) : Option (Int × Int) :=
(M.rate_validMode N a2).bind fun y1 =>
(if (!y1) = true then
some ((0 : Int), (1 : Int))
else
(if (decide (a1 = (0 : Int))) = true then
some ((0 : Int), (12 : Int))
else
((M.rate_beyond N a0 (1000000000000000 : Int)).bind fun y3 =>
(if y3 = true then
some true
else
(M.rate_beyond N a1 (1000000000000000 : Int)).bind fun y4 =>
some y4) : Option (Bool)).bind fun j2 =>
(if j2 = true then
some ((0 : Int), (3 : Int))
else
(M.math_bits_Mul64 N (IntKind.u64.wrap (if a0 < (IntKind.i64.wrap (0 - a0)) then (IntKind.i64.wrap (0 - a0)) else a0)) (1000000 : Int)).bind fun y5 =>
(if (decide ((IntKind.u64.wrap (if a1 < (IntKind.i64.wrap (0 - a1)) then (IntKind.i64.wrap (0 - a1)) else a1)) ≤ y5.1)) = true then
some ((0 : Int), (3 : Int))
else
(M.math_bits_Div64 N y5.1 y5.2 (IntKind.u64.wrap (if a1 < (IntKind.i64.wrap (0 - a1)) then (IntKind.i64.wrap (0 - a1)) else a1))).bind fun y6 =>
(if (decide ((1000000000 : Int) < y6.1)) = true then
some ((0 : Int), (3 : Int))
else
((M.rate_roundsUp N y6.1 y6.2 (IntKind.u64.wrap (if a1 < (IntKind.i64.wrap (0 - a1)) then (IntKind.i64.wrap (0 - a1)) else a1)) (!decide ((decide (a0 < (0 : Int))) = (decide (a1 < (0 : Int))))) a2).bind fun y8 =>
(if y8 = true then
some (IntKind.i64.wrap ((IntKind.i64.wrap y6.1) + (1 : Int)))
else
some (IntKind.i64.wrap y6.1)) : Option (Int)).bind fun j7 =>
(if (decide ((1000000000 : Int) < j7)) = true then
some ((0 : Int), (3 : Int))
else
((if (!decide ((decide (a0 < (0 : Int))) = (decide (a1 < (0 : Int))))) = true then
some (IntKind.i64.wrap (0 - j7))
else
some j7) : Option (Int)).bind fun j9 =>
some (j9, (0 : Int))))))))
noncomputable def S71 (N : Nat) : Sig := { inn := ⟨[(0, .val false (.leaf rInt)), (1, .val false (.leaf rInt)), (2, .val false (.leaf rInt))], [], [], 0⟩, out := ⟨[(0, .val false (.leaf rInt)), (1, .val false (.leaf rInt))], [], [], 0⟩, fn := fun (x : Int × Int × Int) => M.rate_FromRatio N x.1 x.2.1 x.2.2 }
theorem W71 (N : Nat) : FnOK Tryd.prog 71 (S71 N) := fn_ok (E := ⟨tabs, [(61, S61 N), (62, S62 N), (82, S82 N), (83, S83 N), (84, S84 N)], (tabcons (W61 N) (tabcons (W62 N) (tabcons (W82 N) (tabcons (W83 N) (tabcons (W84 N) tabnil))))), mixed⟩) (N := N) (a := (.two .nil (.two .nil (.two .nil (.two (.meet ⟨[(25, .val false (.leaf .bool))], [], [], 112⟩ .nil .nil) (.two .nil (.two .nil (.two .nil (.two .nil (.two .nil (.two .nil (.two .nil (.meet ⟨[(14, .val false (.leaf rInt))], [], [], 752⟩ .nil (.two .nil (.meet ⟨[(14, .val false (.leaf rInt))], [], [], 784⟩ .nil .nil))))))))))))))) (sg := S71 N) (c := Tryd.f71.body.getD .skip) (rs := Tryd.f71.results.toList) Tryd.func71 (by kernel_rfl) (by kernel_rfl) rfl rfl rfl rfl (fun x => by kernel_rfl)
noncomputable def M.eval_scaled (N : Nat) (a0 : rNode.den) (a1 : rValue.den) (a2 : rValue.den) : Option (rValue.den × Int) :=
((if (decide (a0.1 = (13 : Int))) = true then
(M.eval_product N a1.2.2 a2.2.2).bind fun y2 =>
some (y2.2, (a1.1, ((0 : Int), y2.1)))
else
((if (decide (a0.1 = (14 : Int))) = true then
some (decide (a1.1 = (3 : Int)))
else
some false) : Option (Bool)).bind fun j3 =>
(if j3 = true then
(M.rate_Apply N a1.2.2 a2.2.2 a0.2).bind fun y4 =>
some (y4.2, (a1.1, ((0 : Int), y4.1)))
else
(if (decide (a0.1 = (14 : Int))) = true then
(M.rate_Mul N a1.2.2 a2.2.2 a0.2).bind fun y5 =>
some (y5.2, (a1.1, ((0 : Int), y5.1)))
else
(if (decide (a0.1 = (16 : Int))) = true then
(M.money_RoundTo N a1.2.2 a2.2.2 a0.2).bind fun y6 =>
some (y6.2, (a1.1, ((0 : Int), y6.1)))
else
(if (decide (a2.1 = (2 : Int))) = true then
(M.money_DivRound N a1.2.2 a2.2.2 a0.2).bind fun y7 =>
some (y7.2, (a1.1, ((0 : Int), y7.1)))
else
(M.rate_FromRatio N a1.2.2 a2.2.2 a0.2).bind fun y8 =>
some (y8.2, ((4 : Int), ((0 : Int), y8.1)))))))) : Option (Int × rValue.den)).bind fun j1 =>
some (j1.2, j1.1)
noncomputable def S57 (N : Nat) : Sig := { inn := ⟨[(0, .val true (.leaf rNode)), (1, .val true (.leaf rValue)), (2, .val true (.leaf rValue))], [], [], 0⟩, out := ⟨[(0, .val true (.leaf rValue)), (1, .val false (.leaf rInt))], [], [], 0⟩, fn := fun (x : rNode.den × rValue.den × rValue.den) => M.eval_scaled N x.1 x.2.1 x.2.2 }
theorem W57 (N : Nat) : FnOK Tryd.prog 57 (S57 N) := fn_ok (E := ⟨tabs, [(63, S63 N), (67, S67 N), (68, S68 N), (69, S69 N), (70, S70 N), (71, S71 N)], (tabcons (W63 N) (tabcons (W67 N) (tabcons (W68 N) (tabcons (W69 N) (tabcons (W70 N) (tabcons (W71 N) tabnil)))))), mixed⟩) (N := N) (a := (.two .nil (.two .nil (.two (.meet ⟨[(9, .val false (.leaf rInt))], [(128, .box 53 (.leaf rValue))], [], 177⟩ (.two .nil (.two .nil (.meet ⟨[(38, .val false (.leaf .bool))], [], [], 240⟩ .nil .nil))) .nil) .nil)))) (sg := S57 N) (c := Tryd.f57.body.getD .skip) (rs := Tryd.f57.results.toList) Tryd.func57 (by kernel_rfl) (by kernel_rfl) rfl rfl rfl rfl (fun x => by kernel_rfl)
noncomputable def M.date_FromYMD (N : Nat) (a0 : Int) (a1 : Int) (a2 : Int) : Option (Int × Int) :=
((if (decide (a0 < (1900 : Int))) = true then
some true
else
(if (decide ((2199 : Int) < a0)) = true then
some true
else
(if (decide (a1 < (1 : Int))) = true then
some true
else
(if (decide ((12 : Int) < a1)) = true then
some true
else
(if (decide (a2 < (1 : Int))) = true then
some true
else
(M.date_DaysInMonth N a0 a1).bind fun y2 =>
some (decide (y2 < a2))))))) : Option (Bool)).bind fun j1 =>
(if j1 = true then
some ((0 : Int), (3 : Int))
else
(M.date_yearStart N a0).bind fun y3 =>
(Loop (S := Int × Int) (X := Int) (fun s5 =>
(if (decide (s5.2 < (IntKind.i64.wrap (a1 - (1 : Int))))) = true then
(M.date_DaysInMonth N a0 (IntKind.i64.wrap (s5.2 + (1 : Int)))).bind fun y6 =>
some (Sum.inl (IntKind.i64.wrap (s5.1 + y6), IntKind.i64.wrap (s5.2 + (1 : Int))))
else
some (Sum.inr s5.1))) N (y3, (0 : Int)) : Option (Int)).bind fun j4 =>
some (IntKind.i64.wrap ((IntKind.i64.wrap (j4 + a2)) - (1 : Int)), (0 : Int)))
noncomputable def S72 (N : Nat) : Sig := { inn := ⟨[(0, .val false (.leaf rInt)), (1, .val false (.leaf rInt)), (2, .val false (.leaf rInt))], [], [], 0⟩, out := ⟨[(0, .val false (.leaf rInt)), (1, .val false (.leaf rInt))], [], [], 0⟩, fn := fun (x : Int × Int × Int) => M.date_FromYMD N x.1 x.2.1 x.2.2 }
theorem W72 (N : Nat) : FnOK Tryd.prog 72 (S72 N) := fn_ok (E := ⟨tabs, [(65, S65 N), (66, S66 N)], (tabcons (W65 N) (tabcons (W66 N) tabnil)), mixed⟩) (N := N) (a := (.two .nil (.two (.meet ⟨[(34, .val false (.leaf .bool))], [], [], 32⟩ .nil .nil) (.two .nil (.meet ⟨[(8, .val false (.leaf rInt))], [], [], 80⟩ (.two .nil (.two (.loop ⟨[(8, .val false (.leaf rInt)), (39, .val false (.leaf rInt))], [], [], 128⟩ .nil) .nil)) .nil))))) (sg := S72 N) (c := Tryd.f72.body.getD .skip) (rs := Tryd.f72.results.toList) Tryd.func72 (by kernel_rfl) (by kernel_rfl) rfl rfl rfl rfl (fun x => by kernel_rfl)
noncomputable def M.date_AddMonths (N : Nat) (a0 : Int) (a1 : Int) : Option (Int × Int) :=
((M.date_valid N a0).bind fun y2 =>
(if (!y2) = true then
some true
else
(if (decide (a1 < (-3600 : Int))) = true then
some true
else
some (decide ((3600 : Int) < a1)))) : Option (Bool)).bind fun j1 =>
(if j1 = true then
some ((0 : Int), (3 : Int))
else
(M.date_ToYMD N a0).bind fun y3 =>
((if (decide ((IntKind.i64.wrap ((IntKind.i64.wrap ((IntKind.i64.wrap ((IntKind.i64.wrap ((IntKind.i64.wrap (y3.1 - (1900 : Int))) * (12 : Int))) + y3.2.1)) - (1 : Int))) + a1)) < (0 : Int))) = true then
some true
else
some (decide ((3599 : Int) < (IntKind.i64.wrap ((IntKind.i64.wrap ((IntKind.i64.wrap ((IntKind.i64.wrap ((IntKind.i64.wrap (y3.1 - (1900 : Int))) * (12 : Int))) + y3.2.1)) - (1 : Int))) + a1))))) : Option (Bool)).bind fun j4 =>
(if j4 = true then
some ((0 : Int), (3 : Int))
else
(M.date_DaysInMonth N (IntKind.i64.wrap ((1900 : Int) + (IntKind.i64.wrap (Int.tdiv (IntKind.i64.wrap ((IntKind.i64.wrap ((IntKind.i64.wrap ((IntKind.i64.wrap ((IntKind.i64.wrap (y3.1 - (1900 : Int))) * (12 : Int))) + y3.2.1)) - (1 : Int))) + a1)) (12 : Int))))) (IntKind.i64.wrap ((Int.tmod (IntKind.i64.wrap ((IntKind.i64.wrap ((IntKind.i64.wrap ((IntKind.i64.wrap ((IntKind.i64.wrap (y3.1 - (1900 : Int))) * (12 : Int))) + y3.2.1)) - (1 : Int))) + a1)) (12 : Int)) + (1 : Int)))).bind fun y5 =>
(M.date_FromYMD N (IntKind.i64.wrap ((1900 : Int) + (IntKind.i64.wrap (Int.tdiv (IntKind.i64.wrap ((IntKind.i64.wrap ((IntKind.i64.wrap ((IntKind.i64.wrap ((IntKind.i64.wrap (y3.1 - (1900 : Int))) * (12 : Int))) + y3.2.1)) - (1 : Int))) + a1)) (12 : Int))))) (IntKind.i64.wrap ((Int.tmod (IntKind.i64.wrap ((IntKind.i64.wrap ((IntKind.i64.wrap ((IntKind.i64.wrap ((IntKind.i64.wrap (y3.1 - (1900 : Int))) * (12 : Int))) + y3.2.1)) - (1 : Int))) + a1)) (12 : Int)) + (1 : Int))) (if y5 < y3.2.2 then y5 else y3.2.2)).bind fun y6 =>
some (y6.1, y6.2)))
noncomputable def S58 (N : Nat) : Sig := { inn := ⟨[(0, .val false (.leaf rInt)), (1, .val false (.leaf rInt))], [], [], 0⟩, out := ⟨[(0, .val false (.leaf rInt)), (1, .val false (.leaf rInt))], [], [], 0⟩, fn := fun (x : Int × Int) => M.date_AddMonths N x.1 x.2 }
theorem W58 (N : Nat) : FnOK Tryd.prog 58 (S58 N) := fn_ok (E := ⟨tabs, [(56, S56 N), (64, S64 N), (66, S66 N), (72, S72 N)], (tabcons (W56 N) (tabcons (W64 N) (tabcons (W66 N) (tabcons (W72 N) tabnil)))), mixed⟩) (N := N) (a := (.two .nil (.two (.meet ⟨[(20, .val false (.leaf .bool))], [], [], 32⟩ .nil .nil) (.two .nil (.two .nil (.two (.meet ⟨[(40, .val false (.leaf .bool))], [], [], 320⟩ .nil .nil) .nil)))))) (sg := S58 N) (c := Tryd.f58.body.getD .skip) (rs := Tryd.f58.results.toList) Tryd.func58 (by kernel_rfl) (by kernel_rfl) rfl rfl rfl rfl (fun x => by kernel_rfl)
noncomputable def M.date_YearsBetween (N : Nat) (a0 : Int) (a1 : Int) : Option (Int) :=
((M.date_valid N a0).bind fun y2 =>
(if (!y2) = true then
some true
else
(M.date_valid N a1).bind fun y3 =>
(if (!y3) = true then
some true
else
some (decide (a1 < a0)))) : Option (Bool)).bind fun j1 =>
(if j1 = true then
some (0 : Int)
else
(M.date_ToYMD N a0).bind fun y4 =>
(M.date_ToYMD N a1).bind fun y5 =>
((M.date_AddMonths N a0 (IntKind.i64.wrap ((12 : Int) * (IntKind.i64.wrap (y5.1 - y4.1))))).bind fun y7 =>
((if (!decide (y7.2 = (0 : Int))) = true then
some true
else
some (decide (a1 < y7.1))) : Option (Bool)).bind fun j8 =>
(if j8 = true then
some (IntKind.i64.wrap ((IntKind.i64.wrap (y5.1 - y4.1)) - (1 : Int)))
else
some (IntKind.i64.wrap (y5.1 - y4.1))) : Option (Int)).bind fun j6 =>
some (if j6 < (0 : Int) then (0 : Int) else j6))
noncomputable def S59 (N : Nat) : Sig := { inn := ⟨[(0, .val false (.leaf rInt)), (1, .val false (.leaf rInt))], [], [], 0⟩, out := ⟨[(0, .val false (.leaf rInt))], [], [], 0⟩, fn := fun (x : Int × Int) => M.date_YearsBetween N x.1 x.2 }
theorem W59 (N : Nat) : FnOK Tryd.prog 59 (S59 N) := fn_ok (E := ⟨tabs, [(56, S56 N), (58, S58 N), (64, S64 N)], (tabcons (W56 N) (tabcons (W58 N) (tabcons (W64 N) tabnil))), mixed⟩) (N := N) (a := (.two .nil (.two (.meet ⟨[(26, .val false (.leaf .bool))], [], [], 16⟩ .nil .nil) (.two .nil (.two .nil (.two .nil (.meet ⟨[(11, .val false (.leaf rInt))], [], [], 368⟩ (.two .nil (.meet ⟨[(55, .val false (.leaf .bool))], [], [], 512⟩ .nil .nil)) .nil))))))) (sg := S59 N) (c := Tryd.f59.body.getD .skip) (rs := Tryd.f59.results.toList) Tryd.func59 (by kernel_rfl) (by kernel_rfl) rfl rfl rfl rfl (fun x => by kernel_rfl)
noncomputable def M.eval_binary (N : Nat) (a0 : rNode.den) (a1 : rValue.den) (a2 : rValue.den) : Option (rValue.den × Int) :=
((if (decide (a0.1 = (11 : Int))) = true then
some (decide (a0.1 = (11 : Int)))
else
some (decide (a0.1 = (27 : Int)))) : Option (Bool)).bind fun j1 =>
(if j1 = true then
some ((a1.1, ((0 : Int), IntKind.i64.wrap (a1.2.2 + a2.2.2))), (0 : Int))
else
(if (decide (a0.1 = (12 : Int))) = true then
some ((a1.1, ((0 : Int), IntKind.i64.wrap (a1.2.2 - a2.2.2))), (0 : Int))
else
((if (decide (a0.1 = (13 : Int))) = true then
some (decide (a0.1 = (13 : Int)))
else
(if (decide (a0.1 = (14 : Int))) = true then
some (decide (a0.1 = (14 : Int)))
else
(if (decide (a0.1 = (15 : Int))) = true then
some (decide (a0.1 = (15 : Int)))
else
some (decide (a0.1 = (16 : Int)))))) : Option (Bool)).bind fun j2 =>
(if j2 = true then
(M.eval_scaled N a0 a1 a2).bind fun y3 =>
some (y3.1, y3.2)
else
((if (decide (a0.1 = (17 : Int))) = true then
some (decide (a0.1 = (17 : Int)))
else
some (decide (a0.1 = (18 : Int)))) : Option (Bool)).bind fun j4 =>
(if j4 = true then
(if (decide ((decide (a0.1 = (17 : Int))) = (decide (a2.2.2 < a1.2.2)))) = true then
some (a2, (0 : Int))
else
some (a1, (0 : Int)))
else
(if (decide (a0.1 = (19 : Int))) = true then
(M.eval_truth N (decide (a1.2.2 = a2.2.2))).bind fun y5 =>
some (y5, (0 : Int))
else
(if (decide (a0.1 = (20 : Int))) = true then
(M.eval_truth N (!decide (a1.2.2 = a2.2.2))).bind fun y6 =>
some (y6, (0 : Int))
else
(if (decide (a0.1 = (21 : Int))) = true then
(M.eval_truth N (decide (a1.2.2 < a2.2.2))).bind fun y7 =>
some (y7, (0 : Int))
else
(if (decide (a0.1 = (22 : Int))) = true then
(M.eval_truth N (decide (a1.2.2 ≤ a2.2.2))).bind fun y8 =>
some (y8, (0 : Int))
else
(if (decide (a0.1 = (23 : Int))) = true then
((if (decide (a1.2.2 = (1 : Int))) = true then
(M.eval_truth N (decide (a2.2.2 = (1 : Int)))).bind fun y10 =>
some ((0 : Int), y10)
else
(M.eval_truth N false).bind fun y11 =>
some ((0 : Int), y11)) : Option (Int × rValue.den)).bind fun j9 =>
some (j9.2, j9.1)
else
(if (decide (a0.1 = (24 : Int))) = true then
((if (decide (a1.2.2 = (1 : Int))) = true then
(M.eval_truth N true).bind fun y13 =>
some ((0 : Int), y13)
else
(M.eval_truth N (decide (a2.2.2 = (1 : Int)))).bind fun y14 =>
some ((0 : Int), y14)) : Option (Int × rValue.den)).bind fun j12 =>
some (j12.2, j12.1)
else
(if (decide (a0.1 = (28 : Int))) = true then
(M.date_AddMonths N a1.2.2 a2.2.2).bind fun y15 =>
some (((5 : Int), ((0 : Int), y15.1)), y15.2)
else
(if (decide (a0.1 = (29 : Int))) = true then
some (((2 : Int), ((0 : Int), IntKind.i64.wrap (a2.2.2 - a1.2.2))), (0 : Int))
else
(M.date_YearsBetween N a1.2.2 a2.2.2).bind fun y16 =>
some (((2 : Int), ((0 : Int), y16)), (0 : Int))))))))))))))
noncomputable def S48 (N : Nat) : Sig := { inn := ⟨[(0, .val true (.leaf rNode)), (1, .val true (.leaf rValue)), (2, .val true (.leaf rValue))], [], [], 0⟩, out := ⟨[(0, .val true (.leaf rValue)), (1, .val false (.leaf rInt))], [], [], 0⟩, fn := fun (x : rNode.den × rValue.den × rValue.den) => M.eval_binary N x.1 x.2.1 x.2.2 }
theorem W48 (N : Nat) : FnOK Tryd.prog 48 (S48 N) := fn_ok (E := ⟨tabs, [(55, S55 N), (57, S57 N), (58, S58 N), (59, S59 N)], (tabcons (W55 N) (tabcons (W57 N) (tabcons (W58 N) (tabcons (W59 N) tabnil)))), mixed⟩) (N := N) (a := (.two .nil (.two (.two .nil (.two (.meet ⟨[(12, .val false (.leaf .bool))], [], [], 112⟩ .nil (.two .nil (.two .nil (.two .nil (.meet ⟨[(33, .val false (.leaf .bool))], [], [], 144⟩ .nil (.two .nil (.meet ⟨[(44, .val false (.leaf .bool))], [], [], 144⟩ .nil (.two .nil (.two .nil (.two .nil (.two .nil (.two .nil (.two .nil (.two .nil (.two .nil (.two .nil (.two .nil (.two (.meet ⟨[(7, .val false (.leaf rInt))], [(48, .box 53 (.leaf rValue))], [], 305⟩ .nil .nil) (.two .nil (.two (.meet ⟨[(7, .val false (.leaf rInt))], [(48, .box 53 (.leaf rValue))], [], 337⟩ .nil .nil) .nil)))))))))))))))))))) .nil)) .nil))) (sg := S48 N) (c := Tryd.f48.body.getD .skip) (rs := Tryd.f48.results.toList) Tryd.func48 (by kernel_rfl) (by kernel_rfl) rfl rfl rfl rfl (fun x => by kernel_rfl)
noncomputable def M.eval_compute (N : Nat) (a0 : rNode.den) (a1 : List rValue.den) (a2 : rEnv.den) : Option (rValue.den × Int) :=
((if (decide (a0.1 = (1 : Int))) = true then
some (decide (a0.1 = (1 : Int)))
else
(if (decide (a0.1 = (2 : Int))) = true then
some (decide (a0.1 = (2 : Int)))
else
(if (decide (a0.1 = (3 : Int))) = true then
some (decide (a0.1 = (3 : Int)))
else
(if (decide (a0.1 = (4 : Int))) = true then
some (decide (a0.1 = (4 : Int)))
else
some (decide (a0.1 = (5 : Int))))))) : Option (Bool)).bind fun j1 =>
(if j1 = true then
some ((a0.1, ((0 : Int), a0.2)), (0 : Int))
else
(if (decide (a0.1 = (6 : Int))) = true then
some (((6 : Int), (IntKind.i64.wrap (Int.tdiv a0.2 (16 : Int)), Int.tmod a0.2 (16 : Int))), (0 : Int))
else
(if (decide (a0.1 = (7 : Int))) = true then
(idx a2.2.1 a0.2).bind fun x2 =>
some (x2, (0 : Int))
else
(if (decide (a0.1 = (8 : Int))) = true then
(idx a2.2.2.1 a0.2).bind fun x3 =>
some (x3, (0 : Int))
else
(if (decide (a0.1 = (9 : Int))) = true then
some (((5 : Int), ((0 : Int), a2.1)), (0 : Int))
else
(if (decide (a0.1 = (35 : Int))) = true then
some (((2 : Int), ((0 : Int), (a2.2.2.2.1.length : Int))), (0 : Int))
else
((if (decide (a0.1 = (36 : Int))) = true then
some (decide (a0.1 = (36 : Int)))
else
(if (decide (a0.1 = (37 : Int))) = true then
some (decide (a0.1 = (37 : Int)))
else
(if (decide (a0.1 = (38 : Int))) = true then
some (decide (a0.1 = (38 : Int)))
else
some (decide (a0.1 = (39 : Int)))))) : Option (Bool)).bind fun j4 =>
(if j4 = true then
(M.eval_overMembers N a0 a2).bind fun y5 =>
some (y5.1, y5.2)
else
(if (decide (a0.1 = (33 : Int))) = true then
(idx a2.2.2.2.2.2 a0.2).bind fun x6 =>
(idx a1 (0 : Int)).bind fun x7 =>
(M.table_Lookup N x6 a2.1 x7.2.2).bind fun y8 =>
(if (!y8.2) = true then
some (((0 : Int), ((0 : Int), (0 : Int))), (6 : Int))
else
(idx x6.2.2.2 y8.1).bind fun x9 =>
some ((x6.2.2.1.1, (x6.2.2.1.2, x9.2.2.2)), (0 : Int)))
else
(if (decide (a0.1 = (34 : Int))) = true then
(idx a2.2.2.2.2.2 (IntKind.i64.wrap (Int.tdiv a0.2 (8 : Int)))).bind fun x10 =>
(idx a1 (0 : Int)).bind fun x11 =>
(M.table_Brackets N x10 a2.1 x11.2.2 (Int.tmod a0.2 (8 : Int))).bind fun y12 =>
some (((3 : Int), ((0 : Int), y12.1)), y12.2)
else
(if (decide ((a1.length : Int) = (1 : Int))) = true then
(idx a1 (0 : Int)).bind fun x13 =>
(M.eval_unary N a0.1 x13).bind fun y14 =>
some (y14, (0 : Int))
else
(if (decide ((a1.length : Int) = (2 : Int))) = true then
(idx a1 (0 : Int)).bind fun x15 =>
(idx a1 (1 : Int)).bind fun x16 =>
(M.eval_binary N a0 x15 x16).bind fun y17 =>
some (y17.1, y17.2)
else
(idx a1 (0 : Int)).bind fun x18 =>
(if (decide (x18.2.2 = (1 : Int))) = true then
(idx a1 (1 : Int)).bind fun x19 =>
some (x19, (0 : Int))
else
(idx a1 (2 : Int)).bind fun x20 =>
some (x20, (0 : Int))))))))))))))
noncomputable def S36 (N : Nat) : Sig := { inn := ⟨[(0, .val true (.leaf rNode)), (1, .val false (.leaf (.slice rValue))), (2, .val true (.leaf rEnv))], [], [], 0⟩, out := ⟨[(0, .val true (.leaf rValue)), (1, .val false (.leaf rInt))], [], [], 0⟩, fn := fun (x : rNode.den × (List rValue.den) × rEnv.den) => M.eval_compute N x.1 x.2.1 x.2.2 }
theorem W36 (N : Nat) : FnOK Tryd.prog 36 (S36 N) := fn_ok (E := ⟨tabs, [(44, S44 N), (45, S45 N), (46, S46 N), (47, S47 N), (48, S48 N)], (tabcons (W44 N) (tabcons (W45 N) (tabcons (W46 N) (tabcons (W47 N) (tabcons (W48 N) tabnil))))), mixed⟩) (N := N) (a := (.two .nil (.two (.two .nil (.two (.meet ⟨[(15, .val false (.leaf .bool))], [], [], 96⟩ .nil (.two .nil (.two .nil (.two .nil (.two .nil (.two .nil (.two .nil (.two .nil (.two .nil (.two .nil (.two .nil (.two .nil (.meet ⟨[(62, .val false (.leaf .bool))], [], [], 256⟩ .nil .nil))))))))))))) .nil)) .nil))) (sg := S36 N) (c := Tryd.f36.body.getD .skip) (rs := Tryd.f36.results.toList) Tryd.func36 (by kernel_rfl) (by kernel_rfl) rfl rfl rfl rfl (fun x => by kernel_rfl)
noncomputable def M.eval_Apply (N : Nat) (a0 : rNode.den) (a1 : List rValue.den) (a2 : rEnv.den) : Option (rValue.den × Int) :=
((M.eval_wellFormed N a0).bind fun y2 =>
(if (!y2) = true then
some true
else
(M.expr_Arity N a0.1).bind fun y3 =>
some (!decide ((a1.length : Int) = y3))) : Option (Bool)).bind fun j1 =>
(if j1 = true then
some (((0 : Int), ((0 : Int), (0 : Int))), (2 : Int))
else
(M.eval_exists N a0 a2).bind fun y4 =>
(if (!y4) = true then
some (((0 : Int), ((0 : Int), (0 : Int))), (6 : Int))
else
((M.eval_allPlausible N a1).bind fun y6 =>
(if (!y6) = true then
some true
else
(M.eval_allowed N a0 a1 a2).bind fun y7 =>
some (!y7)) : Option (Bool)).bind fun j5 =>
(if j5 = true then
some (((0 : Int), ((0 : Int), (0 : Int))), (8 : Int))
else
(M.eval_compute N a0 a1 a2).bind fun y8 =>
(if (!decide (y8.2 = (0 : Int))) = true then
some (((0 : Int), ((0 : Int), (0 : Int))), y8.2)
else
(M.eval_plausible N y8.1).bind fun y9 =>
(if (!y9) = true then
some (((0 : Int), ((0 : Int), (0 : Int))), (3 : Int))
else
some (y8.1, (0 : Int)))))))
noncomputable def S26 (N : Nat) : Sig := { inn := ⟨[(0, .val true (.leaf rNode)), (1, .val false (.leaf (.slice rValue))), (2, .val true (.leaf rEnv))], [], [], 0⟩, out := ⟨[(0, .val true (.leaf rValue)), (1, .val false (.leaf rInt))], [], [], 0⟩, fn := fun (x : rNode.den × (List rValue.den) × rEnv.den) => M.eval_Apply N x.1 x.2.1 x.2.2 }
theorem W26 (N : Nat) : FnOK Tryd.prog 26 (S26 N) := fn_ok (E := ⟨tabs, [(24, S24 N), (32, S32 N), (33, S33 N), (34, S34 N), (35, S35 N), (36, S36 N), (37, S37 N)], (tabcons (W24 N) (tabcons (W32 N) (tabcons (W33 N) (tabcons (W34 N) (tabcons (W35 N) (tabcons (W36 N) (tabcons (W37 N) tabnil))))))), mixed⟩) (N := N) (a := (.two .nil (.two (.meet ⟨[(20, .val false (.leaf .bool))], [], [], 64⟩ .nil .nil) (.two .nil (.two (.meet ⟨[(36, .val false (.leaf .bool))], [], [], 128⟩ .nil .nil) .nil))))) (sg := S26 N) (c := Tryd.f26.body.getD .skip) (rs := Tryd.f26.results.toList) Tryd.func26 (by kernel_rfl) (by kernel_rfl) rfl rfl rfl rfl (fun x => by kernel_rfl)
noncomputable def M.peephole_literalFor (N : Nat) (a0 : rValue.den) : Option (rNode.den) :=
(if (decide (a0.1 = (1 : Int))) = true then
some ((1 : Int), a0.2.2)
else
(if (decide (a0.1 = (2 : Int))) = true then
some ((2 : Int), a0.2.2)
else
(if (decide (a0.1 = (3 : Int))) = true then
some ((3 : Int), a0.2.2)
else
(if (decide (a0.1 = (4 : Int))) = true then
some ((4 : Int), a0.2.2)
else
(if (decide (a0.1 = (5 : Int))) = true then
some ((5 : Int), a0.2.2)
else
some ((6 : Int), IntKind.i64.wrap ((IntKind.i64.wrap ((16 : Int) * a0.2.1)) + a0.2.2)))))))
noncomputable def S27 (N : Nat) : Sig := { inn := ⟨[(0, .val true (.leaf rValue))], [], [], 0⟩, out := ⟨[(0, .val true (.leaf rNode))], [], [], 0⟩, fn := fun (x : rValue.den) => M.peephole_literalFor N x }
theorem W27 (N : Nat) : FnOK Tryd.prog 27 (S27 N) := fn_ok (E := ⟨tabs, [], tabnil, mixed⟩) (N := N) (a := .nil) (sg := S27 N) (c := Tryd.f27.body.getD .skip) (rs := Tryd.f27.results.toList) Tryd.func27 (by kernel_rfl) (by kernel_rfl) rfl rfl rfl rfl (fun x => by kernel_rfl)
noncomputable def M.peephole_fold (N : Nat) (a0 : List rNode.den) (a1 : Int) : Option (rNode.den × Int × Bool) :=
(idx a0 a1).bind fun x1 =>
(M.peephole_isJump N x1.1).bind fun y2 =>
(if y2 = true then
some (((0 : Int), (0 : Int)), (0 : Int), false)
else
(M.expr_Arity N x1.1).bind fun y3 =>
((if (decide (y3 < (1 : Int))) = true then
some true
else
some (decide (a1 < y3))) : Option (Bool)).bind fun j4 =>
(if j4 = true then
some (((0 : Int), (0 : Int)), (0 : Int), false)
else
Join (J := List rValue.den) (R := rNode.den × Int × Bool) ((cutA a0 (IntKind.i64.wrap (a1 - y3)) a1).bind fun l6 =>
Loop (S := Int × List rValue.den) (X := (List rValue.den) ⊕ (rNode.den × Int × Bool)) (fun s7 =>
(if (decide (s7.1 < (l6.length : Int))) = true then
(idx l6 s7.1).bind fun x8 =>
(M.peephole_literalValue N x8).bind fun y9 =>
(if (!y9.2) = true then
some (Sum.inr (Sum.inr (((0 : Int), (0 : Int)), (0 : Int), false)))
else
(appA s7.2 ([y9.1] : List rValue.den)).bind fun l10 =>
some (Sum.inl (IntKind.i64.wrap (s7.1 + (1 : Int)), l10)))
else
some (Sum.inr (Sum.inl s7.2)))) N ((0 : Int), ([] : List rValue.den))) fun j5 =>
Join (J := Unit) (R := rNode.den × Int × Bool) (Loop (S := Int) (X := (Unit) ⊕ (rNode.den × Int × Bool)) (fun s12 =>
(if (decide (s12 < (a0.length : Int))) = true then
(idx a0 s12).bind fun x13 =>
((M.peephole_isJump N x13.1).bind fun y15 =>
(if y15 = true then
(if (decide ((IntKind.i64.wrap (a1 - y3)) < x13.2)) = true then
some (decide (x13.2 ≤ a1))
else
some false)
else
some false) : Option (Bool)).bind fun j14 =>
(if j14 = true then
some (Sum.inr (Sum.inr (((0 : Int), (0 : Int)), (0 : Int), false)))
else
some (Sum.inl (IntKind.i64.wrap (s12 + (1 : Int)))))
else
some (Sum.inr (Sum.inl ())))) N (0 : Int)) fun j11 =>
(M.eval_Apply N x1 j5 ((0 : Int), (([] : List rValue.den), (([] : List rValue.den), (([] : List (List rValue.den)), (([] : List rNode.den), ([] : List rTable.den))))))).bind fun y16 =>
(if (!decide (y16.2 = (0 : Int))) = true then
some (((0 : Int), (0 : Int)), (0 : Int), false)
else
(M.peephole_literalFor N y16.1).bind fun y17 =>
some (y17, y3, true))))
noncomputable def S18 (N : Nat) : Sig := { inn := ⟨[(0, .val false (.leaf (.slice rNode))), (1, .val false (.leaf rInt))], [], [], 0⟩, out := ⟨[(0, .val true (.leaf rNode)), (1, .val false (.leaf rInt)), (2, .val false (.leaf .bool))], [], [], 0⟩, fn := fun (x : (List rNode.den) × Int) => M.peephole_fold N x.1 x.2 }
theorem W18 (N : Nat) : FnOK Tryd.prog 18 (S18 N) := fn_ok (E := ⟨tabs, [(22, S22 N), (24, S24 N), (25, S25 N), (26, S26 N), (27, S27 N)], (tabcons (W22 N) (tabcons (W24 N) (tabcons (W25 N) (tabcons (W26 N) (tabcons (W27 N) tabnil))))), mixed⟩) (N := N) (a := (.two .nil (.two .nil (.two .nil (.two .nil (.two (.meet ⟨[(35, .val false (.leaf .bool))], [], [], 256⟩ .nil .nil) (.two .nil (.join ⟨[(9, .val false (.own 272))], [(272, .own 53 rValue)], [], 273⟩ (.two .nil (.two (.loop ⟨[(9, .val false (.own 400)), (44, .val false (.leaf rInt))], [(400, .own 53 rValue)], [], 401⟩ .nil) .nil)) (.join ⟨[], [], [], 273⟩ (.two .nil (.two (.loop ⟨[(63, .val false (.leaf rInt))], [], [], 321⟩ (.two .nil (.two .nil (.two (.two (.two .nil (.meet ⟨[(83, .val false (.leaf .bool))], [], [], 401⟩ .nil .nil)) .nil) .nil)))) .nil)) .nil))))))))) (sg := S18 N) (c := Tryd.f18.body.getD .skip) (rs := Tryd.f18.results.toList) Tryd.func18 (by kernel_rfl) (by kernel_rfl) rfl rfl rfl rfl (fun x => by kernel_rfl)
noncomputable def M.peephole_replaceOperands (N : Nat) (a0 : List rNode.den) (a1 : Int) (a2 : Int) (a3 : rNode.den) : Option (List rNode.den) :=
(cutA a0 (0 : Int) (IntKind.i64.wrap (a1 - a2))).bind fun l1 =>
(appA ([] : List rNode.den) l1).bind fun l2 =>
(appA l2 ([a3] : List rNode.den)).bind fun l3 =>
(cutA a0 (IntKind.i64.wrap (a1 + (1 : Int))) (a0.length : Int)).bind fun l4 =>
(appA l3 l4).bind fun l5 =>
Loop (S := Int × List rNode.den) (X := List rNode.den) (fun s6 =>
(if (decide (s6.1 < (l5.length : Int))) = true then
((idx s6.2 s6.1).bind fun x8 =>
((M.peephole_isJump N x8.1).bind fun y10 =>
(if y10 = true then
some (decide (a1 < x8.2))
else
some false) : Option (Bool)).bind fun j9 =>
(if j9 = true then
(idx s6.2 s6.1).bind fun x11 =>
(idx s6.2 s6.1).bind fun x12 =>
some (setL s6.2 s6.1 (x12.1, IntKind.i64.wrap (x11.2 - a2)))
else
some s6.2) : Option (List rNode.den)).bind fun j7 =>
some (Sum.inl (IntKind.i64.wrap (s6.1 + (1 : Int)), j7))
else
some (Sum.inr s6.2))) N ((0 : Int), l5)
noncomputable def S19 (N : Nat) : Sig := { inn := ⟨[(0, .val false (.leaf (.slice rNode))), (1, .val false (.leaf rInt)), (2, .val false (.leaf rInt)), (3, .val true (.leaf rNode))], [], [], 0⟩, out := ⟨[(0, .val false (.own 0))], [(0, .own 39 rNode)], [], 1⟩, fn := fun (x : (List rNode.den) × Int × Int × rNode.den) => M.peephole_replaceOperands N x.1 x.2.1 x.2.2.1 x.2.2.2 }
theorem W19 (N : Nat) : FnOK Tryd.prog 19 (S19 N) := fn_ok (E := ⟨tabs, [(22, S22 N)], (tabcons (W22 N) tabnil), mixed⟩) (N := N) (a := (.two .nil (.two .nil (.two .nil (.two .nil (.two .nil (.two (.two .nil (.two (.loop ⟨[(31, .val false (.leaf rInt))], [(336, .own 39 rNode)], [], 417⟩ (.two .nil (.two .nil (.two (.meet ⟨[], [(336, .own 39 rNode)], [], 434⟩ (.two .nil (.meet ⟨[(44, .val false (.leaf .bool))], [], [], 529⟩ .nil .nil)) .nil) .nil)))) .nil)) .nil))))))) (sg := S19 N) (c := Tryd.f19.body.getD .skip) (rs := Tryd.f19.results.toList) Tryd.func19 (by kernel_rfl) (by kernel_rfl) rfl rfl rfl rfl (fun x => by kernel_rfl)
noncomputable def M.peephole_FoldConstants (N : Nat) (a0 : List rNode.den) : Option (List rNode.den) :=
Join (J := List rNode.den) (R := List rNode.den) ((M.slices_Clone_guerdon_api_Node_guerdon_api_Node N a0).bind fun y1 =>
(M.peephole_accepted N a0).bind fun y2 =>
(if (!y2) = true then
some (Sum.inr y1)
else
some (Sum.inl y1)) : Option ((List rNode.den) ⊕ (List rNode.den))) fun s3 =>
Loop (S := List rNode.den) (X := List rNode.den) (fun s4 =>
Join (J := List rNode.den) (R := (List rNode.den) ⊕ (List rNode.den)) (Loop (S := Int × List rNode.den) (X := (List rNode.den) ⊕ ((List rNode.den) ⊕ (List rNode.den))) (fun s6 =>
(if (decide (s6.1 < (s4.length : Int))) = true then
(M.peephole_fold N s6.2 s6.1).bind fun y7 =>
(if y7.2.2 = true then
(M.peephole_replaceOperands N s6.2 s6.1 y7.2.1 y7.1).bind fun y8 =>
some (Sum.inr (Sum.inr (Sum.inl y8)))
else
some (Sum.inl (IntKind.i64.wrap (s6.1 + (1 : Int)), s6.2)))
else
some (Sum.inr (Sum.inl s6.2)))) N ((0 : Int), s4)) fun j5 =>
some (Sum.inr j5)) N s3
noncomputable def S7 (N : Nat) : Sig := { inn := ⟨[(0, .val false (.leaf (.slice rNode)))], [], [], 0⟩, out := ⟨[(0, .val false (.own 0))], [(0, .own 39 rNode)], [], 1⟩, fn := fun (x : List rNode.den) => M.peephole_FoldConstants N x }
theorem W7 (N : Nat) : FnOK Tryd.prog 7 (S7 N) := fn_okJ (E := ⟨tabs, [(13, S13 N), (14, S14 N), (18, S18 N), (19, S19 N)], (tabcons (W13 N) (tabcons (W14 N) (tabcons (W18 N) (tabcons (W19 N) tabnil)))), mixed⟩) (N := N) (l := 0) (L := ⟨[(3, .val false (.own 16))], [(16, .own 39 rNode)], [], 17⟩) (a0 := .nil) (a1 := (.two .nil (.two .nil .nil))) (a2 := (.join ⟨[(3, .val false (.own 16))], [(16, .own 39 rNode)], [], 18⟩ (.two .nil (.two (.loop ⟨[(3, .val false (.own 16)), (16, .val false (.leaf rInt))], [(16, .own 39 rNode)], [], 66⟩ .nil) .nil)) .nil)) (sg := S7 N) (c := Tryd.f7.body.getD .skip) (rs := Tryd.f7.results.toList) Tryd.func7 (by kernel_rfl) (by kernel_rfl) rfl rfl rfl rfl (fun x => by kernel_rfl)
noncomputable def M.same_Nodes (N : Nat) (a0 : List rNode.den) (a1 : List rNode.den) : Option (Bool) :=
(if (!decide ((a0.length : Int) = (a1.length : Int))) = true then
some false
else
Loop (S := Int) (X := Bool) (fun s1 =>
((if (decide (s1 < (a0.length : Int))) = true then
some (decide (s1 < (a1.length : Int)))
else
some false) : Option (Bool)).bind fun j2 =>
(if j2 = true then
(idx a0 s1).bind fun x3 =>
(idx a1 s1).bind fun x4 =>
(if (!(eqR rNode x3 x4)) = true then
some (Sum.inr false)
else
some (Sum.inl (IntKind.i64.wrap (s1 + (1 : Int)))))
else
some (Sum.inr true))) N (0 : Int))
noncomputable def S8 (N : Nat) : Sig := { inn := ⟨[(0, .val false (.leaf (.slice rNode))), (1, .val false (.leaf (.slice rNode)))], [], [], 0⟩, out := ⟨[(0, .val false (.leaf .bool))], [], [], 0⟩, fn := fun (x : (List rNode.den) × List rNode.den) => M.same_Nodes N x.1 x.2 }
theorem W8 (N : Nat) : FnOK Tryd.prog 8 (S8 N) := fn_ok (E := ⟨tabs, [], tabnil, mixed⟩) (N := N) (a := (.two .nil (.two .nil (.two (.two .nil (.two (.loop ⟨[(5, .val false (.leaf rInt))], [], [], 112⟩ (.two (.meet ⟨[(20, .val false (.leaf .bool))], [], [], 112⟩ .nil .nil) .nil)) .nil)) .nil)))) (sg := S8 N) (c := Tryd.f8.body.getD .skip) (rs := Tryd.f8.results.toList) Tryd.func8 (by kernel_rfl) (by kernel_rfl) rfl rfl rfl rfl (fun x => by kernel_rfl)
noncomputable def M.peephole_ThreadJumps (N : Nat) (a0 : List rNode.den) : Option (List rNode.den) :=
(M.slices_Clone_guerdon_api_Node_guerdon_api_Node N a0).bind fun y1 =>
(M.peephole_accepted N a0).bind fun y2 =>
(if (!y2) = true then
some y1
else
Loop (S := Int × List rNode.den) (X := List rNode.den) (fun s3 =>
(if (decide (s3.1 < (a0.length : Int))) = true then
(((idx a0 s3.1).bind fun x6 =>
(M.peephole_isJump N x6.1).bind fun y7 =>
(if (!y7) = true then
some s3.2
else
(Loop (S := Int) (X := Int) (fun s9 =>
((if (decide ((0 : Int) ≤ s9)) = true then
(if (decide (s9 < (a0.length : Int))) = true then
(idx a0 s9).bind fun x11 =>
(if (decide (x11.1 = (51 : Int))) = true then
(idx a0 s9).bind fun x12 =>
some (decide (s9 < x12.2))
else
some false)
else
some false)
else
some false) : Option (Bool)).bind fun j10 =>
(if j10 = true then
(idx a0 s9).bind fun x13 =>
some (Sum.inl x13.2)
else
some (Sum.inr s9))) N x6.2 : Option (Int)).bind fun j8 =>
(idx s3.2 s3.1).bind fun x14 =>
some (setL s3.2 s3.1 (x14.1, j8))) : Option (List rNode.den)).bind fun j5 =>
some j5 : Option (List rNode.den)).bind fun j4 =>
some (Sum.inl (IntKind.i64.wrap (s3.1 + (1 : Int)), j4))
else
some (Sum.inr s3.2))) N ((0 : Int), y1))
noncomputable def S11 (N : Nat) : Sig := { inn := ⟨[(0, .val false (.leaf (.slice rNode)))], [], [], 0⟩, out := ⟨[(0, .val false (.own 0))], [(0, .own 39 rNode)], [], 1⟩, fn := fun (x : List rNode.den) => M.peephole_ThreadJumps N x }
theorem W11 (N : Nat) : FnOK Tryd.prog 11 (S11 N) := fn_ok (E := ⟨tabs, [(13, S13 N), (14, S14 N), (22, S22 N)], (tabcons (W13 N) (tabcons (W14 N) (tabcons (W22 N) tabnil))), mixed⟩) (N := N) (a := (.two .nil (.two .nil (.two .nil (.two (.two .nil (.two (.loop ⟨[(15, .val false (.leaf rInt))], [(32, .own 39 rNode)], [], 161⟩ (.two .nil (.two .nil (.meet ⟨[], [(32, .own 39 rNode)], [], 178⟩ (.meet ⟨[], [(32, .own 39 rNode)], [], 178⟩ (.two .nil (.two .nil (.two .nil (.meet ⟨[(6, .val false (.leaf rInt))], [], [], 385⟩ (.two (.loop ⟨[(6, .val false (.leaf rInt))], [], [], 385⟩ (.two (.meet ⟨[(50, .val false (.leaf .bool))], [], [], 385⟩ .nil .nil) .nil)) .nil) .nil)))) .nil) .nil)))) .nil)) .nil))))) (sg := S11 N) (c := Tryd.f11.body.getD .skip) (rs := Tryd.f11.results.toList) Tryd.func11 (by kernel_rfl) (by kernel_rfl) rfl rfl rfl rfl (fun x => by kernel_rfl)
noncomputable def M.peephole_Optimize (N : Nat) (a0 : List rNode.den) : Option (List rNode.den) :=
(M.peephole_FoldConstants N a0).bind fun y1 =>
(M.peephole_ThreadJumps N y1).bind fun y2 =>
(M.peephole_RemoveUnreachable N y2).bind fun y3 =>
some y3
noncomputable def S12 (N : Nat) : Sig := { inn := ⟨[(0, .val false (.leaf (.slice rNode)))], [], [], 0⟩, out := ⟨[(0, .val false (.own 0))], [(0, .own 39 rNode)], [], 1⟩, fn := fun (x : List rNode.den) => M.peephole_Optimize N x }
theorem W12 (N : Nat) : FnOK Tryd.prog 12 (S12 N) := fn_ok (E := ⟨tabs, [(6, S6 N), (7, S7 N), (11, S11 N)], (tabcons (W6 N) (tabcons (W7 N) (tabcons (W11 N) tabnil))), mixed⟩) (N := N) (a := .nil) (sg := S12 N) (c := Tryd.f12.body.getD .skip) (rs := Tryd.f12.results.toList) Tryd.func12 (by kernel_rfl) (by kernel_rfl) rfl rfl rfl rfl (fun x => by kernel_rfl)
noncomputable def M.law28_awake (N : Nat) : Option (Bool) :=
((M.peephole_FoldConstants N ([((2 : Int), (2 : Int)), ((2 : Int), (3 : Int)), ((11 : Int), (0 : Int))] : List rNode.den)).bind fun y2 =>
(M.same_Nodes N y2 ([((2 : Int), (5 : Int))] : List rNode.den)).bind fun y3 =>
(if y3 = true then
(M.peephole_FoldConstants N ([((2 : Int), (1 : Int)), ((2 : Int), (0 : Int)), ((15 : Int), (0 : Int))] : List rNode.den)).bind fun y4 =>
(M.same_Nodes N y4 ([((2 : Int), (1 : Int)), ((2 : Int), (0 : Int)), ((15 : Int), (0 : Int))] : List rNode.den)).bind fun y5 =>
(if y5 = true then
(M.peephole_RemoveUnreachable N ([((51 : Int), (2 : Int)), ((11 : Int), (0 : Int)), ((8 : Int), (4 : Int))] : List rNode.den)).bind fun y6 =>
(cutA ([((51 : Int), (2 : Int)), ((11 : Int), (0 : Int)), ((8 : Int), (4 : Int))] : List rNode.den) (2 : Int) (([((51 : Int), (2 : Int)), ((11 : Int), (0 : Int)), ((8 : Int), (4 : Int))] : List rNode.den).length : Int)).bind fun l7 =>
(M.same_Nodes N y6 l7).bind fun y8 =>
(if y8 = true then
(M.peephole_Optimize N ([((51 : Int), (2 : Int)), ((11 : Int), (0 : Int)), ((8 : Int), (4 : Int))] : List rNode.den)).bind fun y9 =>
(cutA ([((51 : Int), (2 : Int)), ((11 : Int), (0 : Int)), ((8 : Int), (4 : Int))] : List rNode.den) (2 : Int) (([((51 : Int), (2 : Int)), ((11 : Int), (0 : Int)), ((8 : Int), (4 : Int))] : List rNode.den).length : Int)).bind fun l10 =>
(M.same_Nodes N y9 l10).bind fun y11 =>
some y11
else
some false)
else
some false)
else
some false) : Option (Bool)).bind fun j1 =>
some j1
noncomputable def S5 (N : Nat) : Sig := { inn := ⟨[], [], [], 0⟩, out := ⟨[(0, .val false (.leaf .bool))], [], [], 0⟩, fn := fun (x : Unit) => M.law28_awake N }
theorem W5 (N : Nat) : FnOK Tryd.prog 5 (S5 N) := fn_ok (E := ⟨tabs, [(6, S6 N), (7, S7 N), (8, S8 N), (12, S12 N)], (tabcons (W6 N) (tabcons (W7 N) (tabcons (W8 N) (tabcons (W12 N) tabnil)))), mixed⟩) (N := N) (a := (.two .nil (.two .nil (.two .nil (.two .nil (.meet ⟨[(0, .val false (.leaf .bool))], [], [], 256⟩ .nil .nil)))))) (sg := S5 N) (c := Tryd.f5.body.getD .skip) (rs := Tryd.f5.results.toList) Tryd.func5 (by kernel_rfl) (by kernel_rfl) rfl rfl rfl rfl (fun x => by kernel_rfl)
noncomputable def M.law28_PeepholeStable (N : Nat) (a0 : List rNode.den) : Option (Bool) :=
(if (decide ((200 : Int) < (a0.length : Int))) = true then
(M.law28_awake N).bind fun y1 =>
some y1
else
(M.peephole_RemoveUnreachable N a0).bind fun y2 =>
(M.peephole_FoldConstants N a0).bind fun y3 =>
((M.peephole_RemoveUnreachable N y2).bind fun y5 =>
(M.same_Nodes N y5 y2).bind fun y6 =>
(if y6 = true then
(M.peephole_FoldConstants N y3).bind fun y7 =>
(M.same_Nodes N y7 y3).bind fun y8 =>
(if y8 = true then
(M.law28_awake N).bind fun y9 =>
some y9
else
some false)
else
some false) : Option (Bool)).bind fun j4 =>
some j4)
noncomputable def S3 (N : Nat) : Sig := { inn := ⟨[(0, .val false (.leaf (.slice rNode)))], [], [], 0⟩, out := ⟨[(0, .val false (.leaf .bool))], [], [], 0⟩, fn := fun (x : List rNode.den) => M.law28_PeepholeStable N x }
theorem W3 (N : Nat) : FnOK Tryd.prog 3 (S3 N) := fn_ok (E := ⟨tabs, [(5, S5 N), (6, S6 N), (7, S7 N), (8, S8 N)], (tabcons (W5 N) (tabcons (W6 N) (tabcons (W7 N) (tabcons (W8 N) tabnil)))), mixed⟩) (N := N) (a := (.two .nil (.two .nil (.two .nil (.meet ⟨[(2, .val false (.leaf .bool))], [], [], 160⟩ .nil .nil))))) (sg := S3 N) (c := Tryd.f3.body.getD .skip) (rs := Tryd.f3.results.toList) Tryd.func3 (by kernel_rfl) (by kernel_rfl) rfl rfl rfl rfl (fun x => by kernel_rfl)
noncomputable def M.vm_isConditional (N : Nat) (a0 : Int) : Option (Bool) :=
((if (decide (a0 = (50 : Int))) = true then
some true
else
(if (decide (a0 = (52 : Int))) = true then
some true
else
some (decide (a0 = (53 : Int))))) : Option (Bool)).bind fun j1 =>
some j1
noncomputable def S31 (N : Nat) : Sig := { inn := ⟨[(0, .val false (.leaf rInt))], [], [], 0⟩, out := ⟨[(0, .val false (.leaf .bool))], [], [], 0⟩, fn := fun (x : Int) => M.vm_isConditional N x }
theorem W31 (N : Nat) : FnOK Tryd.prog 31 (S31 N) := fn_ok (E := ⟨tabs, [], tabnil, mixed⟩) (N := N) (a := (.two .nil (.meet ⟨[(2, .val false (.leaf .bool))], [], [], 16⟩ .nil .nil))) (sg := S31 N) (c := Tryd.f31.body.getD .skip) (rs := Tryd.f31.results.toList) Tryd.func31 (by kernel_rfl) (by kernel_rfl) rfl rfl rfl rfl (fun x => by kernel_rfl)
noncomputable def M.vm_Run (N : Nat) (a0 : List rNode.den) (a1 : rEnv.den) : Option (rValue.den × Int × Int) :=
(M.bytecode_Verify N a0).bind fun y1 =>
(if (!decide (y1.2 = (0 : Int))) = true then
some (((0 : Int), ((0 : Int), (0 : Int))), (0 : Int), (1 : Int))
else
Join (J := Int × List rValue.den) (R := rValue.den × Int × Int) (Loop (S := Int × Int × List rValue.den) (X := (Int × List rValue.den) ⊕ (rValue.den × Int × Int)) (fun s3 =>
(if (decide (s3.2.1 < (a0.length : Int))) = true then
Join (J := Int × Int × List rValue.den) (R := (Int × Int × List rValue.den) ⊕ ((Int × List rValue.den) ⊕ (rValue.den × Int × Int))) ((idx a0 s3.2.1).bind fun x5 =>
(if (decide (x5.1 = (51 : Int))) = true then
some (Sum.inl (IntKind.i64.wrap (s3.1 + (1 : Int)), x5.2, s3.2.2))
else
(M.vm_isConditional N x5.1).bind fun y6 =>
(if (!y6) = true then
(M.expr_Arity N x5.1).bind fun y7 =>
(cutA s3.2.2 (IntKind.i64.wrap ((s3.2.2.length : Int) - y7)) (s3.2.2.length : Int)).bind fun l8 =>
(M.eval_Apply N x5 l8 a1).bind fun y9 =>
(if (!decide (y9.2 = (0 : Int))) = true then
some (Sum.inr (Sum.inr (Sum.inr (((0 : Int), ((0 : Int), (0 : Int))), (0 : Int), y9.2))))
else
(cutA s3.2.2 (0 : Int) (IntKind.i64.wrap ((s3.2.2.length : Int) - y7))).bind fun l10 =>
(appA l10 ([y9.1] : List rValue.den)).bind fun l11 =>
some (Sum.inl (IntKind.i64.wrap (s3.1 + (1 : Int)), IntKind.i64.wrap (s3.2.1 + (1 : Int)), l11)))
else
(idx s3.2.2 (IntKind.i64.wrap ((s3.2.2.length : Int) - (1 : Int)))).bind fun x12 =>
((if (!decide (x12.1 = (1 : Int))) = true then
some true
else
(if (!decide (x12.2.2 = (0 : Int))) = true then
some (!decide (x12.2.2 = (1 : Int)))
else
some false)) : Option (Bool)).bind fun j13 =>
(if j13 = true then
some (Sum.inr (Sum.inr (Sum.inr (((0 : Int), ((0 : Int), (0 : Int))), (0 : Int), (8 : Int)))))
else
((if (decide ((decide (x12.2.2 = (1 : Int))) = (decide (x5.1 = (53 : Int))))) = true then
some x5.2
else
some (IntKind.i64.wrap (s3.2.1 + (1 : Int)))) : Option (Int)).bind fun j14 =>
((if (!(decide ((decide (x12.2.2 = (1 : Int))) = (decide (x5.1 = (53 : Int)))))) = true then
some true
else
some (decide (x5.1 = (50 : Int)))) : Option (Bool)).bind fun j15 =>
(if j15 = true then
(cutA s3.2.2 (0 : Int) (IntKind.i64.wrap ((s3.2.2.length : Int) - (1 : Int)))).bind fun l16 =>
some (Sum.inl (IntKind.i64.wrap (s3.1 + (1 : Int)), j14, l16))
else
some (Sum.inl (IntKind.i64.wrap (s3.1 + (1 : Int)), j14, s3.2.2))))))) fun j4 =>
some (Sum.inl (j4.1, j4.2.1, j4.2.2))
else
some (Sum.inr (Sum.inl (s3.1, s3.2.2))))) N ((0 : Int), (0 : Int), ([] : List rValue.den))) fun j2 =>
(idx j2.2 (0 : Int)).bind fun x17 =>
some (x17, j2.1, (0 : Int)))
noncomputable def S21 (N : Nat) : Sig := { inn := ⟨[(0, .val false (.leaf (.slice rNode))), (1, .val true (.leaf rEnv))], [], [], 0⟩, out := ⟨[(0, .val true (.leaf rValue)), (1, .val false (.leaf rInt)), (2, .val false (.leaf rInt))], [], [], 0⟩, fn := fun (x : (List rNode.den) × rEnv.den) => M.vm_Run N x.1 x.2 }
theorem W21 (N : Nat) : FnOK Tryd.prog 21 (S21 N) := fn_ok (E := ⟨tabs, [(9, S9 N), (24, S24 N), (26, S26 N), (31, S31 N)], (tabcons (W9 N) (tabcons (W24 N) (tabcons (W26 N) (tabcons (W31 N) tabnil)))), mixed⟩) (N := N) (a := (.two .nil (.two .nil (.two .nil (.two .nil (.join ⟨[(9, .val false (.own 240)), (10, .val false (.leaf rInt))], [(240, .own 53 rValue)], [], 241⟩ (.two .nil (.two (.loop ⟨[(9, .val false (.own 256)), (10, .val false (.leaf rInt)), (11, .val false (.leaf rInt))], [(256, .own 53 rValue)], [], 257⟩ (.two .nil (.join ⟨[(9, .val false (.own 321)), (10, .val false (.leaf rInt)), (11, .val false (.leaf rInt))], [(321, .own 53 rValue)], [256], 322⟩ (.two .nil (.two .nil (.two .nil (.two .nil (.two .nil (.two .nil (.two (.meet ⟨[(90, .val false (.leaf .bool))], [], [], 753⟩ .nil .nil) (.two .nil (.meet ⟨[(11, .val false (.leaf rInt))], [], [], 881⟩ .nil (.meet ⟨[(108, .val false (.leaf .bool))], [], [], 881⟩ .nil .nil)))))))))) .nil))) .nil)) .nil)))))) (sg := S21 N) (c := Tryd.f21.body.getD .skip) (rs := Tryd.f21.results.toList) Tryd.func21 (by kernel_rfl) (by kernel_rfl) rfl rfl rfl rfl (fun x => by kernel_rfl)
noncomputable def M.law28_agree (N : Nat) (a0 : List rNode.den) (a1 : List rNode.den) (a2 : rEnv.den) : Option (Bool) :=
(M.vm_Run N a0 a2).bind fun y1 =>
(M.vm_Run N a1 a2).bind fun y2 =>
(M.bytecode_Verify N a1).bind fun y3 =>
((if (eqR rValue y1.1 y2.1) = true then
(if (decide (y1.2.2 = y2.2.2)) = true then
(if (decide (y3.2 = (0 : Int))) = true then
some (decide ((a1.length : Int) ≤ (a0.length : Int)))
else
some false)
else
some false)
else
some false) : Option (Bool)).bind fun j4 =>
some j4
noncomputable def S10 (N : Nat) : Sig := { inn := ⟨[(0, .val false (.leaf (.slice rNode))), (1, .val false (.leaf (.slice rNode))), (2, .val true (.leaf rEnv))], [], [], 0⟩, out := ⟨[(0, .val false (.leaf .bool))], [], [], 0⟩, fn := fun (x : (List rNode.den) × (List rNode.den) × rEnv.den) => M.law28_agree N x.1 x.2.1 x.2.2 }
theorem W10 (N : Nat) : FnOK Tryd.prog 10 (S10 N) := fn_ok (E := ⟨tabs, [(9, S9 N), (21, S21 N)], (tabcons (W9 N) (tabcons (W21 N) tabnil)), mixed⟩) (N := N) (a := (.two .nil (.two .nil (.two .nil (.two .nil (.meet ⟨[(6, .val false (.leaf .bool))], [], [], 496⟩ .nil .nil)))))) (sg := S10 N) (c := Tryd.f10.body.getD .skip) (rs := Tryd.f10.results.toList) Tryd.func10 (by kernel_rfl) (by kernel_rfl) rfl rfl rfl rfl (fun x => by kernel_rfl)
noncomputable def M.law28_PeepholePreserves (N : Nat) (a0 : List rNode.den) (a1 : rEnv.den) : Option (Bool) :=
(M.bytecode_Verify N a0).bind fun y1 =>
((if (decide ((200 : Int) < (a0.length : Int))) = true then
some true
else
(if (decide ((50 : Int) < (a1.2.1.length : Int))) = true then
some true
else
(if (decide ((50 : Int) < (a1.2.2.1.length : Int))) = true then
some true
else
(if (decide ((20 : Int) < (a1.2.2.2.1.length : Int))) = true then
some true
else
(if (decide ((10 : Int) < (a1.2.2.2.2.2.length : Int))) = true then
some true
else
some (!decide (y1.2 = (0 : Int)))))))) : Option (Bool)).bind fun j2 =>
(if j2 = true then
(M.law28_awake N).bind fun y3 =>
some y3
else
((M.peephole_FoldConstants N a0).bind fun y5 =>
(M.law28_agree N a0 y5 a1).bind fun y6 =>
(if y6 = true then
(M.peephole_ThreadJumps N a0).bind fun y7 =>
(M.law28_agree N a0 y7 a1).bind fun y8 =>
(if y8 = true then
(M.peephole_RemoveUnreachable N a0).bind fun y9 =>
(M.law28_agree N a0 y9 a1).bind fun y10 =>
(if y10 = true then
(M.peephole_Optimize N a0).bind fun y11 =>
(M.law28_agree N a0 y11 a1).bind fun y12 =>
(if y12 = true then
(M.law28_awake N).bind fun y13 =>
some y13
else
some false)
else
some false)
else
some false)
else
some false) : Option (Bool)).bind fun j4 =>
some j4)
noncomputable def S4 (N : Nat) : Sig := { inn := ⟨[(0, .val false (.leaf (.slice rNode))), (1, .val true (.leaf rEnv))], [], [], 0⟩, out := ⟨[(0, .val false (.leaf .bool))], [], [], 0⟩, fn := fun (x : (List rNode.den) × rEnv.den) => M.law28_PeepholePreserves N x.1 x.2 }
theorem W4 (N : Nat) : FnOK Tryd.prog 4 (S4 N) := fn_ok (E := ⟨tabs, [(5, S5 N), (6, S6 N), (7, S7 N), (9, S9 N), (10, S10 N), (11, S11 N), (12, S12 N)], (tabcons (W5 N) (tabcons (W6 N) (tabcons (W7 N) (tabcons (W9 N) (tabcons (W10 N) (tabcons (W11 N) (tabcons (W12 N) tabnil))))))), mixed⟩) (N := N) (a := (.two .nil (.two .nil (.two (.meet ⟨[(42, .val false (.leaf .bool))], [], [], 144⟩ .nil .nil) (.meet ⟨[(4, .val false (.leaf .bool))], [], [], 144⟩ .nil .nil))))) (sg := S4 N) (c := Tryd.f4.body.getD .skip) (rs := Tryd.f4.results.toList) Tryd.func4 (by kernel_rfl) (by kernel_rfl) rfl rfl rfl rfl (fun x => by kernel_rfl)
end Go.Proofs.YtpgggmcpflgniaaDoor
