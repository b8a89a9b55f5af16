/- Written by rx.py: models and walks. -/
import Derived.Test.YtjeeligfdpociabGreatJump
import Derived.Test.YtjeeligfdpociabGreatProg
import Derived.Test.YtjeeligfdpociabGreatShelf
import Derived.Test.YtjeeligfdpociabGreatLays
namespace Go.Proofs.YtjeeligfdpociabGreat
open Go Go.RowKit
set_option maxRecDepth 100000
set_option linter.unusedVariables false

@[reducible] def rType : Row := .pair rInt rInt
@[reducible] def rField : Row := .pair .str rType
@[reducible] def rRule : Row := .pair .str (.pair rInt (.pair rInt (.pair rInt (.pair rType (.pair (.slice rType) (.pair (.slice rType) .str))))))
@[reducible] def rScope : Row := .pair .str (.pair rInt (.pair (.slice rField) (.pair (.slice rField) (.slice rRule))))
@[reducible] def rEnum : Row := .pair .str (.slice .str)
@[reducible] def rRow : Row := .pair rType (.pair rInt rType)
@[reducible] def rTable : Row := .pair .str (.pair rType (.pair rType (.slice rRow)))
@[reducible] def rLaw : Row := .pair (.slice rEnum) (.pair (.slice rTable) (.slice rScope))
@[reducible] def rLawError : Row := .pair rInt (.pair rInt rType)
@[reducible] def rSignature : Row := .pair (.slice rEnum) (.pair (.slice rTable) (.pair (.slice rType) (.pair (.slice rType) (.pair (.slice rType) .bool))))
theorem Ti3 : TI Tryz.prog 3 rInt := TI.mk (k := 1) (by kernel_rfl) rfl
theorem Ti4 : TI Tryz.prog 4 .bool := TI.mk (k := 1) (by kernel_rfl) rfl
theorem Ti9 : TI Tryz.prog 9 .str := TI.mk (k := 1) (by kernel_rfl) rfl
theorem Ti22 : TI Tryz.prog 22 (.slice rEnum) := TI.mk (k := 1) (by kernel_rfl) rfl
theorem Ti23 : TI Tryz.prog 23 (.slice rTable) := TI.mk (k := 1) (by kernel_rfl) rfl
theorem Ti24 : TI Tryz.prog 24 (.slice rScope) := TI.mk (k := 1) (by kernel_rfl) rfl
theorem Ti26 : TI Tryz.prog 26 rLaw := TI.mk (k := 3) (by kernel_rfl) rfl
theorem Ti28 : TI Tryz.prog 28 rInt := TI.mk (k := 1) (by kernel_rfl) rfl
theorem Ti30 : TI Tryz.prog 30 rLawError := TI.mk (k := 4) (by kernel_rfl) rfl
theorem Ti33 : TI Tryz.prog 33 (.slice rField) := TI.mk (k := 1) (by kernel_rfl) rfl
theorem Ti34 : TI Tryz.prog 34 (.slice rRule) := TI.mk (k := 1) (by kernel_rfl) rfl
theorem Ti36 : TI Tryz.prog 36 rScope := TI.mk (k := 5) (by kernel_rfl) rfl
theorem Ti37 : TI Tryz.prog 37 (.slice rType) := TI.mk (k := 1) (by kernel_rfl) rfl
theorem Ti39 : TI Tryz.prog 39 rSignature := TI.mk (k := 6) (by kernel_rfl) rfl
theorem Ti43 : TI Tryz.prog 43 rType := TI.mk (k := 2) (by kernel_rfl) rfl
theorem Ti44 : TI Tryz.prog 44 (.slice rType) := TI.mk (k := 1) (by kernel_rfl) rfl
theorem Ti46 : TI Tryz.prog 46 rRule := TI.mk (k := 9) (by kernel_rfl) rfl
theorem Ti47 : TI Tryz.prog 47 (.slice rInt) := TI.mk (k := 1) (by kernel_rfl) rfl
theorem Ti50 : TI Tryz.prog 50 (.slice .str) := TI.mk (k := 1) (by kernel_rfl) rfl
theorem Ti52 : TI Tryz.prog 52 rEnum := TI.mk (k := 2) (by kernel_rfl) rfl
theorem Ti54 : TI Tryz.prog 54 rType := TI.mk (k := 2) (by kernel_rfl) rfl
theorem Ti55 : TI Tryz.prog 55 (.slice rRow) := TI.mk (k := 1) (by kernel_rfl) rfl
theorem Ti57 : TI Tryz.prog 57 rTable := TI.mk (k := 6) (by kernel_rfl) rfl
theorem Ti61 : TI Tryz.prog 61 rType := TI.mk (k := 2) (by kernel_rfl) rfl
theorem Ti67 : TI Tryz.prog 67 rField := TI.mk (k := 3) (by kernel_rfl) rfl
theorem Ti71 : TI Tryz.prog 71 (.slice rInt) := TI.mk (k := 1) (by kernel_rfl) rfl
theorem Ti88 : TI Tryz.prog 88 rRow := TI.mk (k := 5) (by kernel_rfl) rfl
theorem Ti167 : TI Tryz.prog 167 (.int .u64) := TI.mk (k := 1) (by kernel_rfl) rfl
theorem Eq3 : EqOK Tryz.prog 3 rInt 1 := eqT_int Tryz.underlying3
theorem Eq54 : EqOK Tryz.prog 54 rType 2 := eqT_struct Tryz.underlying54 (by kernel_rfl) (eqF_cons rfl rfl Tryz.underlying3 (by simp [aggD]) Ti3 Eq3 (eqF_last rfl rfl Tryz.underlying3 (by simp [aggD]) Ti3 Eq3))
theorem Eq28 : EqOK Tryz.prog 28 rInt 1 := eqT_int Tryz.underlying28
theorem Eq30 : EqOK Tryz.prog 30 rLawError 2 := eqT_struct Tryz.underlying30 (by kernel_rfl) (eqF_cons rfl rfl Tryz.underlying28 (by simp [aggD]) Ti28 Eq28 (eqF_cons rfl rfl Tryz.underlying3 (by simp [aggD]) Ti3 Eq3 (eqF_cons rfl rfl Tryz.underlying3 (by simp [aggD]) Ti3 Eq3 (eqF_last rfl rfl Tryz.underlying3 (by simp [aggD]) Ti3 Eq3))))
theorem tu : ∀ p ∈ ([(3, .int .i64), (4, .bool), (5, .int .u8), (9, .str), (20, .other), (22, .slice 52), (23, .slice 57), (24, .slice 36), (26, .struct [(22, 0), (23, 1), (24, 2)]), (28, .int .i64), (30, .struct [(28, 0), (3, 1), (3, 2), (3, 3)]), (33, .slice 67), (34, .slice 46), (36, .struct [(9, 0), (3, 1), (33, 2), (33, 3), (34, 4)]), (37, .slice 54), (39, .struct [(22, 0), (23, 1), (37, 2), (37, 3), (37, 4), (4, 5)]), (43, .struct [(3, 0), (3, 1)]), (44, .slice 61), (46, .struct [(9, 0), (3, 1), (3, 2), (3, 3), (43, 4), (44, 6), (44, 7), (9, 8)]), (47, .slice 3), (50, .slice 9), (52, .struct [(9, 0), (50, 1)]), (54, .struct [(3, 0), (3, 1)]), (55, .slice 88), (57, .struct [(9, 0), (54, 1), (54, 3), (55, 5)]), (58, .other), (61, .struct [(3, 0), (3, 1)]), (67, .struct [(9, 0), (54, 1)]), (68, .slice 47), (70, .ptr 71), (71, .slice 3), (88, .struct [(43, 0), (3, 2), (3, 3), (3, 4)]), (98, .other), (111, .other), (115, .other), (117, .other), (140, .other), (143, .other), (150, .int .u64), (154, .slice 4), (163, .int .u32), (165, .int .u64), (167, .int .u64), (171, .ptr 3), (173, .ptr 167)] : List (Nat × TyK)), TyKOK Tryz.prog p.1 p.2 := by
  simp only [List.forall_mem_cons]
  exact ⟨Tryz.underlying3, Tryz.underlying4, Tryz.underlying5, Tryz.underlying9, ⟨_, Tryz.underlying20, rfl⟩, Tryz.underlying22, Tryz.underlying23, Tryz.underlying24, ⟨_, Tryz.underlying26, rfl⟩, Tryz.underlying28, ⟨_, Tryz.underlying30, rfl⟩, Tryz.underlying33, Tryz.underlying34, ⟨_, Tryz.underlying36, rfl⟩, Tryz.underlying37, ⟨_, Tryz.underlying39, rfl⟩, ⟨_, Tryz.underlying43, rfl⟩, Tryz.underlying44, ⟨_, Tryz.underlying46, rfl⟩, Tryz.underlying47, Tryz.underlying50, ⟨_, Tryz.underlying52, rfl⟩, ⟨_, Tryz.underlying54, rfl⟩, Tryz.underlying55, ⟨_, Tryz.underlying57, rfl⟩, ⟨_, Tryz.underlying58, rfl⟩, ⟨_, Tryz.underlying61, rfl⟩, ⟨_, Tryz.underlying67, rfl⟩, Tryz.underlying68, Tryz.underlying70, Tryz.underlying71, ⟨_, Tryz.underlying88, rfl⟩, ⟨_, Tryz.underlying98, rfl⟩, ⟨_, Tryz.underlying111, rfl⟩, ⟨_, Tryz.underlying115, rfl⟩, ⟨_, Tryz.underlying117, rfl⟩, ⟨_, Tryz.underlying140, rfl⟩, ⟨_, Tryz.underlying143, rfl⟩, Tryz.underlying150, Tryz.underlying154, Tryz.underlying163, Tryz.underlying165, Tryz.underlying167, Tryz.underlying171, Tryz.underlying173,  fun _ h => absurd h (by simp)⟩
theorem tr : ∀ p ∈ ([(3, rInt), (4, .bool), (9, .str), (22, (.slice rEnum)), (23, (.slice rTable)), (24, (.slice rScope)), (26, rLaw), (28, rInt), (30, rLawError), (33, (.slice rField)), (34, (.slice rRule)), (36, rScope), (37, (.slice rType)), (39, rSignature), (43, rType), (44, (.slice rType)), (46, rRule), (47, (.slice rInt)), (50, (.slice .str)), (52, rEnum), (54, rType), (55, (.slice rRow)), (57, rTable), (61, rType), (67, rField), (71, (.slice rInt)), (88, rRow), (167, (.int .u64))] : List (Nat × Row)), TI Tryz.prog p.1 p.2 := by
  simp only [List.forall_mem_cons]
  exact ⟨Ti3, Ti4, Ti9, Ti22, Ti23, Ti24, Ti26, Ti28, Ti30, Ti33, Ti34, Ti36, Ti37, Ti39, Ti43, Ti44, Ti46, Ti47, Ti50, Ti52, Ti54, Ti55, Ti57, Ti61, Ti67, Ti71, Ti88, Ti167,  fun _ h => absurd h (by simp)⟩
theorem te : ∀ p ∈ ([(30, rLawError), (54, rType)] : List (Nat × Row)), ∃ K d, EqOK Tryz.prog p.1 p.2 K ∧ d + K = 10000 ∧ Tryz.prog.eqGuardType Tryz.prog.depth p.1 = false ∧ (Tryz.prog.underlying p.1).any aggD = true := by
  simp only [List.forall_mem_cons]
  exact ⟨⟨2, 9998, Eq30, rfl, by kernel_rfl, by kernel_rfl⟩, ⟨2, 9998, Eq54, rfl, by kernel_rfl, by kernel_rfl⟩,  fun _ h => absurd h (by simp)⟩
theorem tm : ∀ p ∈ ([(70, ("Len", (21, false))), (70, ("Less", (135, false))), (70, ("Pop", (136, true))), (70, ("Push", (137, true))), (70, ("Swap", (138, false)))] : List (TypeId × (String × (FuncId × Bool)))), MthOK Tryz.prog p.1 p.2.1 p.2.2.1 p.2.2.2 := by
  simp only [List.forall_mem_cons]
  exact ⟨(by unfold MthOK; kernel_rfl), (by unfold MthOK; kernel_rfl), (by unfold MthOK; kernel_rfl), (by unfold MthOK; kernel_rfl), (by unfold MthOK; kernel_rfl),  fun _ h => absurd h (by simp)⟩
def tabs : Tabs Tryz.prog := ⟨_, _, _, [], forall_find tu, forall_find tr, forall_find te, fun _ _ _ h => (by cases h), _, tm⟩
theorem mixed : Tryz.prog.follows .mixedOrders = true := by kernel_rfl
noncomputable def M.same_smallScope (N : Nat) (a0 : rScope.den) : Option (Bool) :=
((if (decide ((80 : Int) < (a0.1.size : Int))) = true then
some true
else
(if (decide ((14 : Int) < (a0.2.2.1.length : Int))) = true then
some true
else
(if (decide ((14 : Int) < (a0.2.2.2.1.length : Int))) = true then
some true
else
some (decide ((60 : Int) < (a0.2.2.2.2.length : Int)))))) : Option (Bool)).bind fun j1 =>
(if j1 = true then
some false
else
Join (J := Unit) (R := Bool) (Loop (S := Int) (X := (Unit) ⊕ (Bool)) (fun s3 =>
(if (decide (s3 < (a0.2.2.1.length : Int))) = true then
(idx a0.2.2.1 s3).bind fun x4 =>
(if (decide ((80 : Int) < (x4.1.size : Int))) = true then
some (Sum.inr (Sum.inr false))
else
some (Sum.inl (IntKind.i64.wrap (s3 + (1 : Int)))))
else
some (Sum.inr (Sum.inl ())))) N (0 : Int)) fun j2 =>
Join (J := Unit) (R := Bool) (Loop (S := Int) (X := (Unit) ⊕ (Bool)) (fun s6 =>
(if (decide (s6 < (a0.2.2.2.1.length : Int))) = true then
(idx a0.2.2.2.1 s6).bind fun x7 =>
(if (decide ((80 : Int) < (x7.1.size : Int))) = true then
some (Sum.inr (Sum.inr false))
else
some (Sum.inl (IntKind.i64.wrap (s6 + (1 : Int)))))
else
some (Sum.inr (Sum.inl ())))) N (0 : Int)) fun j5 =>
Loop (S := Int) (X := Bool) (fun s8 =>
(if (decide (s8 < (a0.2.2.2.2.length : Int))) = true then
(idx a0.2.2.2.2 s8).bind fun x9 =>
((if (decide ((80 : Int) < (x9.1.size : Int))) = true then
some true
else
(if (decide ((80 : Int) < (x9.2.2.2.2.2.2.2.size : Int))) = true then
some true
else
(if (decide ((50 : Int) < (x9.2.2.2.2.2.1.length : Int))) = true then
some true
else
some (decide ((50 : Int) < (x9.2.2.2.2.2.2.1.length : Int)))))) : Option (Bool)).bind fun j10 =>
(if j10 = true then
some (Sum.inr false)
else
some (Sum.inl (IntKind.i64.wrap (s8 + (1 : Int)))))
else
some (Sum.inr true))) N (0 : Int))
noncomputable def S10 (N : Nat) : Sig := { inn := ⟨[(0, .val true (.leaf rScope))], [], [], 0⟩, out := ⟨[(0, .val false (.leaf .bool))], [], [], 0⟩, fn := fun (x : rScope.den) => M.same_smallScope N x }
theorem W10 (N : Nat) : FnOK Tryz.prog 10 (S10 N) := fn_ok (E := ⟨tabs, [], tabnil, mixed, false, false⟩) (N := N) (a := (.two .nil (.two (.meet ⟨[(28, .val false (.leaf .bool))], [], [], 32⟩ .nil .nil) (.join ⟨[], [], [], 32⟩ (.two .nil (.two (.loop ⟨[(3, .val false (.leaf rInt))], [], [], 48⟩ .nil) .nil)) (.join ⟨[], [], [], 32⟩ (.two .nil (.two (.loop ⟨[(4, .val false (.leaf rInt))], [], [], 48⟩ .nil) .nil)) (.two (.two .nil (.two (.loop ⟨[(5, .val false (.leaf rInt))], [], [], 48⟩ (.two .nil (.two (.two (.two .nil (.meet ⟨[(92, .val false (.leaf .bool))], [], [], 240⟩ .nil .nil)) .nil) .nil))) .nil)) .nil)))))) (sg := S10 N) (c := Tryz.f10.body.getD .skip) (rs := Tryz.f10.results.toList) Tryz.func10 (by kernel_rfl) (by kernel_rfl) rfl rfl rfl rfl (fun x => by kernel_rfl)
noncomputable def M.same_SmallLaw (N : Nat) (a0 : rLaw.den) : Option (Bool) :=
((if (decide ((9 : Int) < (a0.1.length : Int))) = true then
some true
else
(if (decide ((9 : Int) < (a0.2.1.length : Int))) = true then
some true
else
some (decide ((5 : Int) < (a0.2.2.length : Int))))) : Option (Bool)).bind fun j1 =>
(if j1 = true then
some false
else
Join (J := Unit) (R := Bool) (Loop (S := Int) (X := (Unit) ⊕ (Bool)) (fun s3 =>
(if (decide (s3 < (a0.1.length : Int))) = true then
Join (J := Unit) (R := (Int) ⊕ ((Unit) ⊕ (Bool))) (((idx a0.1 s3).bind fun x6 =>
(if (decide ((80 : Int) < (x6.1.size : Int))) = true then
some true
else
(idx a0.1 s3).bind fun x7 =>
some (decide ((20 : Int) < (x7.2.length : Int)))) : Option (Bool)).bind fun j5 =>
(if j5 = true then
some (Sum.inr (Sum.inr (Sum.inr false)))
else
Loop (S := Int) (X := (Unit) ⊕ ((Int) ⊕ ((Unit) ⊕ (Bool)))) (fun s8 =>
(idx a0.1 s3).bind fun x9 =>
(if (decide (s8 < (x9.2.length : Int))) = true then
(idx a0.1 s3).bind fun x10 =>
(idx x10.2 s8).bind fun x11 =>
(if (decide ((80 : Int) < (x11.size : Int))) = true then
some (Sum.inr (Sum.inr (Sum.inr (Sum.inr false))))
else
some (Sum.inl (IntKind.i64.wrap (s8 + (1 : Int)))))
else
some (Sum.inr (Sum.inl ())))) N (0 : Int))) fun j4 =>
some (Sum.inl (IntKind.i64.wrap (s3 + (1 : Int))))
else
some (Sum.inr (Sum.inl ())))) N (0 : Int)) fun j2 =>
Join (J := Unit) (R := Bool) (Loop (S := Int × Int) (X := (Unit) ⊕ (Bool)) (fun s13 =>
(if (decide (s13.2 < (a0.2.1.length : Int))) = true then
(idx a0.2.1 s13.2).bind fun x14 =>
((idx a0.2.1 s13.2).bind fun x16 =>
(if (decide ((80 : Int) < (x16.1.size : Int))) = true then
some true
else
some (decide ((150 : Int) < (IntKind.i64.wrap (s13.1 + (x14.2.2.2.length : Int)))))) : Option (Bool)).bind fun j15 =>
(if j15 = true then
some (Sum.inr (Sum.inr false))
else
some (Sum.inl (IntKind.i64.wrap (s13.1 + (x14.2.2.2.length : Int)), IntKind.i64.wrap (s13.2 + (1 : Int)))))
else
some (Sum.inr (Sum.inl ())))) N ((0 : Int), (0 : Int))) fun j12 =>
Loop (S := Int × Int) (X := Bool) (fun s17 =>
(if (decide (s17.2 < (a0.2.2.length : Int))) = true then
(idx a0.2.2 s17.2).bind fun x18 =>
((if (decide ((60 : Int) < (IntKind.i64.wrap (s17.1 + (x18.2.2.2.2.length : Int))))) = true then
some true
else
(idx a0.2.2 s17.2).bind fun x20 =>
(M.same_smallScope N x20).bind fun y21 =>
some (!y21)) : Option (Bool)).bind fun j19 =>
(if j19 = true then
some (Sum.inr false)
else
some (Sum.inl (IntKind.i64.wrap (s17.1 + (x18.2.2.2.2.length : Int)), IntKind.i64.wrap (s17.2 + (1 : Int)))))
else
some (Sum.inr true))) N ((0 : Int), (0 : Int)))
noncomputable def S4 (N : Nat) : Sig := { inn := ⟨[(0, .val true (.leaf rLaw))], [], [], 0⟩, out := ⟨[(0, .val false (.leaf .bool))], [], [], 0⟩, fn := fun (x : rLaw.den) => M.same_SmallLaw N x }
theorem W4 (N : Nat) : FnOK Tryz.prog 4 (S4 N) := fn_ok (E := ⟨tabs, [(10, S10 N)], (tabcons (W10 N) tabnil), mixed, false, false⟩) (N := N) (a := (.two .nil (.two (.meet ⟨[(24, .val false (.leaf .bool))], [], [], 32⟩ .nil .nil) (.two .nil (.two .nil (.join ⟨[], [], [], 64⟩ (.two .nil (.two (.loop ⟨[(5, .val false (.leaf rInt))], [], [], 80⟩ (.two .nil (.join ⟨[], [], [], 160⟩ (.two (.two (.meet ⟨[(49, .val false (.leaf .bool))], [], [], 160⟩ .nil .nil) (.two .nil (.two (.loop ⟨[(6, .val false (.leaf rInt))], [], [], 176⟩ .nil) .nil))) .nil) .nil))) .nil)) (.join ⟨[], [], [], 64⟩ (.two .nil (.two (.loop ⟨[(3, .val false (.leaf rInt)), (7, .val false (.leaf rInt))], [], [], 80⟩ (.two .nil (.two (.two (.two .nil (.meet ⟨[(99, .val false (.leaf .bool))], [], [], 320⟩ .nil .nil)) .nil) .nil))) .nil)) (.two (.two .nil (.two (.loop ⟨[(4, .val false (.leaf rInt)), (8, .val false (.leaf rInt))], [], [], 80⟩ (.two .nil (.two (.two (.two .nil (.meet ⟨[(126, .val false (.leaf .bool))], [], [], 320⟩ .nil .nil)) .nil) .nil))) .nil)) .nil)))))))) (sg := S4 N) (c := Tryz.f4.body.getD .skip) (rs := Tryz.f4.results.toList) Tryz.func4 (by kernel_rfl) (by kernel_rfl) rfl rfl rfl rfl (fun x => by kernel_rfl)
noncomputable def M.lexer_isLower (N : Nat) (a0 : Int) : Option (Bool) :=
((if (decide ((97 : Int) ≤ a0)) = true then
some (decide (a0 ≤ (122 : Int)))
else
some false) : Option (Bool)).bind fun j1 =>
some j1
noncomputable def S47 (N : Nat) : Sig := { inn := ⟨[(0, .val false (.leaf (.int .u8)))], [], [], 0⟩, out := ⟨[(0, .val false (.leaf .bool))], [], [], 0⟩, fn := fun (x : Int) => M.lexer_isLower N x }
theorem W47 (N : Nat) : FnOK Tryz.prog 47 (S47 N) := fn_ok (E := ⟨tabs, [], tabnil, mixed, false, false⟩) (N := N) (a := (.two .nil (.meet ⟨[(2, .val false (.leaf .bool))], [], [], 16⟩ .nil .nil))) (sg := S47 N) (c := Tryz.f47.body.getD .skip) (rs := Tryz.f47.results.toList) Tryz.func47 (by kernel_rfl) (by kernel_rfl) rfl rfl rfl rfl (fun x => by kernel_rfl)
noncomputable def M.lexer_isDigit (N : Nat) (a0 : Int) : Option (Bool) :=
((if (decide ((48 : Int) ≤ a0)) = true then
some (decide (a0 ≤ (57 : Int)))
else
some false) : Option (Bool)).bind fun j1 =>
some j1
noncomputable def S72 (N : Nat) : Sig := { inn := ⟨[(0, .val false (.leaf (.int .u8)))], [], [], 0⟩, out := ⟨[(0, .val false (.leaf .bool))], [], [], 0⟩, fn := fun (x : Int) => M.lexer_isDigit N x }
theorem W72 (N : Nat) : FnOK Tryz.prog 72 (S72 N) := fn_ok (E := ⟨tabs, [], tabnil, mixed, false, false⟩) (N := N) (a := (.two .nil (.meet ⟨[(2, .val false (.leaf .bool))], [], [], 16⟩ .nil .nil))) (sg := S72 N) (c := Tryz.f72.body.getD .skip) (rs := Tryz.f72.results.toList) Tryz.func72 (by kernel_rfl) (by kernel_rfl) rfl rfl rfl rfl (fun x => by kernel_rfl)
noncomputable def M.lexer_nameLength (N : Nat) (a0 : ByteArray) : Option (Int) :=
Loop (S := Int) (X := Int) (fun s1 =>
((if (decide (s1 < (a0.size : Int))) = true then
(byteA a0 s1).bind fun x3 =>
(M.lexer_isLower N x3).bind fun y4 =>
(if y4 = true then
some true
else
(byteA a0 s1).bind fun x5 =>
(M.lexer_isDigit N x5).bind fun y6 =>
(if y6 = true then
some true
else
(byteA a0 s1).bind fun x7 =>
some (decide (x7 = (95 : Int)))))
else
some false) : Option (Bool)).bind fun j2 =>
(if j2 = true then
some (Sum.inl (IntKind.i64.wrap (s1 + (1 : Int))))
else
some (Sum.inr s1))) N (0 : Int)
noncomputable def S48 (N : Nat) : Sig := { inn := ⟨[(0, .val false (.leaf .str))], [], [], 0⟩, out := ⟨[(0, .val false (.leaf rInt))], [], [], 0⟩, fn := fun (x : ByteArray) => M.lexer_nameLength N x }
theorem W48 (N : Nat) : FnOK Tryz.prog 48 (S48 N) := fn_ok (E := ⟨tabs, [(47, S47 N), (72, S72 N)], (tabcons (W47 N) (tabcons (W72 N) tabnil)), mixed, false, false⟩) (N := N) (a := (.two .nil (.two .nil (.two (.two (.loop ⟨[(3, .val false (.leaf rInt))], [], [], 32⟩ (.two (.meet ⟨[(25, .val false (.leaf .bool))], [], [], 32⟩ .nil .nil) .nil)) .nil) .nil)))) (sg := S48 N) (c := Tryz.f48.body.getD .skip) (rs := Tryz.f48.results.toList) Tryz.func48 (by kernel_rfl) (by kernel_rfl) rfl rfl rfl rfl (fun x => by kernel_rfl)
noncomputable def M.lexer_reserved (N : Nat) (a0 : ByteArray) : Option (Bool) :=
((if (decide (a0 = (⟨#[105, 102]⟩ : ByteArray))) = true then
some (decide (a0 = (⟨#[105, 102]⟩ : ByteArray)))
else
(if (decide (a0 = (⟨#[116, 104, 101, 110]⟩ : ByteArray))) = true then
some (decide (a0 = (⟨#[116, 104, 101, 110]⟩ : ByteArray)))
else
(if (decide (a0 = (⟨#[101, 108, 115, 101]⟩ : ByteArray))) = true then
some (decide (a0 = (⟨#[101, 108, 115, 101]⟩ : ByteArray)))
else
(if (decide (a0 = (⟨#[111, 114]⟩ : ByteArray))) = true then
some (decide (a0 = (⟨#[111, 114]⟩ : ByteArray)))
else
(if (decide (a0 = (⟨#[97, 110, 100]⟩ : ByteArray))) = true then
some (decide (a0 = (⟨#[97, 110, 100]⟩ : ByteArray)))
else
(if (decide (a0 = (⟨#[110, 111, 116]⟩ : ByteArray))) = true then
some (decide (a0 = (⟨#[110, 111, 116]⟩ : ByteArray)))
else
(if (decide (a0 = (⟨#[116, 114, 117, 101]⟩ : ByteArray))) = true then
some (decide (a0 = (⟨#[116, 114, 117, 101]⟩ : ByteArray)))
else
(if (decide (a0 = (⟨#[102, 97, 108, 115, 101]⟩ : ByteArray))) = true then
some (decide (a0 = (⟨#[102, 97, 108, 115, 101]⟩ : ByteArray)))
else
(if (decide (a0 = (⟨#[116, 111, 100, 97, 121]⟩ : ByteArray))) = true then
some (decide (a0 = (⟨#[116, 111, 100, 97, 121]⟩ : ByteArray)))
else
(if (decide (a0 = (⟨#[115, 104, 97, 114, 101]⟩ : ByteArray))) = true then
some (decide (a0 = (⟨#[115, 104, 97, 114, 101]⟩ : ByteArray)))
else
(if (decide (a0 = (⟨#[100, 105, 118]⟩ : ByteArray))) = true then
some (decide (a0 = (⟨#[100, 105, 118]⟩ : ByteArray)))
else
(if (decide (a0 = (⟨#[114, 111, 117, 110, 100]⟩ : ByteArray))) = true then
some (decide (a0 = (⟨#[114, 111, 117, 110, 100]⟩ : ByteArray)))
else
(if (decide (a0 = (⟨#[109, 105, 110]⟩ : ByteArray))) = true then
some (decide (a0 = (⟨#[109, 105, 110]⟩ : ByteArray)))
else
(if (decide (a0 = (⟨#[109, 97, 120]⟩ : ByteArray))) = true then
some (decide (a0 = (⟨#[109, 97, 120]⟩ : ByteArray)))
else
(if (decide (a0 = (⟨#[112, 108, 117, 115]⟩ : ByteArray))) = true then
some (decide (a0 = (⟨#[112, 108, 117, 115]⟩ : ByteArray)))
else
(if (decide (a0 = (⟨#[109, 111, 110, 116, 104, 115]⟩ : ByteArray))) = true then
some (decide (a0 = (⟨#[109, 111, 110, 116, 104, 115]⟩ : ByteArray)))
else
(if (decide (a0 = (⟨#[100, 97, 121, 115]⟩ : ByteArray))) = true then
some (decide (a0 = (⟨#[100, 97, 121, 115]⟩ : ByteArray)))
else
(if (decide (a0 = (⟨#[121, 101, 97, 114, 115]⟩ : ByteArray))) = true then
some (decide (a0 = (⟨#[121, 101, 97, 114, 115]⟩ : ByteArray)))
else
(if (decide (a0 = (⟨#[121, 101, 97, 114]⟩ : ByteArray))) = true then
some (decide (a0 = (⟨#[121, 101, 97, 114]⟩ : ByteArray)))
else
(if (decide (a0 = (⟨#[109, 111, 110, 116, 104]⟩ : ByteArray))) = true then
some (decide (a0 = (⟨#[109, 111, 110, 116, 104]⟩ : ByteArray)))
else
(if (decide (a0 = (⟨#[116, 97, 98]⟩ : ByteArray))) = true then
some (decide (a0 = (⟨#[116, 97, 98]⟩ : ByteArray)))
else
(if (decide (a0 = (⟨#[98, 97, 110, 100]⟩ : ByteArray))) = true then
some (decide (a0 = (⟨#[98, 97, 110, 100]⟩ : ByteArray)))
else
(if (decide (a0 = (⟨#[99, 111, 117, 110, 116]⟩ : ByteArray))) = true then
some (decide (a0 = (⟨#[99, 111, 117, 110, 116]⟩ : ByteArray)))
else
(if (decide (a0 = (⟨#[115, 117, 109]⟩ : ByteArray))) = true then
some (decide (a0 = (⟨#[115, 117, 109]⟩ : ByteArray)))
else
(if (decide (a0 = (⟨#[97, 108, 108]⟩ : ByteArray))) = true then
some (decide (a0 = (⟨#[97, 108, 108]⟩ : ByteArray)))
else
(if (decide (a0 = (⟨#[97, 110, 121]⟩ : ByteArray))) = true then
some (decide (a0 = (⟨#[97, 110, 121]⟩ : ByteArray)))
else
(if (decide (a0 = (⟨#[109, 111, 115, 116]⟩ : ByteArray))) = true then
some (decide (a0 = (⟨#[109, 111, 115, 116]⟩ : ByteArray)))
else
(if (decide (a0 = (⟨#[101, 110, 117, 109]⟩ : ByteArray))) = true then
some (decide (a0 = (⟨#[101, 110, 117, 109]⟩ : ByteArray)))
else
(if (decide (a0 = (⟨#[116, 97, 98, 108, 101]⟩ : ByteArray))) = true then
some (decide (a0 = (⟨#[116, 97, 98, 108, 101]⟩ : ByteArray)))
else
(if (decide (a0 = (⟨#[114, 111, 119]⟩ : ByteArray))) = true then
some (decide (a0 = (⟨#[114, 111, 119]⟩ : ByteArray)))
else
(if (decide (a0 = (⟨#[115, 99, 111, 112, 101]⟩ : ByteArray))) = true then
some (decide (a0 = (⟨#[115, 99, 111, 112, 101]⟩ : ByteArray)))
else
(if (decide (a0 = (⟨#[109, 101, 109, 98, 101, 114, 115]⟩ : ByteArray))) = true then
some (decide (a0 = (⟨#[109, 101, 109, 98, 101, 114, 115]⟩ : ByteArray)))
else
(if (decide (a0 = (⟨#[105, 110, 112, 117, 116]⟩ : ByteArray))) = true then
some (decide (a0 = (⟨#[105, 110, 112, 117, 116]⟩ : ByteArray)))
else
(if (decide (a0 = (⟨#[100, 101, 102]⟩ : ByteArray))) = true then
some (decide (a0 = (⟨#[100, 101, 102]⟩ : ByteArray)))
else
(if (decide (a0 = (⟨#[114, 117, 108, 101]⟩ : ByteArray))) = true then
some (decide (a0 = (⟨#[114, 117, 108, 101]⟩ : ByteArray)))
else
(if (decide (a0 = (⟨#[111, 102]⟩ : ByteArray))) = true then
some (decide (a0 = (⟨#[111, 102]⟩ : ByteArray)))
else
(if (decide (a0 = (⟨#[111, 118, 101, 114]⟩ : ByteArray))) = true then
some (decide (a0 = (⟨#[111, 118, 101, 114]⟩ : ByteArray)))
else
(if (decide (a0 = (⟨#[112, 114, 105, 111]⟩ : ByteArray))) = true then
some (decide (a0 = (⟨#[112, 114, 105, 111]⟩ : ByteArray)))
else
(if (decide (a0 = (⟨#[102, 114, 111, 109]⟩ : ByteArray))) = true then
some (decide (a0 = (⟨#[102, 114, 111, 109]⟩ : ByteArray)))
else
(if (decide (a0 = (⟨#[116, 111]⟩ : ByteArray))) = true then
some (decide (a0 = (⟨#[116, 111]⟩ : ByteArray)))
else
(if (decide (a0 = (⟨#[101, 110, 100]⟩ : ByteArray))) = true then
some (decide (a0 = (⟨#[101, 110, 100]⟩ : ByteArray)))
else
(if (decide (a0 = (⟨#[119, 104, 101, 110]⟩ : ByteArray))) = true then
some (decide (a0 = (⟨#[119, 104, 101, 110]⟩ : ByteArray)))
else
(if (decide (a0 = (⟨#[105, 115]⟩ : ByteArray))) = true then
some (decide (a0 = (⟨#[105, 115]⟩ : ByteArray)))
else
(if (decide (a0 = (⟨#[115, 114, 99]⟩ : ByteArray))) = true then
some (decide (a0 = (⟨#[115, 114, 99]⟩ : ByteArray)))
else
(if (decide (a0 = (⟨#[98, 111, 111, 108]⟩ : ByteArray))) = true then
some (decide (a0 = (⟨#[98, 111, 111, 108]⟩ : ByteArray)))
else
(if (decide (a0 = (⟨#[105, 110, 116]⟩ : ByteArray))) = true then
some (decide (a0 = (⟨#[105, 110, 116]⟩ : ByteArray)))
else
(if (decide (a0 = (⟨#[109, 111, 110, 101, 121]⟩ : ByteArray))) = true then
some (decide (a0 = (⟨#[109, 111, 110, 101, 121]⟩ : ByteArray)))
else
(if (decide (a0 = (⟨#[114, 97, 116, 101]⟩ : ByteArray))) = true then
some (decide (a0 = (⟨#[114, 97, 116, 101]⟩ : ByteArray)))
else
(if (decide (a0 = (⟨#[100, 97, 116, 101]⟩ : ByteArray))) = true then
some (decide (a0 = (⟨#[100, 97, 116, 101]⟩ : ByteArray)))
else
(if (decide (a0 = (⟨#[100, 111, 119, 110]⟩ : ByteArray))) = true then
some (decide (a0 = (⟨#[100, 111, 119, 110]⟩ : ByteArray)))
else
(if (decide (a0 = (⟨#[117, 112]⟩ : ByteArray))) = true then
some (decide (a0 = (⟨#[117, 112]⟩ : ByteArray)))
else
(if (decide (a0 = (⟨#[122, 101, 114, 111]⟩ : ByteArray))) = true then
some (decide (a0 = (⟨#[122, 101, 114, 111]⟩ : ByteArray)))
else
(if (decide (a0 = (⟨#[97, 119, 97, 121]⟩ : ByteArray))) = true then
some (decide (a0 = (⟨#[97, 119, 97, 121]⟩ : ByteArray)))
else
(if (decide (a0 = (⟨#[104, 97, 108, 102]⟩ : ByteArray))) = true then
some (decide (a0 = (⟨#[104, 97, 108, 102]⟩ : ByteArray)))
else
some (decide (a0 = (⟨#[101, 118, 101, 110]⟩ : ByteArray))))))))))))))))))))))))))))))))))))))))))))))))))))))))) : Option (Bool)).bind fun j1 =>
(if j1 = true then
some true
else
some false)
noncomputable def S49 (N : Nat) : Sig := { inn := ⟨[(0, .val false (.leaf .str))], [], [], 0⟩, out := ⟨[(0, .val false (.leaf .bool))], [], [], 0⟩, fn := fun (x : ByteArray) => M.lexer_reserved N x }
theorem W49 (N : Nat) : FnOK Tryz.prog 49 (S49 N) := fn_ok (E := ⟨tabs, [], tabnil, mixed, false, false⟩) (N := N) (a := (.two .nil (.two (.two .nil (.two (.meet ⟨[(4, .val false (.leaf .bool))], [], [], 32⟩ .nil .nil) .nil)) .nil))) (sg := S49 N) (c := Tryz.f49.body.getD .skip) (rs := Tryz.f49.results.toList) Tryz.func49 (by kernel_rfl) (by kernel_rfl) rfl rfl rfl rfl (fun x => by kernel_rfl)
noncomputable def M.lexer_IsIdentifier (N : Nat) (a0 : ByteArray) : Option (Bool) :=
((if (!decide (a0 = (⟨#[]⟩ : ByteArray))) = true then
(byteA a0 (0 : Int)).bind fun x2 =>
(M.lexer_isLower N x2).bind fun y3 =>
(if y3 = true then
(M.lexer_nameLength N a0).bind fun y4 =>
(if (decide (y4 = (a0.size : Int))) = true then
(if (decide ((a0.size : Int) ≤ (16 : Int))) = true then
(M.lexer_reserved N a0).bind fun y5 =>
some (!y5)
else
some false)
else
some false)
else
some false)
else
some false) : Option (Bool)).bind fun j1 =>
some j1
noncomputable def S25 (N : Nat) : Sig := { inn := ⟨[(0, .val false (.leaf .str))], [], [], 0⟩, out := ⟨[(0, .val false (.leaf .bool))], [], [], 0⟩, fn := fun (x : ByteArray) => M.lexer_IsIdentifier N x }
theorem W25 (N : Nat) : FnOK Tryz.prog 25 (S25 N) := fn_ok (E := ⟨tabs, [(47, S47 N), (48, S48 N), (49, S49 N)], (tabcons (W47 N) (tabcons (W48 N) (tabcons (W49 N) tabnil))), mixed, false, false⟩) (N := N) (a := (.two .nil (.meet ⟨[(2, .val false (.leaf .bool))], [], [], 16⟩ .nil .nil))) (sg := S25 N) (c := Tryz.f25.body.getD .skip) (rs := Tryz.f25.results.toList) Tryz.func25 (by kernel_rfl) (by kernel_rfl) rfl rfl rfl rfl (fun x => by kernel_rfl)
noncomputable def M.law_hasEnum_c1_v1 (N : Nat) (a0 : rEnum.den) (a1 : ByteArray) : Option (Bool × ByteArray) :=
some (decide (a0.1 = a1), a1)
noncomputable def S51v1 (N : Nat) : Sig := { inn := ⟨[(0, .val true (.leaf rEnum)), (1, .ptr 0 [] 0)], [(0, .box 9 (.leaf .str))], [], 1⟩, out := ⟨[(0, .val false (.leaf .bool))], [(0, .box 9 (.leaf .str))], [], 2⟩, fn := fun (x : rEnum.den × ByteArray) => M.law_hasEnum_c1_v1 N x.1 x.2 }
theorem W51v1 (N : Nat) : FnOK Tryz.prog 51 (S51v1 N) := fn_ok (E := ⟨tabs, [], tabnil, mixed, false, false⟩) (N := N) (a := .nil) (sg := S51v1 N) (c := Tryz.f51.body.getD .skip) (rs := Tryz.f51.results.toList) Tryz.func51 (by kernel_rfl) (by kernel_rfl) rfl rfl rfl rfl (fun x => by kernel_rfl)
noncomputable def M.slices_IndexFunc_guerdon_api_Enum_guerdon_api_Enum_v1 (N : Nat) (a0 : List rEnum.den) (a1 : ByteArray) : Option (Int × ByteArray) :=
Loop (S := Int × ByteArray) (X := Int × ByteArray) (fun s1 =>
(if (decide (s1.1 < (a0.length : Int))) = true then
(idx a0 s1.1).bind fun x2 =>
(M.law_hasEnum_c1_v1 N x2 s1.2).bind fun y3 =>
(if y3.1 = true then
some (Sum.inr (s1.1, y3.2))
else
some (Sum.inl (IntKind.i64.wrap (s1.1 + (1 : Int)), y3.2)))
else
some (Sum.inr ((-1 : Int), s1.2)))) N ((0 : Int), a1)
noncomputable def S73v1 (N : Nat) : Sig := { inn := ⟨[(0, .val false (.leaf (.slice rEnum))), (1, .fn 51 [(0, [], 0)])], [(0, .box 9 (.leaf .str))], [], 1⟩, out := ⟨[(0, .val false (.leaf rInt))], [(0, .box 9 (.leaf .str))], [], 2⟩, fn := fun (x : (List rEnum.den) × ByteArray) => M.slices_IndexFunc_guerdon_api_Enum_guerdon_api_Enum_v1 N x.1 x.2 }
theorem W73v1 (N : Nat) : FnOK Tryz.prog 73 (S73v1 N) := fn_ok (E := ⟨tabs, [(51, S51v1 N)], (tabcons (W51v1 N) tabnil), mixed, false, false⟩) (N := N) (a := (.two .nil (.two (.two .nil (.two (.loop ⟨[(8, .val false (.leaf rInt))], [(0, .box 9 (.leaf .str))], [], 66⟩ .nil) .nil)) .nil))) (sg := S73v1 N) (c := Tryz.f73.body.getD .skip) (rs := Tryz.f73.results.toList) Tryz.func73 (by kernel_rfl) (by kernel_rfl) rfl rfl rfl rfl (fun x => by kernel_rfl)
noncomputable def M.slices_ContainsFunc_guerdon_api_Enum_guerdon_api_Enum_v1 (N : Nat) (a0 : List rEnum.den) (a1 : ByteArray) : Option (Bool × ByteArray) :=
(M.slices_IndexFunc_guerdon_api_Enum_guerdon_api_Enum_v1 N a0 a1).bind fun y1 =>
some (decide ((0 : Int) ≤ y1.1), y1.2)
noncomputable def S50v1 (N : Nat) : Sig := { inn := ⟨[(0, .val false (.leaf (.slice rEnum))), (1, .fn 51 [(0, [], 0)])], [(0, .box 9 (.leaf .str))], [], 1⟩, out := ⟨[(0, .val false (.leaf .bool))], [(0, .box 9 (.leaf .str))], [], 2⟩, fn := fun (x : (List rEnum.den) × ByteArray) => M.slices_ContainsFunc_guerdon_api_Enum_guerdon_api_Enum_v1 N x.1 x.2 }
theorem W50v1 (N : Nat) : FnOK Tryz.prog 50 (S50v1 N) := fn_ok (E := ⟨tabs, [(73, S73v1 N)], (tabcons (W73v1 N) tabnil), mixed, false, false⟩) (N := N) (a := .nil) (sg := S50v1 N) (c := Tryz.f50.body.getD .skip) (rs := Tryz.f50.results.toList) Tryz.func50 (by kernel_rfl) (by kernel_rfl) rfl rfl rfl rfl (fun x => by kernel_rfl)
noncomputable def M.law_hasEnum (N : Nat) (a0 : List rEnum.den) (a1 : ByteArray) : Option (Bool) :=
(M.slices_ContainsFunc_guerdon_api_Enum_guerdon_api_Enum_v1 N a0 a1).bind fun y1 =>
some y1.1
noncomputable def S26 (N : Nat) : Sig := { inn := ⟨[(0, .val false (.leaf (.slice rEnum))), (1, .val false (.leaf .str))], [], [], 0⟩, out := ⟨[(0, .val false (.leaf .bool))], [], [], 0⟩, fn := fun (x : (List rEnum.den) × ByteArray) => M.law_hasEnum N x.1 x.2 }
theorem W26 (N : Nat) : FnOK Tryz.prog 26 (S26 N) := fn_ok (E := ⟨tabs, [(50, S50v1 N)], (tabcons (W50v1 N) tabnil), mixed, false, false⟩) (N := N) (a := .nil) (sg := S26 N) (c := Tryz.f26.body.getD .skip) (rs := Tryz.f26.results.toList) Tryz.func26 (by kernel_rfl) (by kernel_rfl) rfl rfl rfl rfl (fun x => by kernel_rfl)
noncomputable def M.slices_Index_string_string (N : Nat) (a0 : List ByteArray) (a1 : ByteArray) : Option (Int) :=
Loop (S := Int) (X := Int) (fun s1 =>
(if (decide (s1 < (a0.length : Int))) = true then
(idx a0 s1).bind fun x2 =>
(if (decide (a1 = x2)) = true then
some (Sum.inr s1)
else
some (Sum.inl (IntKind.i64.wrap (s1 + (1 : Int)))))
else
some (Sum.inr (-1 : Int)))) N (0 : Int)
noncomputable def S70 (N : Nat) : Sig := { inn := ⟨[(0, .val false (.leaf (.slice .str))), (1, .val false (.leaf .str))], [], [], 0⟩, out := ⟨[(0, .val false (.leaf rInt))], [], [], 0⟩, fn := fun (x : (List ByteArray) × ByteArray) => M.slices_Index_string_string N x.1 x.2 }
theorem W70 (N : Nat) : FnOK Tryz.prog 70 (S70 N) := fn_ok (E := ⟨tabs, [], tabnil, mixed, false, false⟩) (N := N) (a := (.two .nil (.two (.two .nil (.two (.loop ⟨[(8, .val false (.leaf rInt))], [], [], 64⟩ .nil) .nil)) .nil))) (sg := S70 N) (c := Tryz.f70.body.getD .skip) (rs := Tryz.f70.results.toList) Tryz.func70 (by kernel_rfl) (by kernel_rfl) rfl rfl rfl rfl (fun x => by kernel_rfl)
noncomputable def M.slices_Contains_string_string (N : Nat) (a0 : List ByteArray) (a1 : ByteArray) : Option (Bool) :=
(M.slices_Index_string_string N a0 a1).bind fun y1 =>
some (decide ((0 : Int) ≤ y1))
noncomputable def S40 (N : Nat) : Sig := { inn := ⟨[(0, .val false (.leaf (.slice .str))), (1, .val false (.leaf .str))], [], [], 0⟩, out := ⟨[(0, .val false (.leaf .bool))], [], [], 0⟩, fn := fun (x : (List ByteArray) × ByteArray) => M.slices_Contains_string_string N x.1 x.2 }
theorem W40 (N : Nat) : FnOK Tryz.prog 40 (S40 N) := fn_ok (E := ⟨tabs, [(70, S70 N)], (tabcons (W70 N) tabnil), mixed, false, false⟩) (N := N) (a := .nil) (sg := S40 N) (c := Tryz.f40.body.getD .skip) (rs := Tryz.f40.results.toList) Tryz.func40 (by kernel_rfl) (by kernel_rfl) rfl rfl rfl rfl (fun x => by kernel_rfl)
noncomputable def M.law_checkEnum (N : Nat) (a0 : rLaw.den) (a1 : Int) (a2 : rEnum.den) : Option (Int × Int) :=
(M.lexer_IsIdentifier N a2.1).bind fun y1 =>
(if (!y1) = true then
some ((2 : Int), (0 : Int))
else
(cutA a0.1 (0 : Int) a1).bind fun l2 =>
(M.law_hasEnum N l2 a2.1).bind fun y3 =>
(if y3 = true then
some ((7 : Int), (0 : Int))
else
(if (decide ((a2.2.length : Int) = (0 : Int))) = true then
some ((5 : Int), (0 : Int))
else
(if (decide ((16 : Int) < (a2.2.length : Int))) = true then
some ((4 : Int), (116 : Int))
else
Loop (S := Int) (X := Int × Int) (fun s4 =>
(if (decide (s4 < (a2.2.length : Int))) = true then
(idx a2.2 s4).bind fun x5 =>
(M.lexer_IsIdentifier N x5).bind fun y6 =>
(if (!y6) = true then
some (Sum.inr ((2 : Int), IntKind.i64.wrap ((100 : Int) + s4)))
else
(cutA a2.2 (0 : Int) s4).bind fun l7 =>
(M.slices_Contains_string_string N l7 x5).bind fun y8 =>
(if y8 = true then
some (Sum.inr ((7 : Int), IntKind.i64.wrap ((100 : Int) + s4)))
else
some (Sum.inl (IntKind.i64.wrap (s4 + (1 : Int))))))
else
some (Sum.inr ((0 : Int), (0 : Int))))) N (0 : Int)))))
noncomputable def S23 (N : Nat) : Sig := { inn := ⟨[(0, .val true (.leaf rLaw)), (1, .val false (.leaf rInt)), (2, .val true (.leaf rEnum))], [], [], 0⟩, out := ⟨[(0, .val false (.leaf rInt)), (1, .val false (.leaf rInt))], [], [], 0⟩, fn := fun (x : rLaw.den × Int × rEnum.den) => M.law_checkEnum N x.1 x.2.1 x.2.2 }
theorem W23 (N : Nat) : FnOK Tryz.prog 23 (S23 N) := fn_ok (E := ⟨tabs, [(25, S25 N), (26, S26 N), (40, S40 N)], (tabcons (W25 N) (tabcons (W26 N) (tabcons (W40 N) tabnil))), mixed, false, false⟩) (N := N) (a := (.two .nil (.two .nil (.two (.two .nil (.two (.loop ⟨[(36, .val false (.leaf rInt))], [], [], 496⟩ .nil) .nil)) .nil)))) (sg := S23 N) (c := Tryz.f23.body.getD .skip) (rs := Tryz.f23.results.toList) Tryz.func23 (by kernel_rfl) (by kernel_rfl) rfl rfl rfl rfl (fun x => by kernel_rfl)
noncomputable def M.law_checkEnums (N : Nat) (a0 : rLaw.den) : Option (rLawError.den) :=
(if (decide ((8 : Int) < (a0.1.length : Int))) = true then
some ((4 : Int), ((1 : Int), ((8 : Int), (0 : Int))))
else
Join (J := Unit) (R := rLawError.den) (Loop (S := Int) (X := (Unit) ⊕ (rLawError.den)) (fun s2 =>
(if (decide (s2 < (a0.1.length : Int))) = true then
(idx a0.1 s2).bind fun x3 =>
(M.law_checkEnum N a0 s2 x3).bind fun y4 =>
(if (!decide (y4.1 = (0 : Int))) = true then
some (Sum.inr (Sum.inr (y4.1, ((1 : Int), (s2, y4.2)))))
else
some (Sum.inl (IntKind.i64.wrap (s2 + (1 : Int)))))
else
some (Sum.inr (Sum.inl ())))) N (0 : Int)) fun j1 =>
some ((0 : Int), ((0 : Int), ((0 : Int), (0 : Int)))))
noncomputable def S11 (N : Nat) : Sig := { inn := ⟨[(0, .val true (.leaf rLaw))], [], [], 0⟩, out := ⟨[(0, .val true (.leaf rLawError))], [], [], 0⟩, fn := fun (x : rLaw.den) => M.law_checkEnums N x }
theorem W11 (N : Nat) : FnOK Tryz.prog 11 (S11 N) := fn_ok (E := ⟨tabs, [(23, S23 N)], (tabcons (W23 N) tabnil), mixed, false, false⟩) (N := N) (a := (.two .nil (.two .nil (.join ⟨[], [], [], 96⟩ (.two .nil (.two (.loop ⟨[(15, .val false (.leaf rInt))], [], [], 160⟩ .nil) .nil)) .nil)))) (sg := S11 N) (c := Tryz.f11.body.getD .skip) (rs := Tryz.f11.results.toList) Tryz.func11 (by kernel_rfl) (by kernel_rfl) rfl rfl rfl rfl (fun x => by kernel_rfl)
noncomputable def M.value_ValidType (N : Nat) (a0 : rType.den) (a1 : List rEnum.den) : Option (Bool) :=
((if (decide (a0.1 = (1 : Int))) = true then
some (decide (a0.1 = (1 : Int)))
else
(if (decide (a0.1 = (2 : Int))) = true then
some (decide (a0.1 = (2 : Int)))
else
(if (decide (a0.1 = (3 : Int))) = true then
some (decide (a0.1 = (3 : Int)))
else
(if (decide (a0.1 = (4 : Int))) = true then
some (decide (a0.1 = (4 : Int)))
else
some (decide (a0.1 = (5 : Int))))))) : Option (Bool)).bind fun j1 =>
(if j1 = true then
some (decide (a0.2 = (0 : Int)))
else
(if (decide (a0.1 = (6 : Int))) = true then
((if (decide ((0 : Int) ≤ a0.2)) = true then
some (decide (a0.2 < (a1.length : Int)))
else
some false) : Option (Bool)).bind fun j2 =>
some j2
else
some false))
noncomputable def S41 (N : Nat) : Sig := { inn := ⟨[(0, .val true (.leaf rType)), (1, .val false (.leaf (.slice rEnum)))], [], [], 0⟩, out := ⟨[(0, .val false (.leaf .bool))], [], [], 0⟩, fn := fun (x : rType.den × List rEnum.den) => M.value_ValidType N x.1 x.2 }
theorem W41 (N : Nat) : FnOK Tryz.prog 41 (S41 N) := fn_ok (E := ⟨tabs, [], tabnil, mixed, false, false⟩) (N := N) (a := (.two .nil (.two (.two .nil (.two (.meet ⟨[(7, .val false (.leaf .bool))], [], [], 64⟩ .nil (.two .nil (.two .nil (.two (.meet ⟨[(4, .val false (.leaf .bool))], [], [], 96⟩ .nil .nil) .nil)))) .nil)) .nil))) (sg := S41 N) (c := Tryz.f41.body.getD .skip) (rs := Tryz.f41.results.toList) Tryz.func41 (by kernel_rfl) (by kernel_rfl) rfl rfl rfl rfl (fun x => by kernel_rfl)
noncomputable def M.value_Bounds (N : Nat) (a0 : rType.den) (a1 : List rEnum.den) : Option (Int × Int) :=
(M.value_ValidType N a0 a1).bind fun y1 =>
(if (!y1) = true then
some ((0 : Int), (-1 : Int))
else
(if (decide (a0.1 = (1 : Int))) = true then
some ((0 : Int), (1 : Int))
else
(if (decide (a0.1 = (2 : Int))) = true then
some ((-1000000000000 : Int), (1000000000000 : Int))
else
(if (decide (a0.1 = (3 : Int))) = true then
some ((-1000000000000000 : Int), (1000000000000000 : Int))
else
(if (decide (a0.1 = (4 : Int))) = true then
some ((-1000000000 : Int), (1000000000 : Int))
else
(if (decide (a0.1 = (5 : Int))) = true then
some ((0 : Int), (109572 : Int))
else
(idx a1 a0.2).bind fun x2 =>
some ((0 : Int), IntKind.i64.wrap ((x2.2.length : Int) - (1 : Int)))))))))
noncomputable def S42 (N : Nat) : Sig := { inn := ⟨[(0, .val true (.leaf rType)), (1, .val false (.leaf (.slice rEnum)))], [], [], 0⟩, out := ⟨[(0, .val false (.leaf rInt)), (1, .val false (.leaf rInt))], [], [], 0⟩, fn := fun (x : rType.den × List rEnum.den) => M.value_Bounds N x.1 x.2 }
theorem W42 (N : Nat) : FnOK Tryz.prog 42 (S42 N) := fn_ok (E := ⟨tabs, [(41, S41 N)], (tabcons (W41 N) tabnil), mixed, false, false⟩) (N := N) (a := .nil) (sg := S42 N) (c := Tryz.f42.body.getD .skip) (rs := Tryz.f42.results.toList) Tryz.func42 (by kernel_rfl) (by kernel_rfl) rfl rfl rfl rfl (fun x => by kernel_rfl)
noncomputable def M.daterange_Valid (N : Nat) (a0 : rType.den) : Option (Bool) :=
((if (decide ((0 : Int) ≤ a0.1)) = true then
(if (decide (a0.1 ≤ a0.2)) = true then
some (decide (a0.2 ≤ (109573 : Int)))
else
some false)
else
some false) : Option (Bool)).bind fun j1 =>
some j1
noncomputable def S43 (N : Nat) : Sig := { inn := ⟨[(0, .val true (.leaf rType))], [], [], 0⟩, out := ⟨[(0, .val false (.leaf .bool))], [], [], 0⟩, fn := fun (x : rType.den) => M.daterange_Valid N x }
theorem W43 (N : Nat) : FnOK Tryz.prog 43 (S43 N) := fn_ok (E := ⟨tabs, [], tabnil, mixed, false, false⟩) (N := N) (a := (.two .nil (.meet ⟨[(2, .val false (.leaf .bool))], [], [], 32⟩ .nil .nil))) (sg := S43 N) (c := Tryz.f43.body.getD .skip) (rs := Tryz.f43.results.toList) Tryz.func43 (by kernel_rfl) (by kernel_rfl) rfl rfl rfl rfl (fun x => by kernel_rfl)
noncomputable def M.daterange_hasDate (N : Nat) (a0 : rType.den) : Option (Bool) :=
((M.daterange_Valid N a0).bind fun y2 =>
(if y2 = true then
some (decide (a0.1 < a0.2))
else
some false) : Option (Bool)).bind fun j1 =>
some j1
noncomputable def S89 (N : Nat) : Sig := { inn := ⟨[(0, .val true (.leaf rType))], [], [], 0⟩, out := ⟨[(0, .val false (.leaf .bool))], [], [], 0⟩, fn := fun (x : rType.den) => M.daterange_hasDate N x }
theorem W89 (N : Nat) : FnOK Tryz.prog 89 (S89 N) := fn_ok (E := ⟨tabs, [(43, S43 N)], (tabcons (W43 N) tabnil), mixed, false, false⟩) (N := N) (a := (.two .nil (.meet ⟨[(2, .val false (.leaf .bool))], [], [], 32⟩ .nil .nil))) (sg := S89 N) (c := Tryz.f89.body.getD .skip) (rs := Tryz.f89.results.toList) Tryz.func89 (by kernel_rfl) (by kernel_rfl) rfl rfl rfl rfl (fun x => by kernel_rfl)
noncomputable def M.daterange_Intersect (N : Nat) (a0 : rType.den) (a1 : rType.den) : Option (rType.den × Bool) :=
((M.daterange_hasDate N a0).bind fun y2 =>
(if (!y2) = true then
some true
else
(M.daterange_hasDate N a1).bind fun y3 =>
some (!y3)) : Option (Bool)).bind fun j1 =>
(if j1 = true then
some (((0 : Int), (0 : Int)), false)
else
(if (decide ((if a1.2 < a0.2 then a1.2 else a0.2) ≤ (if a0.1 < a1.1 then a1.1 else a0.1))) = true then
some (((0 : Int), (0 : Int)), false)
else
some ((if a0.1 < a1.1 then a1.1 else a0.1, if a1.2 < a0.2 then a1.2 else a0.2), true)))
noncomputable def S71 (N : Nat) : Sig := { inn := ⟨[(0, .val true (.leaf rType)), (1, .val true (.leaf rType))], [], [], 0⟩, out := ⟨[(0, .val true (.leaf rType)), (1, .val false (.leaf .bool))], [], [], 0⟩, fn := fun (x : rType.den × rType.den) => M.daterange_Intersect N x.1 x.2 }
theorem W71 (N : Nat) : FnOK Tryz.prog 71 (S71 N) := fn_ok (E := ⟨tabs, [(89, S89 N)], (tabcons (W89 N) tabnil), mixed, false, false⟩) (N := N) (a := (.two .nil (.two (.meet ⟨[(14, .val false (.leaf .bool))], [], [], 64⟩ .nil .nil) .nil))) (sg := S71 N) (c := Tryz.f71.body.getD .skip) (rs := Tryz.f71.results.toList) Tryz.func71 (by kernel_rfl) (by kernel_rfl) rfl rfl rfl rfl (fun x => by kernel_rfl)
noncomputable def M.table_conflict (N : Nat) (a0 : rRow.den) (a1 : rRow.den) : Option (Bool) :=
(M.daterange_Intersect N a0.1 a1.1).bind fun y1 =>
((if y1.2 = true then
some (decide ((if a0.2.1 < a1.2.1 then a1.2.1 else a0.2.1) < (if a1.2.2.1 < a0.2.2.1 then a1.2.2.1 else a0.2.2.1)))
else
some false) : Option (Bool)).bind fun j2 =>
some j2
noncomputable def S46 (N : Nat) : Sig := { inn := ⟨[(0, .val true (.leaf rRow)), (1, .val true (.leaf rRow))], [], [], 0⟩, out := ⟨[(0, .val false (.leaf .bool))], [], [], 0⟩, fn := fun (x : rRow.den × rRow.den) => M.table_conflict N x.1 x.2 }
theorem W46 (N : Nat) : FnOK Tryz.prog 46 (S46 N) := fn_ok (E := ⟨tabs, [(71, S71 N)], (tabcons (W71 N) tabnil), mixed, false, false⟩) (N := N) (a := (.two .nil (.two .nil (.meet ⟨[(4, .val false (.leaf .bool))], [], [], 224⟩ .nil .nil)))) (sg := S46 N) (c := Tryz.f46.body.getD .skip) (rs := Tryz.f46.results.toList) Tryz.func46 (by kernel_rfl) (by kernel_rfl) rfl rfl rfl rfl (fun x => by kernel_rfl)
noncomputable def M.table_Validate_c1_v1 (N : Nat) (a0 : rRow.den) (a1 : rRow.den) : Option (Bool × rRow.den) :=
(M.table_conflict N a0 a1).bind fun y1 =>
some (y1, a1)
noncomputable def S45v1 (N : Nat) : Sig := { inn := ⟨[(0, .val true (.leaf rRow)), (1, .ptr 0 [] 0)], [(0, .box 88 (.leaf rRow))], [], 1⟩, out := ⟨[(0, .val false (.leaf .bool))], [(0, .box 88 (.leaf rRow))], [], 2⟩, fn := fun (x : rRow.den × rRow.den) => M.table_Validate_c1_v1 N x.1 x.2 }
theorem W45v1 (N : Nat) : FnOK Tryz.prog 45 (S45v1 N) := fn_ok (E := ⟨tabs, [(46, S46 N)], (tabcons (W46 N) tabnil), mixed, false, false⟩) (N := N) (a := .nil) (sg := S45v1 N) (c := Tryz.f45.body.getD .skip) (rs := Tryz.f45.results.toList) Tryz.func45 (by kernel_rfl) (by kernel_rfl) rfl rfl rfl rfl (fun x => by kernel_rfl)
noncomputable def M.table_first_guerdon_api_Row_v1 (N : Nat) (a0 : List rRow.den) (a1 : rRow.den) : Option (Int × Bool × rRow.den) :=
Loop (S := Int × rRow.den) (X := Int × Bool × rRow.den) (fun s1 =>
(if (decide (s1.1 < (a0.length : Int))) = true then
(idx a0 s1.1).bind fun x2 =>
(M.table_Validate_c1_v1 N x2 s1.2).bind fun y3 =>
(if y3.1 = true then
some (Sum.inr (s1.1, true, y3.2))
else
some (Sum.inl (IntKind.i64.wrap (s1.1 + (1 : Int)), y3.2)))
else
some (Sum.inr ((0 : Int), false, s1.2)))) N ((0 : Int), a1)
noncomputable def S44v1 (N : Nat) : Sig := { inn := ⟨[(0, .val false (.leaf (.slice rRow))), (1, .fn 45 [(0, [], 0)])], [(0, .box 88 (.leaf rRow))], [], 1⟩, out := ⟨[(0, .val false (.leaf rInt)), (1, .val false (.leaf .bool))], [(0, .box 88 (.leaf rRow))], [], 2⟩, fn := fun (x : (List rRow.den) × rRow.den) => M.table_first_guerdon_api_Row_v1 N x.1 x.2 }
theorem W44v1 (N : Nat) : FnOK Tryz.prog 44 (S44v1 N) := fn_ok (E := ⟨tabs, [(45, S45v1 N)], (tabcons (W45v1 N) tabnil), mixed, false, false⟩) (N := N) (a := (.two .nil (.two (.two .nil (.two (.loop ⟨[(10, .val false (.leaf rInt))], [(0, .box 88 (.leaf rRow))], [], 82⟩ .nil) .nil)) .nil))) (sg := S44v1 N) (c := Tryz.f44.body.getD .skip) (rs := Tryz.f44.results.toList) Tryz.func44 (by kernel_rfl) (by kernel_rfl) rfl rfl rfl rfl (fun x => by kernel_rfl)
noncomputable def M.table_Validate (N : Nat) (a0 : rTable.den) (a1 : List rEnum.den) : Option (Int × Int) :=
(if (decide ((64 : Int) < (a0.2.2.2.length : Int))) = true then
some ((64 : Int), (4 : Int))
else
((M.value_ValidType N a0.2.1 a1).bind fun y2 =>
(if (!y2) = true then
some true
else
(M.value_ValidType N a0.2.2.1 a1).bind fun y3 =>
some (!y3)) : Option (Bool)).bind fun j1 =>
(if j1 = true then
some ((-1 : Int), (8 : Int))
else
(M.value_Bounds N a0.2.1 a1).bind fun y4 =>
(M.value_Bounds N a0.2.2.1 a1).bind fun y5 =>
Loop (S := Int) (X := Int × Int) (fun s6 =>
(if (decide (s6 < (a0.2.2.2.length : Int))) = true then
(idx a0.2.2.2 s6).bind fun x7 =>
((M.daterange_Valid N x7.1).bind fun y9 =>
(if (!y9) = true then
some true
else
(if (decide (x7.1.1 = x7.1.2)) = true then
some true
else
some (decide (x7.2.2.1 ≤ x7.2.1)))) : Option (Bool)).bind fun j8 =>
(if j8 = true then
some (Sum.inr (s6, (3 : Int)))
else
((if (decide (x7.2.1 < y4.1)) = true then
some true
else
(if (decide (y4.2 < x7.2.1)) = true then
some true
else
(if (decide ((IntKind.i64.wrap (x7.2.2.1 - (1 : Int))) < y4.1)) = true then
some true
else
some (decide (y4.2 < (IntKind.i64.wrap (x7.2.2.1 - (1 : Int)))))))) : Option (Bool)).bind fun j10 =>
(if j10 = true then
some (Sum.inr (s6, (3 : Int)))
else
((if (decide (x7.2.2.2 < y5.1)) = true then
some true
else
some (decide (y5.2 < x7.2.2.2))) : Option (Bool)).bind fun j11 =>
(if j11 = true then
some (Sum.inr (s6, (3 : Int)))
else
(cutA a0.2.2.2 (0 : Int) s6).bind fun l12 =>
(M.table_first_guerdon_api_Row_v1 N l12 x7).bind fun y13 =>
(if y13.2.1 = true then
some (Sum.inr (s6, (11 : Int)))
else
some (Sum.inl (IntKind.i64.wrap (s6 + (1 : Int))))))))
else
some (Sum.inr ((0 : Int), (0 : Int))))) N (0 : Int)))
noncomputable def S24 (N : Nat) : Sig := { inn := ⟨[(0, .val true (.leaf rTable)), (1, .val false (.leaf (.slice rEnum)))], [], [], 0⟩, out := ⟨[(0, .val false (.leaf rInt)), (1, .val false (.leaf rInt))], [], [], 0⟩, fn := fun (x : rTable.den × List rEnum.den) => M.table_Validate N x.1 x.2 }
theorem W24 (N : Nat) : FnOK Tryz.prog 24 (S24 N) := fn_ok (E := ⟨tabs, [(41, S41 N), (42, S42 N), (43, S43 N), (44, S44v1 N)], (tabcons (W41 N) (tabcons (W42 N) (tabcons (W43 N) (tabcons (W44v1 N) tabnil)))), mixed, false, false⟩) (N := N) (a := (.two .nil (.two .nil (.two (.meet ⟨[(29, .val false (.leaf .bool))], [], [], 112⟩ .nil .nil) (.two .nil (.two .nil (.two (.two .nil (.two (.loop ⟨[(47, .val false (.leaf rInt))], [], [], 464⟩ (.two .nil (.two .nil (.two (.two (.two .nil (.two (.meet ⟨[(71, .val false (.leaf .bool))], [], [], 576⟩ .nil .nil) (.two (.meet ⟨[(96, .val false (.leaf .bool))], [], [], 576⟩ .nil .nil) (.two (.meet ⟨[(107, .val false (.leaf .bool))], [], [], 576⟩ .nil .nil) .nil)))) .nil) .nil)))) .nil)) .nil))))))) (sg := S24 N) (c := Tryz.f24.body.getD .skip) (rs := Tryz.f24.results.toList) Tryz.func24 (by kernel_rfl) (by kernel_rfl) rfl rfl rfl rfl (fun x => by kernel_rfl)
noncomputable def M.law_hasTable_c1_v1 (N : Nat) (a0 : rTable.den) (a1 : ByteArray) : Option (Bool × ByteArray) :=
some (decide (a0.1 = a1), a1)
noncomputable def S53v1 (N : Nat) : Sig := { inn := ⟨[(0, .val true (.leaf rTable)), (1, .ptr 0 [] 0)], [(0, .box 9 (.leaf .str))], [], 1⟩, out := ⟨[(0, .val false (.leaf .bool))], [(0, .box 9 (.leaf .str))], [], 2⟩, fn := fun (x : rTable.den × ByteArray) => M.law_hasTable_c1_v1 N x.1 x.2 }
theorem W53v1 (N : Nat) : FnOK Tryz.prog 53 (S53v1 N) := fn_ok (E := ⟨tabs, [], tabnil, mixed, false, false⟩) (N := N) (a := .nil) (sg := S53v1 N) (c := Tryz.f53.body.getD .skip) (rs := Tryz.f53.results.toList) Tryz.func53 (by kernel_rfl) (by kernel_rfl) rfl rfl rfl rfl (fun x => by kernel_rfl)
noncomputable def M.slices_IndexFunc_guerdon_api_Table_guerdon_api_Table_v1 (N : Nat) (a0 : List rTable.den) (a1 : ByteArray) : Option (Int × ByteArray) :=
Loop (S := Int × ByteArray) (X := Int × ByteArray) (fun s1 =>
(if (decide (s1.1 < (a0.length : Int))) = true then
(idx a0 s1.1).bind fun x2 =>
(M.law_hasTable_c1_v1 N x2 s1.2).bind fun y3 =>
(if y3.1 = true then
some (Sum.inr (s1.1, y3.2))
else
some (Sum.inl (IntKind.i64.wrap (s1.1 + (1 : Int)), y3.2)))
else
some (Sum.inr ((-1 : Int), s1.2)))) N ((0 : Int), a1)
noncomputable def S74v1 (N : Nat) : Sig := { inn := ⟨[(0, .val false (.leaf (.slice rTable))), (1, .fn 53 [(0, [], 0)])], [(0, .box 9 (.leaf .str))], [], 1⟩, out := ⟨[(0, .val false (.leaf rInt))], [(0, .box 9 (.leaf .str))], [], 2⟩, fn := fun (x : (List rTable.den) × ByteArray) => M.slices_IndexFunc_guerdon_api_Table_guerdon_api_Table_v1 N x.1 x.2 }
theorem W74v1 (N : Nat) : FnOK Tryz.prog 74 (S74v1 N) := fn_ok (E := ⟨tabs, [(53, S53v1 N)], (tabcons (W53v1 N) tabnil), mixed, false, false⟩) (N := N) (a := (.two .nil (.two (.two .nil (.two (.loop ⟨[(8, .val false (.leaf rInt))], [(0, .box 9 (.leaf .str))], [], 66⟩ .nil) .nil)) .nil))) (sg := S74v1 N) (c := Tryz.f74.body.getD .skip) (rs := Tryz.f74.results.toList) Tryz.func74 (by kernel_rfl) (by kernel_rfl) rfl rfl rfl rfl (fun x => by kernel_rfl)
noncomputable def M.slices_ContainsFunc_guerdon_api_Table_guerdon_api_Table_v1 (N : Nat) (a0 : List rTable.den) (a1 : ByteArray) : Option (Bool × ByteArray) :=
(M.slices_IndexFunc_guerdon_api_Table_guerdon_api_Table_v1 N a0 a1).bind fun y1 =>
some (decide ((0 : Int) ≤ y1.1), y1.2)
noncomputable def S52v1 (N : Nat) : Sig := { inn := ⟨[(0, .val false (.leaf (.slice rTable))), (1, .fn 53 [(0, [], 0)])], [(0, .box 9 (.leaf .str))], [], 1⟩, out := ⟨[(0, .val false (.leaf .bool))], [(0, .box 9 (.leaf .str))], [], 2⟩, fn := fun (x : (List rTable.den) × ByteArray) => M.slices_ContainsFunc_guerdon_api_Table_guerdon_api_Table_v1 N x.1 x.2 }
theorem W52v1 (N : Nat) : FnOK Tryz.prog 52 (S52v1 N) := fn_ok (E := ⟨tabs, [(74, S74v1 N)], (tabcons (W74v1 N) tabnil), mixed, false, false⟩) (N := N) (a := .nil) (sg := S52v1 N) (c := Tryz.f52.body.getD .skip) (rs := Tryz.f52.results.toList) Tryz.func52 (by kernel_rfl) (by kernel_rfl) rfl rfl rfl rfl (fun x => by kernel_rfl)
noncomputable def M.law_hasTable (N : Nat) (a0 : List rTable.den) (a1 : ByteArray) : Option (Bool) :=
(M.slices_ContainsFunc_guerdon_api_Table_guerdon_api_Table_v1 N a0 a1).bind fun y1 =>
some y1.1
noncomputable def S27 (N : Nat) : Sig := { inn := ⟨[(0, .val false (.leaf (.slice rTable))), (1, .val false (.leaf .str))], [], [], 0⟩, out := ⟨[(0, .val false (.leaf .bool))], [], [], 0⟩, fn := fun (x : (List rTable.den) × ByteArray) => M.law_hasTable N x.1 x.2 }
theorem W27 (N : Nat) : FnOK Tryz.prog 27 (S27 N) := fn_ok (E := ⟨tabs, [(52, S52v1 N)], (tabcons (W52v1 N) tabnil), mixed, false, false⟩) (N := N) (a := .nil) (sg := S27 N) (c := Tryz.f27.body.getD .skip) (rs := Tryz.f27.results.toList) Tryz.func27 (by kernel_rfl) (by kernel_rfl) rfl rfl rfl rfl (fun x => by kernel_rfl)
noncomputable def M.law_checkTables (N : Nat) (a0 : rLaw.den) : Option (rLawError.den) :=
(if (decide ((8 : Int) < (a0.2.1.length : Int))) = true then
some ((4 : Int), ((2 : Int), ((8 : Int), (0 : Int))))
else
Join (J := Unit) (R := rLawError.den) (Loop (S := Int) (X := (Unit) ⊕ (rLawError.den)) (fun s2 =>
(if (decide (s2 < (a0.2.1.length : Int))) = true then
(idx a0.2.1 s2).bind fun x3 =>
(M.table_Validate N x3 a0.1).bind fun y4 =>
((M.lexer_IsIdentifier N x3.1).bind fun y6 =>
(if (!y6) = true then
some ((2 : Int), ((2 : Int), (s2, (0 : Int))))
else
((M.law_hasEnum N a0.1 x3.1).bind fun y8 =>
(if y8 = true then
some true
else
(cutA a0.2.1 (0 : Int) s2).bind fun l9 =>
(M.law_hasTable N l9 x3.1).bind fun y10 =>
some y10) : Option (Bool)).bind fun j7 =>
(if j7 = true then
some ((7 : Int), ((2 : Int), (s2, (0 : Int))))
else
(if (!decide (y4.2 = (0 : Int))) = true then
(if (!decide (y4.1 = (-1 : Int))) = true then
some (y4.2, ((2 : Int), (s2, IntKind.i64.wrap ((100 : Int) + y4.1))))
else
some (y4.2, ((2 : Int), (s2, (0 : Int)))))
else
some ((0 : Int), ((2 : Int), (s2, (0 : Int))))))) : Option (rLawError.den)).bind fun j5 =>
(if (!decide (j5.1 = (0 : Int))) = true then
some (Sum.inr (Sum.inr j5))
else
some (Sum.inl (IntKind.i64.wrap (s2 + (1 : Int)))))
else
some (Sum.inr (Sum.inl ())))) N (0 : Int)) fun j1 =>
some ((0 : Int), ((0 : Int), ((0 : Int), (0 : Int)))))
noncomputable def S12 (N : Nat) : Sig := { inn := ⟨[(0, .val true (.leaf rLaw))], [], [], 0⟩, out := ⟨[(0, .val true (.leaf rLawError))], [], [], 0⟩, fn := fun (x : rLaw.den) => M.law_checkTables N x }
theorem W12 (N : Nat) : FnOK Tryz.prog 12 (S12 N) := fn_ok (E := ⟨tabs, [(24, S24 N), (25, S25 N), (26, S26 N), (27, S27 N)], (tabcons (W24 N) (tabcons (W25 N) (tabcons (W26 N) (tabcons (W27 N) tabnil)))), mixed, false, false⟩) (N := N) (a := (.two .nil (.two .nil (.join ⟨[], [], [], 96⟩ (.two .nil (.two (.loop ⟨[(16, .val false (.leaf rInt))], [], [], 160⟩ (.two .nil (.two .nil (.two (.two (.two .nil (.two .nil (.two .nil (.two (.meet ⟨[], [(304, .box 30 (.leaf rLawError))], [], 481⟩ (.two .nil (.two .nil (.meet ⟨[(36, .val false (.leaf .bool))], [], [], 560⟩ .nil .nil))) .nil) .nil)))) .nil) .nil)))) .nil)) .nil)))) (sg := S12 N) (c := Tryz.f12.body.getD .skip) (rs := Tryz.f12.results.toList) Tryz.func12 (by kernel_rfl) (by kernel_rfl) rfl rfl rfl rfl (fun x => by kernel_rfl)
noncomputable def M.law_fieldTypes (N : Nat) (a0 : List rField.den) : Option (List rType.den) :=
Loop (S := Int × List rType.den) (X := List rType.den) (fun s1 =>
(if (decide (s1.1 < (a0.length : Int))) = true then
(idx a0 s1.1).bind fun x2 =>
(appA s1.2 ([x2.2] : List rType.den)).bind fun l3 =>
some (Sum.inl (IntKind.i64.wrap (s1.1 + (1 : Int)), l3))
else
some (Sum.inr s1.2))) N ((0 : Int), ([] : List rType.den))
noncomputable def S29 (N : Nat) : Sig := { inn := ⟨[(0, .val false (.leaf (.slice rField)))], [], [], 0⟩, out := ⟨[(0, .val false (.own 0))], [(0, .own 54 rType)], [], 1⟩, fn := fun (x : List rField.den) => M.law_fieldTypes N x }
theorem W29 (N : Nat) : FnOK Tryz.prog 29 (S29 N) := fn_ok (E := ⟨tabs, [], tabnil, mixed, false, false⟩) (N := N) (a := (.two .nil (.two .nil (.two (.two .nil (.two (.loop ⟨[(3, .val false (.own 80)), (8, .val false (.leaf rInt))], [(80, .own 54 rType)], [], 81⟩ .nil) .nil)) .nil)))) (sg := S29 N) (c := Tryz.f29.body.getD .skip) (rs := Tryz.f29.results.toList) Tryz.func29 (by kernel_rfl) (by kernel_rfl) rfl rfl rfl rfl (fun x => by kernel_rfl)
noncomputable def M.law_sharedSignature (N : Nat) (a0 : rLaw.den) (a1 : Int) : Option ((List rEnum.den) × (List rTable.den) × Bool × (List rType.den) × (List rType.den) × List rType.den) :=
(idx a0.2.2 a1).bind fun x1 =>
(M.law_fieldTypes N x1.2.2.1).bind fun y2 =>
(M.law_fieldTypes N x1.2.2.2.1).bind fun y3 =>
(((if (decide ((0 : Int) ≤ x1.2.1)) = true then
some (decide (x1.2.1 < (a0.2.2.length : Int)))
else
some false) : Option (Bool)).bind fun j5 =>
(if j5 = true then
(idx a0.2.2 x1.2.1).bind fun x6 =>
(M.law_fieldTypes N x6.2.2.2.1).bind fun y7 =>
some (y2, y3, a0.1, a0.2.1, true, y7)
else
some (y2, y3, a0.1, a0.2.1, false, ([] : List rType.den))) : Option ((List rType.den) × (List rType.den) × (List rEnum.den) × (List rTable.den) × Bool × List rType.den)).bind fun j4 =>
some (j4.2.2.1, j4.2.2.2.1, j4.2.2.2.2.1, j4.1, j4.2.1, j4.2.2.2.2.2)
noncomputable def S15 (N : Nat) : Sig := { inn := ⟨[(0, .val true (.leaf rLaw)), (1, .val false (.leaf rInt))], [], [], 0⟩, out := ⟨[(0, .val true (.pair (.leaf (.slice rEnum)) (.pair (.leaf (.slice rTable)) (.pair (.own 0) (.pair (.own 1) (.pair (.own 2) (.leaf .bool)))))))], [(0, .own 54 rType), (1, .own 54 rType), (2, .own 54 rType)], [], 3⟩, fn := fun (x : rLaw.den × Int) => M.law_sharedSignature N x.1 x.2 }
theorem W15 (N : Nat) : FnOK Tryz.prog 15 (S15 N) := fn_ok (E := ⟨tabs, [(29, S29 N)], (tabcons (W29 N) tabnil), mixed, false, false⟩) (N := N) (a := (.two .nil (.two .nil (.two .nil (.meet ⟨[], [(240, .own 54 rType), (288, .own 54 rType), (320, .box 39 (.pair (.leaf (.slice rEnum)) (.pair (.leaf (.slice rTable)) (.pair (.own 240) (.pair (.own 288) (.pair (.own 352) (.leaf .bool))))))), (352, .own 54 rType)], [], 356⟩ (.meet ⟨[(33, .val false (.leaf .bool))], [], [], 352⟩ .nil .nil) .nil))))) (sg := S15 N) (c := Tryz.f15.body.getD .skip) (rs := Tryz.f15.results.toList) Tryz.func15 (by kernel_rfl) (by kernel_rfl) rfl rfl rfl rfl (fun x => by kernel_rfl)
noncomputable def M.law_checkField_c1_v1 (N : Nat) (a0 : rField.den) (a1 : rField.den) : Option (Bool × rField.den) :=
some (decide (a0.1 = a1.1), a1)
noncomputable def S76v1 (N : Nat) : Sig := { inn := ⟨[(0, .val true (.leaf rField)), (1, .ptr 0 [] 0)], [(0, .box 67 (.leaf rField))], [], 1⟩, out := ⟨[(0, .val false (.leaf .bool))], [(0, .box 67 (.leaf rField))], [], 2⟩, fn := fun (x : rField.den × rField.den) => M.law_checkField_c1_v1 N x.1 x.2 }
theorem W76v1 (N : Nat) : FnOK Tryz.prog 76 (S76v1 N) := fn_ok (E := ⟨tabs, [], tabnil, mixed, false, false⟩) (N := N) (a := .nil) (sg := S76v1 N) (c := Tryz.f76.body.getD .skip) (rs := Tryz.f76.results.toList) Tryz.func76 (by kernel_rfl) (by kernel_rfl) rfl rfl rfl rfl (fun x => by kernel_rfl)
noncomputable def M.slices_IndexFunc_guerdon_api_Field_guerdon_api_Field_v1 (N : Nat) (a0 : List rField.den) (a1 : rField.den) : Option (Int × rField.den) :=
Loop (S := Int × rField.den) (X := Int × rField.den) (fun s1 =>
(if (decide (s1.1 < (a0.length : Int))) = true then
(idx a0 s1.1).bind fun x2 =>
(M.law_checkField_c1_v1 N x2 s1.2).bind fun y3 =>
(if y3.1 = true then
some (Sum.inr (s1.1, y3.2))
else
some (Sum.inl (IntKind.i64.wrap (s1.1 + (1 : Int)), y3.2)))
else
some (Sum.inr ((-1 : Int), s1.2)))) N ((0 : Int), a1)
noncomputable def S90v1 (N : Nat) : Sig := { inn := ⟨[(0, .val false (.leaf (.slice rField))), (1, .fn 76 [(0, [], 0)])], [(0, .box 67 (.leaf rField))], [], 1⟩, out := ⟨[(0, .val false (.leaf rInt))], [(0, .box 67 (.leaf rField))], [], 2⟩, fn := fun (x : (List rField.den) × rField.den) => M.slices_IndexFunc_guerdon_api_Field_guerdon_api_Field_v1 N x.1 x.2 }
theorem W90v1 (N : Nat) : FnOK Tryz.prog 90 (S90v1 N) := fn_ok (E := ⟨tabs, [(76, S76v1 N)], (tabcons (W76v1 N) tabnil), mixed, false, false⟩) (N := N) (a := (.two .nil (.two (.two .nil (.two (.loop ⟨[(8, .val false (.leaf rInt))], [(0, .box 67 (.leaf rField))], [], 66⟩ .nil) .nil)) .nil))) (sg := S90v1 N) (c := Tryz.f90.body.getD .skip) (rs := Tryz.f90.results.toList) Tryz.func90 (by kernel_rfl) (by kernel_rfl) rfl rfl rfl rfl (fun x => by kernel_rfl)
noncomputable def M.slices_ContainsFunc_guerdon_api_Field_guerdon_api_Field_v1 (N : Nat) (a0 : List rField.den) (a1 : rField.den) : Option (Bool × rField.den) :=
(M.slices_IndexFunc_guerdon_api_Field_guerdon_api_Field_v1 N a0 a1).bind fun y1 =>
some (decide ((0 : Int) ≤ y1.1), y1.2)
noncomputable def S77v1 (N : Nat) : Sig := { inn := ⟨[(0, .val false (.leaf (.slice rField))), (1, .fn 76 [(0, [], 0)])], [(0, .box 67 (.leaf rField))], [], 1⟩, out := ⟨[(0, .val false (.leaf .bool))], [(0, .box 67 (.leaf rField))], [], 2⟩, fn := fun (x : (List rField.den) × rField.den) => M.slices_ContainsFunc_guerdon_api_Field_guerdon_api_Field_v1 N x.1 x.2 }
theorem W77v1 (N : Nat) : FnOK Tryz.prog 77 (S77v1 N) := fn_ok (E := ⟨tabs, [(90, S90v1 N)], (tabcons (W90v1 N) tabnil), mixed, false, false⟩) (N := N) (a := .nil) (sg := S77v1 N) (c := Tryz.f77.body.getD .skip) (rs := Tryz.f77.results.toList) Tryz.func77 (by kernel_rfl) (by kernel_rfl) rfl rfl rfl rfl (fun x => by kernel_rfl)
noncomputable def M.law_checkField (N : Nat) (a0 : rLaw.den) (a1 : rField.den) (a2 : List rField.den) (a3 : List rField.den) : Option (Int) :=
(M.lexer_IsIdentifier N a1.1).bind fun y1 =>
(if (!y1) = true then
some (2 : Int)
else
((M.slices_ContainsFunc_guerdon_api_Field_guerdon_api_Field_v1 N a2 a1).bind fun y3 =>
(if y3.1 = true then
some (true, y3.2)
else
(M.slices_ContainsFunc_guerdon_api_Field_guerdon_api_Field_v1 N a3 y3.2).bind fun y4 =>
some (y4.1, y4.2)) : Option (Bool × rField.den)).bind fun j2 =>
(if j2.1 = true then
some (7 : Int)
else
(M.value_ValidType N j2.2.2 a0.1).bind fun y5 =>
(if (!y5) = true then
some (8 : Int)
else
some (0 : Int))))
noncomputable def S56 (N : Nat) : Sig := { inn := ⟨[(0, .val true (.leaf rLaw)), (1, .val true (.leaf rField)), (2, .val false (.leaf (.slice rField))), (3, .val false (.leaf (.slice rField)))], [], [], 0⟩, out := ⟨[(0, .val false (.leaf rInt))], [], [], 0⟩, fn := fun (x : rLaw.den × rField.den × (List rField.den) × List rField.den) => M.law_checkField N x.1 x.2.1 x.2.2.1 x.2.2.2 }
theorem W56 (N : Nat) : FnOK Tryz.prog 56 (S56 N) := fn_ok (E := ⟨tabs, [(25, S25 N), (41, S41 N), (77, S77v1 N)], (tabcons (W25 N) (tabcons (W41 N) (tabcons (W77v1 N) tabnil))), mixed, false, false⟩) (N := N) (a := (.two .nil (.two .nil (.two (.two (.two .nil (.two .nil (.meet ⟨[(16, .val false (.leaf .bool))], [(16, .box 67 (.leaf rField))], [], 161⟩ .nil .nil))) .nil) .nil)))) (sg := S56 N) (c := Tryz.f56.body.getD .skip) (rs := Tryz.f56.results.toList) Tryz.func56 (by kernel_rfl) (by kernel_rfl) rfl rfl rfl rfl (fun x => by kernel_rfl)
noncomputable def M.strings_Contains (N : Nat) (a0 : ByteArray) (a1 : ByteArray) : Option (Bool) := containsM (a0, a1)
noncomputable def S92 (N : Nat) : Sig := { inn := ⟨[(0, .val false (.leaf .str)), (1, .val false (.leaf .str))], [], [], 0⟩, out := ⟨[(0, .val false (.leaf .bool))], [], [], 0⟩, fn := fun (x : ByteArray × ByteArray) => M.strings_Contains N x.1 x.2 }
theorem W92 (N : Nat) : FnOK Tryz.prog 92 (S92 N) := contains_fn ⟨_, Tryz.func92, by kernel_rfl, by kernel_rfl⟩ Tryz.strings_Contains_one
noncomputable def M.law_validSource (N : Nat) (a0 : ByteArray) : Option (Bool) :=
((if (decide ((64 : Int) < (a0.size : Int))) = true then
some true
else
(M.strings_Contains N a0 (⟨#[34]⟩ : ByteArray)).bind fun y2 =>
some y2) : Option (Bool)).bind fun j1 =>
(if j1 = true then
some false
else
Loop (S := Int) (X := Bool) (fun s3 =>
(if (decide (s3 < (a0.size : Int))) = true then
((byteA a0 s3).bind fun x5 =>
(if (decide (x5 < (32 : Int))) = true then
some true
else
(byteA a0 s3).bind fun x6 =>
some (decide ((126 : Int) < x6))) : Option (Bool)).bind fun j4 =>
(if j4 = true then
some (Sum.inr false)
else
some (Sum.inl (IntKind.i64.wrap (s3 + (1 : Int)))))
else
some (Sum.inr true))) N (0 : Int))
noncomputable def S80 (N : Nat) : Sig := { inn := ⟨[(0, .val false (.leaf .str))], [], [], 0⟩, out := ⟨[(0, .val false (.leaf .bool))], [], [], 0⟩, fn := fun (x : ByteArray) => M.law_validSource N x }
theorem W80 (N : Nat) : FnOK Tryz.prog 80 (S80 N) := fn_ok (E := ⟨tabs, [(92, S92 N)], (tabcons (W92 N) tabnil), mixed, false, false⟩) (N := N) (a := (.two .nil (.two (.meet ⟨[(10, .val false (.leaf .bool))], [], [], 16⟩ .nil .nil) (.two (.two .nil (.two (.loop ⟨[(13, .val false (.leaf rInt))], [], [], 64⟩ (.two .nil (.two .nil (.two (.two (.two .nil (.meet ⟨[(25, .val false (.leaf .bool))], [], [], 112⟩ .nil .nil)) .nil) .nil)))) .nil)) .nil)))) (sg := S80 N) (c := Tryz.f80.body.getD .skip) (rs := Tryz.f80.results.toList) Tryz.func80 (by kernel_rfl) (by kernel_rfl) rfl rfl rfl rfl (fun x => by kernel_rfl)
noncomputable def M.expr_Arity (N : Nat) (a0 : Int) : Option (Int) :=
((if (decide (a0 = (1 : Int))) = true then
some (decide (a0 = (1 : Int)))
else
(if (decide (a0 = (2 : Int))) = true then
some (decide (a0 = (2 : Int)))
else
(if (decide (a0 = (3 : Int))) = true then
some (decide (a0 = (3 : Int)))
else
(if (decide (a0 = (4 : Int))) = true then
some (decide (a0 = (4 : Int)))
else
(if (decide (a0 = (5 : Int))) = true then
some (decide (a0 = (5 : Int)))
else
(if (decide (a0 = (6 : Int))) = true then
some (decide (a0 = (6 : Int)))
else
(if (decide (a0 = (7 : Int))) = true then
some (decide (a0 = (7 : Int)))
else
(if (decide (a0 = (8 : Int))) = true then
some (decide (a0 = (8 : Int)))
else
(if (decide (a0 = (9 : Int))) = true then
some (decide (a0 = (9 : Int)))
else
(if (decide (a0 = (35 : Int))) = true then
some (decide (a0 = (35 : Int)))
else
(if (decide (a0 = (36 : Int))) = true then
some (decide (a0 = (36 : Int)))
else
(if (decide (a0 = (37 : Int))) = true then
some (decide (a0 = (37 : Int)))
else
(if (decide (a0 = (38 : Int))) = true then
some (decide (a0 = (38 : Int)))
else
some (decide (a0 = (39 : Int)))))))))))))))) : Option (Bool)).bind fun j1 =>
(if j1 = true then
some (0 : Int)
else
((if (decide (a0 = (10 : Int))) = true then
some (decide (a0 = (10 : Int)))
else
(if (decide (a0 = (25 : Int))) = true then
some (decide (a0 = (25 : Int)))
else
(if (decide (a0 = (31 : Int))) = true then
some (decide (a0 = (31 : Int)))
else
(if (decide (a0 = (32 : Int))) = true then
some (decide (a0 = (32 : Int)))
else
(if (decide (a0 = (33 : Int))) = true then
some (decide (a0 = (33 : Int)))
else
some (decide (a0 = (34 : Int)))))))) : Option (Bool)).bind fun j2 =>
(if j2 = true then
some (1 : Int)
else
((if (decide (a0 = (11 : Int))) = true then
some (decide (a0 = (11 : Int)))
else
(if (decide (a0 = (12 : Int))) = true then
some (decide (a0 = (12 : Int)))
else
(if (decide (a0 = (13 : Int))) = true then
some (decide (a0 = (13 : Int)))
else
(if (decide (a0 = (14 : Int))) = true then
some (decide (a0 = (14 : Int)))
else
(if (decide (a0 = (15 : Int))) = true then
some (decide (a0 = (15 : Int)))
else
(if (decide (a0 = (16 : Int))) = true then
some (decide (a0 = (16 : Int)))
else
(if (decide (a0 = (17 : Int))) = true then
some (decide (a0 = (17 : Int)))
else
(if (decide (a0 = (18 : Int))) = true then
some (decide (a0 = (18 : Int)))
else
(if (decide (a0 = (19 : Int))) = true then
some (decide (a0 = (19 : Int)))
else
(if (decide (a0 = (20 : Int))) = true then
some (decide (a0 = (20 : Int)))
else
(if (decide (a0 = (21 : Int))) = true then
some (decide (a0 = (21 : Int)))
else
(if (decide (a0 = (22 : Int))) = true then
some (decide (a0 = (22 : Int)))
else
(if (decide (a0 = (23 : Int))) = true then
some (decide (a0 = (23 : Int)))
else
(if (decide (a0 = (24 : Int))) = true then
some (decide (a0 = (24 : Int)))
else
(if (decide (a0 = (27 : Int))) = true then
some (decide (a0 = (27 : Int)))
else
(if (decide (a0 = (28 : Int))) = true then
some (decide (a0 = (28 : Int)))
else
(if (decide (a0 = (29 : Int))) = true then
some (decide (a0 = (29 : Int)))
else
some (decide (a0 = (30 : Int)))))))))))))))))))) : Option (Bool)).bind fun j3 =>
(if j3 = true then
some (2 : Int)
else
(if (decide (a0 = (26 : Int))) = true then
some (3 : Int)
else
some (-1 : Int)))))
noncomputable def S34 (N : Nat) : Sig := { inn := ⟨[(0, .val false (.leaf rInt))], [], [], 0⟩, out := ⟨[(0, .val false (.leaf rInt))], [], [], 0⟩, fn := fun (x : Int) => M.expr_Arity N x }
theorem W34 (N : Nat) : FnOK Tryz.prog 34 (S34 N) := fn_ok (E := ⟨tabs, [], tabnil, mixed, false, false⟩) (N := N) (a := (.two .nil (.two (.two .nil (.two (.meet ⟨[(4, .val false (.leaf .bool))], [], [], 32⟩ .nil (.two .nil (.meet ⟨[(19, .val false (.leaf .bool))], [], [], 32⟩ .nil (.two .nil (.meet ⟨[(26, .val false (.leaf .bool))], [], [], 32⟩ .nil .nil))))) .nil)) .nil))) (sg := S34 N) (c := Tryz.f34.body.getD .skip) (rs := Tryz.f34.results.toList) Tryz.func34 (by kernel_rfl) (by kernel_rfl) rfl rfl rfl rfl (fun x => by kernel_rfl)
noncomputable def M.expr_structure (N : Nat) (a0 : List rType.den) : Option (Int × Int × List Int) :=
(if (decide ((48 : Int) < (a0.length : Int))) = true then
some ((0 : Int), (4 : Int), ([] : List Int))
else
(if (decide ((a0.length : Int) = (0 : Int))) = true then
some ((0 : Int), (5 : Int), ([] : List Int))
else
(mkL (a0.length : Int) (0 : Int)).bind fun l1 =>
Join (J := (List Int) × List Int) (R := Int × Int × List Int) (Loop (S := Int × (List Int) × List Int) (X := ((List Int) × List Int) ⊕ (Int × Int × List Int)) (fun s3 =>
(if (decide (s3.1 < (a0.length : Int))) = true then
(idx a0 s3.1).bind fun x4 =>
(M.expr_Arity N x4.1).bind fun y5 =>
(if (decide (y5 < (0 : Int))) = true then
some (Sum.inr (Sum.inr (s3.1, (2 : Int), ([] : List Int))))
else
(if (decide ((s3.2.2.length : Int) < y5)) = true then
some (Sum.inr (Sum.inr (s3.1, (5 : Int), ([] : List Int))))
else
(idx s3.2.1 s3.1).bind fun x6 =>
((if (decide ((0 : Int) < y5)) = true then
(idx s3.2.2 (IntKind.i64.wrap ((s3.2.2.length : Int) - y5))).bind fun x8 =>
(idx (setL s3.2.1 s3.1 s3.1) s3.1).bind fun x9 =>
some (setL (setL s3.2.1 s3.1 s3.1) s3.1 x8)
else
some (setL s3.2.1 s3.1 s3.1)) : Option (List Int)).bind fun j7 =>
(cutA s3.2.2 (0 : Int) (IntKind.i64.wrap ((s3.2.2.length : Int) - y5))).bind fun l10 =>
(idx j7 s3.1).bind fun x11 =>
(appA l10 ([x11] : List Int)).bind fun l12 =>
(if (decide ((12 : Int) < (l12.length : Int))) = true then
some (Sum.inr (Sum.inr (s3.1, (16 : Int), ([] : List Int))))
else
some (Sum.inl (IntKind.i64.wrap (s3.1 + (1 : Int)), j7, l12)))))
else
some (Sum.inr (Sum.inl (s3.2.1, s3.2.2))))) N ((0 : Int), l1, ([] : List Int))) fun j2 =>
(if (decide ((1 : Int) < (j2.2.length : Int))) = true then
some ((a0.length : Int), (4 : Int), ([] : List Int))
else
some ((0 : Int), (0 : Int), j2.1))))
noncomputable def S32 (N : Nat) : Sig := { inn := ⟨[(0, .val false (.leaf (.slice rType)))], [], [], 0⟩, out := ⟨[(0, .val false (.own 0)), (1, .val false (.leaf rInt)), (2, .val false (.leaf rInt))], [(0, .own 3 rInt)], [], 1⟩, fn := fun (x : List rType.den) => M.expr_structure N x }
theorem W32 (N : Nat) : FnOK Tryz.prog 32 (S32 N) := fn_ok (E := ⟨tabs, [(34, S34 N)], (tabcons (W34 N) tabnil), mixed, false, false⟩) (N := N) (a := (.two .nil (.two .nil (.two .nil (.two .nil (.two .nil (.join ⟨[(6, .val false (.own 224))], [(176, .own 3 rInt), (224, .own 3 rInt)], [], 226⟩ (.two .nil (.two (.loop ⟨[(6, .val false (.own 272)), (21, .val false (.leaf rInt))], [(176, .own 3 rInt), (272, .own 3 rInt)], [], 274⟩ (.two .nil (.two .nil (.two (.two (.two .nil (.two .nil (.two .nil (.two .nil (.two .nil (.meet ⟨[], [(176, .own 3 rInt)], [], 627⟩ .nil .nil)))))) .nil) .nil)))) .nil)) .nil))))))) (sg := S32 N) (c := Tryz.f32.body.getD .skip) (rs := Tryz.f32.results.toList) Tryz.func32 (by kernel_rfl) (by kernel_rfl) rfl rfl rfl rfl (fun x => by kernel_rfl)
noncomputable def M.expr_UsesN (N : Nat) (a0 : Int) : Option (Bool) :=
((if (decide (a0 = (1 : Int))) = true then
some (decide (a0 = (1 : Int)))
else
(if (decide (a0 = (2 : Int))) = true then
some (decide (a0 = (2 : Int)))
else
(if (decide (a0 = (3 : Int))) = true then
some (decide (a0 = (3 : Int)))
else
(if (decide (a0 = (4 : Int))) = true then
some (decide (a0 = (4 : Int)))
else
(if (decide (a0 = (5 : Int))) = true then
some (decide (a0 = (5 : Int)))
else
(if (decide (a0 = (6 : Int))) = true then
some (decide (a0 = (6 : Int)))
else
(if (decide (a0 = (7 : Int))) = true then
some (decide (a0 = (7 : Int)))
else
(if (decide (a0 = (8 : Int))) = true then
some (decide (a0 = (8 : Int)))
else
(if (decide (a0 = (14 : Int))) = true then
some (decide (a0 = (14 : Int)))
else
(if (decide (a0 = (15 : Int))) = true then
some (decide (a0 = (15 : Int)))
else
(if (decide (a0 = (16 : Int))) = true then
some (decide (a0 = (16 : Int)))
else
(if (decide (a0 = (33 : Int))) = true then
some (decide (a0 = (33 : Int)))
else
(if (decide (a0 = (34 : Int))) = true then
some (decide (a0 = (34 : Int)))
else
(if (decide (a0 = (36 : Int))) = true then
some (decide (a0 = (36 : Int)))
else
(if (decide (a0 = (37 : Int))) = true then
some (decide (a0 = (37 : Int)))
else
(if (decide (a0 = (38 : Int))) = true then
some (decide (a0 = (38 : Int)))
else
some (decide (a0 = (39 : Int))))))))))))))))))) : Option (Bool)).bind fun j1 =>
(if j1 = true then
some true
else
some false)
noncomputable def S33 (N : Nat) : Sig := { inn := ⟨[(0, .val false (.leaf rInt))], [], [], 0⟩, out := ⟨[(0, .val false (.leaf .bool))], [], [], 0⟩, fn := fun (x : Int) => M.expr_UsesN N x }
theorem W33 (N : Nat) : FnOK Tryz.prog 33 (S33 N) := fn_ok (E := ⟨tabs, [], tabnil, mixed, false, false⟩) (N := N) (a := (.two .nil (.two (.two .nil (.two (.meet ⟨[(4, .val false (.leaf .bool))], [], [], 32⟩ .nil .nil) .nil)) .nil))) (sg := S33 N) (c := Tryz.f33.body.getD .skip) (rs := Tryz.f33.results.toList) Tryz.func33 (by kernel_rfl) (by kernel_rfl) rfl rfl rfl rfl (fun x => by kernel_rfl)
noncomputable def M.expr_literalType (N : Nat) (a0 : Int) (a1 : Int) (a2 : rSignature.den) : Option (rType.den × Int) :=
(M.value_Bounds N (a1, (0 : Int)) a2.1).bind fun y1 =>
((if (decide (a0 < y1.1)) = true then
some true
else
some (decide (y1.2 < a0))) : Option (Bool)).bind fun j2 =>
(if j2 = true then
some (((0 : Int), (0 : Int)), (3 : Int))
else
some ((a1, (0 : Int)), (0 : Int)))
noncomputable def S60 (N : Nat) : Sig := { inn := ⟨[(0, .val false (.leaf rInt)), (1, .val false (.leaf rInt)), (2, .val true (.leaf rSignature))], [], [], 0⟩, out := ⟨[(0, .val true (.leaf rType)), (1, .val false (.leaf rInt))], [], [], 0⟩, fn := fun (x : Int × Int × rSignature.den) => M.expr_literalType N x.1 x.2.1 x.2.2 }
theorem W60 (N : Nat) : FnOK Tryz.prog 60 (S60 N) := fn_ok (E := ⟨tabs, [(42, S42 N)], (tabcons (W42 N) tabnil), mixed, false, false⟩) (N := N) (a := (.two .nil (.two .nil (.two (.two .nil (.meet ⟨[(27, .val false (.leaf .bool))], [], [], 256⟩ .nil .nil)) .nil)))) (sg := S60 N) (c := Tryz.f60.body.getD .skip) (rs := Tryz.f60.results.toList) Tryz.func60 (by kernel_rfl) (by kernel_rfl) rfl rfl rfl rfl (fun x => by kernel_rfl)
noncomputable def M.expr_enumType (N : Nat) (a0 : Int) (a1 : rSignature.den) : Option (rType.den × Int) :=
(if (decide (a0 < (0 : Int))) = true then
some (((0 : Int), (0 : Int)), (3 : Int))
else
((if (decide ((a1.1.length : Int) ≤ (IntKind.i64.wrap (Int.tdiv a0 (16 : Int))))) = true then
some true
else
(idx a1.1 (IntKind.i64.wrap (Int.tdiv a0 (16 : Int)))).bind fun x2 =>
some (decide ((x2.2.length : Int) ≤ (Int.tmod a0 (16 : Int))))) : Option (Bool)).bind fun j1 =>
(if j1 = true then
some (((0 : Int), (0 : Int)), (6 : Int))
else
some (((6 : Int), IntKind.i64.wrap (Int.tdiv a0 (16 : Int))), (0 : Int))))
noncomputable def S61 (N : Nat) : Sig := { inn := ⟨[(0, .val false (.leaf rInt)), (1, .val true (.leaf rSignature))], [], [], 0⟩, out := ⟨[(0, .val true (.leaf rType)), (1, .val false (.leaf rInt))], [], [], 0⟩, fn := fun (x : Int × rSignature.den) => M.expr_enumType N x.1 x.2 }
theorem W61 (N : Nat) : FnOK Tryz.prog 61 (S61 N) := fn_ok (E := ⟨tabs, [], tabnil, mixed, false, false⟩) (N := N) (a := (.two .nil (.two .nil (.two .nil (.two (.meet ⟨[(30, .val false (.leaf .bool))], [], [], 176⟩ .nil .nil) .nil))))) (sg := S61 N) (c := Tryz.f61.body.getD .skip) (rs := Tryz.f61.results.toList) Tryz.func61 (by kernel_rfl) (by kernel_rfl) rfl rfl rfl rfl (fun x => by kernel_rfl)
noncomputable def M.expr_listedType (N : Nat) (a0 : Int) (a1 : List rType.den) (a2 : rSignature.den) : Option (rType.den × Int) :=
((if (decide (a0 < (0 : Int))) = true then
some true
else
some (decide ((a1.length : Int) ≤ a0))) : Option (Bool)).bind fun j1 =>
(if j1 = true then
some (((0 : Int), (0 : Int)), (6 : Int))
else
(idx a1 a0).bind fun x2 =>
(M.value_ValidType N x2 a2.1).bind fun y3 =>
(if (!y3) = true then
some (((0 : Int), (0 : Int)), (8 : Int))
else
(idx a1 a0).bind fun x4 =>
some (x4, (0 : Int))))
noncomputable def S62 (N : Nat) : Sig := { inn := ⟨[(0, .val false (.leaf rInt)), (1, .val false (.leaf (.slice rType))), (2, .val true (.leaf rSignature))], [], [], 0⟩, out := ⟨[(0, .val true (.leaf rType)), (1, .val false (.leaf rInt))], [], [], 0⟩, fn := fun (x : Int × (List rType.den) × rSignature.den) => M.expr_listedType N x.1 x.2.1 x.2.2 }
theorem W62 (N : Nat) : FnOK Tryz.prog 62 (S62 N) := fn_ok (E := ⟨tabs, [(41, S41 N)], (tabcons (W41 N) tabnil), mixed, false, false⟩) (N := N) (a := (.two .nil (.two (.meet ⟨[(15, .val false (.leaf .bool))], [], [], 48⟩ .nil .nil) .nil))) (sg := S62 N) (c := Tryz.f62.body.getD .skip) (rs := Tryz.f62.results.toList) Tryz.func62 (by kernel_rfl) (by kernel_rfl) rfl rfl rfl rfl (fun x => by kernel_rfl)
noncomputable def M.expr_validMode (N : Nat) (a0 : Int) : Option (Bool) :=
((if (decide ((0 : Int) ≤ a0)) = true then
some (decide (a0 ≤ (5 : Int)))
else
some false) : Option (Bool)).bind fun j1 =>
some j1
noncomputable def S65 (N : Nat) : Sig := { inn := ⟨[(0, .val false (.leaf rInt))], [], [], 0⟩, out := ⟨[(0, .val false (.leaf .bool))], [], [], 0⟩, fn := fun (x : Int) => M.expr_validMode N x }
theorem W65 (N : Nat) : FnOK Tryz.prog 65 (S65 N) := fn_ok (E := ⟨tabs, [], tabnil, mixed, false, false⟩) (N := N) (a := (.two .nil (.meet ⟨[(2, .val false (.leaf .bool))], [], [], 16⟩ .nil .nil))) (sg := S65 N) (c := Tryz.f65.body.getD .skip) (rs := Tryz.f65.results.toList) Tryz.func65 (by kernel_rfl) (by kernel_rfl) rfl rfl rfl rfl (fun x => by kernel_rfl)
noncomputable def M.expr_tableType (N : Nat) (a0 : rType.den) (a1 : rType.den) (a2 : rSignature.den) : Option (rType.den × Int) :=
Join (J := Int) (R := rType.den × Int) ((if (decide (a0.1 = (34 : Int))) = true then
((if (decide (a0.2 < (0 : Int))) = true then
some true
else
(M.expr_validMode N (Int.tmod a0.2 (8 : Int))).bind fun y3 =>
some (!y3)) : Option (Bool)).bind fun j2 =>
(if j2 = true then
some (Sum.inr (((0 : Int), (0 : Int)), (3 : Int)))
else
some (Sum.inl (IntKind.i64.wrap (Int.tdiv a0.2 (8 : Int)))))
else
some (Sum.inl a0.2))) fun j1 =>
((if (decide (j1 < (0 : Int))) = true then
some true
else
some (decide ((a2.2.1.length : Int) ≤ j1))) : Option (Bool)).bind fun j4 =>
(if j4 = true then
some (((0 : Int), (0 : Int)), (6 : Int))
else
(idx a2.2.1 j1).bind fun x5 =>
(idx a2.2.1 j1).bind fun x6 =>
((M.value_ValidType N x5.2.1 a2.1).bind fun y8 =>
(if (!y8) = true then
some true
else
(M.value_ValidType N x6.2.2.1 a2.1).bind fun y9 =>
(if (!y9) = true then
some true
else
some (!(eqR rType a1 x5.2.1)))) : Option (Bool)).bind fun j7 =>
(if j7 = true then
some (((0 : Int), (0 : Int)), (8 : Int))
else
(if (decide (a0.1 = (34 : Int))) = true then
((if (!decide (x5.2.1.1 = (3 : Int))) = true then
some true
else
some (!decide (x6.2.2.1.1 = (4 : Int)))) : Option (Bool)).bind fun j10 =>
(if j10 = true then
some (((0 : Int), (0 : Int)), (8 : Int))
else
some (x5.2.1, (0 : Int)))
else
some (x6.2.2.1, (0 : Int)))))
noncomputable def S63 (N : Nat) : Sig := { inn := ⟨[(0, .val true (.leaf rType)), (1, .val true (.leaf rType)), (2, .val true (.leaf rSignature))], [], [], 0⟩, out := ⟨[(0, .val true (.leaf rType)), (1, .val false (.leaf rInt))], [], [], 0⟩, fn := fun (x : rType.den × rType.den × rSignature.den) => M.expr_tableType N x.1 x.2.1 x.2.2 }
theorem W63 (N : Nat) : FnOK Tryz.prog 63 (S63 N) := fn_ok (E := ⟨tabs, [(41, S41 N), (65, S65 N)], (tabcons (W41 N) (tabcons (W65 N) tabnil)), mixed, false, false⟩) (N := N) (a := (.two .nil (.two .nil (.join ⟨[(8, .val false (.leaf rInt))], [], [], 128⟩ (.two .nil (.two (.two (.meet ⟨[(25, .val false (.leaf .bool))], [], [], 176⟩ .nil .nil) .nil) .nil)) (.two (.meet ⟨[(38, .val false (.leaf .bool))], [], [], 128⟩ .nil .nil) (.two .nil (.two (.meet ⟨[(68, .val false (.leaf .bool))], [], [], 384⟩ .nil .nil) (.two (.two .nil (.two (.two (.meet ⟨[(80, .val false (.leaf .bool))], [], [], 432⟩ .nil .nil) .nil) .nil)) .nil)))))))) (sg := S63 N) (c := Tryz.f63.body.getD .skip) (rs := Tryz.f63.results.toList) Tryz.func63 (by kernel_rfl) (by kernel_rfl) rfl rfl rfl rfl (fun x => by kernel_rfl)
noncomputable def M.expr_isNumber (N : Nat) (a0 : Int) : Option (Bool) :=
((if (decide (a0 = (2 : Int))) = true then
some true
else
(if (decide (a0 = (3 : Int))) = true then
some true
else
some (decide (a0 = (4 : Int))))) : Option (Bool)).bind fun j1 =>
some j1
noncomputable def S84 (N : Nat) : Sig := { inn := ⟨[(0, .val false (.leaf rInt))], [], [], 0⟩, out := ⟨[(0, .val false (.leaf .bool))], [], [], 0⟩, fn := fun (x : Int) => M.expr_isNumber N x }
theorem W84 (N : Nat) : FnOK Tryz.prog 84 (S84 N) := fn_ok (E := ⟨tabs, [], tabnil, mixed, false, false⟩) (N := N) (a := (.two .nil (.meet ⟨[(2, .val false (.leaf .bool))], [], [], 16⟩ .nil .nil))) (sg := S84 N) (c := Tryz.f84.body.getD .skip) (rs := Tryz.f84.results.toList) Tryz.func84 (by kernel_rfl) (by kernel_rfl) rfl rfl rfl rfl (fun x => by kernel_rfl)
noncomputable def M.expr_memberType (N : Nat) (a0 : rType.den) (a1 : rSignature.den) : Option (rType.den × Int) :=
(if (!a1.2.2.2.2.2) = true then
some (((0 : Int), (0 : Int)), (6 : Int))
else
(if (decide (a0.1 = (35 : Int))) = true then
some (((2 : Int), (0 : Int)), (0 : Int))
else
(M.expr_listedType N a0.2 a1.2.2.2.2.1 a1).bind fun y1 =>
(if (!decide (y1.2 = (0 : Int))) = true then
some (((0 : Int), (0 : Int)), y1.2)
else
((if (decide (a0.1 = (36 : Int))) = true then
(if (decide (y1.1.1 = (2 : Int))) = true then
some true
else
some (decide (y1.1.1 = (3 : Int))))
else
((if (decide (a0.1 = (37 : Int))) = true then
some (decide (a0.1 = (37 : Int)))
else
some (decide (a0.1 = (38 : Int)))) : Option (Bool)).bind fun j3 =>
(if j3 = true then
some (decide (y1.1.1 = (1 : Int)))
else
(if (decide (a0.1 = (39 : Int))) = true then
(M.expr_isNumber N y1.1.1).bind fun y4 =>
(if y4 = true then
some true
else
some (decide (y1.1.1 = (5 : Int))))
else
some false))) : Option (Bool)).bind fun j2 =>
(if (!j2) = true then
some (((0 : Int), (0 : Int)), (8 : Int))
else
some (y1.1, (0 : Int))))))
noncomputable def S64 (N : Nat) : Sig := { inn := ⟨[(0, .val true (.leaf rType)), (1, .val true (.leaf rSignature))], [], [], 0⟩, out := ⟨[(0, .val true (.leaf rType)), (1, .val false (.leaf rInt))], [], [], 0⟩, fn := fun (x : rType.den × rSignature.den) => M.expr_memberType N x.1 x.2 }
theorem W64 (N : Nat) : FnOK Tryz.prog 64 (S64 N) := fn_ok (E := ⟨tabs, [(62, S62 N), (84, S84 N)], (tabcons (W62 N) (tabcons (W84 N) tabnil)), mixed, false, false⟩) (N := N) (a := (.two .nil (.two .nil (.two .nil (.two .nil (.two .nil (.two .nil (.two (.two .nil (.meet ⟨[(8, .val false (.leaf .bool))], [], [], 432⟩ (.two .nil (.two .nil (.meet ⟨[(42, .val false (.leaf .bool))], [], [], 464⟩ .nil .nil))) .nil)) .nil)))))))) (sg := S64 N) (c := Tryz.f64.body.getD .skip) (rs := Tryz.f64.results.toList) Tryz.func64 (by kernel_rfl) (by kernel_rfl) rfl rfl rfl rfl (fun x => by kernel_rfl)
noncomputable def M.expr_productType (N : Nat) (a0 : Int) (a1 : Int) (a2 : Int) : Option (rType.den × Bool) :=
(if (decide (a0 = (14 : Int))) = true then
((if (decide (a2 = (4 : Int))) = true then
(if (decide (a1 = (3 : Int))) = true then
some (true, (a1, (0 : Int)))
else
some (decide (a1 = (4 : Int)), (a1, (0 : Int))))
else
some (false, (a1, (0 : Int)))) : Option (Bool × rType.den)).bind fun j1 =>
some (j1.2, j1.1)
else
(if (decide (a2 = (2 : Int))) = true then
((if (decide (a1 = (2 : Int))) = true then
some (true, (a1, (0 : Int)))
else
some (decide (a1 = (3 : Int)), (a1, (0 : Int)))) : Option (Bool × rType.den)).bind fun j2 =>
some (j2.2, j2.1)
else
((if (decide (a0 = (15 : Int))) = true then
(if (decide (a1 = (3 : Int))) = true then
some (decide (a2 = (3 : Int)))
else
some false)
else
some false) : Option (Bool)).bind fun j3 =>
(if j3 = true then
some (((4 : Int), (0 : Int)), true)
else
some (((0 : Int), (0 : Int)), false))))
noncomputable def S85 (N : Nat) : Sig := { inn := ⟨[(0, .val false (.leaf rInt)), (1, .val false (.leaf rInt)), (2, .val false (.leaf rInt))], [], [], 0⟩, out := ⟨[(0, .val true (.leaf rType)), (1, .val false (.leaf .bool))], [], [], 0⟩, fn := fun (x : Int × Int × Int) => M.expr_productType N x.1 x.2.1 x.2.2 }
theorem W85 (N : Nat) : FnOK Tryz.prog 85 (S85 N) := fn_ok (E := ⟨tabs, [], tabnil, mixed, false, false⟩) (N := N) (a := (.two .nil (.two (.two (.two .nil (.two (.meet ⟨[(7, .val false (.leaf .bool))], [(0, .box 54 (.leaf rType))], [], 81⟩ .nil .nil) (.two .nil (.two (.meet ⟨[(7, .val false (.leaf .bool))], [(0, .box 54 (.leaf rType))], [], 129⟩ .nil .nil) (.meet ⟨[(34, .val false (.leaf .bool))], [], [], 128⟩ .nil .nil))))) .nil) .nil))) (sg := S85 N) (c := Tryz.f85.body.getD .skip) (rs := Tryz.f85.results.toList) Tryz.func85 (by kernel_rfl) (by kernel_rfl) rfl rfl rfl rfl (fun x => by kernel_rfl)
noncomputable def M.expr_resultType (N : Nat) (a0 : Int) (a1 : List rType.den) : Option (rType.den × Bool) :=
(if (decide (a0 = (10 : Int))) = true then
(idx a1 (0 : Int)).bind fun x1 =>
(idx a1 (0 : Int)).bind fun x2 =>
(M.expr_isNumber N x2.1).bind fun y3 =>
some (x1, y3)
else
(if (decide (a0 = (25 : Int))) = true then
(idx a1 (0 : Int)).bind fun x4 =>
some (((1 : Int), (0 : Int)), decide (x4.1 = (1 : Int)))
else
((if (decide (a0 = (11 : Int))) = true then
some (decide (a0 = (11 : Int)))
else
some (decide (a0 = (12 : Int)))) : Option (Bool)).bind fun j5 =>
(if j5 = true then
((idx a1 (0 : Int)).bind fun x7 =>
(idx a1 (0 : Int)).bind fun x8 =>
(idx a1 (1 : Int)).bind fun x9 =>
(if (eqR rType x8 x9) = true then
(idx a1 (0 : Int)).bind fun x10 =>
(M.expr_isNumber N x10.1).bind fun y11 =>
some (y11, x7)
else
some (false, x7)) : Option (Bool × rType.den)).bind fun j6 =>
some (j6.2, j6.1)
else
((if (decide (a0 = (13 : Int))) = true then
some (decide (a0 = (13 : Int)))
else
(if (decide (a0 = (14 : Int))) = true then
some (decide (a0 = (14 : Int)))
else
some (decide (a0 = (15 : Int))))) : Option (Bool)).bind fun j12 =>
(if j12 = true then
(idx a1 (0 : Int)).bind fun x13 =>
(idx a1 (1 : Int)).bind fun x14 =>
(M.expr_productType N a0 x13.1 x14.1).bind fun y15 =>
some (y15.1, y15.2)
else
(if (decide (a0 = (16 : Int))) = true then
((idx a1 (0 : Int)).bind fun x17 =>
(idx a1 (0 : Int)).bind fun x18 =>
(if (decide (x18.1 = (3 : Int))) = true then
(idx a1 (1 : Int)).bind fun x19 =>
some (decide (x19.1 = (3 : Int)), x17)
else
some (false, x17)) : Option (Bool × rType.den)).bind fun j16 =>
some (j16.2, j16.1)
else
((if (decide (a0 = (17 : Int))) = true then
some (decide (a0 = (17 : Int)))
else
some (decide (a0 = (18 : Int)))) : Option (Bool)).bind fun j20 =>
(if j20 = true then
((idx a1 (0 : Int)).bind fun x22 =>
(idx a1 (0 : Int)).bind fun x23 =>
(idx a1 (1 : Int)).bind fun x24 =>
(if (eqR rType x23 x24) = true then
(idx a1 (0 : Int)).bind fun x25 =>
(M.expr_isNumber N x25.1).bind fun y26 =>
(if y26 = true then
some (true, x22)
else
(idx a1 (0 : Int)).bind fun x27 =>
some (decide (x27.1 = (5 : Int)), x22))
else
some (false, x22)) : Option (Bool × rType.den)).bind fun j21 =>
some (j21.2, j21.1)
else
((if (decide (a0 = (19 : Int))) = true then
some (decide (a0 = (19 : Int)))
else
some (decide (a0 = (20 : Int)))) : Option (Bool)).bind fun j28 =>
(if j28 = true then
(idx a1 (0 : Int)).bind fun x29 =>
(idx a1 (1 : Int)).bind fun x30 =>
some (((1 : Int), (0 : Int)), (eqR rType x29 x30))
else
((if (decide (a0 = (21 : Int))) = true then
some (decide (a0 = (21 : Int)))
else
some (decide (a0 = (22 : Int)))) : Option (Bool)).bind fun j31 =>
(if j31 = true then
((idx a1 (0 : Int)).bind fun x33 =>
(idx a1 (1 : Int)).bind fun x34 =>
(if (eqR rType x33 x34) = true then
(idx a1 (0 : Int)).bind fun x35 =>
(M.expr_isNumber N x35.1).bind fun y36 =>
(if y36 = true then
some (true, ((1 : Int), (0 : Int)))
else
(idx a1 (0 : Int)).bind fun x37 =>
some (decide (x37.1 = (5 : Int)), ((1 : Int), (0 : Int))))
else
some (false, ((1 : Int), (0 : Int)))) : Option (Bool × rType.den)).bind fun j32 =>
some (j32.2, j32.1)
else
((if (decide (a0 = (23 : Int))) = true then
some (decide (a0 = (23 : Int)))
else
some (decide (a0 = (24 : Int)))) : Option (Bool)).bind fun j38 =>
(if j38 = true then
((idx a1 (0 : Int)).bind fun x40 =>
(if (decide (x40.1 = (1 : Int))) = true then
(idx a1 (1 : Int)).bind fun x41 =>
some (decide (x41.1 = (1 : Int)), ((1 : Int), (0 : Int)))
else
some (false, ((1 : Int), (0 : Int)))) : Option (Bool × rType.den)).bind fun j39 =>
some (j39.2, j39.1)
else
(if (decide (a0 = (26 : Int))) = true then
((idx a1 (1 : Int)).bind fun x43 =>
(idx a1 (0 : Int)).bind fun x44 =>
(if (decide (x44.1 = (1 : Int))) = true then
(idx a1 (1 : Int)).bind fun x45 =>
(idx a1 (2 : Int)).bind fun x46 =>
some ((eqR rType x45 x46), x43)
else
some (false, x43)) : Option (Bool × rType.den)).bind fun j42 =>
some (j42.2, j42.1)
else
((if (decide (a0 = (27 : Int))) = true then
some (decide (a0 = (27 : Int)))
else
some (decide (a0 = (28 : Int)))) : Option (Bool)).bind fun j47 =>
(if j47 = true then
((idx a1 (0 : Int)).bind fun x49 =>
(idx a1 (0 : Int)).bind fun x50 =>
(if (decide (x50.1 = (5 : Int))) = true then
(idx a1 (1 : Int)).bind fun x51 =>
some (decide (x51.1 = (2 : Int)), x49)
else
some (false, x49)) : Option (Bool × rType.den)).bind fun j48 =>
some (j48.2, j48.1)
else
((if (decide (a0 = (29 : Int))) = true then
some (decide (a0 = (29 : Int)))
else
some (decide (a0 = (30 : Int)))) : Option (Bool)).bind fun j52 =>
(if j52 = true then
((idx a1 (0 : Int)).bind fun x54 =>
(if (decide (x54.1 = (5 : Int))) = true then
(idx a1 (1 : Int)).bind fun x55 =>
some (decide (x55.1 = (5 : Int)), ((2 : Int), (0 : Int)))
else
some (false, ((2 : Int), (0 : Int)))) : Option (Bool × rType.den)).bind fun j53 =>
some (j53.2, j53.1)
else
((if (decide (a0 = (31 : Int))) = true then
some (decide (a0 = (31 : Int)))
else
some (decide (a0 = (32 : Int)))) : Option (Bool)).bind fun j56 =>
(if j56 = true then
(idx a1 (0 : Int)).bind fun x57 =>
some (((2 : Int), (0 : Int)), decide (x57.1 = (5 : Int)))
else
some (((0 : Int), (0 : Int)), false))))))))))))))
noncomputable def S66 (N : Nat) : Sig := { inn := ⟨[(0, .val false (.leaf rInt)), (1, .val false (.leaf (.slice rType)))], [], [], 0⟩, out := ⟨[(0, .val true (.leaf rType)), (1, .val false (.leaf .bool))], [], [], 0⟩, fn := fun (x : Int × List rType.den) => M.expr_resultType N x.1 x.2 }
theorem W66 (N : Nat) : FnOK Tryz.prog 66 (S66 N) := fn_ok (E := ⟨tabs, [(84, S84 N), (85, S85 N)], (tabcons (W84 N) (tabcons (W85 N) tabnil)), mixed, false, false⟩) (N := N) (a := (.two .nil (.two .nil (.two (.two .nil (.two (.two .nil (.two .nil (.two .nil (.two .nil (.meet ⟨[(27, .val false (.leaf .bool))], [], [], 160⟩ .nil (.two (.meet ⟨[(5, .val false (.leaf .bool))], [(0, .box 54 (.leaf rType))], [], 161⟩ .nil .nil) (.meet ⟨[(47, .val false (.leaf .bool))], [], [], 160⟩ .nil (.two .nil (.two .nil (.two (.meet ⟨[(5, .val false (.leaf .bool))], [(0, .box 54 (.leaf rType))], [], 193⟩ .nil .nil) (.meet ⟨[(80, .val false (.leaf .bool))], [], [], 192⟩ .nil (.two (.meet ⟨[(5, .val false (.leaf .bool))], [(0, .box 54 (.leaf rType))], [], 193⟩ .nil .nil) (.meet ⟨[(107, .val false (.leaf .bool))], [], [], 192⟩ .nil (.two .nil (.meet ⟨[(118, .val false (.leaf .bool))], [], [], 192⟩ .nil (.two (.meet ⟨[(5, .val false (.leaf .bool))], [(0, .box 54 (.leaf rType))], [], 193⟩ .nil .nil) (.meet ⟨[(143, .val false (.leaf .bool))], [], [], 192⟩ .nil (.two (.meet ⟨[(5, .val false (.leaf .bool))], [(0, .box 54 (.leaf rType))], [], 193⟩ .nil .nil) (.two .nil (.two (.meet ⟨[(5, .val false (.leaf .bool))], [(0, .box 54 (.leaf rType))], [], 225⟩ .nil .nil) (.meet ⟨[(178, .val false (.leaf .bool))], [], [], 224⟩ .nil (.two (.meet ⟨[(5, .val false (.leaf .bool))], [(0, .box 54 (.leaf rType))], [], 225⟩ .nil .nil) (.meet ⟨[(196, .val false (.leaf .bool))], [], [], 224⟩ .nil (.two (.meet ⟨[(5, .val false (.leaf .bool))], [(0, .box 54 (.leaf rType))], [], 225⟩ .nil .nil) (.meet ⟨[(212, .val false (.leaf .bool))], [], [], 224⟩ .nil .nil))))))))))))))))))))))))) .nil)) .nil)))) (sg := S66 N) (c := Tryz.f66.body.getD .skip) (rs := Tryz.f66.results.toList) Tryz.func66 (by kernel_rfl) (by kernel_rfl) rfl rfl rfl rfl (fun x => by kernel_rfl)
noncomputable def M.expr_nodeType (N : Nat) (a0 : rType.den) (a1 : List rType.den) (a2 : rSignature.den) : Option (rType.den × Int) :=
Join (J := Unit) (R := rType.den × Int) ((if (decide (a0.1 = (1 : Int))) = true then
(M.expr_literalType N a0.2 (1 : Int) a2).bind fun y2 =>
some (Sum.inr (y2.1, y2.2))
else
(if (decide (a0.1 = (2 : Int))) = true then
(M.expr_literalType N a0.2 (2 : Int) a2).bind fun y3 =>
some (Sum.inr (y3.1, y3.2))
else
(if (decide (a0.1 = (3 : Int))) = true then
(M.expr_literalType N a0.2 (3 : Int) a2).bind fun y4 =>
some (Sum.inr (y4.1, y4.2))
else
(if (decide (a0.1 = (4 : Int))) = true then
(M.expr_literalType N a0.2 (4 : Int) a2).bind fun y5 =>
some (Sum.inr (y5.1, y5.2))
else
(if (decide (a0.1 = (5 : Int))) = true then
(M.expr_literalType N a0.2 (5 : Int) a2).bind fun y6 =>
some (Sum.inr (y6.1, y6.2))
else
(if (decide (a0.1 = (6 : Int))) = true then
(M.expr_enumType N a0.2 a2).bind fun y7 =>
some (Sum.inr (y7.1, y7.2))
else
(if (decide (a0.1 = (7 : Int))) = true then
(M.expr_listedType N a0.2 a2.2.2.1 a2).bind fun y8 =>
some (Sum.inr (y8.1, y8.2))
else
(if (decide (a0.1 = (8 : Int))) = true then
(M.expr_listedType N a0.2 a2.2.2.2.1 a2).bind fun y9 =>
some (Sum.inr (y9.1, y9.2))
else
(if (decide (a0.1 = (9 : Int))) = true then
some (Sum.inr (((5 : Int), (0 : Int)), (0 : Int)))
else
((if (decide (a0.1 = (33 : Int))) = true then
some (decide (a0.1 = (33 : Int)))
else
some (decide (a0.1 = (34 : Int)))) : Option (Bool)).bind fun j10 =>
(if j10 = true then
(idx a1 (0 : Int)).bind fun x11 =>
(M.expr_tableType N a0 x11 a2).bind fun y12 =>
some (Sum.inr (y12.1, y12.2))
else
((if (decide (a0.1 = (35 : Int))) = true then
some (decide (a0.1 = (35 : Int)))
else
(if (decide (a0.1 = (36 : Int))) = true then
some (decide (a0.1 = (36 : Int)))
else
(if (decide (a0.1 = (37 : Int))) = true then
some (decide (a0.1 = (37 : Int)))
else
(if (decide (a0.1 = (38 : Int))) = true then
some (decide (a0.1 = (38 : Int)))
else
some (decide (a0.1 = (39 : Int))))))) : Option (Bool)).bind fun j13 =>
(if j13 = true then
(M.expr_memberType N a0 a2).bind fun y14 =>
some (Sum.inr (y14.1, y14.2))
else
((if (decide (a0.1 = (14 : Int))) = true then
some (decide (a0.1 = (14 : Int)))
else
(if (decide (a0.1 = (15 : Int))) = true then
some (decide (a0.1 = (15 : Int)))
else
some (decide (a0.1 = (16 : Int))))) : Option (Bool)).bind fun j15 =>
(if j15 = true then
(M.expr_validMode N a0.2).bind fun y16 =>
(if (!y16) = true then
some (Sum.inr (((0 : Int), (0 : Int)), (3 : Int)))
else
some (Sum.inl ()))
else
some (Sum.inl ())))))))))))))) fun j1 =>
(M.expr_resultType N a0.1 a1).bind fun y17 =>
(if (!y17.2) = true then
some (((0 : Int), (0 : Int)), (8 : Int))
else
some (y17.1, (0 : Int)))
noncomputable def S35 (N : Nat) : Sig := { inn := ⟨[(0, .val true (.leaf rType)), (1, .val false (.leaf (.slice rType))), (2, .val true (.leaf rSignature))], [], [], 0⟩, out := ⟨[(0, .val true (.leaf rType)), (1, .val false (.leaf rInt))], [], [], 0⟩, fn := fun (x : rType.den × (List rType.den) × rSignature.den) => M.expr_nodeType N x.1 x.2.1 x.2.2 }
theorem W35 (N : Nat) : FnOK Tryz.prog 35 (S35 N) := fn_ok (E := ⟨tabs, [(60, S60 N), (61, S61 N), (62, S62 N), (63, S63 N), (64, S64 N), (65, S65 N), (66, S66 N)], (tabcons (W60 N) (tabcons (W61 N) (tabcons (W62 N) (tabcons (W63 N) (tabcons (W64 N) (tabcons (W65 N) (tabcons (W66 N) tabnil))))))), mixed, false, false⟩) (N := N) (a := (.two .nil (.two (.two .nil (.join ⟨[], [], [], 96⟩ (.two .nil (.two .nil (.two .nil (.two .nil (.two .nil (.two .nil (.two .nil (.two .nil (.two .nil (.two .nil (.two .nil (.two .nil (.two .nil (.two .nil (.two .nil (.two .nil (.two .nil (.two .nil (.meet ⟨[(83, .val false (.leaf .bool))], [], [], 384⟩ .nil (.two .nil (.meet ⟨[(94, .val false (.leaf .bool))], [], [], 384⟩ .nil (.two .nil (.meet ⟨[(105, .val false (.leaf .bool))], [], [], 384⟩ .nil .nil))))))))))))))))))))))) .nil)) .nil))) (sg := S35 N) (c := Tryz.f35.body.getD .skip) (rs := Tryz.f35.results.toList) Tryz.func35 (by kernel_rfl) (by kernel_rfl) rfl rfl rfl rfl (fun x => by kernel_rfl)
noncomputable def M.expr_TypeOf (N : Nat) (a0 : List rType.den) (a1 : rSignature.den) : Option (rType.den × Int × Int) :=
(M.expr_structure N a0).bind fun y1 =>
(if (!decide (y1.2.1 = (0 : Int))) = true then
some (((0 : Int), (0 : Int)), y1.1, y1.2.1)
else
Join (J := List rType.den) (R := rType.den × Int × Int) (Loop (S := Int × List rType.den) (X := (List rType.den) ⊕ (rType.den × Int × Int)) (fun s3 =>
(if (decide (s3.1 < (a0.length : Int))) = true then
(idx a0 s3.1).bind fun x4 =>
((if (!decide (x4.2 = (0 : Int))) = true then
(M.expr_UsesN N x4.1).bind fun y6 =>
some (!y6)
else
some false) : Option (Bool)).bind fun j5 =>
(if j5 = true then
some (Sum.inr (Sum.inr (((0 : Int), (0 : Int)), s3.1, (2 : Int))))
else
(M.expr_Arity N x4.1).bind fun y7 =>
(cutA s3.2 (IntKind.i64.wrap ((s3.2.length : Int) - y7)) (s3.2.length : Int)).bind fun l8 =>
(M.expr_nodeType N x4 l8 a1).bind fun y9 =>
(if (!decide (y9.2 = (0 : Int))) = true then
some (Sum.inr (Sum.inr (((0 : Int), (0 : Int)), s3.1, y9.2)))
else
(cutA s3.2 (0 : Int) (IntKind.i64.wrap ((s3.2.length : Int) - y7))).bind fun l10 =>
(appA l10 ([y9.1] : List rType.den)).bind fun l11 =>
some (Sum.inl (IntKind.i64.wrap (s3.1 + (1 : Int)), l11))))
else
some (Sum.inr (Sum.inl s3.2)))) N ((0 : Int), ([] : List rType.den))) fun j2 =>
(idx j2 (0 : Int)).bind fun x12 =>
some (x12, (0 : Int), (0 : Int)))
noncomputable def S18 (N : Nat) : Sig := { inn := ⟨[(0, .val false (.leaf (.slice rType))), (1, .val true (.leaf rSignature))], [], [], 0⟩, out := ⟨[(0, .val true (.leaf rType)), (1, .val false (.leaf rInt)), (2, .val false (.leaf rInt))], [], [], 0⟩, fn := fun (x : (List rType.den) × rSignature.den) => M.expr_TypeOf N x.1 x.2 }
theorem W18 (N : Nat) : FnOK Tryz.prog 18 (S18 N) := fn_ok (E := ⟨tabs, [(32, S32 N), (33, S33 N), (34, S34 N), (35, S35 N)], (tabcons (W32 N) (tabcons (W33 N) (tabcons (W34 N) (tabcons (W35 N) tabnil)))), mixed, false, false⟩) (N := N) (a := (.two .nil (.two .nil (.two .nil (.two .nil (.join ⟨[(10, .val false (.own 256))], [(256, .own 54 rType)], [], 257⟩ (.two .nil (.two (.loop ⟨[(10, .val false (.own 304)), (29, .val false (.leaf rInt))], [(304, .own 54 rType)], [], 305⟩ (.two .nil (.two .nil (.two (.two (.two .nil (.two (.meet ⟨[(42, .val false (.leaf .bool))], [], [], 417⟩ .nil .nil) .nil)) .nil) .nil)))) .nil)) .nil)))))) (sg := S18 N) (c := Tryz.f18.body.getD .skip) (rs := Tryz.f18.results.toList) Tryz.func18 (by kernel_rfl) (by kernel_rfl) rfl rfl rfl rfl (fun x => by kernel_rfl)
noncomputable def M.law_checkType (N : Nat) (a0 : List rType.den) (a1 : rSignature.den) (a2 : rType.den) : Option (Int) :=
(M.expr_TypeOf N a0 a1).bind fun y1 =>
(if (!decide (y1.2.2 = (0 : Int))) = true then
some y1.2.2
else
(if (!(eqR rType y1.1 a2)) = true then
some (8 : Int)
else
some (0 : Int)))
noncomputable def S81 (N : Nat) : Sig := { inn := ⟨[(0, .val false (.leaf (.slice rType))), (1, .val true (.leaf rSignature)), (2, .val true (.leaf rType))], [], [], 0⟩, out := ⟨[(0, .val false (.leaf rInt))], [], [], 0⟩, fn := fun (x : (List rType.den) × rSignature.den × rType.den) => M.law_checkType N x.1 x.2.1 x.2.2 }
theorem W81 (N : Nat) : FnOK Tryz.prog 81 (S81 N) := fn_ok (E := ⟨tabs, [(18, S18 N)], (tabcons (W18 N) tabnil), mixed, false, false⟩) (N := N) (a := .nil) (sg := S81 N) (c := Tryz.f81.body.getD .skip) (rs := Tryz.f81.results.toList) Tryz.func81 (by kernel_rfl) (by kernel_rfl) rfl rfl rfl rfl (fun x => by kernel_rfl)
noncomputable def M.law_checkRule_c1_v1 (N : Nat) (a0 : rRule.den) (a1 : rRule.den) : Option (Bool × rRule.den) :=
some (decide (a0.1 = a1.1), a1)
noncomputable def S79v1 (N : Nat) : Sig := { inn := ⟨[(0, .val true (.leaf rRule)), (1, .ptr 0 [] 0)], [(0, .box 46 (.leaf rRule))], [], 1⟩, out := ⟨[(0, .val false (.leaf .bool))], [(0, .box 46 (.leaf rRule))], [], 2⟩, fn := fun (x : rRule.den × rRule.den) => M.law_checkRule_c1_v1 N x.1 x.2 }
theorem W79v1 (N : Nat) : FnOK Tryz.prog 79 (S79v1 N) := fn_ok (E := ⟨tabs, [], tabnil, mixed, false, false⟩) (N := N) (a := .nil) (sg := S79v1 N) (c := Tryz.f79.body.getD .skip) (rs := Tryz.f79.results.toList) Tryz.func79 (by kernel_rfl) (by kernel_rfl) rfl rfl rfl rfl (fun x => by kernel_rfl)
noncomputable def M.slices_IndexFunc_guerdon_api_Rule_guerdon_api_Rule_v1 (N : Nat) (a0 : List rRule.den) (a1 : rRule.den) : Option (Int × rRule.den) :=
Loop (S := Int × rRule.den) (X := Int × rRule.den) (fun s1 =>
(if (decide (s1.1 < (a0.length : Int))) = true then
(idx a0 s1.1).bind fun x2 =>
(M.law_checkRule_c1_v1 N x2 s1.2).bind fun y3 =>
(if y3.1 = true then
some (Sum.inr (s1.1, y3.2))
else
some (Sum.inl (IntKind.i64.wrap (s1.1 + (1 : Int)), y3.2)))
else
some (Sum.inr ((-1 : Int), s1.2)))) N ((0 : Int), a1)
noncomputable def S91v1 (N : Nat) : Sig := { inn := ⟨[(0, .val false (.leaf (.slice rRule))), (1, .fn 79 [(0, [], 0)])], [(0, .box 46 (.leaf rRule))], [], 1⟩, out := ⟨[(0, .val false (.leaf rInt))], [(0, .box 46 (.leaf rRule))], [], 2⟩, fn := fun (x : (List rRule.den) × rRule.den) => M.slices_IndexFunc_guerdon_api_Rule_guerdon_api_Rule_v1 N x.1 x.2 }
theorem W91v1 (N : Nat) : FnOK Tryz.prog 91 (S91v1 N) := fn_ok (E := ⟨tabs, [(79, S79v1 N)], (tabcons (W79v1 N) tabnil), mixed, false, false⟩) (N := N) (a := (.two .nil (.two (.two .nil (.two (.loop ⟨[(8, .val false (.leaf rInt))], [(0, .box 46 (.leaf rRule))], [], 66⟩ .nil) .nil)) .nil))) (sg := S91v1 N) (c := Tryz.f91.body.getD .skip) (rs := Tryz.f91.results.toList) Tryz.func91 (by kernel_rfl) (by kernel_rfl) rfl rfl rfl rfl (fun x => by kernel_rfl)
noncomputable def M.slices_ContainsFunc_guerdon_api_Rule_guerdon_api_Rule_v1 (N : Nat) (a0 : List rRule.den) (a1 : rRule.den) : Option (Bool × rRule.den) :=
(M.slices_IndexFunc_guerdon_api_Rule_guerdon_api_Rule_v1 N a0 a1).bind fun y1 =>
some (decide ((0 : Int) ≤ y1.1), y1.2)
noncomputable def S78v1 (N : Nat) : Sig := { inn := ⟨[(0, .val false (.leaf (.slice rRule))), (1, .fn 79 [(0, [], 0)])], [(0, .box 46 (.leaf rRule))], [], 1⟩, out := ⟨[(0, .val false (.leaf .bool))], [(0, .box 46 (.leaf rRule))], [], 2⟩, fn := fun (x : (List rRule.den) × rRule.den) => M.slices_ContainsFunc_guerdon_api_Rule_guerdon_api_Rule_v1 N x.1 x.2 }
theorem W78v1 (N : Nat) : FnOK Tryz.prog 78 (S78v1 N) := fn_ok (E := ⟨tabs, [(91, S91v1 N)], (tabcons (W91v1 N) tabnil), mixed, false, false⟩) (N := N) (a := .nil) (sg := S78v1 N) (c := Tryz.f78.body.getD .skip) (rs := Tryz.f78.results.toList) Tryz.func78 (by kernel_rfl) (by kernel_rfl) rfl rfl rfl rfl (fun x => by kernel_rfl)
noncomputable def M.law_checkRule (N : Nat) (a0 : rScope.den) (a1 : Int) (a2 : rSignature.den) : Option (Int) :=
(idx a0.2.2.2.2 a1).bind fun x1 =>
((cutA a0.2.2.2.2 (0 : Int) a1).bind fun l3 =>
Loop (S := Int × Int) (X := Int) (fun s4 =>
(if (decide (s4.2 < (l3.length : Int))) = true then
((idx l3 s4.2).bind fun x6 =>
(if (decide (x6.2.1 = x1.2.1)) = true then
some (IntKind.i64.wrap (s4.1 + (1 : Int)))
else
some s4.1) : Option (Int)).bind fun j5 =>
some (Sum.inl (j5, IntKind.i64.wrap (s4.2 + (1 : Int))))
else
some (Sum.inr s4.1))) N ((0 : Int), (0 : Int)) : Option (Int)).bind fun j2 =>
(M.lexer_IsIdentifier N x1.1).bind fun y7 =>
(if (!y7) = true then
some (2 : Int)
else
(cutA a0.2.2.2.2 (0 : Int) a1).bind fun l8 =>
(M.slices_ContainsFunc_guerdon_api_Rule_guerdon_api_Rule_v1 N l8 x1).bind fun y9 =>
(if y9.1 = true then
some (7 : Int)
else
((if (decide (y9.2.2.1 < (0 : Int))) = true then
some true
else
some (decide ((a0.2.2.2.1.length : Int) ≤ y9.2.2.1))) : Option (Bool)).bind fun j10 =>
(if j10 = true then
some (6 : Int)
else
((if (!decide (y9.2.2.2.1 = (-1 : Int))) = true then
(if (decide (y9.2.2.2.1 < (0 : Int))) = true then
some true
else
(if (decide (a1 ≤ y9.2.2.2.1)) = true then
some true
else
(idx a0.2.2.2.2 y9.2.2.2.1).bind fun x12 =>
some (!decide (x12.2.1 = y9.2.2.1))))
else
some false) : Option (Bool)).bind fun j11 =>
(if j11 = true then
some (9 : Int)
else
((if (decide (y9.2.2.2.2.1 < (0 : Int))) = true then
some true
else
some (decide ((9 : Int) < y9.2.2.2.2.1))) : Option (Bool)).bind fun j13 =>
(if j13 = true then
some (3 : Int)
else
((if (decide (y9.2.2.2.2.2.1.1 < (0 : Int))) = true then
some true
else
(if (decide (y9.2.2.2.2.2.1.2 ≤ y9.2.2.2.2.2.1.1)) = true then
some true
else
some (decide ((109573 : Int) < y9.2.2.2.2.2.1.2)))) : Option (Bool)).bind fun j14 =>
(if j14 = true then
some (3 : Int)
else
(if (decide ((8 : Int) ≤ j2)) = true then
some (4 : Int)
else
(M.law_validSource N y9.2.2.2.2.2.2.2.2).bind fun y15 =>
(if (!y15) = true then
some (2 : Int)
else
Join (J := Unit) (R := Int) ((if (decide ((0 : Int) < (y9.2.2.2.2.2.2.1.length : Int))) = true then
(M.law_checkType N y9.2.2.2.2.2.2.1 a2 ((1 : Int), (0 : Int))).bind fun y17 =>
(if (!decide (y17 = (0 : Int))) = true then
some (Sum.inr y17)
else
some (Sum.inl ()))
else
some (Sum.inl ()))) fun j16 =>
(idx a0.2.2.2.1 y9.2.2.1).bind fun x18 =>
(M.law_checkType N y9.2.2.2.2.2.2.2.1 a2 x18.2).bind fun y19 =>
some y19))))))))
noncomputable def S57 (N : Nat) : Sig := { inn := ⟨[(0, .val true (.leaf rScope)), (1, .val false (.leaf rInt)), (2, .val true (.leaf rSignature))], [], [], 0⟩, out := ⟨[(0, .val false (.leaf rInt))], [], [], 0⟩, fn := fun (x : rScope.den × Int × rSignature.den) => M.law_checkRule N x.1 x.2.1 x.2.2 }
theorem W57 (N : Nat) : FnOK Tryz.prog 57 (S57 N) := fn_ok (E := ⟨tabs, [(25, S25 N), (78, S78v1 N), (80, S80 N), (81, S81 N)], (tabcons (W25 N) (tabcons (W78v1 N) (tabcons (W80 N) (tabcons (W81 N) tabnil)))), mixed, false, false⟩) (N := N) (a := (.two .nil (.two .nil (.two .nil (.meet ⟨[(8, .val false (.leaf rInt))], [], [], 176⟩ (.two .nil (.two (.loop ⟨[(8, .val false (.leaf rInt)), (22, .val false (.leaf rInt))], [], [], 272⟩ (.two .nil (.two .nil (.two (.meet ⟨[(8, .val false (.leaf rInt))], [], [], 288⟩ .nil .nil) .nil)))) .nil)) (.two (.two (.two .nil (.two .nil (.two .nil (.two .nil (.meet ⟨[(46, .val false (.leaf .bool))], [], [], 368⟩ .nil (.two .nil (.meet ⟨[(58, .val false (.leaf .bool))], [], [], 368⟩ .nil (.two .nil (.meet ⟨[(85, .val false (.leaf .bool))], [], [], 368⟩ .nil (.two .nil (.meet ⟨[(94, .val false (.leaf .bool))], [], [], 368⟩ .nil .nil))))))))))) .nil) (.join ⟨[], [], [], 496⟩ .nil .nil))))))) (sg := S57 N) (c := Tryz.f57.body.getD .skip) (rs := Tryz.f57.results.toList) Tryz.func57 (by kernel_rfl) (by kernel_rfl) rfl rfl rfl rfl (fun x => by kernel_rfl)
noncomputable def M.slices_Index_int_int (N : Nat) (a0 : List Int) (a1 : Int) : Option (Int) :=
Loop (S := Int) (X := Int) (fun s1 =>
(if (decide (s1 < (a0.length : Int))) = true then
(idx a0 s1).bind fun x2 =>
(if (decide (a1 = x2)) = true then
some (Sum.inr s1)
else
some (Sum.inl (IntKind.i64.wrap (s1 + (1 : Int)))))
else
some (Sum.inr (-1 : Int)))) N (0 : Int)
noncomputable def S82 (N : Nat) : Sig := { inn := ⟨[(0, .val false (.leaf (.slice rInt))), (1, .val false (.leaf rInt))], [], [], 0⟩, out := ⟨[(0, .val false (.leaf rInt))], [], [], 0⟩, fn := fun (x : (List Int) × Int) => M.slices_Index_int_int N x.1 x.2 }
theorem W82 (N : Nat) : FnOK Tryz.prog 82 (S82 N) := fn_ok (E := ⟨tabs, [], tabnil, mixed, false, false⟩) (N := N) (a := (.two .nil (.two (.two .nil (.two (.loop ⟨[(8, .val false (.leaf rInt))], [], [], 64⟩ .nil) .nil)) .nil))) (sg := S82 N) (c := Tryz.f82.body.getD .skip) (rs := Tryz.f82.results.toList) Tryz.func82 (by kernel_rfl) (by kernel_rfl) rfl rfl rfl rfl (fun x => by kernel_rfl)
noncomputable def M.slices_Contains_int_int (N : Nat) (a0 : List Int) (a1 : Int) : Option (Bool) :=
(M.slices_Index_int_int N a0 a1).bind fun y1 =>
some (decide ((0 : Int) ≤ y1))
noncomputable def S58 (N : Nat) : Sig := { inn := ⟨[(0, .val false (.leaf (.slice rInt))), (1, .val false (.leaf rInt))], [], [], 0⟩, out := ⟨[(0, .val false (.leaf .bool))], [], [], 0⟩, fn := fun (x : (List Int) × Int) => M.slices_Contains_int_int N x.1 x.2 }
theorem W58 (N : Nat) : FnOK Tryz.prog 58 (S58 N) := fn_ok (E := ⟨tabs, [(82, S82 N)], (tabcons (W82 N) tabnil), mixed, false, false⟩) (N := N) (a := .nil) (sg := S58 N) (c := Tryz.f58.body.getD .skip) (rs := Tryz.f58.results.toList) Tryz.func58 (by kernel_rfl) (by kernel_rfl) rfl rfl rfl rfl (fun x => by kernel_rfl)
noncomputable def M.slices_Sort_int_int (N : Nat) (a0 : List Int) : Option (List Int) := sortM a0
noncomputable def S68 (N : Nat) : Sig := { inn := ⟨[(0, .val false (.own 0))], [(0, .own 3 rInt)], [], 1⟩, out := ⟨[], [(0, .own 3 rInt)], [], 2⟩, fn := fun (x : List Int) => M.slices_Sort_int_int N x }
theorem W68 (N : Nat) : FnOK Tryz.prog 68 (S68 N) := sort_fn ⟨_, Tryz.func68, by kernel_rfl, by kernel_rfl⟩ Tryz.slices_Sort_int Tryz.slices_Sort_int_none
noncomputable def M.slices_Compact_int_int (N : Nat) (a0 : List Int) : Option (List Int) := compactM a0
noncomputable def S69 (N : Nat) : Sig := { inn := ⟨[(0, .val false (.own 0))], [(0, .own 3 rInt)], [], 1⟩, out := ⟨[(0, .val false (.own 1))], [(1, .own 3 rInt)], [], 2⟩, fn := fun (x : List Int) => M.slices_Compact_int_int N x }
theorem W69 (N : Nat) : FnOK Tryz.prog 69 (S69 N) := compact_fn ⟨_, Tryz.func69, by kernel_rfl, by kernel_rfl⟩ Tryz.slices_Compact_int Tryz.slices_Compact_int_empty
noncomputable def M.expr_distinct_v1 (N : Nat) (a0 : List Int) : Option (List Int) :=
(M.slices_Sort_int_int N a0).bind fun y1 =>
(M.slices_Compact_int_int N y1).bind fun y2 =>
some y2
noncomputable def S86v1 (N : Nat) : Sig := { inn := ⟨[(0, .val false (.own 0))], [(0, .own 3 rInt)], [], 1⟩, out := ⟨[(0, .val false (.own 1))], [(1, .own 3 rInt)], [], 2⟩, fn := fun (x : List Int) => M.expr_distinct_v1 N x }
theorem W86v1 (N : Nat) : FnOK Tryz.prog 86 (S86v1 N) := fn_ok (E := ⟨tabs, [(68, S68 N), (69, S69 N)], (tabcons (W68 N) (tabcons (W69 N) tabnil)), mixed, false, false⟩) (N := N) (a := .nil) (sg := S86v1 N) (c := Tryz.f86.body.getD .skip) (rs := Tryz.f86.results.toList) Tryz.func86 (by kernel_rfl) (by kernel_rfl) rfl rfl rfl rfl (fun x => by kernel_rfl)
noncomputable def M.expr_References (N : Nat) (a0 : List rType.den) : Option ((List Int) × (List Int) × List Int) :=
(Loop (S := Int × (List Int) × (List Int) × List Int) (X := (List Int) × (List Int) × List Int) (fun s2 =>
(if (decide (s2.1 < (a0.length : Int))) = true then
(idx a0 s2.1).bind fun x3 =>
((if (decide (x3.1 = (7 : Int))) = true then
(appA s2.2.1 ([x3.2] : List Int)).bind fun l5 =>
some (l5, s2.2.2.1, s2.2.2.2)
else
(if (decide (x3.1 = (8 : Int))) = true then
(appA s2.2.2.1 ([x3.2] : List Int)).bind fun l6 =>
some (s2.2.1, l6, s2.2.2.2)
else
((if (decide (x3.1 = (36 : Int))) = true then
some (decide (x3.1 = (36 : Int)))
else
(if (decide (x3.1 = (37 : Int))) = true then
some (decide (x3.1 = (37 : Int)))
else
(if (decide (x3.1 = (38 : Int))) = true then
some (decide (x3.1 = (38 : Int)))
else
some (decide (x3.1 = (39 : Int)))))) : Option (Bool)).bind fun j7 =>
(if j7 = true then
(appA s2.2.2.2 ([x3.2] : List Int)).bind fun l8 =>
some (s2.2.1, s2.2.2.1, l8)
else
some (s2.2.1, s2.2.2.1, s2.2.2.2)))) : Option ((List Int) × (List Int) × List Int)).bind fun j4 =>
some (Sum.inl (IntKind.i64.wrap (s2.1 + (1 : Int)), j4.1, j4.2.1, j4.2.2))
else
some (Sum.inr (s2.2.1, s2.2.2.1, s2.2.2.2)))) N ((0 : Int), ([] : List Int), ([] : List Int), ([] : List Int)) : Option ((List Int) × (List Int) × List Int)).bind fun j1 =>
(M.expr_distinct_v1 N j1.1).bind fun y9 =>
(M.expr_distinct_v1 N j1.2.1).bind fun y10 =>
(M.expr_distinct_v1 N j1.2.2).bind fun y11 =>
some (y9, y10, y11)
noncomputable def S67 (N : Nat) : Sig := { inn := ⟨[(0, .val false (.leaf (.slice rType)))], [], [], 0⟩, out := ⟨[(0, .val false (.own 0)), (1, .val false (.own 1)), (2, .val false (.own 2))], [(0, .own 3 rInt), (1, .own 3 rInt), (2, .own 3 rInt)], [], 3⟩, fn := fun (x : List rType.den) => M.expr_References N x }
theorem W67 (N : Nat) : FnOK Tryz.prog 67 (S67 N) := fn_ok (E := ⟨tabs, [(86, S86v1 N)], (tabcons (W86v1 N) tabnil), mixed, false, false⟩) (N := N) (a := (.two .nil (.two .nil (.meet ⟨[(5, .val false (.own 96)), (6, .val false (.own 97)), (7, .val false (.own 98))], [(96, .own 3 rInt), (97, .own 3 rInt), (98, .own 3 rInt)], [], 99⟩ (.two .nil (.two (.loop ⟨[(5, .val false (.own 144)), (6, .val false (.own 145)), (7, .val false (.own 146)), (12, .val false (.leaf rInt))], [(144, .own 3 rInt), (145, .own 3 rInt), (146, .own 3 rInt)], [], 147⟩ (.two .nil (.two .nil (.two (.two (.two .nil (.two .nil (.meet ⟨[(5, .val false (.own 259)), (6, .val false (.own 260)), (7, .val false (.own 261))], [(259, .own 3 rInt), (260, .own 3 rInt), (261, .own 3 rInt)], [144, 145, 146], 262⟩ (.two .nil (.two .nil (.two .nil (.two .nil (.meet ⟨[(32, .val false (.leaf .bool))], [], [], 323⟩ .nil .nil))))) .nil))) .nil) .nil)))) .nil)) .nil)))) (sg := S67 N) (c := Tryz.f67.body.getD .skip) (rs := Tryz.f67.results.toList) Tryz.func67 (by kernel_rfl) (by kernel_rfl) rfl rfl rfl rfl (fun x => by kernel_rfl)
noncomputable def M.deps_definitionsOf (N : Nat) (a0 : rRule.den) (a1 : Int) : Option (List Int) :=
(M.expr_References N a0.2.2.2.2.2.1).bind fun y1 =>
(M.expr_References N a0.2.2.2.2.2.2.1).bind fun y2 =>
(Loop (S := Int × List Int) (X := List Int) (fun s4 =>
(if (decide (s4.1 < (y1.2.1.length : Int))) = true then
((idx y1.2.1 s4.1).bind fun x6 =>
((if (decide ((0 : Int) ≤ x6)) = true then
some (decide (x6 < a1))
else
some false) : Option (Bool)).bind fun j7 =>
(if j7 = true then
(appA s4.2 ([x6] : List Int)).bind fun l8 =>
some l8
else
some s4.2) : Option (List Int)).bind fun j5 =>
some (Sum.inl (IntKind.i64.wrap (s4.1 + (1 : Int)), j5))
else
some (Sum.inr s4.2))) N ((0 : Int), ([] : List Int)) : Option (List Int)).bind fun j3 =>
Loop (S := Int × List Int) (X := List Int) (fun s9 =>
(if (decide (s9.1 < (y2.2.1.length : Int))) = true then
((idx y2.2.1 s9.1).bind fun x11 =>
((if (decide ((0 : Int) ≤ x11)) = true then
some (decide (x11 < a1))
else
some false) : Option (Bool)).bind fun j12 =>
(if j12 = true then
(appA s9.2 ([x11] : List Int)).bind fun l13 =>
some l13
else
some s9.2) : Option (List Int)).bind fun j10 =>
some (Sum.inl (IntKind.i64.wrap (s9.1 + (1 : Int)), j10))
else
some (Sum.inr s9.2))) N ((0 : Int), j3)
noncomputable def S36 (N : Nat) : Sig := { inn := ⟨[(0, .val true (.leaf rRule)), (1, .val false (.leaf rInt))], [], [], 0⟩, out := ⟨[(0, .val false (.own 0))], [(0, .own 3 rInt)], [], 1⟩, fn := fun (x : rRule.den × Int) => M.deps_definitionsOf N x.1 x.2 }
theorem W36 (N : Nat) : FnOK Tryz.prog 36 (S36 N) := fn_ok (E := ⟨tabs, [(67, S67 N)], (tabcons (W67 N) tabnil), mixed, false, false⟩) (N := N) (a := (.two .nil (.two .nil (.two .nil (.two .nil (.meet ⟨[(5, .val false (.own 368))], [(368, .own 3 rInt)], [], 369⟩ (.two .nil (.two (.loop ⟨[(5, .val false (.own 416)), (32, .val false (.leaf rInt))], [(416, .own 3 rInt)], [], 417⟩ (.two .nil (.two .nil (.two (.meet ⟨[(5, .val false (.own 433))], [(433, .own 3 rInt)], [416], 434⟩ (.two .nil (.meet ⟨[(42, .val false (.leaf .bool))], [], [], 481⟩ .nil .nil)) .nil) .nil)))) .nil)) (.two (.two .nil (.two (.loop ⟨[(5, .val false (.own 417)), (50, .val false (.leaf rInt))], [(417, .own 3 rInt)], [368], 418⟩ (.two .nil (.two .nil (.two (.meet ⟨[(5, .val false (.own 434))], [(434, .own 3 rInt)], [417], 435⟩ (.two .nil (.meet ⟨[(60, .val false (.leaf .bool))], [], [], 482⟩ .nil .nil)) .nil) .nil)))) .nil)) .nil))))))) (sg := S36 N) (c := Tryz.f36.body.getD .skip) (rs := Tryz.f36.results.toList) Tryz.func36 (by kernel_rfl) (by kernel_rfl) rfl rfl rfl rfl (fun x => by kernel_rfl)
noncomputable def M.deps_sortedSet_v1 (N : Nat) (a0 : List Int) : Option (List Int) :=
(M.slices_Sort_int_int N a0).bind fun y1 =>
(M.slices_Compact_int_int N y1).bind fun y2 =>
some y2
noncomputable def S37v1 (N : Nat) : Sig := { inn := ⟨[(0, .val false (.own 0))], [(0, .own 3 rInt)], [], 1⟩, out := ⟨[(0, .val false (.own 1))], [(1, .own 3 rInt)], [], 2⟩, fn := fun (x : List Int) => M.deps_sortedSet_v1 N x }
theorem W37v1 (N : Nat) : FnOK Tryz.prog 37 (S37v1 N) := fn_ok (E := ⟨tabs, [(68, S68 N), (69, S69 N)], (tabcons (W68 N) (tabcons (W69 N) tabnil)), mixed, false, false⟩) (N := N) (a := .nil) (sg := S37v1 N) (c := Tryz.f37.body.getD .skip) (rs := Tryz.f37.results.toList) Tryz.func37 (by kernel_rfl) (by kernel_rfl) rfl rfl rfl rfl (fun x => by kernel_rfl)
noncomputable def M.deps_allDirect (N : Nat) (a0 : rScope.den) : Option (List (List Int)) :=
(mkL (a0.2.2.2.1.length : Int) ([] : List Int)).bind fun l1 =>
(Loop (S := Int × List (List Int)) (X := List (List Int)) (fun s3 =>
(if (decide (s3.1 < (a0.2.2.2.2.length : Int))) = true then
((idx a0.2.2.2.2 s3.1).bind fun x5 =>
((if (decide ((0 : Int) ≤ x5.2.1)) = true then
some (decide (x5.2.1 < (s3.2.length : Int)))
else
some false) : Option (Bool)).bind fun j6 =>
(if j6 = true then
(idx s3.2 x5.2.1).bind fun x7 =>
(idx s3.2 x5.2.1).bind fun x8 =>
(M.deps_definitionsOf N x5 (s3.2.length : Int)).bind fun y9 =>
(appA x8 y9).bind fun l10 =>
(idx s3.2 x5.2.1).bind fun x11 =>
(if decide (x5.2.1 = x5.2.1) = true then
(idx s3.2 x5.2.1).bind fun x12 =>
some (modL s3.2 x5.2.1 (fun m13 => l10))
else none)
else
some s3.2) : Option (List (List Int))).bind fun j4 =>
some (Sum.inl (IntKind.i64.wrap (s3.1 + (1 : Int)), j4))
else
some (Sum.inr s3.2))) N ((0 : Int), l1) : Option (List (List Int))).bind fun j2 =>
Loop (S := Int × List (List Int)) (X := List (List Int)) (fun s14 =>
(if (decide (s14.1 < (j2.length : Int))) = true then
(idx s14.2 s14.1).bind fun x15 =>
(idx s14.2 s14.1).bind fun x16 =>
(M.deps_sortedSet_v1 N x16).bind fun y17 =>
(idx s14.2 s14.1).bind fun x18 =>
(if decide (s14.1 = s14.1) = true then
(idx s14.2 s14.1).bind fun x19 =>
some (Sum.inl (IntKind.i64.wrap (s14.1 + (1 : Int)), modL s14.2 s14.1 (fun m20 => y17)))
else none)
else
some (Sum.inr s14.2))) N ((0 : Int), j2)
noncomputable def S19 (N : Nat) : Sig := { inn := ⟨[(0, .val true (.leaf rScope))], [], [], 0⟩, out := ⟨[(0, .val false (.own 0))], [(0, .deep 47 (.sl 3 (.leaf rInt)))], [], 1⟩, fn := fun (x : rScope.den) => M.deps_allDirect N x }
theorem W19 (N : Nat) : FnOK Tryz.prog 19 (S19 N) := fn_ok (E := ⟨tabs, [(36, S36 N), (37, S37v1 N)], (tabcons (W36 N) (tabcons (W37v1 N) tabnil)), mixed, true, false⟩) (N := N) (a := (.two .nil (.two .nil (.meet ⟨[], [(80, .deep 47 (.sl 3 (.leaf rInt)))], [], 113⟩ (.two .nil (.two (.loop ⟨[(15, .val false (.leaf rInt))], [(80, .deep 47 (.sl 3 (.leaf rInt)))], [], 177⟩ (.two .nil (.two .nil (.two (.meet ⟨[], [(80, .deep 47 (.sl 3 (.leaf rInt)))], [], 194⟩ (.two .nil (.meet ⟨[(28, .val false (.leaf .bool))], [], [], 257⟩ .nil .nil)) .nil) .nil)))) .nil)) (.two (.two .nil (.two (.loop ⟨[(46, .val false (.leaf rInt))], [(80, .deep 47 (.sl 3 (.leaf rInt)))], [], 162⟩ .nil) .nil)) .nil))))) (sg := S19 N) (c := Tryz.f19.body.getD .skip) (rs := Tryz.f19.results.toList) Tryz.func19 (by kernel_rfl) (by kernel_rfl) rfl rfl rfl rfl (fun x => by kernel_rfl)
noncomputable def M.deps_reached (N : Nat) (a0 : List (List Int)) (a1 : Int) : Option (List Int) :=
(mkL (a0.length : Int) false).bind fun l1 =>
(Loop (S := (List Bool) × List Int) (X := List Bool) (fun s3 =>
(if (decide ((0 : Int) < (s3.2.length : Int))) = true then
(idx s3.2 (0 : Int)).bind fun x4 =>
(cutA s3.2 (1 : Int) (s3.2.length : Int)).bind fun l5 =>
(idx a0 x4).bind fun x6 =>
Loop (S := Int × (List Bool) × List Int) (X := ((List Bool) × List Int) ⊕ (List Bool)) (fun s7 =>
(if (decide (s7.1 < (x6.length : Int))) = true then
((idx x6 s7.1).bind fun x9 =>
(idx s7.2.1 x9).bind fun x10 =>
(if (!x10) = true then
(idx s7.2.1 x9).bind fun x11 =>
(appA s7.2.2 ([x9] : List Int)).bind fun l12 =>
some (setL s7.2.1 x9 true, l12)
else
some (s7.2.1, s7.2.2)) : Option ((List Bool) × List Int)).bind fun j8 =>
some (Sum.inl (IntKind.i64.wrap (s7.1 + (1 : Int)), j8.1, j8.2))
else
some (Sum.inr (Sum.inl (s7.2.1, s7.2.2))))) N ((0 : Int), s3.1, l5)
else
some (Sum.inr s3.1))) N (l1, ([a1] : List Int)) : Option (List Bool)).bind fun j2 =>
Loop (S := Int × List Int) (X := List Int) (fun s13 =>
(if (decide (s13.1 < (j2.length : Int))) = true then
((idx j2 s13.1).bind fun x15 =>
(if x15 = true then
(appA s13.2 ([s13.1] : List Int)).bind fun l16 =>
some l16
else
some s13.2) : Option (List Int)).bind fun j14 =>
some (Sum.inl (IntKind.i64.wrap (s13.1 + (1 : Int)), j14))
else
some (Sum.inr s13.2))) N ((0 : Int), ([] : List Int))
noncomputable def S83 (N : Nat) : Sig := { inn := ⟨[(0, .val false (.leaf (.slice (.slice rInt)))), (1, .val false (.leaf rInt))], [], [], 0⟩, out := ⟨[(0, .val false (.own 0))], [(0, .own 3 rInt)], [], 1⟩, fn := fun (x : (List (List Int)) × Int) => M.deps_reached N x.1 x.2 }
theorem W83 (N : Nat) : FnOK Tryz.prog 83 (S83 N) := fn_ok (E := ⟨tabs, [], tabnil, mixed, false, true⟩) (N := N) (a := (.two .nil (.two .nil (.two .nil (.meet ⟨[], [(48, .own 4 .bool)], [96], 129⟩ (.two (.loop ⟨[(6, .val false (.own 128))], [(48, .own 4 .bool), (128, .own 3 rInt)], [96], 130⟩ (.two .nil (.two (.two .nil (.two .nil (.two .nil (.two (.loop ⟨[(6, .val false (.own 386)), (31, .val false (.leaf rInt))], [(48, .own 4 .bool), (386, .own 3 rInt)], [258], 388⟩ (.two .nil (.two .nil (.two (.meet ⟨[(6, .val false (.own 404))], [(48, .own 4 .bool), (404, .own 3 rInt)], [386], 406⟩ .nil .nil) .nil)))) .nil)))) .nil))) .nil) (.two .nil (.two (.two .nil (.two (.loop ⟨[(10, .val false (.own 193)), (50, .val false (.leaf rInt))], [(193, .own 3 rInt)], [], 194⟩ (.two .nil (.two .nil (.two (.meet ⟨[(10, .val false (.own 210))], [(210, .own 3 rInt)], [193], 211⟩ .nil .nil) .nil)))) .nil)) .nil))))))) (sg := S83 N) (c := Tryz.f83.body.getD .skip) (rs := Tryz.f83.results.toList) Tryz.func83 (by kernel_rfl) (by kernel_rfl) rfl rfl rfl rfl (fun x => by kernel_rfl)
noncomputable def M.deps_Transitive (N : Nat) (a0 : rScope.den) (a1 : Int) : Option (List Int) :=
((if (decide (a1 < (0 : Int))) = true then
some true
else
some (decide ((a0.2.2.2.1.length : Int) ≤ a1))) : Option (Bool)).bind fun j1 =>
(if j1 = true then
some ([] : List Int)
else
(M.deps_allDirect N a0).bind fun y2 =>
(M.deps_reached N y2 a1).bind fun y3 =>
some y3)
noncomputable def S59 (N : Nat) : Sig := { inn := ⟨[(0, .val true (.leaf rScope)), (1, .val false (.leaf rInt))], [], [], 0⟩, out := ⟨[(0, .val false (.own 0))], [(0, .own 3 rInt)], [], 1⟩, fn := fun (x : rScope.den × Int) => M.deps_Transitive N x.1 x.2 }
theorem W59 (N : Nat) : FnOK Tryz.prog 59 (S59 N) := fn_ok (E := ⟨tabs, [(19, S19 N), (83, S83 N)], (tabcons (W19 N) (tabcons (W83 N) tabnil)), mixed, false, false⟩) (N := N) (a := (.two .nil (.two (.meet ⟨[(13, .val false (.leaf .bool))], [], [], 32⟩ .nil .nil) .nil))) (sg := S59 N) (c := Tryz.f59.body.getD .skip) (rs := Tryz.f59.results.toList) Tryz.func59 (by kernel_rfl) (by kernel_rfl) rfl rfl rfl rfl (fun x => by kernel_rfl)
noncomputable def M.law_checkScope_c1_v1 (N : Nat) (a0 : rScope.den) (a1 : rScope.den) : Option (Bool × rScope.den) :=
some (decide (a0.1 = a1.1), a1)
noncomputable def S55v1 (N : Nat) : Sig := { inn := ⟨[(0, .val true (.leaf rScope)), (1, .ptr 0 [] 0)], [(0, .box 36 (.leaf rScope))], [], 1⟩, out := ⟨[(0, .val false (.leaf .bool))], [(0, .box 36 (.leaf rScope))], [], 2⟩, fn := fun (x : rScope.den × rScope.den) => M.law_checkScope_c1_v1 N x.1 x.2 }
theorem W55v1 (N : Nat) : FnOK Tryz.prog 55 (S55v1 N) := fn_ok (E := ⟨tabs, [], tabnil, mixed, false, false⟩) (N := N) (a := .nil) (sg := S55v1 N) (c := Tryz.f55.body.getD .skip) (rs := Tryz.f55.results.toList) Tryz.func55 (by kernel_rfl) (by kernel_rfl) rfl rfl rfl rfl (fun x => by kernel_rfl)
noncomputable def M.slices_IndexFunc_guerdon_api_Scope_guerdon_api_Scope_v1 (N : Nat) (a0 : List rScope.den) (a1 : rScope.den) : Option (Int × rScope.den) :=
Loop (S := Int × rScope.den) (X := Int × rScope.den) (fun s1 =>
(if (decide (s1.1 < (a0.length : Int))) = true then
(idx a0 s1.1).bind fun x2 =>
(M.law_checkScope_c1_v1 N x2 s1.2).bind fun y3 =>
(if y3.1 = true then
some (Sum.inr (s1.1, y3.2))
else
some (Sum.inl (IntKind.i64.wrap (s1.1 + (1 : Int)), y3.2)))
else
some (Sum.inr ((-1 : Int), s1.2)))) N ((0 : Int), a1)
noncomputable def S75v1 (N : Nat) : Sig := { inn := ⟨[(0, .val false (.leaf (.slice rScope))), (1, .fn 55 [(0, [], 0)])], [(0, .box 36 (.leaf rScope))], [], 1⟩, out := ⟨[(0, .val false (.leaf rInt))], [(0, .box 36 (.leaf rScope))], [], 2⟩, fn := fun (x : (List rScope.den) × rScope.den) => M.slices_IndexFunc_guerdon_api_Scope_guerdon_api_Scope_v1 N x.1 x.2 }
theorem W75v1 (N : Nat) : FnOK Tryz.prog 75 (S75v1 N) := fn_ok (E := ⟨tabs, [(55, S55v1 N)], (tabcons (W55v1 N) tabnil), mixed, false, false⟩) (N := N) (a := (.two .nil (.two (.two .nil (.two (.loop ⟨[(8, .val false (.leaf rInt))], [(0, .box 36 (.leaf rScope))], [], 66⟩ .nil) .nil)) .nil))) (sg := S75v1 N) (c := Tryz.f75.body.getD .skip) (rs := Tryz.f75.results.toList) Tryz.func75 (by kernel_rfl) (by kernel_rfl) rfl rfl rfl rfl (fun x => by kernel_rfl)
noncomputable def M.slices_ContainsFunc_guerdon_api_Scope_guerdon_api_Scope_v1 (N : Nat) (a0 : List rScope.den) (a1 : rScope.den) : Option (Bool × rScope.den) :=
(M.slices_IndexFunc_guerdon_api_Scope_guerdon_api_Scope_v1 N a0 a1).bind fun y1 =>
some (decide ((0 : Int) ≤ y1.1), y1.2)
noncomputable def S54v1 (N : Nat) : Sig := { inn := ⟨[(0, .val false (.leaf (.slice rScope))), (1, .fn 55 [(0, [], 0)])], [(0, .box 36 (.leaf rScope))], [], 1⟩, out := ⟨[(0, .val false (.leaf .bool))], [(0, .box 36 (.leaf rScope))], [], 2⟩, fn := fun (x : (List rScope.den) × rScope.den) => M.slices_ContainsFunc_guerdon_api_Scope_guerdon_api_Scope_v1 N x.1 x.2 }
theorem W54v1 (N : Nat) : FnOK Tryz.prog 54 (S54v1 N) := fn_ok (E := ⟨tabs, [(75, S75v1 N)], (tabcons (W75v1 N) tabnil), mixed, false, false⟩) (N := N) (a := .nil) (sg := S54v1 N) (c := Tryz.f54.body.getD .skip) (rs := Tryz.f54.results.toList) Tryz.func54 (by kernel_rfl) (by kernel_rfl) rfl rfl rfl rfl (fun x => by kernel_rfl)
noncomputable def M.law_checkScope (N : Nat) (a0 : rLaw.den) (a1 : Int) : Option (Int × Int) :=
(idx a0.2.2 a1).bind fun x1 =>
(cutA a0.2.2 (0 : Int) a1).bind fun l2 =>
((M.law_hasEnum N a0.1 x1.1).bind fun y4 =>
(if y4 = true then
some (true, x1)
else
(M.law_hasTable N a0.2.1 x1.1).bind fun y5 =>
(if y5 = true then
some (true, x1)
else
(M.slices_ContainsFunc_guerdon_api_Scope_guerdon_api_Scope_v1 N l2 x1).bind fun y6 =>
some (y6.1, y6.2))) : Option (Bool × rScope.den)).bind fun j3 =>
(M.lexer_IsIdentifier N j3.2.1).bind fun y7 =>
(if (!y7) = true then
some ((2 : Int), (0 : Int))
else
(if j3.1 = true then
some ((7 : Int), (0 : Int))
else
((if (!decide (j3.2.2.1 = (-1 : Int))) = true then
(if (decide (j3.2.2.1 < (0 : Int))) = true then
some true
else
(if (decide (a1 ≤ j3.2.2.1)) = true then
some true
else
(idx l2 j3.2.2.1).bind fun x9 =>
some (!decide (x9.2.1 = (-1 : Int)))))
else
some false) : Option (Bool)).bind fun j8 =>
(if j8 = true then
some ((6 : Int), (0 : Int))
else
(if (decide ((12 : Int) < (j3.2.2.2.1.length : Int))) = true then
some ((4 : Int), (112 : Int))
else
(if (decide ((12 : Int) < (j3.2.2.2.2.1.length : Int))) = true then
some ((4 : Int), (212 : Int))
else
Join (J := Unit) (R := Int × Int) (Loop (S := Int) (X := (Unit) ⊕ (Int × Int)) (fun s11 =>
(if (decide (s11 < (j3.2.2.2.1.length : Int))) = true then
(idx j3.2.2.2.1 s11).bind fun x12 =>
(cutA j3.2.2.2.1 (0 : Int) s11).bind fun l13 =>
(M.law_checkField N a0 x12 l13 ([] : List rField.den)).bind fun y14 =>
(if (!decide (y14 = (0 : Int))) = true then
some (Sum.inr (Sum.inr (y14, IntKind.i64.wrap ((100 : Int) + s11))))
else
some (Sum.inl (IntKind.i64.wrap (s11 + (1 : Int)))))
else
some (Sum.inr (Sum.inl ())))) N (0 : Int)) fun j10 =>
Join (J := Unit) (R := Int × Int) (Loop (S := Int) (X := (Unit) ⊕ (Int × Int)) (fun s16 =>
(if (decide (s16 < (j3.2.2.2.2.1.length : Int))) = true then
(idx j3.2.2.2.2.1 s16).bind fun x17 =>
(cutA j3.2.2.2.2.1 (0 : Int) s16).bind fun l18 =>
(M.law_checkField N a0 x17 j3.2.2.2.1 l18).bind fun y19 =>
(if (!decide (y19 = (0 : Int))) = true then
some (Sum.inr (Sum.inr (y19, IntKind.i64.wrap ((200 : Int) + s16))))
else
some (Sum.inl (IntKind.i64.wrap (s16 + (1 : Int)))))
else
some (Sum.inr (Sum.inl ())))) N (0 : Int)) fun j15 =>
(M.law_sharedSignature N a0 a1).bind fun y20 =>
Join (J := Unit) (R := Int × Int) (Loop (S := Int) (X := (Unit) ⊕ (Int × Int)) (fun s22 =>
(if (decide (s22 < (j3.2.2.2.2.2.length : Int))) = true then
(M.law_checkRule N j3.2 s22 (y20.1, (y20.2.1, (y20.2.2.2.1, (y20.2.2.2.2.1, (y20.2.2.2.2.2, y20.2.2.1)))))).bind fun y23 =>
(if (!decide (y23 = (0 : Int))) = true then
some (Sum.inr (Sum.inr (y23, IntKind.i64.wrap ((300 : Int) + s22))))
else
some (Sum.inl (IntKind.i64.wrap (s22 + (1 : Int)))))
else
some (Sum.inr (Sum.inl ())))) N (0 : Int)) fun j21 =>
Loop (S := Int) (X := Int × Int) (fun s24 =>
(if (decide (s24 < (j3.2.2.2.2.1.length : Int))) = true then
(M.deps_Transitive N j3.2 s24).bind fun y25 =>
(M.slices_Contains_int_int N y25 s24).bind fun y26 =>
(if y26 = true then
some (Sum.inr ((9 : Int), IntKind.i64.wrap ((200 : Int) + s24)))
else
some (Sum.inl (IntKind.i64.wrap (s24 + (1 : Int)))))
else
some (Sum.inr ((0 : Int), (0 : Int))))) N (0 : Int))))))
noncomputable def S28 (N : Nat) : Sig := { inn := ⟨[(0, .val true (.leaf rLaw)), (1, .val false (.leaf rInt))], [], [], 0⟩, out := ⟨[(0, .val false (.leaf rInt)), (1, .val false (.leaf rInt))], [], [], 0⟩, fn := fun (x : rLaw.den × Int) => M.law_checkScope N x.1 x.2 }
theorem W28 (N : Nat) : FnOK Tryz.prog 28 (S28 N) := fn_ok (E := ⟨tabs, [(15, S15 N), (25, S25 N), (26, S26 N), (27, S27 N), (54, S54v1 N), (56, S56 N), (57, S57 N), (58, S58 N), (59, S59 N)], (tabcons (W15 N) (tabcons (W25 N) (tabcons (W26 N) (tabcons (W27 N) (tabcons (W54v1 N) (tabcons (W56 N) (tabcons (W57 N) (tabcons (W58 N) (tabcons (W59 N) tabnil))))))))), mixed, false, false⟩) (N := N) (a := (.two .nil (.two .nil (.two .nil (.meet ⟨[(8, .val false (.leaf .bool))], [(128, .box 36 (.leaf rScope))], [], 241⟩ .nil (.two (.two (.two .nil (.two .nil (.two .nil (.two .nil (.meet ⟨[(52, .val false (.leaf .bool))], [], [], 353⟩ .nil .nil))))) .nil) (.join ⟨[], [], [], 513⟩ (.two .nil (.two (.loop ⟨[(89, .val false (.leaf rInt))], [], [], 577⟩ .nil) .nil)) (.join ⟨[], [], [], 513⟩ (.two .nil (.two (.loop ⟨[(110, .val false (.leaf rInt))], [], [], 577⟩ .nil) .nil)) (.two .nil (.join ⟨[], [], [], 593⟩ (.two .nil (.two (.loop ⟨[(136, .val false (.leaf rInt))], [], [], 657⟩ .nil) .nil)) (.two (.two .nil (.two (.loop ⟨[(152, .val false (.leaf rInt))], [], [], 657⟩ .nil) .nil)) .nil))))))))))) (sg := S28 N) (c := Tryz.f28.body.getD .skip) (rs := Tryz.f28.results.toList) Tryz.func28 (by kernel_rfl) (by kernel_rfl) rfl rfl rfl rfl (fun x => by kernel_rfl)
noncomputable def M.law_checkScopes (N : Nat) (a0 : rLaw.den) : Option (rLawError.den) :=
(if (decide ((4 : Int) < (a0.2.2.length : Int))) = true then
some ((4 : Int), ((3 : Int), ((4 : Int), (0 : Int))))
else
Join (J := Unit) (R := rLawError.den) (Loop (S := Int) (X := (Unit) ⊕ (rLawError.den)) (fun s2 =>
(if (decide (s2 < (a0.2.2.length : Int))) = true then
(M.law_checkScope N a0 s2).bind fun y3 =>
(if (!decide (y3.1 = (0 : Int))) = true then
some (Sum.inr (Sum.inr (y3.1, ((3 : Int), (s2, y3.2)))))
else
some (Sum.inl (IntKind.i64.wrap (s2 + (1 : Int)))))
else
some (Sum.inr (Sum.inl ())))) N (0 : Int)) fun j1 =>
some ((0 : Int), ((0 : Int), ((0 : Int), (0 : Int)))))
noncomputable def S13 (N : Nat) : Sig := { inn := ⟨[(0, .val true (.leaf rLaw))], [], [], 0⟩, out := ⟨[(0, .val true (.leaf rLawError))], [], [], 0⟩, fn := fun (x : rLaw.den) => M.law_checkScopes N x }
theorem W13 (N : Nat) : FnOK Tryz.prog 13 (S13 N) := fn_ok (E := ⟨tabs, [(28, S28 N)], (tabcons (W28 N) tabnil), mixed, false, false⟩) (N := N) (a := (.two .nil (.two .nil (.join ⟨[], [], [], 96⟩ (.two .nil (.two (.loop ⟨[(14, .val false (.leaf rInt))], [], [], 160⟩ .nil) .nil)) .nil)))) (sg := S13 N) (c := Tryz.f13.body.getD .skip) (rs := Tryz.f13.results.toList) Tryz.func13 (by kernel_rfl) (by kernel_rfl) rfl rfl rfl rfl (fun x => by kernel_rfl)
noncomputable def M.law_Validate (N : Nat) (a0 : rLaw.den) : Option (rLawError.den) :=
(M.law_checkEnums N a0).bind fun y1 =>
(if (!decide (y1.1 = (0 : Int))) = true then
some y1
else
(M.law_checkTables N a0).bind fun y2 =>
(if (!decide (y2.1 = (0 : Int))) = true then
some y2
else
(M.law_checkScopes N a0).bind fun y3 =>
some y3))
noncomputable def S5 (N : Nat) : Sig := { inn := ⟨[(0, .val true (.leaf rLaw))], [], [], 0⟩, out := ⟨[(0, .val true (.leaf rLawError))], [], [], 0⟩, fn := fun (x : rLaw.den) => M.law_Validate N x }
theorem W5 (N : Nat) : FnOK Tryz.prog 5 (S5 N) := fn_ok (E := ⟨tabs, [(11, S11 N), (12, S12 N), (13, S13 N)], (tabcons (W11 N) (tabcons (W12 N) (tabcons (W13 N) tabnil))), mixed, false, false⟩) (N := N) (a := .nil) (sg := S5 N) (c := Tryz.f5.body.getD .skip) (rs := Tryz.f5.results.toList) Tryz.func5 (by kernel_rfl) (by kernel_rfl) rfl rfl rfl rfl (fun x => by kernel_rfl)
noncomputable def M.same_TinyLaw (N : Nat) (a0 : List rType.den) : Option (List rScope.den) :=
some ([((⟨#[104, 111, 117, 115, 101]⟩ : ByteArray), ((-1 : Int), (([((⟨#[97]⟩ : ByteArray), ((3 : Int), (0 : Int)))] : List rField.den), (([((⟨#[100]⟩ : ByteArray), ((3 : Int), (0 : Int)))] : List rField.den), ([((⟨#[98, 97, 115, 101]⟩ : ByteArray), ((0 : Int), ((-1 : Int), ((0 : Int), (((0 : Int), (109573 : Int)), (([] : List rType.den), (a0, ByteArray.empty)))))))] : List rRule.den)))))] : List rScope.den)
noncomputable def S14 (N : Nat) : Sig := { inn := ⟨[(0, .val false (.leaf (.slice rType)))], [], [], 0⟩, out := ⟨[(0, .val true (.pair .nil (.pair .nil (.own 0))))], [(0, .own 36 rScope)], [], 1⟩, fn := fun (x : List rType.den) => M.same_TinyLaw N x }
theorem W14 (N : Nat) : FnOK Tryz.prog 14 (S14 N) := fn_ok (E := ⟨tabs, [], tabnil, mixed, false, false⟩) (N := N) (a := .nil) (sg := S14 N) (c := Tryz.f14.body.getD .skip) (rs := Tryz.f14.results.toList) Tryz.func14 (by kernel_rfl) (by kernel_rfl) rfl rfl rfl rfl (fun x => by kernel_rfl)
noncomputable def M.law17_awake (N : Nat) : Option (Bool) :=
(M.same_TinyLaw N ([((2 : Int), (5 : Int))] : List rType.den)).bind fun y1 =>
(M.law_Validate N (([] : List rEnum.den), (([] : List rTable.den), y1))).bind fun y2 =>
(M.same_TinyLaw N ([((3 : Int), (5 : Int))] : List rType.den)).bind fun y3 =>
(M.law_Validate N (([] : List rEnum.den), (([] : List rTable.den), y3))).bind fun y4 =>
((if (eqR rLawError y2 ((8 : Int), ((3 : Int), ((0 : Int), (300 : Int))))) = true then
some (eqR rLawError y4 ((0 : Int), ((0 : Int), ((0 : Int), (0 : Int)))))
else
some false) : Option (Bool)).bind fun j5 =>
some j5
noncomputable def S6 (N : Nat) : Sig := { inn := ⟨[], [], [], 0⟩, out := ⟨[(0, .val false (.leaf .bool))], [], [], 0⟩, fn := fun (x : Unit) => M.law17_awake N }
theorem W6 (N : Nat) : FnOK Tryz.prog 6 (S6 N) := fn_ok (E := ⟨tabs, [(5, S5 N), (14, S14 N)], (tabcons (W5 N) (tabcons (W14 N) tabnil)), mixed, false, false⟩) (N := N) (a := (.two .nil (.two .nil (.two .nil (.meet ⟨[(0, .val false (.leaf .bool))], [], [], 208⟩ .nil .nil))))) (sg := S6 N) (c := Tryz.f6.body.getD .skip) (rs := Tryz.f6.results.toList) Tryz.func6 (by kernel_rfl) (by kernel_rfl) rfl rfl rfl rfl (fun x => by kernel_rfl)
noncomputable def M.slices_Clone_string_string (N : Nat) (a0 : List ByteArray) : Option (List ByteArray) :=
(if Nat.beq (a0).length 0 = true then
Both (some ([] : List ByteArray))
((appA ([] : List ByteArray) a0).bind fun l1 =>
some l1)
else
(appA ([] : List ByteArray) a0).bind fun l2 =>
some l2)
noncomputable def S30 (N : Nat) : Sig := { inn := ⟨[(0, .val false (.leaf (.slice .str)))], [], [], 0⟩, out := ⟨[(0, .val false (.own 0))], [(0, .own 9 .str)], [], 1⟩, fn := fun (x : List ByteArray) => M.slices_Clone_string_string N x }
theorem W30 (N : Nat) : FnOK Tryz.prog 30 (S30 N) := fn_ok (E := ⟨tabs, [], tabnil, mixed, false, false⟩) (N := N) (a := .nil) (sg := S30 N) (c := Tryz.f30.body.getD .skip) (rs := Tryz.f30.results.toList) Tryz.func30 (by kernel_rfl) (by kernel_rfl) rfl rfl rfl rfl (fun x => by kernel_rfl)
noncomputable def M.law_cloneEnums (N : Nat) (a0 : List rEnum.den) : Option (List rEnum.den) :=
Loop (S := Int × List rEnum.den) (X := List rEnum.den) (fun s1 =>
(if (decide (s1.1 < (a0.length : Int))) = true then
(idx a0 s1.1).bind fun x2 =>
(M.slices_Clone_string_string N x2.2).bind fun y3 =>
(appA s1.2 ([(x2.1, y3)] : List rEnum.den)).bind fun l4 =>
some (Sum.inl (IntKind.i64.wrap (s1.1 + (1 : Int)), l4))
else
some (Sum.inr s1.2))) N ((0 : Int), ([] : List rEnum.den))
noncomputable def S16 (N : Nat) : Sig := { inn := ⟨[(0, .val false (.leaf (.slice rEnum)))], [], [], 0⟩, out := ⟨[(0, .val false (.own 0))], [(0, .own 52 rEnum)], [], 1⟩, fn := fun (x : List rEnum.den) => M.law_cloneEnums N x }
theorem W16 (N : Nat) : FnOK Tryz.prog 16 (S16 N) := fn_ok (E := ⟨tabs, [(30, S30 N)], (tabcons (W30 N) tabnil), mixed, false, false⟩) (N := N) (a := (.two .nil (.two .nil (.two (.two .nil (.two (.loop ⟨[(3, .val false (.own 80)), (8, .val false (.leaf rInt))], [(80, .own 52 rEnum)], [], 81⟩ .nil) .nil)) .nil)))) (sg := S16 N) (c := Tryz.f16.body.getD .skip) (rs := Tryz.f16.results.toList) Tryz.func16 (by kernel_rfl) (by kernel_rfl) rfl rfl rfl rfl (fun x => by kernel_rfl)
noncomputable def M.slices_Clone_guerdon_api_Row_guerdon_api_Row (N : Nat) (a0 : List rRow.den) : Option (List rRow.den) :=
(if Nat.beq (a0).length 0 = true then
Both (some ([] : List rRow.den))
((appA ([] : List rRow.den) a0).bind fun l1 =>
some l1)
else
(appA ([] : List rRow.den) a0).bind fun l2 =>
some l2)
noncomputable def S31 (N : Nat) : Sig := { inn := ⟨[(0, .val false (.leaf (.slice rRow)))], [], [], 0⟩, out := ⟨[(0, .val false (.own 0))], [(0, .own 88 rRow)], [], 1⟩, fn := fun (x : List rRow.den) => M.slices_Clone_guerdon_api_Row_guerdon_api_Row N x }
theorem W31 (N : Nat) : FnOK Tryz.prog 31 (S31 N) := fn_ok (E := ⟨tabs, [], tabnil, mixed, false, false⟩) (N := N) (a := .nil) (sg := S31 N) (c := Tryz.f31.body.getD .skip) (rs := Tryz.f31.results.toList) Tryz.func31 (by kernel_rfl) (by kernel_rfl) rfl rfl rfl rfl (fun x => by kernel_rfl)
noncomputable def M.law_cloneTables (N : Nat) (a0 : List rTable.den) : Option (List rTable.den) :=
Loop (S := Int × List rTable.den) (X := List rTable.den) (fun s1 =>
(if (decide (s1.1 < (a0.length : Int))) = true then
(idx a0 s1.1).bind fun x2 =>
(M.slices_Clone_guerdon_api_Row_guerdon_api_Row N x2.2.2.2).bind fun y3 =>
(appA s1.2 ([(x2.1, (x2.2.1, (x2.2.2.1, y3)))] : List rTable.den)).bind fun l4 =>
some (Sum.inl (IntKind.i64.wrap (s1.1 + (1 : Int)), l4))
else
some (Sum.inr s1.2))) N ((0 : Int), ([] : List rTable.den))
noncomputable def S17 (N : Nat) : Sig := { inn := ⟨[(0, .val false (.leaf (.slice rTable)))], [], [], 0⟩, out := ⟨[(0, .val false (.own 0))], [(0, .own 57 rTable)], [], 1⟩, fn := fun (x : List rTable.den) => M.law_cloneTables N x }
theorem W17 (N : Nat) : FnOK Tryz.prog 17 (S17 N) := fn_ok (E := ⟨tabs, [(31, S31 N)], (tabcons (W31 N) tabnil), mixed, false, false⟩) (N := N) (a := (.two .nil (.two .nil (.two (.two .nil (.two (.loop ⟨[(3, .val false (.own 80)), (8, .val false (.leaf rInt))], [(80, .own 57 rTable)], [], 81⟩ .nil) .nil)) .nil)))) (sg := S17 N) (c := Tryz.f17.body.getD .skip) (rs := Tryz.f17.results.toList) Tryz.func17 (by kernel_rfl) (by kernel_rfl) rfl rfl rfl rfl (fun x => by kernel_rfl)
noncomputable def M.law_Signature (N : Nat) (a0 : rLaw.den) (a1 : Int) : Option (Bool × (List rEnum.den) × (List rTable.den) × (List rType.den) × (List rType.den) × List rType.den) :=
((if (decide (a1 < (0 : Int))) = true then
some true
else
some (decide ((a0.2.2.length : Int) ≤ a1))) : Option (Bool)).bind fun j1 =>
(if j1 = true then
some (false, ([] : List rEnum.den), ([] : List rTable.den), ([] : List rType.den), ([] : List rType.den), ([] : List rType.den))
else
(M.law_sharedSignature N a0 a1).bind fun y2 =>
(M.law_cloneEnums N y2.1).bind fun y3 =>
(M.law_cloneTables N y2.2.1).bind fun y4 =>
some (y2.2.2.1, y3, y4, y2.2.2.2.1, y2.2.2.2.2.1, y2.2.2.2.2.2))
noncomputable def S7 (N : Nat) : Sig := { inn := ⟨[(0, .val true (.leaf rLaw)), (1, .val false (.leaf rInt))], [], [], 0⟩, out := ⟨[(0, .val true (.pair (.own 0) (.pair (.own 1) (.pair (.own 2) (.pair (.own 3) (.pair (.own 4) (.leaf .bool)))))))], [(0, .own 52 rEnum), (1, .own 57 rTable), (2, .own 54 rType), (3, .own 54 rType), (4, .own 54 rType)], [], 5⟩, fn := fun (x : rLaw.den × Int) => M.law_Signature N x.1 x.2 }
theorem W7 (N : Nat) : FnOK Tryz.prog 7 (S7 N) := fn_ok (E := ⟨tabs, [(15, S15 N), (16, S16 N), (17, S17 N)], (tabcons (W15 N) (tabcons (W16 N) (tabcons (W17 N) tabnil))), mixed, false, false⟩) (N := N) (a := (.two .nil (.two (.meet ⟨[(14, .val false (.leaf .bool))], [], [], 32⟩ .nil .nil) .nil))) (sg := S7 N) (c := Tryz.f7.body.getD .skip) (rs := Tryz.f7.results.toList) Tryz.func7 (by kernel_rfl) (by kernel_rfl) rfl rfl rfl rfl (fun x => by kernel_rfl)
noncomputable def M.law17_wellTyped (N : Nat) (a0 : rRule.den) (a1 : rScope.den) (a2 : rSignature.den) : Option (Bool) :=
((if (decide (a0.2.1 < (0 : Int))) = true then
some true
else
some (decide ((a1.2.2.2.1.length : Int) ≤ a0.2.1))) : Option (Bool)).bind fun j1 =>
(if j1 = true then
some false
else
(M.expr_TypeOf N a0.2.2.2.2.2.2.1 a2).bind fun y2 =>
((if (!decide (y2.2.2 = (0 : Int))) = true then
some true
else
(idx a1.2.2.2.1 a0.2.1).bind fun x4 =>
some (!(eqR rType y2.1 x4.2))) : Option (Bool)).bind fun j3 =>
(if j3 = true then
some false
else
(if (decide ((a0.2.2.2.2.2.1.length : Int) = (0 : Int))) = true then
some true
else
(M.expr_TypeOf N a0.2.2.2.2.2.1 a2).bind fun y5 =>
((if (decide (y5.2.2 = (0 : Int))) = true then
some (eqR rType y5.1 ((1 : Int), (0 : Int)))
else
some false) : Option (Bool)).bind fun j6 =>
some j6)))
noncomputable def S8 (N : Nat) : Sig := { inn := ⟨[(0, .val true (.leaf rRule)), (1, .val true (.leaf rScope)), (2, .val true (.leaf rSignature))], [], [], 0⟩, out := ⟨[(0, .val false (.leaf .bool))], [], [], 0⟩, fn := fun (x : rRule.den × rScope.den × rSignature.den) => M.law17_wellTyped N x.1 x.2.1 x.2.2 }
theorem W8 (N : Nat) : FnOK Tryz.prog 8 (S8 N) := fn_ok (E := ⟨tabs, [(18, S18 N)], (tabcons (W18 N) tabnil), mixed, false, false⟩) (N := N) (a := (.two .nil (.two (.meet ⟨[(23, .val false (.leaf .bool))], [], [], 64⟩ .nil .nil) (.two .nil (.two (.meet ⟨[(44, .val false (.leaf .bool))], [], [], 256⟩ .nil .nil) (.two .nil (.two .nil (.meet ⟨[(6, .val false (.leaf .bool))], [], [], 512⟩ .nil .nil)))))))) (sg := S8 N) (c := Tryz.f8.body.getD .skip) (rs := Tryz.f8.results.toList) Tryz.func8 (by kernel_rfl) (by kernel_rfl) rfl rfl rfl rfl (fun x => by kernel_rfl)
noncomputable def M.deps_intHeap_Len (N : Nat) (a0 : List Int) : Option (Int) :=
some (a0.length : Int)
noncomputable def S21 (N : Nat) : Sig := { inn := ⟨[(0, .val false (.leaf (.slice rInt)))], [], [], 0⟩, out := ⟨[(0, .val false (.leaf rInt))], [], [], 0⟩, fn := fun (x : List Int) => M.deps_intHeap_Len N x }
theorem W21 (N : Nat) : FnOK Tryz.prog 21 (S21 N) := fn_ok (E := ⟨tabs, [], tabnil, mixed, false, false⟩) (N := N) (a := .nil) (sg := S21 N) (c := Tryz.f21.body.getD .skip) (rs := Tryz.f21.results.toList) Tryz.func21 (by kernel_rfl) (by kernel_rfl) rfl rfl rfl rfl (fun x => by kernel_rfl)
noncomputable def M.deps_intHeap_Less (N : Nat) (a0 : List Int) (a1 : Int) (a2 : Int) : Option (Bool) :=
(idx a0 a1).bind fun x1 =>
(idx a0 a2).bind fun x2 =>
some (decide (x1 < x2))
noncomputable def S135 (N : Nat) : Sig := { inn := ⟨[(0, .val false (.leaf (.slice rInt))), (1, .val false (.leaf rInt)), (2, .val false (.leaf rInt))], [], [], 0⟩, out := ⟨[(0, .val false (.leaf .bool))], [], [], 0⟩, fn := fun (x : (List Int) × Int × Int) => M.deps_intHeap_Less N x.1 x.2.1 x.2.2 }
theorem W135 (N : Nat) : FnOK Tryz.prog 135 (S135 N) := fn_ok (E := ⟨tabs, [], tabnil, mixed, false, false⟩) (N := N) (a := .nil) (sg := S135 N) (c := Tryz.f135.body.getD .skip) (rs := Tryz.f135.results.toList) Tryz.func135 (by kernel_rfl) (by kernel_rfl) rfl rfl rfl rfl (fun x => by kernel_rfl)
noncomputable def M.deps_intHeap_Pop (N : Nat) (a0 : List Int) : Option (Int × List Int) :=
(idx a0 (IntKind.i64.wrap ((a0.length : Int) - (1 : Int)))).bind fun x1 =>
(cutA a0 (0 : Int) (IntKind.i64.wrap ((a0.length : Int) - (1 : Int)))).bind fun l2 =>
some (x1, l2)
noncomputable def S136 (N : Nat) : Sig := { inn := ⟨[(0, .ptr 0 [] 0)], [(0, .box 71 (.own 1)), (1, .own 3 rInt)], [], 2⟩, out := ⟨[(0, .ifc 3 (.val false (.leaf rInt)))], [(0, .box 71 (.own 2)), (2, .own 3 rInt)], [], 4⟩, fn := fun (x : List Int) => M.deps_intHeap_Pop N x }
theorem W136 (N : Nat) : FnOK Tryz.prog 136 (S136 N) := fn_ok (E := ⟨tabs, [], tabnil, mixed, false, false⟩) (N := N) (a := .nil) (sg := S136 N) (c := Tryz.f136.body.getD .skip) (rs := Tryz.f136.results.toList) Tryz.func136 (by kernel_rfl) (by kernel_rfl) rfl rfl rfl rfl (fun x => by kernel_rfl)
noncomputable def M.deps_allDirect_v1 (N : Nat) (a0 : rScope.den) : Option (List (List Int)) :=
(mkL (a0.2.2.2.1.length : Int) ([] : List Int)).bind fun l1 =>
(Loop (S := Int × List (List Int)) (X := List (List Int)) (fun s3 =>
(if (decide (s3.1 < (a0.2.2.2.2.length : Int))) = true then
((idx a0.2.2.2.2 s3.1).bind fun x5 =>
((if (decide ((0 : Int) ≤ x5.2.1)) = true then
some (decide (x5.2.1 < (s3.2.length : Int)))
else
some false) : Option (Bool)).bind fun j6 =>
(if j6 = true then
(idx s3.2 x5.2.1).bind fun x7 =>
(idx s3.2 x5.2.1).bind fun x8 =>
(M.deps_definitionsOf N x5 (s3.2.length : Int)).bind fun y9 =>
(appA x8 y9).bind fun l10 =>
(idx s3.2 x5.2.1).bind fun x11 =>
(if decide (x5.2.1 = x5.2.1) = true then
(idx s3.2 x5.2.1).bind fun x12 =>
some (modL s3.2 x5.2.1 (fun m13 => l10))
else none)
else
some s3.2) : Option (List (List Int))).bind fun j4 =>
some (Sum.inl (IntKind.i64.wrap (s3.1 + (1 : Int)), j4))
else
some (Sum.inr s3.2))) N ((0 : Int), l1) : Option (List (List Int))).bind fun j2 =>
Loop (S := Int × List (List Int)) (X := List (List Int)) (fun s14 =>
(if (decide (s14.1 < (j2.length : Int))) = true then
(idx s14.2 s14.1).bind fun x15 =>
(idx s14.2 s14.1).bind fun x16 =>
(M.deps_sortedSet_v1 N x16).bind fun y17 =>
(idx s14.2 s14.1).bind fun x18 =>
(if decide (s14.1 = s14.1) = true then
(idx s14.2 s14.1).bind fun x19 =>
some (Sum.inl (IntKind.i64.wrap (s14.1 + (1 : Int)), modL s14.2 s14.1 (fun m20 => y17)))
else none)
else
some (Sum.inr s14.2))) N ((0 : Int), j2)
noncomputable def S19v1 (N : Nat) : Sig := { inn := ⟨[(0, .val true (.leaf rScope))], [], [], 0⟩, out := ⟨[(0, .val false (.own 0))], [(0, .deep 47 (.sl 3 (.leaf rInt)))], [], 1⟩, fn := fun (x : rScope.den) => M.deps_allDirect_v1 N x }
theorem W19v1 (N : Nat) : FnOK Tryz.prog 19 (S19v1 N) := fn_ok (E := ⟨tabs, [(36, S36 N), (37, S37v1 N)], (tabcons (W36 N) (tabcons (W37v1 N) tabnil)), mixed, true, false⟩) (N := N) (a := (.two .nil (.two .nil (.meet ⟨[], [(80, .deep 47 (.sl 3 (.leaf rInt)))], [], 113⟩ (.two .nil (.two (.loop ⟨[(15, .val false (.leaf rInt))], [(80, .deep 47 (.sl 3 (.leaf rInt)))], [], 177⟩ (.two .nil (.two .nil (.two (.meet ⟨[], [(80, .deep 47 (.sl 3 (.leaf rInt)))], [], 194⟩ (.two .nil (.meet ⟨[(28, .val false (.leaf .bool))], [], [], 257⟩ .nil .nil)) .nil) .nil)))) .nil)) (.two (.two .nil (.two (.loop ⟨[(46, .val false (.leaf rInt))], [(80, .deep 47 (.sl 3 (.leaf rInt)))], [], 162⟩ .nil) .nil)) .nil))))) (sg := S19v1 N) (c := Tryz.f19.body.getD .skip) (rs := Tryz.f19.results.toList) Tryz.func19 (by kernel_rfl) (by kernel_rfl) rfl rfl rfl rfl (fun x => by kernel_rfl)
noncomputable def M.deps_intHeap_Push_v1 (N : Nat) (a0 : Int) (a1 : List Int) : Option (List Int) :=
(appA a1 ([a0] : List Int)).bind fun l1 =>
some l1
noncomputable def S137v1 (N : Nat) : Sig := { inn := ⟨[(0, .ptr 0 [] 0), (1, .ifc 3 (.val false (.leaf rInt)))], [(0, .box 71 (.own 1)), (1, .own 3 rInt)], [], 2⟩, out := ⟨[], [(0, .box 71 (.own 2)), (2, .own 3 rInt)], [], 4⟩, fn := fun (x : Int × List Int) => M.deps_intHeap_Push_v1 N x.1 x.2 }
theorem W137v1 (N : Nat) : FnOK Tryz.prog 137 (S137v1 N) := fn_ok (E := ⟨tabs, [], tabnil, mixed, false, false⟩) (N := N) (a := .nil) (sg := S137v1 N) (c := Tryz.f137.body.getD .skip) (rs := Tryz.f137.results.toList) Tryz.func137 (by kernel_rfl) (by kernel_rfl) rfl rfl rfl rfl (fun x => by kernel_rfl)
noncomputable def M.deps_intHeap_Swap_v1 (N : Nat) (a0 : Int) (a1 : Int) (a2 : List Int) : Option (List Int) :=
(idx a2 a1).bind fun x1 =>
(idx a2 a0).bind fun x2 =>
(idx a2 a0).bind fun x3 =>
(idx (setL a2 a0 x1) a1).bind fun x4 =>
some (setL (setL a2 a0 x1) a1 x2)
noncomputable def S138v1 (N : Nat) : Sig := { inn := ⟨[(0, .val false (.own 0)), (1, .val false (.leaf rInt)), (2, .val false (.leaf rInt))], [(0, .own 3 rInt)], [], 1⟩, out := ⟨[], [(0, .own 3 rInt)], [], 2⟩, fn := fun (x : Int × Int × List Int) => M.deps_intHeap_Swap_v1 N x.1 x.2.1 x.2.2 }
theorem W138v1 (N : Nat) : FnOK Tryz.prog 138 (S138v1 N) := fn_ok (E := ⟨tabs, [], tabnil, mixed, false, false⟩) (N := N) (a := .nil) (sg := S138v1 N) (c := Tryz.f138.body.getD .skip) (rs := Tryz.f138.results.toList) Tryz.func138 (by kernel_rfl) (by kernel_rfl) rfl rfl rfl rfl (fun x => by kernel_rfl)
noncomputable def M.container_heap_up_v1 (N : Nat) (a0 : Int) (a1 : List Int) : Option (List Int) :=
Loop (S := Int × List Int) (X := List Int) (fun s1 =>
((if (decide ((IntKind.i64.wrap (Int.tdiv (IntKind.i64.wrap (s1.1 - (1 : Int))) (2 : Int))) = s1.1)) = true then
some true
else
(M.deps_intHeap_Less N s1.2 s1.1 (IntKind.i64.wrap (Int.tdiv (IntKind.i64.wrap (s1.1 - (1 : Int))) (2 : Int)))).bind fun y3 =>
some (!y3)) : Option (Bool)).bind fun j2 =>
(if j2 = true then
some (Sum.inr s1.2)
else
(M.deps_intHeap_Swap_v1 N (IntKind.i64.wrap (Int.tdiv (IntKind.i64.wrap (s1.1 - (1 : Int))) (2 : Int))) s1.1 s1.2).bind fun y4 =>
some (Sum.inl (IntKind.i64.wrap (Int.tdiv (IntKind.i64.wrap (s1.1 - (1 : Int))) (2 : Int)), y4)))) N (a0, a1)
noncomputable def S38v1 (N : Nat) : Sig := { inn := ⟨[(0, .ifc 70 (.ptr 0 [] 0)), (1, .val false (.leaf rInt))], [(0, .box 71 (.own 1)), (1, .own 3 rInt)], [], 2⟩, out := ⟨[], [(0, .box 71 (.own 1)), (1, .own 3 rInt)], [], 4⟩, fn := fun (x : Int × List Int) => M.container_heap_up_v1 N x.1 x.2 }
theorem W38v1 (N : Nat) : FnOK Tryz.prog 38 (S38v1 N) := fn_ok (E := ⟨tabs, [(135, S135 N), (138, S138v1 N)], (tabcons (W135 N) (tabcons (W138v1 N) tabnil)), mixed, false, false⟩) (N := N) (a := (.two (.loop ⟨[(1, .val false (.leaf rInt))], [(1, .own 3 rInt)], [], 3⟩ (.two (.two .nil (.two (.meet ⟨[(17, .val false (.leaf .bool))], [], [], 67⟩ .nil .nil) .nil)) .nil)) .nil)) (sg := S38v1 N) (c := Tryz.f38.body.getD .skip) (rs := Tryz.f38.results.toList) Tryz.func38 (by kernel_rfl) (by kernel_rfl) rfl rfl rfl rfl (fun x => by kernel_rfl)
noncomputable def M.container_heap_Push_v1 (N : Nat) (a0 : Int) (a1 : List Int) : Option (List Int) :=
(M.deps_intHeap_Push_v1 N a0 a1).bind fun y1 =>
(M.deps_intHeap_Len N y1).bind fun y2 =>
(M.container_heap_up_v1 N (IntKind.i64.wrap (y2 - (1 : Int))) y1).bind fun y3 =>
some y3
noncomputable def S20v1 (N : Nat) : Sig := { inn := ⟨[(0, .ifc 70 (.ptr 0 [] 0)), (1, .ifc 3 (.val false (.leaf rInt)))], [(0, .box 71 (.own 1)), (1, .own 3 rInt)], [], 2⟩, out := ⟨[], [(0, .box 71 (.own 2)), (2, .own 3 rInt)], [], 4⟩, fn := fun (x : Int × List Int) => M.container_heap_Push_v1 N x.1 x.2 }
theorem W20v1 (N : Nat) : FnOK Tryz.prog 20 (S20v1 N) := fn_ok (E := ⟨tabs, [(21, S21 N), (38, S38v1 N), (137, S137v1 N)], (tabcons (W21 N) (tabcons (W38v1 N) (tabcons (W137v1 N) tabnil))), mixed, false, false⟩) (N := N) (a := .nil) (sg := S20v1 N) (c := Tryz.f20.body.getD .skip) (rs := Tryz.f20.results.toList) Tryz.func20 (by kernel_rfl) (by kernel_rfl) rfl rfl rfl rfl (fun x => by kernel_rfl)
noncomputable def M.container_heap_down_v1 (N : Nat) (a0 : Int) (a1 : Int) (a2 : List Int) : Option (Bool × List Int) :=
(Loop (S := Int × List Int) (X := Int × List Int) (fun s2 =>
((if (decide (a1 ≤ (IntKind.i64.wrap ((IntKind.i64.wrap ((2 : Int) * s2.1)) + (1 : Int))))) = true then
some true
else
some (decide ((IntKind.i64.wrap ((IntKind.i64.wrap ((2 : Int) * s2.1)) + (1 : Int))) < (0 : Int)))) : Option (Bool)).bind fun j3 =>
(if j3 = true then
some (Sum.inr (s2.1, s2.2))
else
(((if (decide ((IntKind.i64.wrap ((IntKind.i64.wrap ((IntKind.i64.wrap ((2 : Int) * s2.1)) + (1 : Int))) + (1 : Int))) < a1)) = true then
(M.deps_intHeap_Less N s2.2 (IntKind.i64.wrap ((IntKind.i64.wrap ((IntKind.i64.wrap ((2 : Int) * s2.1)) + (1 : Int))) + (1 : Int))) (IntKind.i64.wrap ((IntKind.i64.wrap ((2 : Int) * s2.1)) + (1 : Int)))).bind fun y6 =>
some y6
else
some false) : Option (Bool)).bind fun j5 =>
(if j5 = true then
some (IntKind.i64.wrap ((IntKind.i64.wrap ((IntKind.i64.wrap ((2 : Int) * s2.1)) + (1 : Int))) + (1 : Int)))
else
some (IntKind.i64.wrap ((IntKind.i64.wrap ((2 : Int) * s2.1)) + (1 : Int)))) : Option (Int)).bind fun j4 =>
(M.deps_intHeap_Less N s2.2 j4 s2.1).bind fun y7 =>
(if (!y7) = true then
some (Sum.inr (s2.1, s2.2))
else
(M.deps_intHeap_Swap_v1 N s2.1 j4 s2.2).bind fun y8 =>
some (Sum.inl (j4, y8))))) N (a0, a2) : Option (Int × List Int)).bind fun j1 =>
some (decide (a0 < j1.1), j1.2)
noncomputable def S39v1 (N : Nat) : Sig := { inn := ⟨[(0, .ifc 70 (.ptr 0 [] 0)), (1, .val false (.leaf rInt)), (2, .val false (.leaf rInt))], [(0, .box 71 (.own 1)), (1, .own 3 rInt)], [], 2⟩, out := ⟨[(0, .val false (.leaf .bool))], [(0, .box 71 (.own 1)), (1, .own 3 rInt)], [], 4⟩, fn := fun (x : Int × Int × List Int) => M.container_heap_down_v1 N x.1 x.2.1 x.2.2 }
theorem W39v1 (N : Nat) : FnOK Tryz.prog 39 (S39v1 N) := fn_ok (E := ⟨tabs, [(135, S135 N), (138, S138v1 N)], (tabcons (W135 N) (tabcons (W138v1 N) tabnil)), mixed, false, false⟩) (N := N) (a := (.two .nil (.two .nil (.two (.meet ⟨[(7, .val false (.leaf rInt))], [(1, .own 3 rInt)], [], 51⟩ (.loop ⟨[(7, .val false (.leaf rInt))], [(1, .own 3 rInt)], [], 51⟩ (.two (.two .nil (.two (.meet ⟨[(21, .val false (.leaf .bool))], [], [], 115⟩ .nil .nil) (.two .nil (.meet ⟨[(9, .val false (.leaf rInt))], [], [], 147⟩ (.two .nil (.meet ⟨[(33, .val false (.leaf .bool))], [], [], 195⟩ .nil .nil)) .nil)))) .nil)) .nil) .nil)))) (sg := S39v1 N) (c := Tryz.f39.body.getD .skip) (rs := Tryz.f39.results.toList) Tryz.func39 (by kernel_rfl) (by kernel_rfl) rfl rfl rfl rfl (fun x => by kernel_rfl)
noncomputable def M.container_heap_Pop_v1 (N : Nat) (a0 : List Int) : Option (Int × List Int) :=
(M.deps_intHeap_Len N a0).bind fun y1 =>
(M.deps_intHeap_Swap_v1 N (0 : Int) (IntKind.i64.wrap (y1 - (1 : Int))) a0).bind fun y2 =>
(M.container_heap_down_v1 N (0 : Int) (IntKind.i64.wrap (y1 - (1 : Int))) y2).bind fun y3 =>
(M.deps_intHeap_Pop N y3.2).bind fun y4 =>
some (y4.1, y4.2)
noncomputable def S22v1 (N : Nat) : Sig := { inn := ⟨[(0, .ifc 70 (.ptr 0 [] 0))], [(0, .box 71 (.own 1)), (1, .own 3 rInt)], [], 2⟩, out := ⟨[(0, .ifc 3 (.val false (.leaf rInt)))], [(0, .box 71 (.own 2)), (2, .own 3 rInt)], [], 4⟩, fn := fun (x : List Int) => M.container_heap_Pop_v1 N x }
theorem W22v1 (N : Nat) : FnOK Tryz.prog 22 (S22v1 N) := fn_ok (E := ⟨tabs, [(21, S21 N), (39, S39v1 N), (136, S136 N), (138, S138v1 N)], (tabcons (W21 N) (tabcons (W39v1 N) (tabcons (W136 N) (tabcons (W138v1 N) tabnil)))), mixed, false, false⟩) (N := N) (a := .nil) (sg := S22v1 N) (c := Tryz.f22.body.getD .skip) (rs := Tryz.f22.results.toList) Tryz.func22 (by kernel_rfl) (by kernel_rfl) rfl rfl rfl rfl (fun x => by kernel_rfl)
noncomputable def M.deps_EvaluationOrder (N : Nat) (a0 : rScope.den) : Option (Int × List Int) :=
((M.deps_allDirect_v1 N a0).bind fun y2 =>
some y2 : Option (List (List Int))).bind fun j1 =>
(mkL (j1.length : Int) ([] : List Int)).bind fun l3 =>
(mkL (j1.length : Int) (0 : Int)).bind fun l4 =>
((Loop (S := Int × (List (List Int)) × (List Int) × List Int) (X := (List (List Int)) × (List Int) × List Int) (fun s7 =>
(if (decide (s7.1 < (j1.length : Int))) = true then
(((idx j1 s7.1).bind fun x10 =>
(idx s7.2.2.1 s7.1).bind fun x11 =>
(Loop (S := Int × List (List Int)) (X := List (List Int)) (fun s13 =>
(if (decide (s13.1 < (x10.length : Int))) = true then
(idx x10 s13.1).bind fun x14 =>
(idx s13.2 x14).bind fun x15 =>
(idx s13.2 x14).bind fun x16 =>
(appA x16 ([s7.1] : List Int)).bind fun l17 =>
(idx s13.2 x14).bind fun x18 =>
(if decide (x14 = x14) = true then
(idx s13.2 x14).bind fun x19 =>
some (Sum.inl (IntKind.i64.wrap (s13.1 + (1 : Int)), modL s13.2 x14 (fun m20 => l17)))
else none)
else
some (Sum.inr s13.2))) N ((0 : Int), s7.2.1) : Option (List (List Int))).bind fun j12 =>
(if (decide ((x10.length : Int) = (0 : Int))) = true then
(M.container_heap_Push_v1 N s7.1 s7.2.2.2).bind fun y21 =>
some (j12, setL s7.2.2.1 s7.1 (x10.length : Int), y21)
else
some (j12, setL s7.2.2.1 s7.1 (x10.length : Int), s7.2.2.2)) : Option ((List (List Int)) × (List Int) × List Int)).bind fun j9 =>
some (j9.1, j9.2.1, j9.2.2) : Option ((List (List Int)) × (List Int) × List Int)).bind fun j8 =>
some (Sum.inl (IntKind.i64.wrap (s7.1 + (1 : Int)), j8.1, j8.2.1, j8.2.2))
else
some (Sum.inr (s7.2.1, s7.2.2.1, s7.2.2.2)))) N ((0 : Int), l3, l4, ([] : List Int)) : Option ((List (List Int)) × (List Int) × List Int)).bind fun j6 =>
some (j6.1, j6.2.1, j6.2.2) : Option ((List (List Int)) × (List Int) × List Int)).bind fun j5 =>
(Loop (S := (List Int) × (List Int) × List Int) (X := (List Int) × List Int) (fun s23 =>
(M.deps_intHeap_Len N s23.2.2).bind fun y24 =>
(if (decide ((0 : Int) < y24)) = true then
(M.container_heap_Pop_v1 N s23.2.2).bind fun y25 =>
(appA s23.2.1 ([y25.1] : List Int)).bind fun l26 =>
(idx j5.1 y25.1).bind fun x27 =>
Loop (S := Int × (List Int) × List Int) (X := ((List Int) × (List Int) × List Int) ⊕ ((List Int) × List Int)) (fun s28 =>
(if (decide (s28.1 < (x27.length : Int))) = true then
((idx x27 s28.1).bind fun x30 =>
(idx s28.2.1 x30).bind fun x31 =>
(idx s28.2.1 x30).bind fun x32 =>
(idx (setL s28.2.1 x30 (IntKind.i64.wrap (x31 - (1 : Int)))) x30).bind fun x33 =>
(if (decide (x33 = (0 : Int))) = true then
(M.container_heap_Push_v1 N x30 s28.2.2).bind fun y34 =>
some (setL s28.2.1 x30 (IntKind.i64.wrap (x31 - (1 : Int))), y34)
else
some (setL s28.2.1 x30 (IntKind.i64.wrap (x31 - (1 : Int))), s28.2.2)) : Option ((List Int) × List Int)).bind fun j29 =>
some (Sum.inl (IntKind.i64.wrap (s28.1 + (1 : Int)), j29.1, j29.2))
else
some (Sum.inr (Sum.inl (s28.2.1, l26, s28.2.2))))) N ((0 : Int), s23.1, y25.2)
else
some (Sum.inr (s23.2.1, s23.2.2)))) N (j5.2.1, ([] : List Int), j5.2.2) : Option ((List Int) × List Int)).bind fun j22 =>
(if (decide ((j22.1.length : Int) < (j1.length : Int))) = true then
some ((9 : Int), ([] : List Int))
else
some ((0 : Int), j22.1))
noncomputable def S9 (N : Nat) : Sig := { inn := ⟨[(0, .val true (.leaf rScope))], [], [], 0⟩, out := ⟨[(0, .val false (.own 0)), (1, .val false (.leaf rInt))], [(0, .own 3 rInt)], [], 1⟩, fn := fun (x : rScope.den) => M.deps_EvaluationOrder N x }
theorem W9 (N : Nat) : FnOK Tryz.prog 9 (S9 N) := fn_ok (E := ⟨tabs, [(19, S19v1 N), (20, S20v1 N), (21, S21 N), (22, S22v1 N)], (tabcons (W19v1 N) (tabcons (W20v1 N) (tabcons (W21 N) (tabcons (W22v1 N) tabnil)))), mixed, true, false⟩) (N := N) (a := (.two .nil (.meet ⟨[(4, .val false (.leaf (.slice (.slice rInt))))], [], [], 48⟩ .nil (.two .nil (.two .nil (.two .nil (.meet ⟨[(5, .val false (.leaf (.slice (.slice rInt))))], [(144, .own 3 rInt), (192, .box 71 (.own 224)), (224, .own 3 rInt)], [80, 176], 227⟩ (.two .nil (.meet ⟨[(5, .val false (.leaf (.slice (.slice rInt))))], [(144, .own 3 rInt), (192, .box 71 (.own 272)), (272, .own 3 rInt)], [80, 176], 275⟩ (.loop ⟨[(29, .val false (.leaf rInt))], [(80, .deep 47 (.sl 3 (.leaf rInt))), (144, .own 3 rInt), (192, .box 71 (.own 272)), (272, .own 3 rInt)], [176], 276⟩ (.two .nil (.two .nil (.meet ⟨[], [(80, .deep 47 (.sl 3 (.leaf rInt))), (144, .own 3 rInt), (192, .box 71 (.own 292)), (292, .own 3 rInt)], [272], 296⟩ (.meet ⟨[], [(80, .deep 47 (.sl 3 (.leaf rInt))), (144, .own 3 rInt), (192, .box 71 (.own 292)), (292, .own 3 rInt)], [272], 296⟩ (.two .nil (.two .nil (.meet ⟨[], [(80, .deep 47 (.sl 3 (.leaf rInt)))], [], 469⟩ (.two .nil (.two (.loop ⟨[(41, .val false (.leaf rInt))], [(80, .deep 47 (.sl 3 (.leaf rInt)))], [], 517⟩ .nil) .nil)) .nil))) .nil) .nil)))) .nil)) (.two .nil (.meet ⟨[(12, .val false (.own 243))], [(192, .box 71 (.own 244)), (243, .own 3 rInt), (244, .own 3 rInt)], [144, 224], 246⟩ (.two (.loop ⟨[(12, .val false (.own 243))], [(144, .own 3 rInt), (192, .box 71 (.own 244)), (243, .own 3 rInt), (244, .own 3 rInt)], [224], 247⟩ (.two .nil (.two (.two .nil (.two .nil (.two .nil (.two (.loop ⟨[(86, .val false (.leaf rInt))], [(144, .own 3 rInt), (192, .box 71 (.own 647)), (647, .own 3 rInt)], [361], 650⟩ (.two .nil (.two .nil (.two (.meet ⟨[], [(144, .own 3 rInt), (192, .box 71 (.own 666)), (666, .own 3 rInt)], [647], 669⟩ .nil .nil) .nil)))) .nil)))) .nil))) .nil) .nil))))))))) (sg := S9 N) (c := Tryz.f9.body.getD .skip) (rs := Tryz.f9.results.toList) Tryz.func9 (by kernel_rfl) (by kernel_rfl) rfl rfl rfl rfl (fun x => by kernel_rfl)
noncomputable def M.law17_LawWellTyped (N : Nat) (a0 : rLaw.den) : Option (Bool) :=
((M.same_SmallLaw N a0).bind fun y2 =>
(if (!y2) = true then
some true
else
(M.law_Validate N a0).bind fun y3 =>
some (!(eqR rLawError y3 ((0 : Int), ((0 : Int), ((0 : Int), (0 : Int))))))) : Option (Bool)).bind fun j1 =>
(if j1 = true then
(M.law17_awake N).bind fun y4 =>
some y4
else
Join (J := Unit) (R := Bool) (Loop (S := Int) (X := (Unit) ⊕ (Bool)) (fun s6 =>
(if (decide (s6 < (a0.2.2.length : Int))) = true then
Join (J := Unit) (R := (Int) ⊕ ((Unit) ⊕ (Bool))) ((idx a0.2.2 s6).bind fun x8 =>
(M.law_Signature N a0 s6).bind fun y9 =>
Join (J := Unit) (R := (Unit) ⊕ ((Int) ⊕ ((Unit) ⊕ (Bool)))) (Loop (S := Int) (X := (Unit) ⊕ ((Unit) ⊕ ((Int) ⊕ ((Unit) ⊕ (Bool))))) (fun s11 =>
(if (decide (s11 < (x8.2.2.2.2.length : Int))) = true then
(idx x8.2.2.2.2 s11).bind fun x12 =>
(M.law17_wellTyped N x12 x8 (y9.2.1, (y9.2.2.1, (y9.2.2.2.1, (y9.2.2.2.2.1, (y9.2.2.2.2.2, y9.1)))))).bind fun y13 =>
(if (!y13) = true then
some (Sum.inr (Sum.inr (Sum.inr (Sum.inr (Sum.inr false)))))
else
some (Sum.inl (IntKind.i64.wrap (s11 + (1 : Int)))))
else
some (Sum.inr (Sum.inl ())))) N (0 : Int)) fun j10 =>
(M.deps_EvaluationOrder N x8).bind fun y14 =>
((if (!decide (y14.1 = (0 : Int))) = true then
some true
else
some (!decide ((y14.2.length : Int) = (x8.2.2.2.1.length : Int)))) : Option (Bool)).bind fun j15 =>
(if j15 = true then
some (Sum.inr (Sum.inr (Sum.inr false)))
else
some (Sum.inl ()))) fun j7 =>
some (Sum.inl (IntKind.i64.wrap (s6 + (1 : Int))))
else
some (Sum.inr (Sum.inl ())))) N (0 : Int)) fun j5 =>
(M.law17_awake N).bind fun y16 =>
some y16)
noncomputable def S3 (N : Nat) : Sig := { inn := ⟨[(0, .val true (.leaf rLaw))], [], [], 0⟩, out := ⟨[(0, .val false (.leaf .bool))], [], [], 0⟩, fn := fun (x : rLaw.den) => M.law17_LawWellTyped N x }
theorem W3 (N : Nat) : FnOK Tryz.prog 3 (S3 N) := fn_ok (E := ⟨tabs, [(4, S4 N), (5, S5 N), (6, S6 N), (7, S7 N), (8, S8 N), (9, S9 N)], (tabcons (W4 N) (tabcons (W5 N) (tabcons (W6 N) (tabcons (W7 N) (tabcons (W8 N) (tabcons (W9 N) tabnil)))))), mixed, false, false⟩) (N := N) (a := (.two .nil (.two (.meet ⟨[(17, .val false (.leaf .bool))], [], [], 32⟩ .nil .nil) (.join ⟨[], [], [], 32⟩ (.two .nil (.two (.loop ⟨[(3, .val false (.leaf rInt))], [], [], 48⟩ (.two .nil (.join ⟨[], [], [], 128⟩ (.two (.two .nil (.two .nil (.join ⟨[], [], [], 320⟩ (.two .nil (.two (.loop ⟨[(6, .val false (.leaf rInt))], [], [], 336⟩ .nil) .nil)) (.two .nil (.meet ⟨[(64, .val false (.leaf .bool))], [], [], 432⟩ .nil .nil))))) .nil) .nil))) .nil)) .nil)))) (sg := S3 N) (c := Tryz.f3.body.getD .skip) (rs := Tryz.f3.results.toList) Tryz.func3 (by kernel_rfl) (by kernel_rfl) rfl rfl rfl rfl (fun x => by kernel_rfl)
noncomputable def M.cmp_isNaN_int (N : Nat) (a0 : Int) : Option (Bool) :=
some (!decide (a0 = a0))
noncomputable def S110 (N : Nat) : Sig := { inn := ⟨[(0, .val false (.leaf rInt))], [], [], 0⟩, out := ⟨[(0, .val false (.leaf .bool))], [], [], 0⟩, fn := fun (x : Int) => M.cmp_isNaN_int N x }
theorem W110 (N : Nat) : FnOK Tryz.prog 110 (S110 N) := fn_ok (E := ⟨tabs, [], tabnil, mixed, false, false⟩) (N := N) (a := .nil) (sg := S110 N) (c := Tryz.f110.body.getD .skip) (rs := Tryz.f110.results.toList) Tryz.func110 (by kernel_rfl) (by kernel_rfl) rfl rfl rfl rfl (fun x => by kernel_rfl)
noncomputable def M.cmp_Less_int (N : Nat) (a0 : Int) (a1 : Int) : Option (Bool) :=
((M.cmp_isNaN_int N a0).bind fun y2 =>
(if y2 = true then
(M.cmp_isNaN_int N a1).bind fun y3 =>
(if (!y3) = true then
some true
else
some (decide (a0 < a1)))
else
some (decide (a0 < a1))) : Option (Bool)).bind fun j1 =>
some j1
noncomputable def S99 (N : Nat) : Sig := { inn := ⟨[(0, .val false (.leaf rInt)), (1, .val false (.leaf rInt))], [], [], 0⟩, out := ⟨[(0, .val false (.leaf .bool))], [], [], 0⟩, fn := fun (x : Int × Int) => M.cmp_Less_int N x.1 x.2 }
theorem W99 (N : Nat) : FnOK Tryz.prog 99 (S99 N) := fn_ok (E := ⟨tabs, [(110, S110 N)], (tabcons (W110 N) tabnil), mixed, false, false⟩) (N := N) (a := (.two .nil (.meet ⟨[(4, .val false (.leaf .bool))], [], [], 16⟩ .nil .nil))) (sg := S99 N) (c := Tryz.f99.body.getD .skip) (rs := Tryz.f99.results.toList) Tryz.func99 (by kernel_rfl) (by kernel_rfl) rfl rfl rfl rfl (fun x => by kernel_rfl)
noncomputable def M.math_bits_Len32 (N : Nat) (a0 : Int) : Option (Int) :=
((if (decide ((65536 : Int) ≤ a0)) = true then
some (shrV .u32 a0 (16 : Int), (16 : Int))
else
some (a0, (0 : Int))) : Option (Int × Int)).bind fun j1 =>
((if (decide ((256 : Int) ≤ j1.1)) = true then
some (shrV .u32 j1.1 (8 : Int), IntKind.i64.wrap (j1.2 + (8 : Int)))
else
some (j1.1, j1.2)) : Option (Int × Int)).bind fun j2 =>
(byteA (⟨#[0, 1, 2, 2, 3, 3, 3, 3, 4, 4, 4, 4, 4, 4, 4, 4, 5, 5, 5, 5, 5, 5, 5, 5, 5, 5, 5, 5, 5, 5, 5, 5, 6, 6, 6, 6, 6, 6, 6, 6, 6, 6, 6, 6, 6, 6, 6, 6, 6, 6, 6, 6, 6, 6, 6, 6, 6, 6, 6, 6, 6, 6, 6, 6, 7, 7, 7, 7, 7, 7, 7, 7, 7, 7, 7, 7, 7, 7, 7, 7, 7, 7, 7, 7, 7, 7, 7, 7, 7, 7, 7, 7, 7, 7, 7, 7, 7, 7, 7, 7, 7, 7, 7, 7, 7, 7, 7, 7, 7, 7, 7, 7, 7, 7, 7, 7, 7, 7, 7, 7, 7, 7, 7, 7, 7, 7, 7, 7, 8, 8, 8, 8, 8, 8, 8, 8, 8, 8, 8, 8, 8, 8, 8, 8, 8, 8, 8, 8, 8, 8, 8, 8, 8, 8, 8, 8, 8, 8, 8, 8, 8, 8, 8, 8, 8, 8, 8, 8, 8, 8, 8, 8, 8, 8, 8, 8, 8, 8, 8, 8, 8, 8, 8, 8, 8, 8, 8, 8, 8, 8, 8, 8, 8, 8, 8, 8, 8, 8, 8, 8, 8, 8, 8, 8, 8, 8, 8, 8, 8, 8, 8, 8, 8, 8, 8, 8, 8, 8, 8, 8, 8, 8, 8, 8, 8, 8, 8, 8, 8, 8, 8, 8, 8, 8, 8, 8, 8, 8, 8, 8, 8, 8, 8, 8, 8, 8, 8, 8, 8, 8, 8, 8, 8, 8, 8, 8]⟩ : ByteArray) (IntKind.u8.wrap j2.1)).bind fun x3 =>
some (IntKind.i64.wrap (j2.2 + (IntKind.i64.wrap x3)))
noncomputable def S102 (N : Nat) : Sig := { inn := ⟨[(0, .val false (.leaf (.int .u32)))], [], [], 0⟩, out := ⟨[(0, .val false (.leaf rInt))], [], [], 0⟩, fn := fun (x : Int) => M.math_bits_Len32 N x }
theorem W102 (N : Nat) : FnOK Tryz.prog 102 (S102 N) := fn_ok (E := ⟨tabs, [], tabnil, mixed, false, false⟩) (N := N) (a := (.two .nil (.meet ⟨[(0, .val false (.leaf (.int .u32))), (2, .val false (.leaf rInt))], [], [], 16⟩ .nil (.meet ⟨[(0, .val false (.leaf (.int .u32))), (2, .val false (.leaf rInt))], [], [], 16⟩ .nil .nil)))) (sg := S102 N) (c := Tryz.f102.body.getD .skip) (rs := Tryz.f102.results.toList) Tryz.func102 (by kernel_rfl) (by kernel_rfl) rfl rfl rfl rfl (fun x => by kernel_rfl)
noncomputable def M.math_bits_Len64 (N : Nat) (a0 : Int) : Option (Int) :=
((if (decide ((4294967296 : Int) ≤ a0)) = true then
some (shrV .u64 a0 (32 : Int), (32 : Int))
else
some (a0, (0 : Int))) : Option (Int × Int)).bind fun j1 =>
((if (decide ((65536 : Int) ≤ j1.1)) = true then
some (shrV .u64 j1.1 (16 : Int), IntKind.i64.wrap (j1.2 + (16 : Int)))
else
some (j1.1, j1.2)) : Option (Int × Int)).bind fun j2 =>
((if (decide ((256 : Int) ≤ j2.1)) = true then
some (shrV .u64 j2.1 (8 : Int), IntKind.i64.wrap (j2.2 + (8 : Int)))
else
some (j2.1, j2.2)) : Option (Int × Int)).bind fun j3 =>
(byteA (⟨#[0, 1, 2, 2, 3, 3, 3, 3, 4, 4, 4, 4, 4, 4, 4, 4, 5, 5, 5, 5, 5, 5, 5, 5, 5, 5, 5, 5, 5, 5, 5, 5, 6, 6, 6, 6, 6, 6, 6, 6, 6, 6, 6, 6, 6, 6, 6, 6, 6, 6, 6, 6, 6, 6, 6, 6, 6, 6, 6, 6, 6, 6, 6, 6, 7, 7, 7, 7, 7, 7, 7, 7, 7, 7, 7, 7, 7, 7, 7, 7, 7, 7, 7, 7, 7, 7, 7, 7, 7, 7, 7, 7, 7, 7, 7, 7, 7, 7, 7, 7, 7, 7, 7, 7, 7, 7, 7, 7, 7, 7, 7, 7, 7, 7, 7, 7, 7, 7, 7, 7, 7, 7, 7, 7, 7, 7, 7, 7, 8, 8, 8, 8, 8, 8, 8, 8, 8, 8, 8, 8, 8, 8, 8, 8, 8, 8, 8, 8, 8, 8, 8, 8, 8, 8, 8, 8, 8, 8, 8, 8, 8, 8, 8, 8, 8, 8, 8, 8, 8, 8, 8, 8, 8, 8, 8, 8, 8, 8, 8, 8, 8, 8, 8, 8, 8, 8, 8, 8, 8, 8, 8, 8, 8, 8, 8, 8, 8, 8, 8, 8, 8, 8, 8, 8, 8, 8, 8, 8, 8, 8, 8, 8, 8, 8, 8, 8, 8, 8, 8, 8, 8, 8, 8, 8, 8, 8, 8, 8, 8, 8, 8, 8, 8, 8, 8, 8, 8, 8, 8, 8, 8, 8, 8, 8, 8, 8, 8, 8, 8, 8, 8, 8, 8, 8, 8, 8]⟩ : ByteArray) (IntKind.u8.wrap j3.1)).bind fun x4 =>
some (IntKind.i64.wrap (j3.2 + (IntKind.i64.wrap x4)))
noncomputable def S103 (N : Nat) : Sig := { inn := ⟨[(0, .val false (.leaf (.int .u64)))], [], [], 0⟩, out := ⟨[(0, .val false (.leaf rInt))], [], [], 0⟩, fn := fun (x : Int) => M.math_bits_Len64 N x }
theorem W103 (N : Nat) : FnOK Tryz.prog 103 (S103 N) := fn_ok (E := ⟨tabs, [], tabnil, mixed, false, false⟩) (N := N) (a := (.two .nil (.meet ⟨[(0, .val false (.leaf (.int .u64))), (2, .val false (.leaf rInt))], [], [], 16⟩ .nil (.meet ⟨[(0, .val false (.leaf (.int .u64))), (2, .val false (.leaf rInt))], [], [], 16⟩ .nil (.meet ⟨[(0, .val false (.leaf (.int .u64))), (2, .val false (.leaf rInt))], [], [], 16⟩ .nil .nil))))) (sg := S103 N) (c := Tryz.f103.body.getD .skip) (rs := Tryz.f103.results.toList) Tryz.func103 (by kernel_rfl) (by kernel_rfl) rfl rfl rfl rfl (fun x => by kernel_rfl)
noncomputable def M.math_bits_Len (N : Nat) (a0 : Int) : Option (Int) :=
(M.math_bits_Len64 N a0).bind fun y1 =>
some y1
noncomputable def S88 (N : Nat) : Sig := { inn := ⟨[(0, .val false (.leaf (.int .u64)))], [], [], 0⟩, out := ⟨[(0, .val false (.leaf rInt))], [], [], 0⟩, fn := fun (x : Int) => M.math_bits_Len N x }
theorem W88 (N : Nat) : FnOK Tryz.prog 88 (S88 N) := fn_ok (E := ⟨tabs, [(103, S103 N)], (tabcons (W103 N) tabnil), mixed, false, false⟩) (N := N) (a := .nil) (sg := S88 N) (c := Tryz.f88.body.getD .skip) (rs := Tryz.f88.results.toList) Tryz.func88 (by kernel_rfl) (by kernel_rfl) rfl rfl rfl rfl (fun x => by kernel_rfl)
noncomputable def M.slices_nextPowerOfTwo (N : Nat) (a0 : Int) : Option (Int) :=
(M.math_bits_Len N (IntKind.u64.wrap a0)).bind fun y1 =>
(shlA .u64 (1 : Int) y1).bind fun x2 =>
some x2
noncomputable def S106 (N : Nat) : Sig := { inn := ⟨[(0, .val false (.leaf rInt))], [], [], 0⟩, out := ⟨[(0, .val false (.leaf (.int .u64)))], [], [], 0⟩, fn := fun (x : Int) => M.slices_nextPowerOfTwo N x }
theorem W106 (N : Nat) : FnOK Tryz.prog 106 (S106 N) := fn_ok (E := ⟨tabs, [(88, S88 N)], (tabcons (W88 N) tabnil), mixed, false, false⟩) (N := N) (a := .nil) (sg := S106 N) (c := Tryz.f106.body.getD .skip) (rs := Tryz.f106.results.toList) Tryz.func106 (by kernel_rfl) (by kernel_rfl) rfl rfl rfl rfl (fun x => by kernel_rfl)
noncomputable def M.slices_xorshift_Next (N : Nat) (a0 : Int) : Option (Int × Int) :=
some (bitsA .xor .u64 (bitsA .xor .u64 (bitsA .xor .u64 a0 (shlV .u64 a0 (13 : Int))) (shrV .u64 (bitsA .xor .u64 a0 (shlV .u64 a0 (13 : Int))) (7 : Int))) (shlV .u64 (bitsA .xor .u64 (bitsA .xor .u64 a0 (shlV .u64 a0 (13 : Int))) (shrV .u64 (bitsA .xor .u64 a0 (shlV .u64 a0 (13 : Int))) (7 : Int))) (17 : Int)), bitsA .xor .u64 (bitsA .xor .u64 (bitsA .xor .u64 a0 (shlV .u64 a0 (13 : Int))) (shrV .u64 (bitsA .xor .u64 a0 (shlV .u64 a0 (13 : Int))) (7 : Int))) (shlV .u64 (bitsA .xor .u64 (bitsA .xor .u64 a0 (shlV .u64 a0 (13 : Int))) (shrV .u64 (bitsA .xor .u64 a0 (shlV .u64 a0 (13 : Int))) (7 : Int))) (17 : Int)))
noncomputable def S107 (N : Nat) : Sig := { inn := ⟨[(0, .ptr 0 [] 0)], [(0, .box 167 (.leaf (.int .u64)))], [], 1⟩, out := ⟨[(0, .val false (.leaf (.int .u64)))], [(0, .box 167 (.leaf (.int .u64)))], [], 2⟩, fn := fun (x : Int) => M.slices_xorshift_Next N x }
theorem W107 (N : Nat) : FnOK Tryz.prog 107 (S107 N) := fn_ok (E := ⟨tabs, [], tabnil, mixed, false, false⟩) (N := N) (a := .nil) (sg := S107 N) (c := Tryz.f107.body.getD .skip) (rs := Tryz.f107.results.toList) Tryz.func107 (by kernel_rfl) (by kernel_rfl) rfl rfl rfl rfl (fun x => by kernel_rfl)
noncomputable def M.slices_order2Ordered_int (N : Nat) (a0 : List Int) (a1 : Int) (a2 : Int) (a3 : Int) : Option (Int × Int × Int) :=
(idx a0 a2).bind fun x1 =>
(idx a0 a1).bind fun x2 =>
(M.cmp_Less_int N x1 x2).bind fun y3 =>
(if y3 = true then
some (a2, a1, IntKind.i64.wrap (a3 + (1 : Int)))
else
some (a1, a2, a3))
noncomputable def S112 (N : Nat) : Sig := { inn := ⟨[(0, .val false (.leaf (.slice rInt))), (1, .val false (.leaf rInt)), (2, .val false (.leaf rInt)), (3, .ptr 0 [] 0)], [(0, .box 3 (.leaf rInt))], [], 1⟩, out := ⟨[(0, .val false (.leaf rInt)), (1, .val false (.leaf rInt))], [(0, .box 3 (.leaf rInt))], [], 2⟩, fn := fun (x : (List Int) × Int × Int × Int) => M.slices_order2Ordered_int N x.1 x.2.1 x.2.2.1 x.2.2.2 }
theorem W112 (N : Nat) : FnOK Tryz.prog 112 (S112 N) := fn_ok (E := ⟨tabs, [(99, S99 N)], (tabcons (W99 N) tabnil), mixed, false, false⟩) (N := N) (a := .nil) (sg := S112 N) (c := Tryz.f112.body.getD .skip) (rs := Tryz.f112.results.toList) Tryz.func112 (by kernel_rfl) (by kernel_rfl) rfl rfl rfl rfl (fun x => by kernel_rfl)
noncomputable def M.slices_medianOrdered_int (N : Nat) (a0 : List Int) (a1 : Int) (a2 : Int) (a3 : Int) (a4 : Int) : Option (Int × Int) :=
(M.slices_order2Ordered_int N a0 a1 a2 a4).bind fun y1 =>
(M.slices_order2Ordered_int N a0 y1.2.1 a3 y1.2.2).bind fun y2 =>
(M.slices_order2Ordered_int N a0 y1.1 y2.1 y2.2.2).bind fun y3 =>
some (y3.2.1, y3.2.2)
noncomputable def S109 (N : Nat) : Sig := { inn := ⟨[(0, .val false (.leaf (.slice rInt))), (1, .val false (.leaf rInt)), (2, .val false (.leaf rInt)), (3, .val false (.leaf rInt)), (4, .ptr 0 [] 0)], [(0, .box 3 (.leaf rInt))], [], 1⟩, out := ⟨[(0, .val false (.leaf rInt))], [(0, .box 3 (.leaf rInt))], [], 2⟩, fn := fun (x : (List Int) × Int × Int × Int × Int) => M.slices_medianOrdered_int N x.1 x.2.1 x.2.2.1 x.2.2.2.1 x.2.2.2.2 }
theorem W109 (N : Nat) : FnOK Tryz.prog 109 (S109 N) := fn_ok (E := ⟨tabs, [(112, S112 N)], (tabcons (W112 N) tabnil), mixed, false, false⟩) (N := N) (a := .nil) (sg := S109 N) (c := Tryz.f109.body.getD .skip) (rs := Tryz.f109.results.toList) Tryz.func109 (by kernel_rfl) (by kernel_rfl) rfl rfl rfl rfl (fun x => by kernel_rfl)
noncomputable def M.slices_medianAdjacentOrdered_int (N : Nat) (a0 : List Int) (a1 : Int) (a2 : Int) : Option (Int × Int) :=
(M.slices_medianOrdered_int N a0 (IntKind.i64.wrap (a1 - (1 : Int))) a1 (IntKind.i64.wrap (a1 + (1 : Int))) a2).bind fun y1 =>
some (y1.1, y1.2)
noncomputable def S108 (N : Nat) : Sig := { inn := ⟨[(0, .val false (.leaf (.slice rInt))), (1, .val false (.leaf rInt)), (2, .ptr 0 [] 0)], [(0, .box 3 (.leaf rInt))], [], 1⟩, out := ⟨[(0, .val false (.leaf rInt))], [(0, .box 3 (.leaf rInt))], [], 2⟩, fn := fun (x : (List Int) × Int × Int) => M.slices_medianAdjacentOrdered_int N x.1 x.2.1 x.2.2 }
theorem W108 (N : Nat) : FnOK Tryz.prog 108 (S108 N) := fn_ok (E := ⟨tabs, [(109, S109 N)], (tabcons (W109 N) tabnil), mixed, false, false⟩) (N := N) (a := .nil) (sg := S108 N) (c := Tryz.f108.body.getD .skip) (rs := Tryz.f108.results.toList) Tryz.func108 (by kernel_rfl) (by kernel_rfl) rfl rfl rfl rfl (fun x => by kernel_rfl)
noncomputable def M.slices_choosePivotOrdered_int (N : Nat) (a0 : List Int) (a1 : Int) (a2 : Int) : Option (Int × Int) :=
((if (decide ((8 : Int) ≤ (IntKind.i64.wrap (a2 - a1)))) = true then
((if (decide ((50 : Int) ≤ (IntKind.i64.wrap (a2 - a1)))) = true then
(M.slices_medianAdjacentOrdered_int N a0 (IntKind.i64.wrap (a1 + (IntKind.i64.wrap ((IntKind.i64.wrap (Int.tdiv (IntKind.i64.wrap (a2 - a1)) (4 : Int))) * (1 : Int))))) (0 : Int)).bind fun y3 =>
(M.slices_medianAdjacentOrdered_int N a0 (IntKind.i64.wrap (a1 + (IntKind.i64.wrap ((IntKind.i64.wrap (Int.tdiv (IntKind.i64.wrap (a2 - a1)) (4 : Int))) * (2 : Int))))) y3.2).bind fun y4 =>
(M.slices_medianAdjacentOrdered_int N a0 (IntKind.i64.wrap (a1 + (IntKind.i64.wrap ((IntKind.i64.wrap (Int.tdiv (IntKind.i64.wrap (a2 - a1)) (4 : Int))) * (3 : Int))))) y4.2).bind fun y5 =>
some (y3.1, y4.1, y5.1, y5.2)
else
some (IntKind.i64.wrap (a1 + (IntKind.i64.wrap ((IntKind.i64.wrap (Int.tdiv (IntKind.i64.wrap (a2 - a1)) (4 : Int))) * (1 : Int)))), IntKind.i64.wrap (a1 + (IntKind.i64.wrap ((IntKind.i64.wrap (Int.tdiv (IntKind.i64.wrap (a2 - a1)) (4 : Int))) * (2 : Int)))), IntKind.i64.wrap (a1 + (IntKind.i64.wrap ((IntKind.i64.wrap (Int.tdiv (IntKind.i64.wrap (a2 - a1)) (4 : Int))) * (3 : Int)))), (0 : Int))) : Option (Int × Int × Int × Int)).bind fun j2 =>
(M.slices_medianOrdered_int N a0 j2.1 j2.2.1 j2.2.2.1 j2.2.2.2).bind fun y6 =>
some (y6.1, y6.2)
else
some (IntKind.i64.wrap (a1 + (IntKind.i64.wrap ((IntKind.i64.wrap (Int.tdiv (IntKind.i64.wrap (a2 - a1)) (4 : Int))) * (2 : Int)))), (0 : Int))) : Option (Int × Int)).bind fun j1 =>
(if (decide (j1.2 = (0 : Int))) = true then
some (j1.1, (1 : Int))
else
(if (decide (j1.2 = (12 : Int))) = true then
some (j1.1, (2 : Int))
else
some (j1.1, (0 : Int))))
noncomputable def S96 (N : Nat) : Sig := { inn := ⟨[(0, .val false (.leaf (.slice rInt))), (1, .val false (.leaf rInt)), (2, .val false (.leaf rInt))], [], [], 0⟩, out := ⟨[(0, .val false (.leaf rInt)), (1, .val false (.leaf rInt))], [], [], 0⟩, fn := fun (x : (List Int) × Int × Int) => M.slices_choosePivotOrdered_int N x.1 x.2.1 x.2.2 }
theorem W96 (N : Nat) : FnOK Tryz.prog 96 (S96 N) := fn_ok (E := ⟨tabs, [(108, S108 N), (109, S109 N)], (tabcons (W108 N) (tabcons (W109 N) tabnil)), mixed, false, false⟩) (N := N) (a := (.two .nil (.two .nil (.two .nil (.two .nil (.two .nil (.two .nil (.meet ⟨[(11, .val false (.leaf rInt))], [(96, .box 3 (.leaf rInt))], [], 401⟩ (.two .nil (.two (.meet ⟨[(10, .val false (.leaf rInt)), (11, .val false (.leaf rInt)), (12, .val false (.leaf rInt))], [(96, .box 3 (.leaf rInt))], [], 433⟩ .nil .nil) .nil)) .nil)))))))) (sg := S96 N) (c := Tryz.f96.body.getD .skip) (rs := Tryz.f96.results.toList) Tryz.func96 (by kernel_rfl) (by kernel_rfl) rfl rfl rfl rfl (fun x => by kernel_rfl)
noncomputable def M.internal_bytealg_Cutover (N : Nat) (a0 : Int) : Option (Int) :=
some (IntKind.i64.wrap (Int.tdiv (IntKind.i64.wrap (a0 + (16 : Int))) (8 : Int)))
noncomputable def S115 (N : Nat) : Sig := { inn := ⟨[(0, .val false (.leaf rInt))], [], [], 0⟩, out := ⟨[(0, .val false (.leaf rInt))], [], [], 0⟩, fn := fun (x : Int) => M.internal_bytealg_Cutover N x }
theorem W115 (N : Nat) : FnOK Tryz.prog 115 (S115 N) := fn_ok (E := ⟨tabs, [], tabnil, mixed, false, false⟩) (N := N) (a := .nil) (sg := S115 N) (c := Tryz.f115.body.getD .skip) (rs := Tryz.f115.results.toList) Tryz.func115 (by kernel_rfl) (by kernel_rfl) rfl rfl rfl rfl (fun x => by kernel_rfl)
noncomputable def M.internal_bytealg_hashStr_string (N : Nat) (a0 : ByteArray) : Option (Int × Int) :=
(Loop (S := Int × Int) (X := Int) (fun s2 =>
(if (decide (s2.2 < (a0.size : Int))) = true then
(byteA a0 s2.2).bind fun x3 =>
some (Sum.inl (IntKind.u32.wrap ((IntKind.u32.wrap (s2.1 * (16777619 : Int))) + (IntKind.u32.wrap x3)), IntKind.i64.wrap (s2.2 + (1 : Int))))
else
some (Sum.inr s2.1))) N ((0 : Int), (0 : Int)) : Option (Int)).bind fun j1 =>
Loop (S := Int × Int × Int) (X := Int × Int) (fun s4 =>
(if (decide ((0 : Int) < s4.2.2)) = true then
((if (!decide ((bitsA .and .i64 s4.2.2 (1 : Int)) = (0 : Int))) = true then
some (IntKind.u32.wrap (s4.1 * s4.2.1))
else
some s4.1) : Option (Int)).bind fun j5 =>
some (Sum.inl (j5, IntKind.u32.wrap (s4.2.1 * s4.2.1), shrV .i64 s4.2.2 (1 : Int)))
else
some (Sum.inr (j1, s4.1)))) N ((1 : Int), (16777619 : Int), (a0.size : Int))
noncomputable def S118 (N : Nat) : Sig := { inn := ⟨[(0, .val false (.leaf .str))], [], [], 0⟩, out := ⟨[(0, .val false (.leaf (.int .u32))), (1, .val false (.leaf (.int .u32)))], [], [], 0⟩, fn := fun (x : ByteArray) => M.internal_bytealg_hashStr_string N x }
theorem W118 (N : Nat) : FnOK Tryz.prog 118 (S118 N) := fn_ok (E := ⟨tabs, [], tabnil, mixed, false, false⟩) (N := N) (a := (.two .nil (.two .nil (.meet ⟨[(4, .val false (.leaf (.int .u32)))], [], [], 48⟩ (.two .nil (.two (.loop ⟨[(4, .val false (.leaf (.int .u32))), (5, .val false (.leaf rInt))], [], [], 64⟩ .nil) .nil)) (.two .nil (.two (.two .nil (.two (.loop ⟨[(6, .val false (.leaf (.int .u32))), (7, .val false (.leaf (.int .u32))), (8, .val false (.leaf rInt))], [], [], 128⟩ (.two .nil (.two (.two (.meet ⟨[(6, .val false (.leaf (.int .u32)))], [], [], 160⟩ .nil .nil) .nil) .nil))) .nil)) .nil)))))) (sg := S118 N) (c := Tryz.f118.body.getD .skip) (rs := Tryz.f118.results.toList) Tryz.func118 (by kernel_rfl) (by kernel_rfl) rfl rfl rfl rfl (fun x => by kernel_rfl)
end Go.Proofs.YtjeeligfdpociabGreat
