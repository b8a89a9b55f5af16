/- Written by rx.py: models and walks. -/
import Derived.Test.YtjeeligfdpociaaGreatJump
import Derived.Test.YtjeeligfdpociaaGreatProg
import Derived.Test.YtjeeligfdpociaaGreatShelf
import Derived.Test.YtjeeligfdpociaaGreatLays
namespace Go.Proofs.YtjeeligfdpociaaGreat
open Go Go.RowKit
set_option maxRecDepth 100000
set_option linter.unusedVariables false

@[reducible] def rType : Row := .pair rInt rInt
@[reducible] def rField : Row := .pair .str rType
@[reducible] def rRule : Row := .pair .str (.pair rInt (.pair rInt (.pair rInt (.pair rType (.pair (.slice rType) (.pair (.slice rType) .str))))))
@[reducible] def rScope : Row := .pair .str (.pair rInt (.pair (.slice rField) (.pair (.slice rField) (.slice rRule))))
@[reducible] def rEnum : Row := .pair .str (.slice .str)
@[reducible] def rRow : Row := .pair rType (.pair rInt rType)
@[reducible] def rTable : Row := .pair .str (.pair rType (.pair rType (.slice rRow)))
@[reducible] def rLaw : Row := .pair (.slice rEnum) (.pair (.slice rTable) (.slice rScope))
@[reducible] def rLawError : Row := .pair rInt (.pair rInt rType)
@[reducible] def rSignature : Row := .pair (.slice rEnum) (.pair (.slice rTable) (.pair (.slice rType) (.pair (.slice rType) (.pair (.slice rType) .bool))))
@[reducible] def rSymbolNames : Row := .pair (.slice rEnum) (.pair (.slice .str) (.pair (.slice .str) (.pair (.slice .str) (.slice .str))))
theorem Ti3 : TI Tryz.prog 3 rInt := TI.mk (k := 1) (by kernel_rfl) rfl
theorem Ti4 : TI Tryz.prog 4 .bool := TI.mk (k := 1) (by kernel_rfl) rfl
theorem Ti9 : TI Tryz.prog 9 .str := TI.mk (k := 1) (by kernel_rfl) rfl
theorem Ti22 : TI Tryz.prog 22 (.slice rEnum) := TI.mk (k := 1) (by kernel_rfl) rfl
theorem Ti23 : TI Tryz.prog 23 (.slice rTable) := TI.mk (k := 1) (by kernel_rfl) rfl
theorem Ti24 : TI Tryz.prog 24 (.slice rScope) := TI.mk (k := 1) (by kernel_rfl) rfl
theorem Ti26 : TI Tryz.prog 26 rLaw := TI.mk (k := 3) (by kernel_rfl) rfl
theorem Ti29 : TI Tryz.prog 29 rInt := TI.mk (k := 1) (by kernel_rfl) rfl
theorem Ti31 : TI Tryz.prog 31 rLawError := TI.mk (k := 4) (by kernel_rfl) rfl
theorem Ti38 : TI Tryz.prog 38 (.slice rField) := TI.mk (k := 1) (by kernel_rfl) rfl
theorem Ti39 : TI Tryz.prog 39 (.slice rRule) := TI.mk (k := 1) (by kernel_rfl) rfl
theorem Ti41 : TI Tryz.prog 41 rScope := TI.mk (k := 5) (by kernel_rfl) rfl
theorem Ti43 : TI Tryz.prog 43 rType := TI.mk (k := 2) (by kernel_rfl) rfl
theorem Ti45 : TI Tryz.prog 45 rField := TI.mk (k := 3) (by kernel_rfl) rfl
theorem Ti48 : TI Tryz.prog 48 (.slice rType) := TI.mk (k := 1) (by kernel_rfl) rfl
theorem Ti50 : TI Tryz.prog 50 rSignature := TI.mk (k := 6) (by kernel_rfl) rfl
theorem Ti53 : TI Tryz.prog 53 (.slice .str) := TI.mk (k := 1) (by kernel_rfl) rfl
theorem Ti55 : TI Tryz.prog 55 rSymbolNames := TI.mk (k := 5) (by kernel_rfl) rfl
theorem Ti60 : TI Tryz.prog 60 rType := TI.mk (k := 2) (by kernel_rfl) rfl
theorem Ti61 : TI Tryz.prog 61 (.slice rType) := TI.mk (k := 1) (by kernel_rfl) rfl
theorem Ti63 : TI Tryz.prog 63 rRule := TI.mk (k := 9) (by kernel_rfl) rfl
theorem Ti65 : TI Tryz.prog 65 rType := TI.mk (k := 2) (by kernel_rfl) rfl
theorem Ti68 : TI Tryz.prog 68 rEnum := TI.mk (k := 2) (by kernel_rfl) rfl
theorem Ti69 : TI Tryz.prog 69 (.slice rRow) := TI.mk (k := 1) (by kernel_rfl) rfl
theorem Ti71 : TI Tryz.prog 71 rTable := TI.mk (k := 6) (by kernel_rfl) rfl
theorem Ti108 : TI Tryz.prog 108 (.slice rInt) := TI.mk (k := 1) (by kernel_rfl) rfl
theorem Ti112 : TI Tryz.prog 112 rRow := TI.mk (k := 5) (by kernel_rfl) rfl
theorem Ti210 : TI Tryz.prog 210 (.int .u64) := TI.mk (k := 1) (by kernel_rfl) rfl
theorem Eq3 : EqOK Tryz.prog 3 rInt 1 := eqT_int Tryz.underlying3
theorem Eq43 : EqOK Tryz.prog 43 rType 2 := eqT_struct Tryz.underlying43 (by kernel_rfl) (eqF_cons rfl rfl Tryz.underlying3 (by simp [aggD]) Ti3 Eq3 (eqF_last rfl rfl Tryz.underlying3 (by simp [aggD]) Ti3 Eq3))
theorem Eq29 : EqOK Tryz.prog 29 rInt 1 := eqT_int Tryz.underlying29
theorem Eq31 : EqOK Tryz.prog 31 rLawError 2 := eqT_struct Tryz.underlying31 (by kernel_rfl) (eqF_cons rfl rfl Tryz.underlying29 (by simp [aggD]) Ti29 Eq29 (eqF_cons rfl rfl Tryz.underlying3 (by simp [aggD]) Ti3 Eq3 (eqF_cons rfl rfl Tryz.underlying3 (by simp [aggD]) Ti3 Eq3 (eqF_last rfl rfl Tryz.underlying3 (by simp [aggD]) Ti3 Eq3))))
theorem Eq60 : EqOK Tryz.prog 60 rType 2 := eqT_struct Tryz.underlying60 (by kernel_rfl) (eqF_cons rfl rfl Tryz.underlying3 (by simp [aggD]) Ti3 Eq3 (eqF_last rfl rfl Tryz.underlying3 (by simp [aggD]) Ti3 Eq3))
theorem Eq3_2 : EqOK Tryz.prog 3 rInt 2 := Eq3.lift 1
theorem Eq112 : EqOK Tryz.prog 112 rRow 3 := eqT_struct Tryz.underlying112 (by kernel_rfl) (eqF_cons rfl rfl Tryz.underlying60 (by intro h; cases h) Ti60 Eq60 (eqF_cons rfl rfl Tryz.underlying3 (by simp [aggD]) Ti3 Eq3_2 (eqF_cons rfl rfl Tryz.underlying3 (by simp [aggD]) Ti3 Eq3_2 (eqF_last rfl rfl Tryz.underlying3 (by simp [aggD]) Ti3 Eq3_2))))
theorem Eq9 : EqOK Tryz.prog 9 .str 1 := eqT_str Tryz.underlying9
theorem Eq9_2 : EqOK Tryz.prog 9 .str 2 := Eq9.lift 1
theorem Eq45 : EqOK Tryz.prog 45 rField 3 := eqT_struct Tryz.underlying45 (by kernel_rfl) (eqF_cons rfl rfl Tryz.underlying9 (by simp [aggD]) Ti9 Eq9_2 (eqF_last rfl rfl Tryz.underlying43 (by intro h; cases h) Ti43 Eq43))
theorem Eq65 : EqOK Tryz.prog 65 rType 2 := eqT_struct Tryz.underlying65 (by kernel_rfl) (eqF_cons rfl rfl Tryz.underlying3 (by simp [aggD]) Ti3 Eq3 (eqF_last rfl rfl Tryz.underlying3 (by simp [aggD]) Ti3 Eq3))
theorem tu : ∀ p ∈ ([(3, .int .i64), (4, .bool), (5, .int .u8), (9, .str), (22, .slice 68), (23, .slice 71), (24, .slice 41), (26, .struct [(22, 0), (23, 1), (24, 2)]), (29, .int .i64), (31, .struct [(29, 0), (3, 1), (3, 2), (3, 3)]), (38, .slice 45), (39, .slice 63), (41, .struct [(9, 0), (3, 1), (38, 2), (38, 3), (39, 4)]), (43, .struct [(3, 0), (3, 1)]), (45, .struct [(9, 0), (43, 1)]), (48, .slice 43), (50, .struct [(22, 0), (23, 1), (48, 2), (48, 3), (48, 4), (4, 5)]), (53, .slice 9), (55, .struct [(22, 0), (53, 1), (53, 2), (53, 3), (53, 4)]), (60, .struct [(3, 0), (3, 1)]), (61, .slice 65), (63, .struct [(9, 0), (3, 1), (3, 2), (3, 3), (60, 4), (61, 6), (61, 7), (9, 8)]), (65, .struct [(3, 0), (3, 1)]), (68, .struct [(9, 0), (53, 1)]), (69, .slice 112), (71, .struct [(9, 0), (43, 1), (43, 3), (69, 5)]), (72, .other), (76, .other), (93, .other), (95, .other), (97, .other), (108, .slice 3), (112, .struct [(60, 0), (3, 2), (3, 3), (3, 4)]), (117, .other), (121, .other), (131, .other), (135, .other), (137, .other), (157, .slice 108), (168, .slice 4), (192, .int .u64), (205, .int .u32), (207, .int .u64), (210, .int .u64), (214, .ptr 3), (216, .ptr 210)] : List (Nat × TyK)), TyKOK Tryz.prog p.1 p.2 := by
  simp only [List.forall_mem_cons]
  exact ⟨Tryz.underlying3, Tryz.underlying4, Tryz.underlying5, Tryz.underlying9, Tryz.underlying22, Tryz.underlying23, Tryz.underlying24, ⟨_, Tryz.underlying26, rfl⟩, Tryz.underlying29, ⟨_, Tryz.underlying31, rfl⟩, Tryz.underlying38, Tryz.underlying39, ⟨_, Tryz.underlying41, rfl⟩, ⟨_, Tryz.underlying43, rfl⟩, ⟨_, Tryz.underlying45, rfl⟩, Tryz.underlying48, ⟨_, Tryz.underlying50, rfl⟩, Tryz.underlying53, ⟨_, Tryz.underlying55, rfl⟩, ⟨_, Tryz.underlying60, rfl⟩, Tryz.underlying61, ⟨_, Tryz.underlying63, rfl⟩, ⟨_, Tryz.underlying65, rfl⟩, ⟨_, Tryz.underlying68, rfl⟩, Tryz.underlying69, ⟨_, Tryz.underlying71, rfl⟩, ⟨_, Tryz.underlying72, rfl⟩, ⟨_, Tryz.underlying76, rfl⟩, ⟨_, Tryz.underlying93, rfl⟩, ⟨_, Tryz.underlying95, rfl⟩, ⟨_, Tryz.underlying97, rfl⟩, Tryz.underlying108, ⟨_, Tryz.underlying112, rfl⟩, ⟨_, Tryz.underlying117, rfl⟩, ⟨_, Tryz.underlying121, rfl⟩, ⟨_, Tryz.underlying131, rfl⟩, ⟨_, Tryz.underlying135, rfl⟩, ⟨_, Tryz.underlying137, rfl⟩, Tryz.underlying157, Tryz.underlying168, Tryz.underlying192, Tryz.underlying205, Tryz.underlying207, Tryz.underlying210, Tryz.underlying214, Tryz.underlying216,  fun _ h => absurd h (by simp)⟩
theorem tr : ∀ p ∈ ([(3, rInt), (4, .bool), (9, .str), (22, (.slice rEnum)), (23, (.slice rTable)), (24, (.slice rScope)), (26, rLaw), (29, rInt), (31, rLawError), (38, (.slice rField)), (39, (.slice rRule)), (41, rScope), (43, rType), (45, rField), (48, (.slice rType)), (50, rSignature), (53, (.slice .str)), (55, rSymbolNames), (60, rType), (61, (.slice rType)), (63, rRule), (65, rType), (68, rEnum), (69, (.slice rRow)), (71, rTable), (108, (.slice rInt)), (112, rRow), (210, (.int .u64))] : List (Nat × Row)), TI Tryz.prog p.1 p.2 := by
  simp only [List.forall_mem_cons]
  exact ⟨Ti3, Ti4, Ti9, Ti22, Ti23, Ti24, Ti26, Ti29, Ti31, Ti38, Ti39, Ti41, Ti43, Ti45, Ti48, Ti50, Ti53, Ti55, Ti60, Ti61, Ti63, Ti65, Ti68, Ti69, Ti71, Ti108, Ti112, Ti210,  fun _ h => absurd h (by simp)⟩
theorem te : ∀ p ∈ ([(31, rLawError), (43, rType), (45, rField), (60, rType), (65, rType), (112, rRow)] : List (Nat × Row)), ∃ K d, EqOK Tryz.prog p.1 p.2 K ∧ d + K = 10000 ∧ Tryz.prog.eqGuardType Tryz.prog.depth p.1 = false ∧ (Tryz.prog.underlying p.1).any aggD = true := by
  simp only [List.forall_mem_cons]
  exact ⟨⟨2, 9998, Eq31, rfl, by kernel_rfl, by kernel_rfl⟩, ⟨2, 9998, Eq43, rfl, by kernel_rfl, by kernel_rfl⟩, ⟨3, 9997, Eq45, rfl, by kernel_rfl, by kernel_rfl⟩, ⟨2, 9998, Eq60, rfl, by kernel_rfl, by kernel_rfl⟩, ⟨2, 9998, Eq65, rfl, by kernel_rfl, by kernel_rfl⟩, ⟨3, 9997, Eq112, rfl, by kernel_rfl, by kernel_rfl⟩,  fun _ h => absurd h (by simp)⟩
def tabs : Tabs Tryz.prog := ⟨_, _, _, [], forall_find tu, forall_find tr, forall_find te, fun _ _ _ h => (by cases h), [], fun _ h => absurd h (by simp)⟩
theorem mixed : Tryz.prog.follows .mixedOrders = true := by kernel_rfl
noncomputable def M.same_smallScope (N : Nat) (a0 : rScope.den) : Option (Bool) :=
((if (decide ((80 : Int) < (a0.1.size : Int))) = true then
some true
else
(if (decide ((14 : Int) < (a0.2.2.1.length : Int))) = true then
some true
else
(if (decide ((14 : Int) < (a0.2.2.2.1.length : Int))) = true then
some true
else
some (decide ((60 : Int) < (a0.2.2.2.2.length : Int)))))) : Option (Bool)).bind fun j1 =>
(if j1 = true then
some false
else
Join (J := Unit) (R := Bool) (Loop (S := Int) (X := (Unit) ⊕ (Bool)) (fun s3 =>
(if (decide (s3 < (a0.2.2.1.length : Int))) = true then
(idx a0.2.2.1 s3).bind fun x4 =>
(if (decide ((80 : Int) < (x4.1.size : Int))) = true then
some (Sum.inr (Sum.inr false))
else
some (Sum.inl (IntKind.i64.wrap (s3 + (1 : Int)))))
else
some (Sum.inr (Sum.inl ())))) N (0 : Int)) fun j2 =>
Join (J := Unit) (R := Bool) (Loop (S := Int) (X := (Unit) ⊕ (Bool)) (fun s6 =>
(if (decide (s6 < (a0.2.2.2.1.length : Int))) = true then
(idx a0.2.2.2.1 s6).bind fun x7 =>
(if (decide ((80 : Int) < (x7.1.size : Int))) = true then
some (Sum.inr (Sum.inr false))
else
some (Sum.inl (IntKind.i64.wrap (s6 + (1 : Int)))))
else
some (Sum.inr (Sum.inl ())))) N (0 : Int)) fun j5 =>
Loop (S := Int) (X := Bool) (fun s8 =>
(if (decide (s8 < (a0.2.2.2.2.length : Int))) = true then
(idx a0.2.2.2.2 s8).bind fun x9 =>
((if (decide ((80 : Int) < (x9.1.size : Int))) = true then
some true
else
(if (decide ((80 : Int) < (x9.2.2.2.2.2.2.2.size : Int))) = true then
some true
else
(if (decide ((50 : Int) < (x9.2.2.2.2.2.1.length : Int))) = true then
some true
else
some (decide ((50 : Int) < (x9.2.2.2.2.2.2.1.length : Int)))))) : Option (Bool)).bind fun j10 =>
(if j10 = true then
some (Sum.inr false)
else
some (Sum.inl (IntKind.i64.wrap (s8 + (1 : Int)))))
else
some (Sum.inr true))) N (0 : Int))
noncomputable def S25 (N : Nat) : Sig := { inn := ⟨[(0, .val true (.leaf rScope))], [], [], 0⟩, out := ⟨[(0, .val false (.leaf .bool))], [], [], 0⟩, fn := fun (x : rScope.den) => M.same_smallScope N x }
theorem W25 (N : Nat) : FnOK Tryz.prog 25 (S25 N) := fn_ok (E := ⟨tabs, [], tabnil, mixed, false, false⟩) (N := N) (a := (.two .nil (.two (.meet ⟨[(28, .val false (.leaf .bool))], [], [], 32⟩ .nil .nil) (.join ⟨[], [], [], 32⟩ (.two .nil (.two (.loop ⟨[(3, .val false (.leaf rInt))], [], [], 48⟩ .nil) .nil)) (.join ⟨[], [], [], 32⟩ (.two .nil (.two (.loop ⟨[(4, .val false (.leaf rInt))], [], [], 48⟩ .nil) .nil)) (.two (.two .nil (.two (.loop ⟨[(5, .val false (.leaf rInt))], [], [], 48⟩ (.two .nil (.two (.two (.two .nil (.meet ⟨[(92, .val false (.leaf .bool))], [], [], 240⟩ .nil .nil)) .nil) .nil))) .nil)) .nil)))))) (sg := S25 N) (c := Tryz.f25.body.getD .skip) (rs := Tryz.f25.results.toList) Tryz.func25 (by kernel_rfl) (by kernel_rfl) rfl rfl rfl rfl (fun x => by kernel_rfl)
noncomputable def M.same_SmallLaw (N : Nat) (a0 : rLaw.den) : Option (Bool) :=
((if (decide ((9 : Int) < (a0.1.length : Int))) = true then
some true
else
(if (decide ((9 : Int) < (a0.2.1.length : Int))) = true then
some true
else
some (decide ((5 : Int) < (a0.2.2.length : Int))))) : Option (Bool)).bind fun j1 =>
(if j1 = true then
some false
else
Join (J := Unit) (R := Bool) (Loop (S := Int) (X := (Unit) ⊕ (Bool)) (fun s3 =>
(if (decide (s3 < (a0.1.length : Int))) = true then
Join (J := Unit) (R := (Int) ⊕ ((Unit) ⊕ (Bool))) (((idx a0.1 s3).bind fun x6 =>
(if (decide ((80 : Int) < (x6.1.size : Int))) = true then
some true
else
(idx a0.1 s3).bind fun x7 =>
some (decide ((20 : Int) < (x7.2.length : Int)))) : Option (Bool)).bind fun j5 =>
(if j5 = true then
some (Sum.inr (Sum.inr (Sum.inr false)))
else
Loop (S := Int) (X := (Unit) ⊕ ((Int) ⊕ ((Unit) ⊕ (Bool)))) (fun s8 =>
(idx a0.1 s3).bind fun x9 =>
(if (decide (s8 < (x9.2.length : Int))) = true then
(idx a0.1 s3).bind fun x10 =>
(idx x10.2 s8).bind fun x11 =>
(if (decide ((80 : Int) < (x11.size : Int))) = true then
some (Sum.inr (Sum.inr (Sum.inr (Sum.inr false))))
else
some (Sum.inl (IntKind.i64.wrap (s8 + (1 : Int)))))
else
some (Sum.inr (Sum.inl ())))) N (0 : Int))) fun j4 =>
some (Sum.inl (IntKind.i64.wrap (s3 + (1 : Int))))
else
some (Sum.inr (Sum.inl ())))) N (0 : Int)) fun j2 =>
Join (J := Unit) (R := Bool) (Loop (S := Int × Int) (X := (Unit) ⊕ (Bool)) (fun s13 =>
(if (decide (s13.2 < (a0.2.1.length : Int))) = true then
(idx a0.2.1 s13.2).bind fun x14 =>
((idx a0.2.1 s13.2).bind fun x16 =>
(if (decide ((80 : Int) < (x16.1.size : Int))) = true then
some true
else
some (decide ((150 : Int) < (IntKind.i64.wrap (s13.1 + (x14.2.2.2.length : Int)))))) : Option (Bool)).bind fun j15 =>
(if j15 = true then
some (Sum.inr (Sum.inr false))
else
some (Sum.inl (IntKind.i64.wrap (s13.1 + (x14.2.2.2.length : Int)), IntKind.i64.wrap (s13.2 + (1 : Int)))))
else
some (Sum.inr (Sum.inl ())))) N ((0 : Int), (0 : Int))) fun j12 =>
Loop (S := Int × Int) (X := Bool) (fun s17 =>
(if (decide (s17.2 < (a0.2.2.length : Int))) = true then
(idx a0.2.2 s17.2).bind fun x18 =>
((if (decide ((60 : Int) < (IntKind.i64.wrap (s17.1 + (x18.2.2.2.2.length : Int))))) = true then
some true
else
(idx a0.2.2 s17.2).bind fun x20 =>
(M.same_smallScope N x20).bind fun y21 =>
some (!y21)) : Option (Bool)).bind fun j19 =>
(if j19 = true then
some (Sum.inr false)
else
some (Sum.inl (IntKind.i64.wrap (s17.1 + (x18.2.2.2.2.length : Int)), IntKind.i64.wrap (s17.2 + (1 : Int)))))
else
some (Sum.inr true))) N ((0 : Int), (0 : Int)))
noncomputable def S9 (N : Nat) : Sig := { inn := ⟨[(0, .val true (.leaf rLaw))], [], [], 0⟩, out := ⟨[(0, .val false (.leaf .bool))], [], [], 0⟩, fn := fun (x : rLaw.den) => M.same_SmallLaw N x }
theorem W9 (N : Nat) : FnOK Tryz.prog 9 (S9 N) := fn_ok (E := ⟨tabs, [(25, S25 N)], (tabcons (W25 N) tabnil), mixed, false, false⟩) (N := N) (a := (.two .nil (.two (.meet ⟨[(24, .val false (.leaf .bool))], [], [], 32⟩ .nil .nil) (.two .nil (.two .nil (.join ⟨[], [], [], 64⟩ (.two .nil (.two (.loop ⟨[(5, .val false (.leaf rInt))], [], [], 80⟩ (.two .nil (.join ⟨[], [], [], 160⟩ (.two (.two (.meet ⟨[(49, .val false (.leaf .bool))], [], [], 160⟩ .nil .nil) (.two .nil (.two (.loop ⟨[(6, .val false (.leaf rInt))], [], [], 176⟩ .nil) .nil))) .nil) .nil))) .nil)) (.join ⟨[], [], [], 64⟩ (.two .nil (.two (.loop ⟨[(3, .val false (.leaf rInt)), (7, .val false (.leaf rInt))], [], [], 80⟩ (.two .nil (.two (.two (.two .nil (.meet ⟨[(99, .val false (.leaf .bool))], [], [], 320⟩ .nil .nil)) .nil) .nil))) .nil)) (.two (.two .nil (.two (.loop ⟨[(4, .val false (.leaf rInt)), (8, .val false (.leaf rInt))], [], [], 80⟩ (.two .nil (.two (.two (.two .nil (.meet ⟨[(126, .val false (.leaf .bool))], [], [], 320⟩ .nil .nil)) .nil) .nil))) .nil)) .nil)))))))) (sg := S9 N) (c := Tryz.f9.body.getD .skip) (rs := Tryz.f9.results.toList) Tryz.func9 (by kernel_rfl) (by kernel_rfl) rfl rfl rfl rfl (fun x => by kernel_rfl)
noncomputable def M.lexer_isLower (N : Nat) (a0 : Int) : Option (Bool) :=
((if (decide ((97 : Int) ≤ a0)) = true then
some (decide (a0 ≤ (122 : Int)))
else
some false) : Option (Bool)).bind fun j1 =>
some j1
noncomputable def S93 (N : Nat) : Sig := { inn := ⟨[(0, .val false (.leaf (.int .u8)))], [], [], 0⟩, out := ⟨[(0, .val false (.leaf .bool))], [], [], 0⟩, fn := fun (x : Int) => M.lexer_isLower N x }
theorem W93 (N : Nat) : FnOK Tryz.prog 93 (S93 N) := fn_ok (E := ⟨tabs, [], tabnil, mixed, false, false⟩) (N := N) (a := (.two .nil (.meet ⟨[(2, .val false (.leaf .bool))], [], [], 16⟩ .nil .nil))) (sg := S93 N) (c := Tryz.f93.body.getD .skip) (rs := Tryz.f93.results.toList) Tryz.func93 (by kernel_rfl) (by kernel_rfl) rfl rfl rfl rfl (fun x => by kernel_rfl)
noncomputable def M.lexer_isDigit (N : Nat) (a0 : Int) : Option (Bool) :=
((if (decide ((48 : Int) ≤ a0)) = true then
some (decide (a0 ≤ (57 : Int)))
else
some false) : Option (Bool)).bind fun j1 =>
some j1
noncomputable def S123 (N : Nat) : Sig := { inn := ⟨[(0, .val false (.leaf (.int .u8)))], [], [], 0⟩, out := ⟨[(0, .val false (.leaf .bool))], [], [], 0⟩, fn := fun (x : Int) => M.lexer_isDigit N x }
theorem W123 (N : Nat) : FnOK Tryz.prog 123 (S123 N) := fn_ok (E := ⟨tabs, [], tabnil, mixed, false, false⟩) (N := N) (a := (.two .nil (.meet ⟨[(2, .val false (.leaf .bool))], [], [], 16⟩ .nil .nil))) (sg := S123 N) (c := Tryz.f123.body.getD .skip) (rs := Tryz.f123.results.toList) Tryz.func123 (by kernel_rfl) (by kernel_rfl) rfl rfl rfl rfl (fun x => by kernel_rfl)
noncomputable def M.lexer_nameLength (N : Nat) (a0 : ByteArray) : Option (Int) :=
Loop (S := Int) (X := Int) (fun s1 =>
((if (decide (s1 < (a0.size : Int))) = true then
(byteA a0 s1).bind fun x3 =>
(M.lexer_isLower N x3).bind fun y4 =>
(if y4 = true then
some true
else
(byteA a0 s1).bind fun x5 =>
(M.lexer_isDigit N x5).bind fun y6 =>
(if y6 = true then
some true
else
(byteA a0 s1).bind fun x7 =>
some (decide (x7 = (95 : Int)))))
else
some false) : Option (Bool)).bind fun j2 =>
(if j2 = true then
some (Sum.inl (IntKind.i64.wrap (s1 + (1 : Int))))
else
some (Sum.inr s1))) N (0 : Int)
noncomputable def S94 (N : Nat) : Sig := { inn := ⟨[(0, .val false (.leaf .str))], [], [], 0⟩, out := ⟨[(0, .val false (.leaf rInt))], [], [], 0⟩, fn := fun (x : ByteArray) => M.lexer_nameLength N x }
theorem W94 (N : Nat) : FnOK Tryz.prog 94 (S94 N) := fn_ok (E := ⟨tabs, [(93, S93 N), (123, S123 N)], (tabcons (W93 N) (tabcons (W123 N) tabnil)), mixed, false, false⟩) (N := N) (a := (.two .nil (.two .nil (.two (.two (.loop ⟨[(3, .val false (.leaf rInt))], [], [], 32⟩ (.two (.meet ⟨[(25, .val false (.leaf .bool))], [], [], 32⟩ .nil .nil) .nil)) .nil) .nil)))) (sg := S94 N) (c := Tryz.f94.body.getD .skip) (rs := Tryz.f94.results.toList) Tryz.func94 (by kernel_rfl) (by kernel_rfl) rfl rfl rfl rfl (fun x => by kernel_rfl)
noncomputable def M.lexer_reserved (N : Nat) (a0 : ByteArray) : Option (Bool) :=
((if (decide (a0 = (⟨#[105, 102]⟩ : ByteArray))) = true then
some (decide (a0 = (⟨#[105, 102]⟩ : ByteArray)))
else
(if (decide (a0 = (⟨#[116, 104, 101, 110]⟩ : ByteArray))) = true then
some (decide (a0 = (⟨#[116, 104, 101, 110]⟩ : ByteArray)))
else
(if (decide (a0 = (⟨#[101, 108, 115, 101]⟩ : ByteArray))) = true then
some (decide (a0 = (⟨#[101, 108, 115, 101]⟩ : ByteArray)))
else
(if (decide (a0 = (⟨#[111, 114]⟩ : ByteArray))) = true then
some (decide (a0 = (⟨#[111, 114]⟩ : ByteArray)))
else
(if (decide (a0 = (⟨#[97, 110, 100]⟩ : ByteArray))) = true then
some (decide (a0 = (⟨#[97, 110, 100]⟩ : ByteArray)))
else
(if (decide (a0 = (⟨#[110, 111, 116]⟩ : ByteArray))) = true then
some (decide (a0 = (⟨#[110, 111, 116]⟩ : ByteArray)))
else
(if (decide (a0 = (⟨#[116, 114, 117, 101]⟩ : ByteArray))) = true then
some (decide (a0 = (⟨#[116, 114, 117, 101]⟩ : ByteArray)))
else
(if (decide (a0 = (⟨#[102, 97, 108, 115, 101]⟩ : ByteArray))) = true then
some (decide (a0 = (⟨#[102, 97, 108, 115, 101]⟩ : ByteArray)))
else
(if (decide (a0 = (⟨#[116, 111, 100, 97, 121]⟩ : ByteArray))) = true then
some (decide (a0 = (⟨#[116, 111, 100, 97, 121]⟩ : ByteArray)))
else
(if (decide (a0 = (⟨#[115, 104, 97, 114, 101]⟩ : ByteArray))) = true then
some (decide (a0 = (⟨#[115, 104, 97, 114, 101]⟩ : ByteArray)))
else
(if (decide (a0 = (⟨#[100, 105, 118]⟩ : ByteArray))) = true then
some (decide (a0 = (⟨#[100, 105, 118]⟩ : ByteArray)))
else
(if (decide (a0 = (⟨#[114, 111, 117, 110, 100]⟩ : ByteArray))) = true then
some (decide (a0 = (⟨#[114, 111, 117, 110, 100]⟩ : ByteArray)))
else
(if (decide (a0 = (⟨#[109, 105, 110]⟩ : ByteArray))) = true then
some (decide (a0 = (⟨#[109, 105, 110]⟩ : ByteArray)))
else
(if (decide (a0 = (⟨#[109, 97, 120]⟩ : ByteArray))) = true then
some (decide (a0 = (⟨#[109, 97, 120]⟩ : ByteArray)))
else
(if (decide (a0 = (⟨#[112, 108, 117, 115]⟩ : ByteArray))) = true then
some (decide (a0 = (⟨#[112, 108, 117, 115]⟩ : ByteArray)))
else
(if (decide (a0 = (⟨#[109, 111, 110, 116, 104, 115]⟩ : ByteArray))) = true then
some (decide (a0 = (⟨#[109, 111, 110, 116, 104, 115]⟩ : ByteArray)))
else
(if (decide (a0 = (⟨#[100, 97, 121, 115]⟩ : ByteArray))) = true then
some (decide (a0 = (⟨#[100, 97, 121, 115]⟩ : ByteArray)))
else
(if (decide (a0 = (⟨#[121, 101, 97, 114, 115]⟩ : ByteArray))) = true then
some (decide (a0 = (⟨#[121, 101, 97, 114, 115]⟩ : ByteArray)))
else
(if (decide (a0 = (⟨#[121, 101, 97, 114]⟩ : ByteArray))) = true then
some (decide (a0 = (⟨#[121, 101, 97, 114]⟩ : ByteArray)))
else
(if (decide (a0 = (⟨#[109, 111, 110, 116, 104]⟩ : ByteArray))) = true then
some (decide (a0 = (⟨#[109, 111, 110, 116, 104]⟩ : ByteArray)))
else
(if (decide (a0 = (⟨#[116, 97, 98]⟩ : ByteArray))) = true then
some (decide (a0 = (⟨#[116, 97, 98]⟩ : ByteArray)))
else
(if (decide (a0 = (⟨#[98, 97, 110, 100]⟩ : ByteArray))) = true then
some (decide (a0 = (⟨#[98, 97, 110, 100]⟩ : ByteArray)))
else
(if (decide (a0 = (⟨#[99, 111, 117, 110, 116]⟩ : ByteArray))) = true then
some (decide (a0 = (⟨#[99, 111, 117, 110, 116]⟩ : ByteArray)))
else
(if (decide (a0 = (⟨#[115, 117, 109]⟩ : ByteArray))) = true then
some (decide (a0 = (⟨#[115, 117, 109]⟩ : ByteArray)))
else
(if (decide (a0 = (⟨#[97, 108, 108]⟩ : ByteArray))) = true then
some (decide (a0 = (⟨#[97, 108, 108]⟩ : ByteArray)))
else
(if (decide (a0 = (⟨#[97, 110, 121]⟩ : ByteArray))) = true then
some (decide (a0 = (⟨#[97, 110, 121]⟩ : ByteArray)))
else
(if (decide (a0 = (⟨#[109, 111, 115, 116]⟩ : ByteArray))) = true then
some (decide (a0 = (⟨#[109, 111, 115, 116]⟩ : ByteArray)))
else
(if (decide (a0 = (⟨#[101, 110, 117, 109]⟩ : ByteArray))) = true then
some (decide (a0 = (⟨#[101, 110, 117, 109]⟩ : ByteArray)))
else
(if (decide (a0 = (⟨#[116, 97, 98, 108, 101]⟩ : ByteArray))) = true then
some (decide (a0 = (⟨#[116, 97, 98, 108, 101]⟩ : ByteArray)))
else
(if (decide (a0 = (⟨#[114, 111, 119]⟩ : ByteArray))) = true then
some (decide (a0 = (⟨#[114, 111, 119]⟩ : ByteArray)))
else
(if (decide (a0 = (⟨#[115, 99, 111, 112, 101]⟩ : ByteArray))) = true then
some (decide (a0 = (⟨#[115, 99, 111, 112, 101]⟩ : ByteArray)))
else
(if (decide (a0 = (⟨#[109, 101, 109, 98, 101, 114, 115]⟩ : ByteArray))) = true then
some (decide (a0 = (⟨#[109, 101, 109, 98, 101, 114, 115]⟩ : ByteArray)))
else
(if (decide (a0 = (⟨#[105, 110, 112, 117, 116]⟩ : ByteArray))) = true then
some (decide (a0 = (⟨#[105, 110, 112, 117, 116]⟩ : ByteArray)))
else
(if (decide (a0 = (⟨#[100, 101, 102]⟩ : ByteArray))) = true then
some (decide (a0 = (⟨#[100, 101, 102]⟩ : ByteArray)))
else
(if (decide (a0 = (⟨#[114, 117, 108, 101]⟩ : ByteArray))) = true then
some (decide (a0 = (⟨#[114, 117, 108, 101]⟩ : ByteArray)))
else
(if (decide (a0 = (⟨#[111, 102]⟩ : ByteArray))) = true then
some (decide (a0 = (⟨#[111, 102]⟩ : ByteArray)))
else
(if (decide (a0 = (⟨#[111, 118, 101, 114]⟩ : ByteArray))) = true then
some (decide (a0 = (⟨#[111, 118, 101, 114]⟩ : ByteArray)))
else
(if (decide (a0 = (⟨#[112, 114, 105, 111]⟩ : ByteArray))) = true then
some (decide (a0 = (⟨#[112, 114, 105, 111]⟩ : ByteArray)))
else
(if (decide (a0 = (⟨#[102, 114, 111, 109]⟩ : ByteArray))) = true then
some (decide (a0 = (⟨#[102, 114, 111, 109]⟩ : ByteArray)))
else
(if (decide (a0 = (⟨#[116, 111]⟩ : ByteArray))) = true then
some (decide (a0 = (⟨#[116, 111]⟩ : ByteArray)))
else
(if (decide (a0 = (⟨#[101, 110, 100]⟩ : ByteArray))) = true then
some (decide (a0 = (⟨#[101, 110, 100]⟩ : ByteArray)))
else
(if (decide (a0 = (⟨#[119, 104, 101, 110]⟩ : ByteArray))) = true then
some (decide (a0 = (⟨#[119, 104, 101, 110]⟩ : ByteArray)))
else
(if (decide (a0 = (⟨#[105, 115]⟩ : ByteArray))) = true then
some (decide (a0 = (⟨#[105, 115]⟩ : ByteArray)))
else
(if (decide (a0 = (⟨#[115, 114, 99]⟩ : ByteArray))) = true then
some (decide (a0 = (⟨#[115, 114, 99]⟩ : ByteArray)))
else
(if (decide (a0 = (⟨#[98, 111, 111, 108]⟩ : ByteArray))) = true then
some (decide (a0 = (⟨#[98, 111, 111, 108]⟩ : ByteArray)))
else
(if (decide (a0 = (⟨#[105, 110, 116]⟩ : ByteArray))) = true then
some (decide (a0 = (⟨#[105, 110, 116]⟩ : ByteArray)))
else
(if (decide (a0 = (⟨#[109, 111, 110, 101, 121]⟩ : ByteArray))) = true then
some (decide (a0 = (⟨#[109, 111, 110, 101, 121]⟩ : ByteArray)))
else
(if (decide (a0 = (⟨#[114, 97, 116, 101]⟩ : ByteArray))) = true then
some (decide (a0 = (⟨#[114, 97, 116, 101]⟩ : ByteArray)))
else
(if (decide (a0 = (⟨#[100, 97, 116, 101]⟩ : ByteArray))) = true then
some (decide (a0 = (⟨#[100, 97, 116, 101]⟩ : ByteArray)))
else
(if (decide (a0 = (⟨#[100, 111, 119, 110]⟩ : ByteArray))) = true then
some (decide (a0 = (⟨#[100, 111, 119, 110]⟩ : ByteArray)))
else
(if (decide (a0 = (⟨#[117, 112]⟩ : ByteArray))) = true then
some (decide (a0 = (⟨#[117, 112]⟩ : ByteArray)))
else
(if (decide (a0 = (⟨#[122, 101, 114, 111]⟩ : ByteArray))) = true then
some (decide (a0 = (⟨#[122, 101, 114, 111]⟩ : ByteArray)))
else
(if (decide (a0 = (⟨#[97, 119, 97, 121]⟩ : ByteArray))) = true then
some (decide (a0 = (⟨#[97, 119, 97, 121]⟩ : ByteArray)))
else
(if (decide (a0 = (⟨#[104, 97, 108, 102]⟩ : ByteArray))) = true then
some (decide (a0 = (⟨#[104, 97, 108, 102]⟩ : ByteArray)))
else
some (decide (a0 = (⟨#[101, 118, 101, 110]⟩ : ByteArray))))))))))))))))))))))))))))))))))))))))))))))))))))))))) : Option (Bool)).bind fun j1 =>
(if j1 = true then
some true
else
some false)
noncomputable def S95 (N : Nat) : Sig := { inn := ⟨[(0, .val false (.leaf .str))], [], [], 0⟩, out := ⟨[(0, .val false (.leaf .bool))], [], [], 0⟩, fn := fun (x : ByteArray) => M.lexer_reserved N x }
theorem W95 (N : Nat) : FnOK Tryz.prog 95 (S95 N) := fn_ok (E := ⟨tabs, [], tabnil, mixed, false, false⟩) (N := N) (a := (.two .nil (.two (.two .nil (.two (.meet ⟨[(4, .val false (.leaf .bool))], [], [], 32⟩ .nil .nil) .nil)) .nil))) (sg := S95 N) (c := Tryz.f95.body.getD .skip) (rs := Tryz.f95.results.toList) Tryz.func95 (by kernel_rfl) (by kernel_rfl) rfl rfl rfl rfl (fun x => by kernel_rfl)
noncomputable def M.lexer_IsIdentifier (N : Nat) (a0 : ByteArray) : Option (Bool) :=
((if (!decide (a0 = (⟨#[]⟩ : ByteArray))) = true then
(byteA a0 (0 : Int)).bind fun x2 =>
(M.lexer_isLower N x2).bind fun y3 =>
(if y3 = true then
(M.lexer_nameLength N a0).bind fun y4 =>
(if (decide (y4 = (a0.size : Int))) = true then
(if (decide ((a0.size : Int) ≤ (16 : Int))) = true then
(M.lexer_reserved N a0).bind fun y5 =>
some (!y5)
else
some false)
else
some false)
else
some false)
else
some false) : Option (Bool)).bind fun j1 =>
some j1
noncomputable def S62 (N : Nat) : Sig := { inn := ⟨[(0, .val false (.leaf .str))], [], [], 0⟩, out := ⟨[(0, .val false (.leaf .bool))], [], [], 0⟩, fn := fun (x : ByteArray) => M.lexer_IsIdentifier N x }
theorem W62 (N : Nat) : FnOK Tryz.prog 62 (S62 N) := fn_ok (E := ⟨tabs, [(93, S93 N), (94, S94 N), (95, S95 N)], (tabcons (W93 N) (tabcons (W94 N) (tabcons (W95 N) tabnil))), mixed, false, false⟩) (N := N) (a := (.two .nil (.meet ⟨[(2, .val false (.leaf .bool))], [], [], 16⟩ .nil .nil))) (sg := S62 N) (c := Tryz.f62.body.getD .skip) (rs := Tryz.f62.results.toList) Tryz.func62 (by kernel_rfl) (by kernel_rfl) rfl rfl rfl rfl (fun x => by kernel_rfl)
noncomputable def M.law_hasEnum_c1_v1 (N : Nat) (a0 : rEnum.den) (a1 : ByteArray) : Option (Bool × ByteArray) :=
some (decide (a0.1 = a1), a1)
noncomputable def S97v1 (N : Nat) : Sig := { inn := ⟨[(0, .val true (.leaf rEnum)), (1, .ptr 0 [] 0)], [(0, .box 9 (.leaf .str))], [], 1⟩, out := ⟨[(0, .val false (.leaf .bool))], [(0, .box 9 (.leaf .str))], [], 2⟩, fn := fun (x : rEnum.den × ByteArray) => M.law_hasEnum_c1_v1 N x.1 x.2 }
theorem W97v1 (N : Nat) : FnOK Tryz.prog 97 (S97v1 N) := fn_ok (E := ⟨tabs, [], tabnil, mixed, false, false⟩) (N := N) (a := .nil) (sg := S97v1 N) (c := Tryz.f97.body.getD .skip) (rs := Tryz.f97.results.toList) Tryz.func97 (by kernel_rfl) (by kernel_rfl) rfl rfl rfl rfl (fun x => by kernel_rfl)
noncomputable def M.slices_IndexFunc_guerdon_api_Enum_guerdon_api_Enum_v1 (N : Nat) (a0 : List rEnum.den) (a1 : ByteArray) : Option (Int × ByteArray) :=
Loop (S := Int × ByteArray) (X := Int × ByteArray) (fun s1 =>
(if (decide (s1.1 < (a0.length : Int))) = true then
(idx a0 s1.1).bind fun x2 =>
(M.law_hasEnum_c1_v1 N x2 s1.2).bind fun y3 =>
(if y3.1 = true then
some (Sum.inr (s1.1, y3.2))
else
some (Sum.inl (IntKind.i64.wrap (s1.1 + (1 : Int)), y3.2)))
else
some (Sum.inr ((-1 : Int), s1.2)))) N ((0 : Int), a1)
noncomputable def S124v1 (N : Nat) : Sig := { inn := ⟨[(0, .val false (.leaf (.slice rEnum))), (1, .fn 97 [(0, [], 0)])], [(0, .box 9 (.leaf .str))], [], 1⟩, out := ⟨[(0, .val false (.leaf rInt))], [(0, .box 9 (.leaf .str))], [], 2⟩, fn := fun (x : (List rEnum.den) × ByteArray) => M.slices_IndexFunc_guerdon_api_Enum_guerdon_api_Enum_v1 N x.1 x.2 }
theorem W124v1 (N : Nat) : FnOK Tryz.prog 124 (S124v1 N) := fn_ok (E := ⟨tabs, [(97, S97v1 N)], (tabcons (W97v1 N) tabnil), mixed, false, false⟩) (N := N) (a := (.two .nil (.two (.two .nil (.two (.loop ⟨[(8, .val false (.leaf rInt))], [(0, .box 9 (.leaf .str))], [], 66⟩ .nil) .nil)) .nil))) (sg := S124v1 N) (c := Tryz.f124.body.getD .skip) (rs := Tryz.f124.results.toList) Tryz.func124 (by kernel_rfl) (by kernel_rfl) rfl rfl rfl rfl (fun x => by kernel_rfl)
noncomputable def M.slices_ContainsFunc_guerdon_api_Enum_guerdon_api_Enum_v1 (N : Nat) (a0 : List rEnum.den) (a1 : ByteArray) : Option (Bool × ByteArray) :=
(M.slices_IndexFunc_guerdon_api_Enum_guerdon_api_Enum_v1 N a0 a1).bind fun y1 =>
some (decide ((0 : Int) ≤ y1.1), y1.2)
noncomputable def S96v1 (N : Nat) : Sig := { inn := ⟨[(0, .val false (.leaf (.slice rEnum))), (1, .fn 97 [(0, [], 0)])], [(0, .box 9 (.leaf .str))], [], 1⟩, out := ⟨[(0, .val false (.leaf .bool))], [(0, .box 9 (.leaf .str))], [], 2⟩, fn := fun (x : (List rEnum.den) × ByteArray) => M.slices_ContainsFunc_guerdon_api_Enum_guerdon_api_Enum_v1 N x.1 x.2 }
theorem W96v1 (N : Nat) : FnOK Tryz.prog 96 (S96v1 N) := fn_ok (E := ⟨tabs, [(124, S124v1 N)], (tabcons (W124v1 N) tabnil), mixed, false, false⟩) (N := N) (a := .nil) (sg := S96v1 N) (c := Tryz.f96.body.getD .skip) (rs := Tryz.f96.results.toList) Tryz.func96 (by kernel_rfl) (by kernel_rfl) rfl rfl rfl rfl (fun x => by kernel_rfl)
noncomputable def M.law_hasEnum (N : Nat) (a0 : List rEnum.den) (a1 : ByteArray) : Option (Bool) :=
(M.slices_ContainsFunc_guerdon_api_Enum_guerdon_api_Enum_v1 N a0 a1).bind fun y1 =>
some y1.1
noncomputable def S63 (N : Nat) : Sig := { inn := ⟨[(0, .val false (.leaf (.slice rEnum))), (1, .val false (.leaf .str))], [], [], 0⟩, out := ⟨[(0, .val false (.leaf .bool))], [], [], 0⟩, fn := fun (x : (List rEnum.den) × ByteArray) => M.law_hasEnum N x.1 x.2 }
theorem W63 (N : Nat) : FnOK Tryz.prog 63 (S63 N) := fn_ok (E := ⟨tabs, [(96, S96v1 N)], (tabcons (W96v1 N) tabnil), mixed, false, false⟩) (N := N) (a := .nil) (sg := S63 N) (c := Tryz.f63.body.getD .skip) (rs := Tryz.f63.results.toList) Tryz.func63 (by kernel_rfl) (by kernel_rfl) rfl rfl rfl rfl (fun x => by kernel_rfl)
noncomputable def M.slices_Index_string_string (N : Nat) (a0 : List ByteArray) (a1 : ByteArray) : Option (Int) :=
Loop (S := Int) (X := Int) (fun s1 =>
(if (decide (s1 < (a0.length : Int))) = true then
(idx a0 s1).bind fun x2 =>
(if (decide (a1 = x2)) = true then
some (Sum.inr s1)
else
some (Sum.inl (IntKind.i64.wrap (s1 + (1 : Int)))))
else
some (Sum.inr (-1 : Int)))) N (0 : Int)
noncomputable def S121 (N : Nat) : Sig := { inn := ⟨[(0, .val false (.leaf (.slice .str))), (1, .val false (.leaf .str))], [], [], 0⟩, out := ⟨[(0, .val false (.leaf rInt))], [], [], 0⟩, fn := fun (x : (List ByteArray) × ByteArray) => M.slices_Index_string_string N x.1 x.2 }
theorem W121 (N : Nat) : FnOK Tryz.prog 121 (S121 N) := fn_ok (E := ⟨tabs, [], tabnil, mixed, false, false⟩) (N := N) (a := (.two .nil (.two (.two .nil (.two (.loop ⟨[(8, .val false (.leaf rInt))], [], [], 64⟩ .nil) .nil)) .nil))) (sg := S121 N) (c := Tryz.f121.body.getD .skip) (rs := Tryz.f121.results.toList) Tryz.func121 (by kernel_rfl) (by kernel_rfl) rfl rfl rfl rfl (fun x => by kernel_rfl)
noncomputable def M.slices_Contains_string_string (N : Nat) (a0 : List ByteArray) (a1 : ByteArray) : Option (Bool) :=
(M.slices_Index_string_string N a0 a1).bind fun y1 =>
some (decide ((0 : Int) ≤ y1))
noncomputable def S86 (N : Nat) : Sig := { inn := ⟨[(0, .val false (.leaf (.slice .str))), (1, .val false (.leaf .str))], [], [], 0⟩, out := ⟨[(0, .val false (.leaf .bool))], [], [], 0⟩, fn := fun (x : (List ByteArray) × ByteArray) => M.slices_Contains_string_string N x.1 x.2 }
theorem W86 (N : Nat) : FnOK Tryz.prog 86 (S86 N) := fn_ok (E := ⟨tabs, [(121, S121 N)], (tabcons (W121 N) tabnil), mixed, false, false⟩) (N := N) (a := .nil) (sg := S86 N) (c := Tryz.f86.body.getD .skip) (rs := Tryz.f86.results.toList) Tryz.func86 (by kernel_rfl) (by kernel_rfl) rfl rfl rfl rfl (fun x => by kernel_rfl)
noncomputable def M.law_checkEnum (N : Nat) (a0 : rLaw.den) (a1 : Int) (a2 : rEnum.den) : Option (Int × Int) :=
(M.lexer_IsIdentifier N a2.1).bind fun y1 =>
(if (!y1) = true then
some ((2 : Int), (0 : Int))
else
(cutA a0.1 (0 : Int) a1).bind fun l2 =>
(M.law_hasEnum N l2 a2.1).bind fun y3 =>
(if y3 = true then
some ((7 : Int), (0 : Int))
else
(if (decide ((a2.2.length : Int) = (0 : Int))) = true then
some ((5 : Int), (0 : Int))
else
(if (decide ((16 : Int) < (a2.2.length : Int))) = true then
some ((4 : Int), (116 : Int))
else
Loop (S := Int) (X := Int × Int) (fun s4 =>
(if (decide (s4 < (a2.2.length : Int))) = true then
(idx a2.2 s4).bind fun x5 =>
(M.lexer_IsIdentifier N x5).bind fun y6 =>
(if (!y6) = true then
some (Sum.inr ((2 : Int), IntKind.i64.wrap ((100 : Int) + s4)))
else
(cutA a2.2 (0 : Int) s4).bind fun l7 =>
(M.slices_Contains_string_string N l7 x5).bind fun y8 =>
(if y8 = true then
some (Sum.inr ((7 : Int), IntKind.i64.wrap ((100 : Int) + s4)))
else
some (Sum.inl (IntKind.i64.wrap (s4 + (1 : Int))))))
else
some (Sum.inr ((0 : Int), (0 : Int))))) N (0 : Int)))))
noncomputable def S60 (N : Nat) : Sig := { inn := ⟨[(0, .val true (.leaf rLaw)), (1, .val false (.leaf rInt)), (2, .val true (.leaf rEnum))], [], [], 0⟩, out := ⟨[(0, .val false (.leaf rInt)), (1, .val false (.leaf rInt))], [], [], 0⟩, fn := fun (x : rLaw.den × Int × rEnum.den) => M.law_checkEnum N x.1 x.2.1 x.2.2 }
theorem W60 (N : Nat) : FnOK Tryz.prog 60 (S60 N) := fn_ok (E := ⟨tabs, [(62, S62 N), (63, S63 N), (86, S86 N)], (tabcons (W62 N) (tabcons (W63 N) (tabcons (W86 N) tabnil))), mixed, false, false⟩) (N := N) (a := (.two .nil (.two .nil (.two (.two .nil (.two (.loop ⟨[(36, .val false (.leaf rInt))], [], [], 496⟩ .nil) .nil)) .nil)))) (sg := S60 N) (c := Tryz.f60.body.getD .skip) (rs := Tryz.f60.results.toList) Tryz.func60 (by kernel_rfl) (by kernel_rfl) rfl rfl rfl rfl (fun x => by kernel_rfl)
noncomputable def M.law_checkEnums (N : Nat) (a0 : rLaw.den) : Option (rLawError.den) :=
(if (decide ((8 : Int) < (a0.1.length : Int))) = true then
some ((4 : Int), ((1 : Int), ((8 : Int), (0 : Int))))
else
Join (J := Unit) (R := rLawError.den) (Loop (S := Int) (X := (Unit) ⊕ (rLawError.den)) (fun s2 =>
(if (decide (s2 < (a0.1.length : Int))) = true then
(idx a0.1 s2).bind fun x3 =>
(M.law_checkEnum N a0 s2 x3).bind fun y4 =>
(if (!decide (y4.1 = (0 : Int))) = true then
some (Sum.inr (Sum.inr (y4.1, ((1 : Int), (s2, y4.2)))))
else
some (Sum.inl (IntKind.i64.wrap (s2 + (1 : Int)))))
else
some (Sum.inr (Sum.inl ())))) N (0 : Int)) fun j1 =>
some ((0 : Int), ((0 : Int), ((0 : Int), (0 : Int)))))
noncomputable def S27 (N : Nat) : Sig := { inn := ⟨[(0, .val true (.leaf rLaw))], [], [], 0⟩, out := ⟨[(0, .val true (.leaf rLawError))], [], [], 0⟩, fn := fun (x : rLaw.den) => M.law_checkEnums N x }
theorem W27 (N : Nat) : FnOK Tryz.prog 27 (S27 N) := fn_ok (E := ⟨tabs, [(60, S60 N)], (tabcons (W60 N) tabnil), mixed, false, false⟩) (N := N) (a := (.two .nil (.two .nil (.join ⟨[], [], [], 96⟩ (.two .nil (.two (.loop ⟨[(15, .val false (.leaf rInt))], [], [], 160⟩ .nil) .nil)) .nil)))) (sg := S27 N) (c := Tryz.f27.body.getD .skip) (rs := Tryz.f27.results.toList) Tryz.func27 (by kernel_rfl) (by kernel_rfl) rfl rfl rfl rfl (fun x => by kernel_rfl)
noncomputable def M.value_ValidType (N : Nat) (a0 : rType.den) (a1 : List rEnum.den) : Option (Bool) :=
((if (decide (a0.1 = (1 : Int))) = true then
some (decide (a0.1 = (1 : Int)))
else
(if (decide (a0.1 = (2 : Int))) = true then
some (decide (a0.1 = (2 : Int)))
else
(if (decide (a0.1 = (3 : Int))) = true then
some (decide (a0.1 = (3 : Int)))
else
(if (decide (a0.1 = (4 : Int))) = true then
some (decide (a0.1 = (4 : Int)))
else
some (decide (a0.1 = (5 : Int))))))) : Option (Bool)).bind fun j1 =>
(if j1 = true then
some (decide (a0.2 = (0 : Int)))
else
(if (decide (a0.1 = (6 : Int))) = true then
((if (decide ((0 : Int) ≤ a0.2)) = true then
some (decide (a0.2 < (a1.length : Int)))
else
some false) : Option (Bool)).bind fun j2 =>
some j2
else
some false))
noncomputable def S87 (N : Nat) : Sig := { inn := ⟨[(0, .val true (.leaf rType)), (1, .val false (.leaf (.slice rEnum)))], [], [], 0⟩, out := ⟨[(0, .val false (.leaf .bool))], [], [], 0⟩, fn := fun (x : rType.den × List rEnum.den) => M.value_ValidType N x.1 x.2 }
theorem W87 (N : Nat) : FnOK Tryz.prog 87 (S87 N) := fn_ok (E := ⟨tabs, [], tabnil, mixed, false, false⟩) (N := N) (a := (.two .nil (.two (.two .nil (.two (.meet ⟨[(7, .val false (.leaf .bool))], [], [], 64⟩ .nil (.two .nil (.two .nil (.two (.meet ⟨[(4, .val false (.leaf .bool))], [], [], 96⟩ .nil .nil) .nil)))) .nil)) .nil))) (sg := S87 N) (c := Tryz.f87.body.getD .skip) (rs := Tryz.f87.results.toList) Tryz.func87 (by kernel_rfl) (by kernel_rfl) rfl rfl rfl rfl (fun x => by kernel_rfl)
noncomputable def M.value_Bounds (N : Nat) (a0 : rType.den) (a1 : List rEnum.den) : Option (Int × Int) :=
(M.value_ValidType N a0 a1).bind fun y1 =>
(if (!y1) = true then
some ((0 : Int), (-1 : Int))
else
(if (decide (a0.1 = (1 : Int))) = true then
some ((0 : Int), (1 : Int))
else
(if (decide (a0.1 = (2 : Int))) = true then
some ((-1000000000000 : Int), (1000000000000 : Int))
else
(if (decide (a0.1 = (3 : Int))) = true then
some ((-1000000000000000 : Int), (1000000000000000 : Int))
else
(if (decide (a0.1 = (4 : Int))) = true then
some ((-1000000000 : Int), (1000000000 : Int))
else
(if (decide (a0.1 = (5 : Int))) = true then
some ((0 : Int), (109572 : Int))
else
(idx a1 a0.2).bind fun x2 =>
some ((0 : Int), IntKind.i64.wrap ((x2.2.length : Int) - (1 : Int)))))))))
noncomputable def S88 (N : Nat) : Sig := { inn := ⟨[(0, .val true (.leaf rType)), (1, .val false (.leaf (.slice rEnum)))], [], [], 0⟩, out := ⟨[(0, .val false (.leaf rInt)), (1, .val false (.leaf rInt))], [], [], 0⟩, fn := fun (x : rType.den × List rEnum.den) => M.value_Bounds N x.1 x.2 }
theorem W88 (N : Nat) : FnOK Tryz.prog 88 (S88 N) := fn_ok (E := ⟨tabs, [(87, S87 N)], (tabcons (W87 N) tabnil), mixed, false, false⟩) (N := N) (a := .nil) (sg := S88 N) (c := Tryz.f88.body.getD .skip) (rs := Tryz.f88.results.toList) Tryz.func88 (by kernel_rfl) (by kernel_rfl) rfl rfl rfl rfl (fun x => by kernel_rfl)
noncomputable def M.daterange_Valid (N : Nat) (a0 : rType.den) : Option (Bool) :=
((if (decide ((0 : Int) ≤ a0.1)) = true then
(if (decide (a0.1 ≤ a0.2)) = true then
some (decide (a0.2 ≤ (109573 : Int)))
else
some false)
else
some false) : Option (Bool)).bind fun j1 =>
some j1
noncomputable def S89 (N : Nat) : Sig := { inn := ⟨[(0, .val true (.leaf rType))], [], [], 0⟩, out := ⟨[(0, .val false (.leaf .bool))], [], [], 0⟩, fn := fun (x : rType.den) => M.daterange_Valid N x }
theorem W89 (N : Nat) : FnOK Tryz.prog 89 (S89 N) := fn_ok (E := ⟨tabs, [], tabnil, mixed, false, false⟩) (N := N) (a := (.two .nil (.meet ⟨[(2, .val false (.leaf .bool))], [], [], 32⟩ .nil .nil))) (sg := S89 N) (c := Tryz.f89.body.getD .skip) (rs := Tryz.f89.results.toList) Tryz.func89 (by kernel_rfl) (by kernel_rfl) rfl rfl rfl rfl (fun x => by kernel_rfl)
noncomputable def M.daterange_hasDate (N : Nat) (a0 : rType.den) : Option (Bool) :=
((M.daterange_Valid N a0).bind fun y2 =>
(if y2 = true then
some (decide (a0.1 < a0.2))
else
some false) : Option (Bool)).bind fun j1 =>
some j1
noncomputable def S143 (N : Nat) : Sig := { inn := ⟨[(0, .val true (.leaf rType))], [], [], 0⟩, out := ⟨[(0, .val false (.leaf .bool))], [], [], 0⟩, fn := fun (x : rType.den) => M.daterange_hasDate N x }
theorem W143 (N : Nat) : FnOK Tryz.prog 143 (S143 N) := fn_ok (E := ⟨tabs, [(89, S89 N)], (tabcons (W89 N) tabnil), mixed, false, false⟩) (N := N) (a := (.two .nil (.meet ⟨[(2, .val false (.leaf .bool))], [], [], 32⟩ .nil .nil))) (sg := S143 N) (c := Tryz.f143.body.getD .skip) (rs := Tryz.f143.results.toList) Tryz.func143 (by kernel_rfl) (by kernel_rfl) rfl rfl rfl rfl (fun x => by kernel_rfl)
noncomputable def M.daterange_Intersect (N : Nat) (a0 : rType.den) (a1 : rType.den) : Option (rType.den × Bool) :=
((M.daterange_hasDate N a0).bind fun y2 =>
(if (!y2) = true then
some true
else
(M.daterange_hasDate N a1).bind fun y3 =>
some (!y3)) : Option (Bool)).bind fun j1 =>
(if j1 = true then
some (((0 : Int), (0 : Int)), false)
else
(if (decide ((if a1.2 < a0.2 then a1.2 else a0.2) ≤ (if a0.1 < a1.1 then a1.1 else a0.1))) = true then
some (((0 : Int), (0 : Int)), false)
else
some ((if a0.1 < a1.1 then a1.1 else a0.1, if a1.2 < a0.2 then a1.2 else a0.2), true)))
noncomputable def S122 (N : Nat) : Sig := { inn := ⟨[(0, .val true (.leaf rType)), (1, .val true (.leaf rType))], [], [], 0⟩, out := ⟨[(0, .val true (.leaf rType)), (1, .val false (.leaf .bool))], [], [], 0⟩, fn := fun (x : rType.den × rType.den) => M.daterange_Intersect N x.1 x.2 }
theorem W122 (N : Nat) : FnOK Tryz.prog 122 (S122 N) := fn_ok (E := ⟨tabs, [(143, S143 N)], (tabcons (W143 N) tabnil), mixed, false, false⟩) (N := N) (a := (.two .nil (.two (.meet ⟨[(14, .val false (.leaf .bool))], [], [], 64⟩ .nil .nil) .nil))) (sg := S122 N) (c := Tryz.f122.body.getD .skip) (rs := Tryz.f122.results.toList) Tryz.func122 (by kernel_rfl) (by kernel_rfl) rfl rfl rfl rfl (fun x => by kernel_rfl)
noncomputable def M.table_conflict (N : Nat) (a0 : rRow.den) (a1 : rRow.den) : Option (Bool) :=
(M.daterange_Intersect N a0.1 a1.1).bind fun y1 =>
((if y1.2 = true then
some (decide ((if a0.2.1 < a1.2.1 then a1.2.1 else a0.2.1) < (if a1.2.2.1 < a0.2.2.1 then a1.2.2.1 else a0.2.2.1)))
else
some false) : Option (Bool)).bind fun j2 =>
some j2
noncomputable def S92 (N : Nat) : Sig := { inn := ⟨[(0, .val true (.leaf rRow)), (1, .val true (.leaf rRow))], [], [], 0⟩, out := ⟨[(0, .val false (.leaf .bool))], [], [], 0⟩, fn := fun (x : rRow.den × rRow.den) => M.table_conflict N x.1 x.2 }
theorem W92 (N : Nat) : FnOK Tryz.prog 92 (S92 N) := fn_ok (E := ⟨tabs, [(122, S122 N)], (tabcons (W122 N) tabnil), mixed, false, false⟩) (N := N) (a := (.two .nil (.two .nil (.meet ⟨[(4, .val false (.leaf .bool))], [], [], 224⟩ .nil .nil)))) (sg := S92 N) (c := Tryz.f92.body.getD .skip) (rs := Tryz.f92.results.toList) Tryz.func92 (by kernel_rfl) (by kernel_rfl) rfl rfl rfl rfl (fun x => by kernel_rfl)
noncomputable def M.table_Validate_c1_v1 (N : Nat) (a0 : rRow.den) (a1 : rRow.den) : Option (Bool × rRow.den) :=
(M.table_conflict N a0 a1).bind fun y1 =>
some (y1, a1)
noncomputable def S91v1 (N : Nat) : Sig := { inn := ⟨[(0, .val true (.leaf rRow)), (1, .ptr 0 [] 0)], [(0, .box 112 (.leaf rRow))], [], 1⟩, out := ⟨[(0, .val false (.leaf .bool))], [(0, .box 112 (.leaf rRow))], [], 2⟩, fn := fun (x : rRow.den × rRow.den) => M.table_Validate_c1_v1 N x.1 x.2 }
theorem W91v1 (N : Nat) : FnOK Tryz.prog 91 (S91v1 N) := fn_ok (E := ⟨tabs, [(92, S92 N)], (tabcons (W92 N) tabnil), mixed, false, false⟩) (N := N) (a := .nil) (sg := S91v1 N) (c := Tryz.f91.body.getD .skip) (rs := Tryz.f91.results.toList) Tryz.func91 (by kernel_rfl) (by kernel_rfl) rfl rfl rfl rfl (fun x => by kernel_rfl)
noncomputable def M.table_first_guerdon_api_Row_v1 (N : Nat) (a0 : List rRow.den) (a1 : rRow.den) : Option (Int × Bool × rRow.den) :=
Loop (S := Int × rRow.den) (X := Int × Bool × rRow.den) (fun s1 =>
(if (decide (s1.1 < (a0.length : Int))) = true then
(idx a0 s1.1).bind fun x2 =>
(M.table_Validate_c1_v1 N x2 s1.2).bind fun y3 =>
(if y3.1 = true then
some (Sum.inr (s1.1, true, y3.2))
else
some (Sum.inl (IntKind.i64.wrap (s1.1 + (1 : Int)), y3.2)))
else
some (Sum.inr ((0 : Int), false, s1.2)))) N ((0 : Int), a1)
noncomputable def S90v1 (N : Nat) : Sig := { inn := ⟨[(0, .val false (.leaf (.slice rRow))), (1, .fn 91 [(0, [], 0)])], [(0, .box 112 (.leaf rRow))], [], 1⟩, out := ⟨[(0, .val false (.leaf rInt)), (1, .val false (.leaf .bool))], [(0, .box 112 (.leaf rRow))], [], 2⟩, fn := fun (x : (List rRow.den) × rRow.den) => M.table_first_guerdon_api_Row_v1 N x.1 x.2 }
theorem W90v1 (N : Nat) : FnOK Tryz.prog 90 (S90v1 N) := fn_ok (E := ⟨tabs, [(91, S91v1 N)], (tabcons (W91v1 N) tabnil), mixed, false, false⟩) (N := N) (a := (.two .nil (.two (.two .nil (.two (.loop ⟨[(10, .val false (.leaf rInt))], [(0, .box 112 (.leaf rRow))], [], 82⟩ .nil) .nil)) .nil))) (sg := S90v1 N) (c := Tryz.f90.body.getD .skip) (rs := Tryz.f90.results.toList) Tryz.func90 (by kernel_rfl) (by kernel_rfl) rfl rfl rfl rfl (fun x => by kernel_rfl)
noncomputable def M.table_Validate (N : Nat) (a0 : rTable.den) (a1 : List rEnum.den) : Option (Int × Int) :=
(if (decide ((64 : Int) < (a0.2.2.2.length : Int))) = true then
some ((64 : Int), (4 : Int))
else
((M.value_ValidType N a0.2.1 a1).bind fun y2 =>
(if (!y2) = true then
some true
else
(M.value_ValidType N a0.2.2.1 a1).bind fun y3 =>
some (!y3)) : Option (Bool)).bind fun j1 =>
(if j1 = true then
some ((-1 : Int), (8 : Int))
else
(M.value_Bounds N a0.2.1 a1).bind fun y4 =>
(M.value_Bounds N a0.2.2.1 a1).bind fun y5 =>
Loop (S := Int) (X := Int × Int) (fun s6 =>
(if (decide (s6 < (a0.2.2.2.length : Int))) = true then
(idx a0.2.2.2 s6).bind fun x7 =>
((M.daterange_Valid N x7.1).bind fun y9 =>
(if (!y9) = true then
some true
else
(if (decide (x7.1.1 = x7.1.2)) = true then
some true
else
some (decide (x7.2.2.1 ≤ x7.2.1)))) : Option (Bool)).bind fun j8 =>
(if j8 = true then
some (Sum.inr (s6, (3 : Int)))
else
((if (decide (x7.2.1 < y4.1)) = true then
some true
else
(if (decide (y4.2 < x7.2.1)) = true then
some true
else
(if (decide ((IntKind.i64.wrap (x7.2.2.1 - (1 : Int))) < y4.1)) = true then
some true
else
some (decide (y4.2 < (IntKind.i64.wrap (x7.2.2.1 - (1 : Int)))))))) : Option (Bool)).bind fun j10 =>
(if j10 = true then
some (Sum.inr (s6, (3 : Int)))
else
((if (decide (x7.2.2.2 < y5.1)) = true then
some true
else
some (decide (y5.2 < x7.2.2.2))) : Option (Bool)).bind fun j11 =>
(if j11 = true then
some (Sum.inr (s6, (3 : Int)))
else
(cutA a0.2.2.2 (0 : Int) s6).bind fun l12 =>
(M.table_first_guerdon_api_Row_v1 N l12 x7).bind fun y13 =>
(if y13.2.1 = true then
some (Sum.inr (s6, (11 : Int)))
else
some (Sum.inl (IntKind.i64.wrap (s6 + (1 : Int))))))))
else
some (Sum.inr ((0 : Int), (0 : Int))))) N (0 : Int)))
noncomputable def S61 (N : Nat) : Sig := { inn := ⟨[(0, .val true (.leaf rTable)), (1, .val false (.leaf (.slice rEnum)))], [], [], 0⟩, out := ⟨[(0, .val false (.leaf rInt)), (1, .val false (.leaf rInt))], [], [], 0⟩, fn := fun (x : rTable.den × List rEnum.den) => M.table_Validate N x.1 x.2 }
theorem W61 (N : Nat) : FnOK Tryz.prog 61 (S61 N) := fn_ok (E := ⟨tabs, [(87, S87 N), (88, S88 N), (89, S89 N), (90, S90v1 N)], (tabcons (W87 N) (tabcons (W88 N) (tabcons (W89 N) (tabcons (W90v1 N) tabnil)))), mixed, false, false⟩) (N := N) (a := (.two .nil (.two .nil (.two (.meet ⟨[(29, .val false (.leaf .bool))], [], [], 112⟩ .nil .nil) (.two .nil (.two .nil (.two (.two .nil (.two (.loop ⟨[(47, .val false (.leaf rInt))], [], [], 464⟩ (.two .nil (.two .nil (.two (.two (.two .nil (.two (.meet ⟨[(71, .val false (.leaf .bool))], [], [], 576⟩ .nil .nil) (.two (.meet ⟨[(96, .val false (.leaf .bool))], [], [], 576⟩ .nil .nil) (.two (.meet ⟨[(107, .val false (.leaf .bool))], [], [], 576⟩ .nil .nil) .nil)))) .nil) .nil)))) .nil)) .nil))))))) (sg := S61 N) (c := Tryz.f61.body.getD .skip) (rs := Tryz.f61.results.toList) Tryz.func61 (by kernel_rfl) (by kernel_rfl) rfl rfl rfl rfl (fun x => by kernel_rfl)
noncomputable def M.law_hasTable_c1_v1 (N : Nat) (a0 : rTable.den) (a1 : ByteArray) : Option (Bool × ByteArray) :=
some (decide (a0.1 = a1), a1)
noncomputable def S99v1 (N : Nat) : Sig := { inn := ⟨[(0, .val true (.leaf rTable)), (1, .ptr 0 [] 0)], [(0, .box 9 (.leaf .str))], [], 1⟩, out := ⟨[(0, .val false (.leaf .bool))], [(0, .box 9 (.leaf .str))], [], 2⟩, fn := fun (x : rTable.den × ByteArray) => M.law_hasTable_c1_v1 N x.1 x.2 }
theorem W99v1 (N : Nat) : FnOK Tryz.prog 99 (S99v1 N) := fn_ok (E := ⟨tabs, [], tabnil, mixed, false, false⟩) (N := N) (a := .nil) (sg := S99v1 N) (c := Tryz.f99.body.getD .skip) (rs := Tryz.f99.results.toList) Tryz.func99 (by kernel_rfl) (by kernel_rfl) rfl rfl rfl rfl (fun x => by kernel_rfl)
noncomputable def M.slices_IndexFunc_guerdon_api_Table_guerdon_api_Table_v1 (N : Nat) (a0 : List rTable.den) (a1 : ByteArray) : Option (Int × ByteArray) :=
Loop (S := Int × ByteArray) (X := Int × ByteArray) (fun s1 =>
(if (decide (s1.1 < (a0.length : Int))) = true then
(idx a0 s1.1).bind fun x2 =>
(M.law_hasTable_c1_v1 N x2 s1.2).bind fun y3 =>
(if y3.1 = true then
some (Sum.inr (s1.1, y3.2))
else
some (Sum.inl (IntKind.i64.wrap (s1.1 + (1 : Int)), y3.2)))
else
some (Sum.inr ((-1 : Int), s1.2)))) N ((0 : Int), a1)
noncomputable def S125v1 (N : Nat) : Sig := { inn := ⟨[(0, .val false (.leaf (.slice rTable))), (1, .fn 99 [(0, [], 0)])], [(0, .box 9 (.leaf .str))], [], 1⟩, out := ⟨[(0, .val false (.leaf rInt))], [(0, .box 9 (.leaf .str))], [], 2⟩, fn := fun (x : (List rTable.den) × ByteArray) => M.slices_IndexFunc_guerdon_api_Table_guerdon_api_Table_v1 N x.1 x.2 }
theorem W125v1 (N : Nat) : FnOK Tryz.prog 125 (S125v1 N) := fn_ok (E := ⟨tabs, [(99, S99v1 N)], (tabcons (W99v1 N) tabnil), mixed, false, false⟩) (N := N) (a := (.two .nil (.two (.two .nil (.two (.loop ⟨[(8, .val false (.leaf rInt))], [(0, .box 9 (.leaf .str))], [], 66⟩ .nil) .nil)) .nil))) (sg := S125v1 N) (c := Tryz.f125.body.getD .skip) (rs := Tryz.f125.results.toList) Tryz.func125 (by kernel_rfl) (by kernel_rfl) rfl rfl rfl rfl (fun x => by kernel_rfl)
noncomputable def M.slices_ContainsFunc_guerdon_api_Table_guerdon_api_Table_v1 (N : Nat) (a0 : List rTable.den) (a1 : ByteArray) : Option (Bool × ByteArray) :=
(M.slices_IndexFunc_guerdon_api_Table_guerdon_api_Table_v1 N a0 a1).bind fun y1 =>
some (decide ((0 : Int) ≤ y1.1), y1.2)
noncomputable def S98v1 (N : Nat) : Sig := { inn := ⟨[(0, .val false (.leaf (.slice rTable))), (1, .fn 99 [(0, [], 0)])], [(0, .box 9 (.leaf .str))], [], 1⟩, out := ⟨[(0, .val false (.leaf .bool))], [(0, .box 9 (.leaf .str))], [], 2⟩, fn := fun (x : (List rTable.den) × ByteArray) => M.slices_ContainsFunc_guerdon_api_Table_guerdon_api_Table_v1 N x.1 x.2 }
theorem W98v1 (N : Nat) : FnOK Tryz.prog 98 (S98v1 N) := fn_ok (E := ⟨tabs, [(125, S125v1 N)], (tabcons (W125v1 N) tabnil), mixed, false, false⟩) (N := N) (a := .nil) (sg := S98v1 N) (c := Tryz.f98.body.getD .skip) (rs := Tryz.f98.results.toList) Tryz.func98 (by kernel_rfl) (by kernel_rfl) rfl rfl rfl rfl (fun x => by kernel_rfl)
noncomputable def M.law_hasTable (N : Nat) (a0 : List rTable.den) (a1 : ByteArray) : Option (Bool) :=
(M.slices_ContainsFunc_guerdon_api_Table_guerdon_api_Table_v1 N a0 a1).bind fun y1 =>
some y1.1
noncomputable def S64 (N : Nat) : Sig := { inn := ⟨[(0, .val false (.leaf (.slice rTable))), (1, .val false (.leaf .str))], [], [], 0⟩, out := ⟨[(0, .val false (.leaf .bool))], [], [], 0⟩, fn := fun (x : (List rTable.den) × ByteArray) => M.law_hasTable N x.1 x.2 }
theorem W64 (N : Nat) : FnOK Tryz.prog 64 (S64 N) := fn_ok (E := ⟨tabs, [(98, S98v1 N)], (tabcons (W98v1 N) tabnil), mixed, false, false⟩) (N := N) (a := .nil) (sg := S64 N) (c := Tryz.f64.body.getD .skip) (rs := Tryz.f64.results.toList) Tryz.func64 (by kernel_rfl) (by kernel_rfl) rfl rfl rfl rfl (fun x => by kernel_rfl)
noncomputable def M.law_checkTables (N : Nat) (a0 : rLaw.den) : Option (rLawError.den) :=
(if (decide ((8 : Int) < (a0.2.1.length : Int))) = true then
some ((4 : Int), ((2 : Int), ((8 : Int), (0 : Int))))
else
Join (J := Unit) (R := rLawError.den) (Loop (S := Int) (X := (Unit) ⊕ (rLawError.den)) (fun s2 =>
(if (decide (s2 < (a0.2.1.length : Int))) = true then
(idx a0.2.1 s2).bind fun x3 =>
(M.table_Validate N x3 a0.1).bind fun y4 =>
((M.lexer_IsIdentifier N x3.1).bind fun y6 =>
(if (!y6) = true then
some ((2 : Int), ((2 : Int), (s2, (0 : Int))))
else
((M.law_hasEnum N a0.1 x3.1).bind fun y8 =>
(if y8 = true then
some true
else
(cutA a0.2.1 (0 : Int) s2).bind fun l9 =>
(M.law_hasTable N l9 x3.1).bind fun y10 =>
some y10) : Option (Bool)).bind fun j7 =>
(if j7 = true then
some ((7 : Int), ((2 : Int), (s2, (0 : Int))))
else
(if (!decide (y4.2 = (0 : Int))) = true then
(if (!decide (y4.1 = (-1 : Int))) = true then
some (y4.2, ((2 : Int), (s2, IntKind.i64.wrap ((100 : Int) + y4.1))))
else
some (y4.2, ((2 : Int), (s2, (0 : Int)))))
else
some ((0 : Int), ((2 : Int), (s2, (0 : Int))))))) : Option (rLawError.den)).bind fun j5 =>
(if (!decide (j5.1 = (0 : Int))) = true then
some (Sum.inr (Sum.inr j5))
else
some (Sum.inl (IntKind.i64.wrap (s2 + (1 : Int)))))
else
some (Sum.inr (Sum.inl ())))) N (0 : Int)) fun j1 =>
some ((0 : Int), ((0 : Int), ((0 : Int), (0 : Int)))))
noncomputable def S28 (N : Nat) : Sig := { inn := ⟨[(0, .val true (.leaf rLaw))], [], [], 0⟩, out := ⟨[(0, .val true (.leaf rLawError))], [], [], 0⟩, fn := fun (x : rLaw.den) => M.law_checkTables N x }
theorem W28 (N : Nat) : FnOK Tryz.prog 28 (S28 N) := fn_ok (E := ⟨tabs, [(61, S61 N), (62, S62 N), (63, S63 N), (64, S64 N)], (tabcons (W61 N) (tabcons (W62 N) (tabcons (W63 N) (tabcons (W64 N) tabnil)))), mixed, false, false⟩) (N := N) (a := (.two .nil (.two .nil (.join ⟨[], [], [], 96⟩ (.two .nil (.two (.loop ⟨[(16, .val false (.leaf rInt))], [], [], 160⟩ (.two .nil (.two .nil (.two (.two (.two .nil (.two .nil (.two .nil (.two (.meet ⟨[], [(304, .box 31 (.leaf rLawError))], [], 481⟩ (.two .nil (.two .nil (.meet ⟨[(36, .val false (.leaf .bool))], [], [], 560⟩ .nil .nil))) .nil) .nil)))) .nil) .nil)))) .nil)) .nil)))) (sg := S28 N) (c := Tryz.f28.body.getD .skip) (rs := Tryz.f28.results.toList) Tryz.func28 (by kernel_rfl) (by kernel_rfl) rfl rfl rfl rfl (fun x => by kernel_rfl)
noncomputable def M.law_fieldTypes (N : Nat) (a0 : List rField.den) : Option (List rType.den) :=
Loop (S := Int × List rType.den) (X := List rType.den) (fun s1 =>
(if (decide (s1.1 < (a0.length : Int))) = true then
(idx a0 s1.1).bind fun x2 =>
(appA s1.2 ([x2.2] : List rType.den)).bind fun l3 =>
some (Sum.inl (IntKind.i64.wrap (s1.1 + (1 : Int)), l3))
else
some (Sum.inr s1.2))) N ((0 : Int), ([] : List rType.den))
noncomputable def S75 (N : Nat) : Sig := { inn := ⟨[(0, .val false (.leaf (.slice rField)))], [], [], 0⟩, out := ⟨[(0, .val false (.own 0))], [(0, .own 43 rType)], [], 1⟩, fn := fun (x : List rField.den) => M.law_fieldTypes N x }
theorem W75 (N : Nat) : FnOK Tryz.prog 75 (S75 N) := fn_ok (E := ⟨tabs, [], tabnil, mixed, false, false⟩) (N := N) (a := (.two .nil (.two .nil (.two (.two .nil (.two (.loop ⟨[(3, .val false (.own 80)), (8, .val false (.leaf rInt))], [(80, .own 43 rType)], [], 81⟩ .nil) .nil)) .nil)))) (sg := S75 N) (c := Tryz.f75.body.getD .skip) (rs := Tryz.f75.results.toList) Tryz.func75 (by kernel_rfl) (by kernel_rfl) rfl rfl rfl rfl (fun x => by kernel_rfl)
noncomputable def M.law_sharedSignature (N : Nat) (a0 : rLaw.den) (a1 : Int) : Option ((List rEnum.den) × (List rTable.den) × Bool × (List rType.den) × (List rType.den) × List rType.den) :=
(idx a0.2.2 a1).bind fun x1 =>
(M.law_fieldTypes N x1.2.2.1).bind fun y2 =>
(M.law_fieldTypes N x1.2.2.2.1).bind fun y3 =>
(((if (decide ((0 : Int) ≤ x1.2.1)) = true then
some (decide (x1.2.1 < (a0.2.2.length : Int)))
else
some false) : Option (Bool)).bind fun j5 =>
(if j5 = true then
(idx a0.2.2 x1.2.1).bind fun x6 =>
(M.law_fieldTypes N x6.2.2.2.1).bind fun y7 =>
some (y2, y3, a0.1, a0.2.1, true, y7)
else
some (y2, y3, a0.1, a0.2.1, false, ([] : List rType.den))) : Option ((List rType.den) × (List rType.den) × (List rEnum.den) × (List rTable.den) × Bool × List rType.den)).bind fun j4 =>
some (j4.2.2.1, j4.2.2.2.1, j4.2.2.2.2.1, j4.1, j4.2.1, j4.2.2.2.2.2)
noncomputable def S45 (N : Nat) : Sig := { inn := ⟨[(0, .val true (.leaf rLaw)), (1, .val false (.leaf rInt))], [], [], 0⟩, out := ⟨[(0, .val true (.pair (.leaf (.slice rEnum)) (.pair (.leaf (.slice rTable)) (.pair (.own 0) (.pair (.own 1) (.pair (.own 2) (.leaf .bool)))))))], [(0, .own 43 rType), (1, .own 43 rType), (2, .own 43 rType)], [], 3⟩, fn := fun (x : rLaw.den × Int) => M.law_sharedSignature N x.1 x.2 }
theorem W45 (N : Nat) : FnOK Tryz.prog 45 (S45 N) := fn_ok (E := ⟨tabs, [(75, S75 N)], (tabcons (W75 N) tabnil), mixed, false, false⟩) (N := N) (a := (.two .nil (.two .nil (.two .nil (.meet ⟨[], [(240, .own 43 rType), (288, .own 43 rType), (320, .box 50 (.pair (.leaf (.slice rEnum)) (.pair (.leaf (.slice rTable)) (.pair (.own 240) (.pair (.own 288) (.pair (.own 352) (.leaf .bool))))))), (352, .own 43 rType)], [], 356⟩ (.meet ⟨[(33, .val false (.leaf .bool))], [], [], 352⟩ .nil .nil) .nil))))) (sg := S45 N) (c := Tryz.f45.body.getD .skip) (rs := Tryz.f45.results.toList) Tryz.func45 (by kernel_rfl) (by kernel_rfl) rfl rfl rfl rfl (fun x => by kernel_rfl)
noncomputable def M.law_checkField_c1_v1 (N : Nat) (a0 : rField.den) (a1 : rField.den) : Option (Bool × rField.den) :=
some (decide (a0.1 = a1.1), a1)
noncomputable def S126v1 (N : Nat) : Sig := { inn := ⟨[(0, .val true (.leaf rField)), (1, .ptr 0 [] 0)], [(0, .box 45 (.leaf rField))], [], 1⟩, out := ⟨[(0, .val false (.leaf .bool))], [(0, .box 45 (.leaf rField))], [], 2⟩, fn := fun (x : rField.den × rField.den) => M.law_checkField_c1_v1 N x.1 x.2 }
theorem W126v1 (N : Nat) : FnOK Tryz.prog 126 (S126v1 N) := fn_ok (E := ⟨tabs, [], tabnil, mixed, false, false⟩) (N := N) (a := .nil) (sg := S126v1 N) (c := Tryz.f126.body.getD .skip) (rs := Tryz.f126.results.toList) Tryz.func126 (by kernel_rfl) (by kernel_rfl) rfl rfl rfl rfl (fun x => by kernel_rfl)
noncomputable def M.slices_IndexFunc_guerdon_api_Field_guerdon_api_Field_v1 (N : Nat) (a0 : List rField.den) (a1 : rField.den) : Option (Int × rField.den) :=
Loop (S := Int × rField.den) (X := Int × rField.den) (fun s1 =>
(if (decide (s1.1 < (a0.length : Int))) = true then
(idx a0 s1.1).bind fun x2 =>
(M.law_checkField_c1_v1 N x2 s1.2).bind fun y3 =>
(if y3.1 = true then
some (Sum.inr (s1.1, y3.2))
else
some (Sum.inl (IntKind.i64.wrap (s1.1 + (1 : Int)), y3.2)))
else
some (Sum.inr ((-1 : Int), s1.2)))) N ((0 : Int), a1)
noncomputable def S36v1 (N : Nat) : Sig := { inn := ⟨[(0, .val false (.leaf (.slice rField))), (1, .fn 126 [(0, [], 0)])], [(0, .box 45 (.leaf rField))], [], 1⟩, out := ⟨[(0, .val false (.leaf rInt))], [(0, .box 45 (.leaf rField))], [], 2⟩, fn := fun (x : (List rField.den) × rField.den) => M.slices_IndexFunc_guerdon_api_Field_guerdon_api_Field_v1 N x.1 x.2 }
theorem W36v1 (N : Nat) : FnOK Tryz.prog 36 (S36v1 N) := fn_ok (E := ⟨tabs, [(126, S126v1 N)], (tabcons (W126v1 N) tabnil), mixed, false, false⟩) (N := N) (a := (.two .nil (.two (.two .nil (.two (.loop ⟨[(8, .val false (.leaf rInt))], [(0, .box 45 (.leaf rField))], [], 66⟩ .nil) .nil)) .nil))) (sg := S36v1 N) (c := Tryz.f36.body.getD .skip) (rs := Tryz.f36.results.toList) Tryz.func36 (by kernel_rfl) (by kernel_rfl) rfl rfl rfl rfl (fun x => by kernel_rfl)
noncomputable def M.slices_ContainsFunc_guerdon_api_Field_guerdon_api_Field_v1 (N : Nat) (a0 : List rField.den) (a1 : rField.den) : Option (Bool × rField.den) :=
(M.slices_IndexFunc_guerdon_api_Field_guerdon_api_Field_v1 N a0 a1).bind fun y1 =>
some (decide ((0 : Int) ≤ y1.1), y1.2)
noncomputable def S127v1 (N : Nat) : Sig := { inn := ⟨[(0, .val false (.leaf (.slice rField))), (1, .fn 126 [(0, [], 0)])], [(0, .box 45 (.leaf rField))], [], 1⟩, out := ⟨[(0, .val false (.leaf .bool))], [(0, .box 45 (.leaf rField))], [], 2⟩, fn := fun (x : (List rField.den) × rField.den) => M.slices_ContainsFunc_guerdon_api_Field_guerdon_api_Field_v1 N x.1 x.2 }
theorem W127v1 (N : Nat) : FnOK Tryz.prog 127 (S127v1 N) := fn_ok (E := ⟨tabs, [(36, S36v1 N)], (tabcons (W36v1 N) tabnil), mixed, false, false⟩) (N := N) (a := .nil) (sg := S127v1 N) (c := Tryz.f127.body.getD .skip) (rs := Tryz.f127.results.toList) Tryz.func127 (by kernel_rfl) (by kernel_rfl) rfl rfl rfl rfl (fun x => by kernel_rfl)
noncomputable def M.law_checkField (N : Nat) (a0 : rLaw.den) (a1 : rField.den) (a2 : List rField.den) (a3 : List rField.den) : Option (Int) :=
(M.lexer_IsIdentifier N a1.1).bind fun y1 =>
(if (!y1) = true then
some (2 : Int)
else
((M.slices_ContainsFunc_guerdon_api_Field_guerdon_api_Field_v1 N a2 a1).bind fun y3 =>
(if y3.1 = true then
some (true, y3.2)
else
(M.slices_ContainsFunc_guerdon_api_Field_guerdon_api_Field_v1 N a3 y3.2).bind fun y4 =>
some (y4.1, y4.2)) : Option (Bool × rField.den)).bind fun j2 =>
(if j2.1 = true then
some (7 : Int)
else
(M.value_ValidType N j2.2.2 a0.1).bind fun y5 =>
(if (!y5) = true then
some (8 : Int)
else
some (0 : Int))))
noncomputable def S102 (N : Nat) : Sig := { inn := ⟨[(0, .val true (.leaf rLaw)), (1, .val true (.leaf rField)), (2, .val false (.leaf (.slice rField))), (3, .val false (.leaf (.slice rField)))], [], [], 0⟩, out := ⟨[(0, .val false (.leaf rInt))], [], [], 0⟩, fn := fun (x : rLaw.den × rField.den × (List rField.den) × List rField.den) => M.law_checkField N x.1 x.2.1 x.2.2.1 x.2.2.2 }
theorem W102 (N : Nat) : FnOK Tryz.prog 102 (S102 N) := fn_ok (E := ⟨tabs, [(62, S62 N), (87, S87 N), (127, S127v1 N)], (tabcons (W62 N) (tabcons (W87 N) (tabcons (W127v1 N) tabnil))), mixed, false, false⟩) (N := N) (a := (.two .nil (.two .nil (.two (.two (.two .nil (.two .nil (.meet ⟨[(16, .val false (.leaf .bool))], [(16, .box 45 (.leaf rField))], [], 161⟩ .nil .nil))) .nil) .nil)))) (sg := S102 N) (c := Tryz.f102.body.getD .skip) (rs := Tryz.f102.results.toList) Tryz.func102 (by kernel_rfl) (by kernel_rfl) rfl rfl rfl rfl (fun x => by kernel_rfl)
noncomputable def M.strings_Contains (N : Nat) (a0 : ByteArray) (a1 : ByteArray) : Option (Bool) := containsM (a0, a1)
noncomputable def S145 (N : Nat) : Sig := { inn := ⟨[(0, .val false (.leaf .str)), (1, .val false (.leaf .str))], [], [], 0⟩, out := ⟨[(0, .val false (.leaf .bool))], [], [], 0⟩, fn := fun (x : ByteArray × ByteArray) => M.strings_Contains N x.1 x.2 }
theorem W145 (N : Nat) : FnOK Tryz.prog 145 (S145 N) := contains_fn ⟨_, Tryz.func145, by kernel_rfl, by kernel_rfl⟩ Tryz.strings_Contains_one
noncomputable def M.law_validSource (N : Nat) (a0 : ByteArray) : Option (Bool) :=
((if (decide ((64 : Int) < (a0.size : Int))) = true then
some true
else
(M.strings_Contains N a0 (⟨#[34]⟩ : ByteArray)).bind fun y2 =>
some y2) : Option (Bool)).bind fun j1 =>
(if j1 = true then
some false
else
Loop (S := Int) (X := Bool) (fun s3 =>
(if (decide (s3 < (a0.size : Int))) = true then
((byteA a0 s3).bind fun x5 =>
(if (decide (x5 < (32 : Int))) = true then
some true
else
(byteA a0 s3).bind fun x6 =>
some (decide ((126 : Int) < x6))) : Option (Bool)).bind fun j4 =>
(if j4 = true then
some (Sum.inr false)
else
some (Sum.inl (IntKind.i64.wrap (s3 + (1 : Int)))))
else
some (Sum.inr true))) N (0 : Int))
noncomputable def S130 (N : Nat) : Sig := { inn := ⟨[(0, .val false (.leaf .str))], [], [], 0⟩, out := ⟨[(0, .val false (.leaf .bool))], [], [], 0⟩, fn := fun (x : ByteArray) => M.law_validSource N x }
theorem W130 (N : Nat) : FnOK Tryz.prog 130 (S130 N) := fn_ok (E := ⟨tabs, [(145, S145 N)], (tabcons (W145 N) tabnil), mixed, false, false⟩) (N := N) (a := (.two .nil (.two (.meet ⟨[(10, .val false (.leaf .bool))], [], [], 16⟩ .nil .nil) (.two (.two .nil (.two (.loop ⟨[(13, .val false (.leaf rInt))], [], [], 64⟩ (.two .nil (.two .nil (.two (.two (.two .nil (.meet ⟨[(25, .val false (.leaf .bool))], [], [], 112⟩ .nil .nil)) .nil) .nil)))) .nil)) .nil)))) (sg := S130 N) (c := Tryz.f130.body.getD .skip) (rs := Tryz.f130.results.toList) Tryz.func130 (by kernel_rfl) (by kernel_rfl) rfl rfl rfl rfl (fun x => by kernel_rfl)
noncomputable def M.expr_Arity (N : Nat) (a0 : Int) : Option (Int) :=
((if (decide (a0 = (1 : Int))) = true then
some (decide (a0 = (1 : Int)))
else
(if (decide (a0 = (2 : Int))) = true then
some (decide (a0 = (2 : Int)))
else
(if (decide (a0 = (3 : Int))) = true then
some (decide (a0 = (3 : Int)))
else
(if (decide (a0 = (4 : Int))) = true then
some (decide (a0 = (4 : Int)))
else
(if (decide (a0 = (5 : Int))) = true then
some (decide (a0 = (5 : Int)))
else
(if (decide (a0 = (6 : Int))) = true then
some (decide (a0 = (6 : Int)))
else
(if (decide (a0 = (7 : Int))) = true then
some (decide (a0 = (7 : Int)))
else
(if (decide (a0 = (8 : Int))) = true then
some (decide (a0 = (8 : Int)))
else
(if (decide (a0 = (9 : Int))) = true then
some (decide (a0 = (9 : Int)))
else
(if (decide (a0 = (35 : Int))) = true then
some (decide (a0 = (35 : Int)))
else
(if (decide (a0 = (36 : Int))) = true then
some (decide (a0 = (36 : Int)))
else
(if (decide (a0 = (37 : Int))) = true then
some (decide (a0 = (37 : Int)))
else
(if (decide (a0 = (38 : Int))) = true then
some (decide (a0 = (38 : Int)))
else
some (decide (a0 = (39 : Int)))))))))))))))) : Option (Bool)).bind fun j1 =>
(if j1 = true then
some (0 : Int)
else
((if (decide (a0 = (10 : Int))) = true then
some (decide (a0 = (10 : Int)))
else
(if (decide (a0 = (25 : Int))) = true then
some (decide (a0 = (25 : Int)))
else
(if (decide (a0 = (31 : Int))) = true then
some (decide (a0 = (31 : Int)))
else
(if (decide (a0 = (32 : Int))) = true then
some (decide (a0 = (32 : Int)))
else
(if (decide (a0 = (33 : Int))) = true then
some (decide (a0 = (33 : Int)))
else
some (decide (a0 = (34 : Int)))))))) : Option (Bool)).bind fun j2 =>
(if j2 = true then
some (1 : Int)
else
((if (decide (a0 = (11 : Int))) = true then
some (decide (a0 = (11 : Int)))
else
(if (decide (a0 = (12 : Int))) = true then
some (decide (a0 = (12 : Int)))
else
(if (decide (a0 = (13 : Int))) = true then
some (decide (a0 = (13 : Int)))
else
(if (decide (a0 = (14 : Int))) = true then
some (decide (a0 = (14 : Int)))
else
(if (decide (a0 = (15 : Int))) = true then
some (decide (a0 = (15 : Int)))
else
(if (decide (a0 = (16 : Int))) = true then
some (decide (a0 = (16 : Int)))
else
(if (decide (a0 = (17 : Int))) = true then
some (decide (a0 = (17 : Int)))
else
(if (decide (a0 = (18 : Int))) = true then
some (decide (a0 = (18 : Int)))
else
(if (decide (a0 = (19 : Int))) = true then
some (decide (a0 = (19 : Int)))
else
(if (decide (a0 = (20 : Int))) = true then
some (decide (a0 = (20 : Int)))
else
(if (decide (a0 = (21 : Int))) = true then
some (decide (a0 = (21 : Int)))
else
(if (decide (a0 = (22 : Int))) = true then
some (decide (a0 = (22 : Int)))
else
(if (decide (a0 = (23 : Int))) = true then
some (decide (a0 = (23 : Int)))
else
(if (decide (a0 = (24 : Int))) = true then
some (decide (a0 = (24 : Int)))
else
(if (decide (a0 = (27 : Int))) = true then
some (decide (a0 = (27 : Int)))
else
(if (decide (a0 = (28 : Int))) = true then
some (decide (a0 = (28 : Int)))
else
(if (decide (a0 = (29 : Int))) = true then
some (decide (a0 = (29 : Int)))
else
some (decide (a0 = (30 : Int)))))))))))))))))))) : Option (Bool)).bind fun j3 =>
(if j3 = true then
some (2 : Int)
else
(if (decide (a0 = (26 : Int))) = true then
some (3 : Int)
else
some (-1 : Int)))))
noncomputable def S158 (N : Nat) : Sig := { inn := ⟨[(0, .val false (.leaf rInt))], [], [], 0⟩, out := ⟨[(0, .val false (.leaf rInt))], [], [], 0⟩, fn := fun (x : Int) => M.expr_Arity N x }
theorem W158 (N : Nat) : FnOK Tryz.prog 158 (S158 N) := fn_ok (E := ⟨tabs, [], tabnil, mixed, false, false⟩) (N := N) (a := (.two .nil (.two (.two .nil (.two (.meet ⟨[(4, .val false (.leaf .bool))], [], [], 32⟩ .nil (.two .nil (.meet ⟨[(19, .val false (.leaf .bool))], [], [], 32⟩ .nil (.two .nil (.meet ⟨[(26, .val false (.leaf .bool))], [], [], 32⟩ .nil .nil))))) .nil)) .nil))) (sg := S158 N) (c := Tryz.f158.body.getD .skip) (rs := Tryz.f158.results.toList) Tryz.func158 (by kernel_rfl) (by kernel_rfl) rfl rfl rfl rfl (fun x => by kernel_rfl)
noncomputable def M.expr_structure (N : Nat) (a0 : List rType.den) : Option (Int × Int × List Int) :=
(if (decide ((48 : Int) < (a0.length : Int))) = true then
some ((0 : Int), (4 : Int), ([] : List Int))
else
(if (decide ((a0.length : Int) = (0 : Int))) = true then
some ((0 : Int), (5 : Int), ([] : List Int))
else
(mkL (a0.length : Int) (0 : Int)).bind fun l1 =>
Join (J := (List Int) × List Int) (R := Int × Int × List Int) (Loop (S := Int × (List Int) × List Int) (X := ((List Int) × List Int) ⊕ (Int × Int × List Int)) (fun s3 =>
(if (decide (s3.1 < (a0.length : Int))) = true then
(idx a0 s3.1).bind fun x4 =>
(M.expr_Arity N x4.1).bind fun y5 =>
(if (decide (y5 < (0 : Int))) = true then
some (Sum.inr (Sum.inr (s3.1, (2 : Int), ([] : List Int))))
else
(if (decide ((s3.2.2.length : Int) < y5)) = true then
some (Sum.inr (Sum.inr (s3.1, (5 : Int), ([] : List Int))))
else
(idx s3.2.1 s3.1).bind fun x6 =>
((if (decide ((0 : Int) < y5)) = true then
(idx s3.2.2 (IntKind.i64.wrap ((s3.2.2.length : Int) - y5))).bind fun x8 =>
(idx (setL s3.2.1 s3.1 s3.1) s3.1).bind fun x9 =>
some (setL (setL s3.2.1 s3.1 s3.1) s3.1 x8)
else
some (setL s3.2.1 s3.1 s3.1)) : Option (List Int)).bind fun j7 =>
(cutA s3.2.2 (0 : Int) (IntKind.i64.wrap ((s3.2.2.length : Int) - y5))).bind fun l10 =>
(idx j7 s3.1).bind fun x11 =>
(appA l10 ([x11] : List Int)).bind fun l12 =>
(if (decide ((12 : Int) < (l12.length : Int))) = true then
some (Sum.inr (Sum.inr (s3.1, (16 : Int), ([] : List Int))))
else
some (Sum.inl (IntKind.i64.wrap (s3.1 + (1 : Int)), j7, l12)))))
else
some (Sum.inr (Sum.inl (s3.2.1, s3.2.2))))) N ((0 : Int), l1, ([] : List Int))) fun j2 =>
(if (decide ((1 : Int) < (j2.2.length : Int))) = true then
some ((a0.length : Int), (4 : Int), ([] : List Int))
else
some ((0 : Int), (0 : Int), j2.1))))
noncomputable def S156 (N : Nat) : Sig := { inn := ⟨[(0, .val false (.leaf (.slice rType)))], [], [], 0⟩, out := ⟨[(0, .val false (.own 0)), (1, .val false (.leaf rInt)), (2, .val false (.leaf rInt))], [(0, .own 3 rInt)], [], 1⟩, fn := fun (x : List rType.den) => M.expr_structure N x }
theorem W156 (N : Nat) : FnOK Tryz.prog 156 (S156 N) := fn_ok (E := ⟨tabs, [(158, S158 N)], (tabcons (W158 N) tabnil), mixed, false, false⟩) (N := N) (a := (.two .nil (.two .nil (.two .nil (.two .nil (.two .nil (.join ⟨[(6, .val false (.own 224))], [(176, .own 3 rInt), (224, .own 3 rInt)], [], 226⟩ (.two .nil (.two (.loop ⟨[(6, .val false (.own 272)), (21, .val false (.leaf rInt))], [(176, .own 3 rInt), (272, .own 3 rInt)], [], 274⟩ (.two .nil (.two .nil (.two (.two (.two .nil (.two .nil (.two .nil (.two .nil (.two .nil (.meet ⟨[], [(176, .own 3 rInt)], [], 627⟩ .nil .nil)))))) .nil) .nil)))) .nil)) .nil))))))) (sg := S156 N) (c := Tryz.f156.body.getD .skip) (rs := Tryz.f156.results.toList) Tryz.func156 (by kernel_rfl) (by kernel_rfl) rfl rfl rfl rfl (fun x => by kernel_rfl)
noncomputable def M.expr_UsesN (N : Nat) (a0 : Int) : Option (Bool) :=
((if (decide (a0 = (1 : Int))) = true then
some (decide (a0 = (1 : Int)))
else
(if (decide (a0 = (2 : Int))) = true then
some (decide (a0 = (2 : Int)))
else
(if (decide (a0 = (3 : Int))) = true then
some (decide (a0 = (3 : Int)))
else
(if (decide (a0 = (4 : Int))) = true then
some (decide (a0 = (4 : Int)))
else
(if (decide (a0 = (5 : Int))) = true then
some (decide (a0 = (5 : Int)))
else
(if (decide (a0 = (6 : Int))) = true then
some (decide (a0 = (6 : Int)))
else
(if (decide (a0 = (7 : Int))) = true then
some (decide (a0 = (7 : Int)))
else
(if (decide (a0 = (8 : Int))) = true then
some (decide (a0 = (8 : Int)))
else
(if (decide (a0 = (14 : Int))) = true then
some (decide (a0 = (14 : Int)))
else
(if (decide (a0 = (15 : Int))) = true then
some (decide (a0 = (15 : Int)))
else
(if (decide (a0 = (16 : Int))) = true then
some (decide (a0 = (16 : Int)))
else
(if (decide (a0 = (33 : Int))) = true then
some (decide (a0 = (33 : Int)))
else
(if (decide (a0 = (34 : Int))) = true then
some (decide (a0 = (34 : Int)))
else
(if (decide (a0 = (36 : Int))) = true then
some (decide (a0 = (36 : Int)))
else
(if (decide (a0 = (37 : Int))) = true then
some (decide (a0 = (37 : Int)))
else
(if (decide (a0 = (38 : Int))) = true then
some (decide (a0 = (38 : Int)))
else
some (decide (a0 = (39 : Int))))))))))))))))))) : Option (Bool)).bind fun j1 =>
(if j1 = true then
some true
else
some false)
noncomputable def S157 (N : Nat) : Sig := { inn := ⟨[(0, .val false (.leaf rInt))], [], [], 0⟩, out := ⟨[(0, .val false (.leaf .bool))], [], [], 0⟩, fn := fun (x : Int) => M.expr_UsesN N x }
theorem W157 (N : Nat) : FnOK Tryz.prog 157 (S157 N) := fn_ok (E := ⟨tabs, [], tabnil, mixed, false, false⟩) (N := N) (a := (.two .nil (.two (.two .nil (.two (.meet ⟨[(4, .val false (.leaf .bool))], [], [], 32⟩ .nil .nil) .nil)) .nil))) (sg := S157 N) (c := Tryz.f157.body.getD .skip) (rs := Tryz.f157.results.toList) Tryz.func157 (by kernel_rfl) (by kernel_rfl) rfl rfl rfl rfl (fun x => by kernel_rfl)
noncomputable def M.expr_literalType (N : Nat) (a0 : Int) (a1 : Int) (a2 : rSignature.den) : Option (rType.den × Int) :=
(M.value_Bounds N (a1, (0 : Int)) a2.1).bind fun y1 =>
((if (decide (a0 < y1.1)) = true then
some true
else
some (decide (y1.2 < a0))) : Option (Bool)).bind fun j2 =>
(if j2 = true then
some (((0 : Int), (0 : Int)), (3 : Int))
else
some ((a1, (0 : Int)), (0 : Int)))
noncomputable def S171 (N : Nat) : Sig := { inn := ⟨[(0, .val false (.leaf rInt)), (1, .val false (.leaf rInt)), (2, .val true (.leaf rSignature))], [], [], 0⟩, out := ⟨[(0, .val true (.leaf rType)), (1, .val false (.leaf rInt))], [], [], 0⟩, fn := fun (x : Int × Int × rSignature.den) => M.expr_literalType N x.1 x.2.1 x.2.2 }
theorem W171 (N : Nat) : FnOK Tryz.prog 171 (S171 N) := fn_ok (E := ⟨tabs, [(88, S88 N)], (tabcons (W88 N) tabnil), mixed, false, false⟩) (N := N) (a := (.two .nil (.two .nil (.two (.two .nil (.meet ⟨[(27, .val false (.leaf .bool))], [], [], 256⟩ .nil .nil)) .nil)))) (sg := S171 N) (c := Tryz.f171.body.getD .skip) (rs := Tryz.f171.results.toList) Tryz.func171 (by kernel_rfl) (by kernel_rfl) rfl rfl rfl rfl (fun x => by kernel_rfl)
noncomputable def M.expr_enumType (N : Nat) (a0 : Int) (a1 : rSignature.den) : Option (rType.den × Int) :=
(if (decide (a0 < (0 : Int))) = true then
some (((0 : Int), (0 : Int)), (3 : Int))
else
((if (decide ((a1.1.length : Int) ≤ (IntKind.i64.wrap (Int.tdiv a0 (16 : Int))))) = true then
some true
else
(idx a1.1 (IntKind.i64.wrap (Int.tdiv a0 (16 : Int)))).bind fun x2 =>
some (decide ((x2.2.length : Int) ≤ (Int.tmod a0 (16 : Int))))) : Option (Bool)).bind fun j1 =>
(if j1 = true then
some (((0 : Int), (0 : Int)), (6 : Int))
else
some (((6 : Int), IntKind.i64.wrap (Int.tdiv a0 (16 : Int))), (0 : Int))))
noncomputable def S172 (N : Nat) : Sig := { inn := ⟨[(0, .val false (.leaf rInt)), (1, .val true (.leaf rSignature))], [], [], 0⟩, out := ⟨[(0, .val true (.leaf rType)), (1, .val false (.leaf rInt))], [], [], 0⟩, fn := fun (x : Int × rSignature.den) => M.expr_enumType N x.1 x.2 }
theorem W172 (N : Nat) : FnOK Tryz.prog 172 (S172 N) := fn_ok (E := ⟨tabs, [], tabnil, mixed, false, false⟩) (N := N) (a := (.two .nil (.two .nil (.two .nil (.two (.meet ⟨[(30, .val false (.leaf .bool))], [], [], 176⟩ .nil .nil) .nil))))) (sg := S172 N) (c := Tryz.f172.body.getD .skip) (rs := Tryz.f172.results.toList) Tryz.func172 (by kernel_rfl) (by kernel_rfl) rfl rfl rfl rfl (fun x => by kernel_rfl)
noncomputable def M.expr_listedType (N : Nat) (a0 : Int) (a1 : List rType.den) (a2 : rSignature.den) : Option (rType.den × Int) :=
((if (decide (a0 < (0 : Int))) = true then
some true
else
some (decide ((a1.length : Int) ≤ a0))) : Option (Bool)).bind fun j1 =>
(if j1 = true then
some (((0 : Int), (0 : Int)), (6 : Int))
else
(idx a1 a0).bind fun x2 =>
(M.value_ValidType N x2 a2.1).bind fun y3 =>
(if (!y3) = true then
some (((0 : Int), (0 : Int)), (8 : Int))
else
(idx a1 a0).bind fun x4 =>
some (x4, (0 : Int))))
noncomputable def S173 (N : Nat) : Sig := { inn := ⟨[(0, .val false (.leaf rInt)), (1, .val false (.leaf (.slice rType))), (2, .val true (.leaf rSignature))], [], [], 0⟩, out := ⟨[(0, .val true (.leaf rType)), (1, .val false (.leaf rInt))], [], [], 0⟩, fn := fun (x : Int × (List rType.den) × rSignature.den) => M.expr_listedType N x.1 x.2.1 x.2.2 }
theorem W173 (N : Nat) : FnOK Tryz.prog 173 (S173 N) := fn_ok (E := ⟨tabs, [(87, S87 N)], (tabcons (W87 N) tabnil), mixed, false, false⟩) (N := N) (a := (.two .nil (.two (.meet ⟨[(15, .val false (.leaf .bool))], [], [], 48⟩ .nil .nil) .nil))) (sg := S173 N) (c := Tryz.f173.body.getD .skip) (rs := Tryz.f173.results.toList) Tryz.func173 (by kernel_rfl) (by kernel_rfl) rfl rfl rfl rfl (fun x => by kernel_rfl)
noncomputable def M.expr_validMode (N : Nat) (a0 : Int) : Option (Bool) :=
((if (decide ((0 : Int) ≤ a0)) = true then
some (decide (a0 ≤ (5 : Int)))
else
some false) : Option (Bool)).bind fun j1 =>
some j1
noncomputable def S176 (N : Nat) : Sig := { inn := ⟨[(0, .val false (.leaf rInt))], [], [], 0⟩, out := ⟨[(0, .val false (.leaf .bool))], [], [], 0⟩, fn := fun (x : Int) => M.expr_validMode N x }
theorem W176 (N : Nat) : FnOK Tryz.prog 176 (S176 N) := fn_ok (E := ⟨tabs, [], tabnil, mixed, false, false⟩) (N := N) (a := (.two .nil (.meet ⟨[(2, .val false (.leaf .bool))], [], [], 16⟩ .nil .nil))) (sg := S176 N) (c := Tryz.f176.body.getD .skip) (rs := Tryz.f176.results.toList) Tryz.func176 (by kernel_rfl) (by kernel_rfl) rfl rfl rfl rfl (fun x => by kernel_rfl)
noncomputable def M.expr_tableType (N : Nat) (a0 : rType.den) (a1 : rType.den) (a2 : rSignature.den) : Option (rType.den × Int) :=
Join (J := Int) (R := rType.den × Int) ((if (decide (a0.1 = (34 : Int))) = true then
((if (decide (a0.2 < (0 : Int))) = true then
some true
else
(M.expr_validMode N (Int.tmod a0.2 (8 : Int))).bind fun y3 =>
some (!y3)) : Option (Bool)).bind fun j2 =>
(if j2 = true then
some (Sum.inr (((0 : Int), (0 : Int)), (3 : Int)))
else
some (Sum.inl (IntKind.i64.wrap (Int.tdiv a0.2 (8 : Int)))))
else
some (Sum.inl a0.2))) fun j1 =>
((if (decide (j1 < (0 : Int))) = true then
some true
else
some (decide ((a2.2.1.length : Int) ≤ j1))) : Option (Bool)).bind fun j4 =>
(if j4 = true then
some (((0 : Int), (0 : Int)), (6 : Int))
else
(idx a2.2.1 j1).bind fun x5 =>
(idx a2.2.1 j1).bind fun x6 =>
((M.value_ValidType N x5.2.1 a2.1).bind fun y8 =>
(if (!y8) = true then
some true
else
(M.value_ValidType N x6.2.2.1 a2.1).bind fun y9 =>
(if (!y9) = true then
some true
else
some (!(eqR rType a1 x5.2.1)))) : Option (Bool)).bind fun j7 =>
(if j7 = true then
some (((0 : Int), (0 : Int)), (8 : Int))
else
(if (decide (a0.1 = (34 : Int))) = true then
((if (!decide (x5.2.1.1 = (3 : Int))) = true then
some true
else
some (!decide (x6.2.2.1.1 = (4 : Int)))) : Option (Bool)).bind fun j10 =>
(if j10 = true then
some (((0 : Int), (0 : Int)), (8 : Int))
else
some (x5.2.1, (0 : Int)))
else
some (x6.2.2.1, (0 : Int)))))
noncomputable def S174 (N : Nat) : Sig := { inn := ⟨[(0, .val true (.leaf rType)), (1, .val true (.leaf rType)), (2, .val true (.leaf rSignature))], [], [], 0⟩, out := ⟨[(0, .val true (.leaf rType)), (1, .val false (.leaf rInt))], [], [], 0⟩, fn := fun (x : rType.den × rType.den × rSignature.den) => M.expr_tableType N x.1 x.2.1 x.2.2 }
theorem W174 (N : Nat) : FnOK Tryz.prog 174 (S174 N) := fn_ok (E := ⟨tabs, [(87, S87 N), (176, S176 N)], (tabcons (W87 N) (tabcons (W176 N) tabnil)), mixed, false, false⟩) (N := N) (a := (.two .nil (.two .nil (.join ⟨[(8, .val false (.leaf rInt))], [], [], 128⟩ (.two .nil (.two (.two (.meet ⟨[(25, .val false (.leaf .bool))], [], [], 176⟩ .nil .nil) .nil) .nil)) (.two (.meet ⟨[(38, .val false (.leaf .bool))], [], [], 128⟩ .nil .nil) (.two .nil (.two (.meet ⟨[(68, .val false (.leaf .bool))], [], [], 384⟩ .nil .nil) (.two (.two .nil (.two (.two (.meet ⟨[(80, .val false (.leaf .bool))], [], [], 432⟩ .nil .nil) .nil) .nil)) .nil)))))))) (sg := S174 N) (c := Tryz.f174.body.getD .skip) (rs := Tryz.f174.results.toList) Tryz.func174 (by kernel_rfl) (by kernel_rfl) rfl rfl rfl rfl (fun x => by kernel_rfl)
noncomputable def M.expr_isNumber (N : Nat) (a0 : Int) : Option (Bool) :=
((if (decide (a0 = (2 : Int))) = true then
some true
else
(if (decide (a0 = (3 : Int))) = true then
some true
else
some (decide (a0 = (4 : Int))))) : Option (Bool)).bind fun j1 =>
some j1
noncomputable def S189 (N : Nat) : Sig := { inn := ⟨[(0, .val false (.leaf rInt))], [], [], 0⟩, out := ⟨[(0, .val false (.leaf .bool))], [], [], 0⟩, fn := fun (x : Int) => M.expr_isNumber N x }
theorem W189 (N : Nat) : FnOK Tryz.prog 189 (S189 N) := fn_ok (E := ⟨tabs, [], tabnil, mixed, false, false⟩) (N := N) (a := (.two .nil (.meet ⟨[(2, .val false (.leaf .bool))], [], [], 16⟩ .nil .nil))) (sg := S189 N) (c := Tryz.f189.body.getD .skip) (rs := Tryz.f189.results.toList) Tryz.func189 (by kernel_rfl) (by kernel_rfl) rfl rfl rfl rfl (fun x => by kernel_rfl)
noncomputable def M.expr_memberType (N : Nat) (a0 : rType.den) (a1 : rSignature.den) : Option (rType.den × Int) :=
(if (!a1.2.2.2.2.2) = true then
some (((0 : Int), (0 : Int)), (6 : Int))
else
(if (decide (a0.1 = (35 : Int))) = true then
some (((2 : Int), (0 : Int)), (0 : Int))
else
(M.expr_listedType N a0.2 a1.2.2.2.2.1 a1).bind fun y1 =>
(if (!decide (y1.2 = (0 : Int))) = true then
some (((0 : Int), (0 : Int)), y1.2)
else
((if (decide (a0.1 = (36 : Int))) = true then
(if (decide (y1.1.1 = (2 : Int))) = true then
some true
else
some (decide (y1.1.1 = (3 : Int))))
else
((if (decide (a0.1 = (37 : Int))) = true then
some (decide (a0.1 = (37 : Int)))
else
some (decide (a0.1 = (38 : Int)))) : Option (Bool)).bind fun j3 =>
(if j3 = true then
some (decide (y1.1.1 = (1 : Int)))
else
(if (decide (a0.1 = (39 : Int))) = true then
(M.expr_isNumber N y1.1.1).bind fun y4 =>
(if y4 = true then
some true
else
some (decide (y1.1.1 = (5 : Int))))
else
some false))) : Option (Bool)).bind fun j2 =>
(if (!j2) = true then
some (((0 : Int), (0 : Int)), (8 : Int))
else
some (y1.1, (0 : Int))))))
noncomputable def S175 (N : Nat) : Sig := { inn := ⟨[(0, .val true (.leaf rType)), (1, .val true (.leaf rSignature))], [], [], 0⟩, out := ⟨[(0, .val true (.leaf rType)), (1, .val false (.leaf rInt))], [], [], 0⟩, fn := fun (x : rType.den × rSignature.den) => M.expr_memberType N x.1 x.2 }
theorem W175 (N : Nat) : FnOK Tryz.prog 175 (S175 N) := fn_ok (E := ⟨tabs, [(173, S173 N), (189, S189 N)], (tabcons (W173 N) (tabcons (W189 N) tabnil)), mixed, false, false⟩) (N := N) (a := (.two .nil (.two .nil (.two .nil (.two .nil (.two .nil (.two .nil (.two (.two .nil (.meet ⟨[(8, .val false (.leaf .bool))], [], [], 432⟩ (.two .nil (.two .nil (.meet ⟨[(42, .val false (.leaf .bool))], [], [], 464⟩ .nil .nil))) .nil)) .nil)))))))) (sg := S175 N) (c := Tryz.f175.body.getD .skip) (rs := Tryz.f175.results.toList) Tryz.func175 (by kernel_rfl) (by kernel_rfl) rfl rfl rfl rfl (fun x => by kernel_rfl)
noncomputable def M.expr_productType (N : Nat) (a0 : Int) (a1 : Int) (a2 : Int) : Option (rType.den × Bool) :=
(if (decide (a0 = (14 : Int))) = true then
((if (decide (a2 = (4 : Int))) = true then
(if (decide (a1 = (3 : Int))) = true then
some (true, (a1, (0 : Int)))
else
some (decide (a1 = (4 : Int)), (a1, (0 : Int))))
else
some (false, (a1, (0 : Int)))) : Option (Bool × rType.den)).bind fun j1 =>
some (j1.2, j1.1)
else
(if (decide (a2 = (2 : Int))) = true then
((if (decide (a1 = (2 : Int))) = true then
some (true, (a1, (0 : Int)))
else
some (decide (a1 = (3 : Int)), (a1, (0 : Int)))) : Option (Bool × rType.den)).bind fun j2 =>
some (j2.2, j2.1)
else
((if (decide (a0 = (15 : Int))) = true then
(if (decide (a1 = (3 : Int))) = true then
some (decide (a2 = (3 : Int)))
else
some false)
else
some false) : Option (Bool)).bind fun j3 =>
(if j3 = true then
some (((4 : Int), (0 : Int)), true)
else
some (((0 : Int), (0 : Int)), false))))
noncomputable def S190 (N : Nat) : Sig := { inn := ⟨[(0, .val false (.leaf rInt)), (1, .val false (.leaf rInt)), (2, .val false (.leaf rInt))], [], [], 0⟩, out := ⟨[(0, .val true (.leaf rType)), (1, .val false (.leaf .bool))], [], [], 0⟩, fn := fun (x : Int × Int × Int) => M.expr_productType N x.1 x.2.1 x.2.2 }
theorem W190 (N : Nat) : FnOK Tryz.prog 190 (S190 N) := fn_ok (E := ⟨tabs, [], tabnil, mixed, false, false⟩) (N := N) (a := (.two .nil (.two (.two (.two .nil (.two (.meet ⟨[(7, .val false (.leaf .bool))], [(0, .box 43 (.leaf rType))], [], 81⟩ .nil .nil) (.two .nil (.two (.meet ⟨[(7, .val false (.leaf .bool))], [(0, .box 43 (.leaf rType))], [], 129⟩ .nil .nil) (.meet ⟨[(34, .val false (.leaf .bool))], [], [], 128⟩ .nil .nil))))) .nil) .nil))) (sg := S190 N) (c := Tryz.f190.body.getD .skip) (rs := Tryz.f190.results.toList) Tryz.func190 (by kernel_rfl) (by kernel_rfl) rfl rfl rfl rfl (fun x => by kernel_rfl)
noncomputable def M.expr_resultType (N : Nat) (a0 : Int) (a1 : List rType.den) : Option (rType.den × Bool) :=
(if (decide (a0 = (10 : Int))) = true then
(idx a1 (0 : Int)).bind fun x1 =>
(idx a1 (0 : Int)).bind fun x2 =>
(M.expr_isNumber N x2.1).bind fun y3 =>
some (x1, y3)
else
(if (decide (a0 = (25 : Int))) = true then
(idx a1 (0 : Int)).bind fun x4 =>
some (((1 : Int), (0 : Int)), decide (x4.1 = (1 : Int)))
else
((if (decide (a0 = (11 : Int))) = true then
some (decide (a0 = (11 : Int)))
else
some (decide (a0 = (12 : Int)))) : Option (Bool)).bind fun j5 =>
(if j5 = true then
((idx a1 (0 : Int)).bind fun x7 =>
(idx a1 (0 : Int)).bind fun x8 =>
(idx a1 (1 : Int)).bind fun x9 =>
(if (eqR rType x8 x9) = true then
(idx a1 (0 : Int)).bind fun x10 =>
(M.expr_isNumber N x10.1).bind fun y11 =>
some (y11, x7)
else
some (false, x7)) : Option (Bool × rType.den)).bind fun j6 =>
some (j6.2, j6.1)
else
((if (decide (a0 = (13 : Int))) = true then
some (decide (a0 = (13 : Int)))
else
(if (decide (a0 = (14 : Int))) = true then
some (decide (a0 = (14 : Int)))
else
some (decide (a0 = (15 : Int))))) : Option (Bool)).bind fun j12 =>
(if j12 = true then
(idx a1 (0 : Int)).bind fun x13 =>
(idx a1 (1 : Int)).bind fun x14 =>
(M.expr_productType N a0 x13.1 x14.1).bind fun y15 =>
some (y15.1, y15.2)
else
(if (decide (a0 = (16 : Int))) = true then
((idx a1 (0 : Int)).bind fun x17 =>
(idx a1 (0 : Int)).bind fun x18 =>
(if (decide (x18.1 = (3 : Int))) = true then
(idx a1 (1 : Int)).bind fun x19 =>
some (decide (x19.1 = (3 : Int)), x17)
else
some (false, x17)) : Option (Bool × rType.den)).bind fun j16 =>
some (j16.2, j16.1)
else
((if (decide (a0 = (17 : Int))) = true then
some (decide (a0 = (17 : Int)))
else
some (decide (a0 = (18 : Int)))) : Option (Bool)).bind fun j20 =>
(if j20 = true then
((idx a1 (0 : Int)).bind fun x22 =>
(idx a1 (0 : Int)).bind fun x23 =>
(idx a1 (1 : Int)).bind fun x24 =>
(if (eqR rType x23 x24) = true then
(idx a1 (0 : Int)).bind fun x25 =>
(M.expr_isNumber N x25.1).bind fun y26 =>
(if y26 = true then
some (true, x22)
else
(idx a1 (0 : Int)).bind fun x27 =>
some (decide (x27.1 = (5 : Int)), x22))
else
some (false, x22)) : Option (Bool × rType.den)).bind fun j21 =>
some (j21.2, j21.1)
else
((if (decide (a0 = (19 : Int))) = true then
some (decide (a0 = (19 : Int)))
else
some (decide (a0 = (20 : Int)))) : Option (Bool)).bind fun j28 =>
(if j28 = true then
(idx a1 (0 : Int)).bind fun x29 =>
(idx a1 (1 : Int)).bind fun x30 =>
some (((1 : Int), (0 : Int)), (eqR rType x29 x30))
else
((if (decide (a0 = (21 : Int))) = true then
some (decide (a0 = (21 : Int)))
else
some (decide (a0 = (22 : Int)))) : Option (Bool)).bind fun j31 =>
(if j31 = true then
((idx a1 (0 : Int)).bind fun x33 =>
(idx a1 (1 : Int)).bind fun x34 =>
(if (eqR rType x33 x34) = true then
(idx a1 (0 : Int)).bind fun x35 =>
(M.expr_isNumber N x35.1).bind fun y36 =>
(if y36 = true then
some (true, ((1 : Int), (0 : Int)))
else
(idx a1 (0 : Int)).bind fun x37 =>
some (decide (x37.1 = (5 : Int)), ((1 : Int), (0 : Int))))
else
some (false, ((1 : Int), (0 : Int)))) : Option (Bool × rType.den)).bind fun j32 =>
some (j32.2, j32.1)
else
((if (decide (a0 = (23 : Int))) = true then
some (decide (a0 = (23 : Int)))
else
some (decide (a0 = (24 : Int)))) : Option (Bool)).bind fun j38 =>
(if j38 = true then
((idx a1 (0 : Int)).bind fun x40 =>
(if (decide (x40.1 = (1 : Int))) = true then
(idx a1 (1 : Int)).bind fun x41 =>
some (decide (x41.1 = (1 : Int)), ((1 : Int), (0 : Int)))
else
some (false, ((1 : Int), (0 : Int)))) : Option (Bool × rType.den)).bind fun j39 =>
some (j39.2, j39.1)
else
(if (decide (a0 = (26 : Int))) = true then
((idx a1 (1 : Int)).bind fun x43 =>
(idx a1 (0 : Int)).bind fun x44 =>
(if (decide (x44.1 = (1 : Int))) = true then
(idx a1 (1 : Int)).bind fun x45 =>
(idx a1 (2 : Int)).bind fun x46 =>
some ((eqR rType x45 x46), x43)
else
some (false, x43)) : Option (Bool × rType.den)).bind fun j42 =>
some (j42.2, j42.1)
else
((if (decide (a0 = (27 : Int))) = true then
some (decide (a0 = (27 : Int)))
else
some (decide (a0 = (28 : Int)))) : Option (Bool)).bind fun j47 =>
(if j47 = true then
((idx a1 (0 : Int)).bind fun x49 =>
(idx a1 (0 : Int)).bind fun x50 =>
(if (decide (x50.1 = (5 : Int))) = true then
(idx a1 (1 : Int)).bind fun x51 =>
some (decide (x51.1 = (2 : Int)), x49)
else
some (false, x49)) : Option (Bool × rType.den)).bind fun j48 =>
some (j48.2, j48.1)
else
((if (decide (a0 = (29 : Int))) = true then
some (decide (a0 = (29 : Int)))
else
some (decide (a0 = (30 : Int)))) : Option (Bool)).bind fun j52 =>
(if j52 = true then
((idx a1 (0 : Int)).bind fun x54 =>
(if (decide (x54.1 = (5 : Int))) = true then
(idx a1 (1 : Int)).bind fun x55 =>
some (decide (x55.1 = (5 : Int)), ((2 : Int), (0 : Int)))
else
some (false, ((2 : Int), (0 : Int)))) : Option (Bool × rType.den)).bind fun j53 =>
some (j53.2, j53.1)
else
((if (decide (a0 = (31 : Int))) = true then
some (decide (a0 = (31 : Int)))
else
some (decide (a0 = (32 : Int)))) : Option (Bool)).bind fun j56 =>
(if j56 = true then
(idx a1 (0 : Int)).bind fun x57 =>
some (((2 : Int), (0 : Int)), decide (x57.1 = (5 : Int)))
else
some (((0 : Int), (0 : Int)), false))))))))))))))
noncomputable def S177 (N : Nat) : Sig := { inn := ⟨[(0, .val false (.leaf rInt)), (1, .val false (.leaf (.slice rType)))], [], [], 0⟩, out := ⟨[(0, .val true (.leaf rType)), (1, .val false (.leaf .bool))], [], [], 0⟩, fn := fun (x : Int × List rType.den) => M.expr_resultType N x.1 x.2 }
theorem W177 (N : Nat) : FnOK Tryz.prog 177 (S177 N) := fn_ok (E := ⟨tabs, [(189, S189 N), (190, S190 N)], (tabcons (W189 N) (tabcons (W190 N) tabnil)), mixed, false, false⟩) (N := N) (a := (.two .nil (.two .nil (.two (.two .nil (.two (.two .nil (.two .nil (.two .nil (.two .nil (.meet ⟨[(27, .val false (.leaf .bool))], [], [], 160⟩ .nil (.two (.meet ⟨[(5, .val false (.leaf .bool))], [(0, .box 43 (.leaf rType))], [], 161⟩ .nil .nil) (.meet ⟨[(47, .val false (.leaf .bool))], [], [], 160⟩ .nil (.two .nil (.two .nil (.two (.meet ⟨[(5, .val false (.leaf .bool))], [(0, .box 43 (.leaf rType))], [], 193⟩ .nil .nil) (.meet ⟨[(80, .val false (.leaf .bool))], [], [], 192⟩ .nil (.two (.meet ⟨[(5, .val false (.leaf .bool))], [(0, .box 43 (.leaf rType))], [], 193⟩ .nil .nil) (.meet ⟨[(107, .val false (.leaf .bool))], [], [], 192⟩ .nil (.two .nil (.meet ⟨[(118, .val false (.leaf .bool))], [], [], 192⟩ .nil (.two (.meet ⟨[(5, .val false (.leaf .bool))], [(0, .box 43 (.leaf rType))], [], 193⟩ .nil .nil) (.meet ⟨[(143, .val false (.leaf .bool))], [], [], 192⟩ .nil (.two (.meet ⟨[(5, .val false (.leaf .bool))], [(0, .box 43 (.leaf rType))], [], 193⟩ .nil .nil) (.two .nil (.two (.meet ⟨[(5, .val false (.leaf .bool))], [(0, .box 43 (.leaf rType))], [], 225⟩ .nil .nil) (.meet ⟨[(178, .val false (.leaf .bool))], [], [], 224⟩ .nil (.two (.meet ⟨[(5, .val false (.leaf .bool))], [(0, .box 43 (.leaf rType))], [], 225⟩ .nil .nil) (.meet ⟨[(196, .val false (.leaf .bool))], [], [], 224⟩ .nil (.two (.meet ⟨[(5, .val false (.leaf .bool))], [(0, .box 43 (.leaf rType))], [], 225⟩ .nil .nil) (.meet ⟨[(212, .val false (.leaf .bool))], [], [], 224⟩ .nil .nil))))))))))))))))))))))))) .nil)) .nil)))) (sg := S177 N) (c := Tryz.f177.body.getD .skip) (rs := Tryz.f177.results.toList) Tryz.func177 (by kernel_rfl) (by kernel_rfl) rfl rfl rfl rfl (fun x => by kernel_rfl)
noncomputable def M.expr_nodeType (N : Nat) (a0 : rType.den) (a1 : List rType.den) (a2 : rSignature.den) : Option (rType.den × Int) :=
Join (J := Unit) (R := rType.den × Int) ((if (decide (a0.1 = (1 : Int))) = true then
(M.expr_literalType N a0.2 (1 : Int) a2).bind fun y2 =>
some (Sum.inr (y2.1, y2.2))
else
(if (decide (a0.1 = (2 : Int))) = true then
(M.expr_literalType N a0.2 (2 : Int) a2).bind fun y3 =>
some (Sum.inr (y3.1, y3.2))
else
(if (decide (a0.1 = (3 : Int))) = true then
(M.expr_literalType N a0.2 (3 : Int) a2).bind fun y4 =>
some (Sum.inr (y4.1, y4.2))
else
(if (decide (a0.1 = (4 : Int))) = true then
(M.expr_literalType N a0.2 (4 : Int) a2).bind fun y5 =>
some (Sum.inr (y5.1, y5.2))
else
(if (decide (a0.1 = (5 : Int))) = true then
(M.expr_literalType N a0.2 (5 : Int) a2).bind fun y6 =>
some (Sum.inr (y6.1, y6.2))
else
(if (decide (a0.1 = (6 : Int))) = true then
(M.expr_enumType N a0.2 a2).bind fun y7 =>
some (Sum.inr (y7.1, y7.2))
else
(if (decide (a0.1 = (7 : Int))) = true then
(M.expr_listedType N a0.2 a2.2.2.1 a2).bind fun y8 =>
some (Sum.inr (y8.1, y8.2))
else
(if (decide (a0.1 = (8 : Int))) = true then
(M.expr_listedType N a0.2 a2.2.2.2.1 a2).bind fun y9 =>
some (Sum.inr (y9.1, y9.2))
else
(if (decide (a0.1 = (9 : Int))) = true then
some (Sum.inr (((5 : Int), (0 : Int)), (0 : Int)))
else
((if (decide (a0.1 = (33 : Int))) = true then
some (decide (a0.1 = (33 : Int)))
else
some (decide (a0.1 = (34 : Int)))) : Option (Bool)).bind fun j10 =>
(if j10 = true then
(idx a1 (0 : Int)).bind fun x11 =>
(M.expr_tableType N a0 x11 a2).bind fun y12 =>
some (Sum.inr (y12.1, y12.2))
else
((if (decide (a0.1 = (35 : Int))) = true then
some (decide (a0.1 = (35 : Int)))
else
(if (decide (a0.1 = (36 : Int))) = true then
some (decide (a0.1 = (36 : Int)))
else
(if (decide (a0.1 = (37 : Int))) = true then
some (decide (a0.1 = (37 : Int)))
else
(if (decide (a0.1 = (38 : Int))) = true then
some (decide (a0.1 = (38 : Int)))
else
some (decide (a0.1 = (39 : Int))))))) : Option (Bool)).bind fun j13 =>
(if j13 = true then
(M.expr_memberType N a0 a2).bind fun y14 =>
some (Sum.inr (y14.1, y14.2))
else
((if (decide (a0.1 = (14 : Int))) = true then
some (decide (a0.1 = (14 : Int)))
else
(if (decide (a0.1 = (15 : Int))) = true then
some (decide (a0.1 = (15 : Int)))
else
some (decide (a0.1 = (16 : Int))))) : Option (Bool)).bind fun j15 =>
(if j15 = true then
(M.expr_validMode N a0.2).bind fun y16 =>
(if (!y16) = true then
some (Sum.inr (((0 : Int), (0 : Int)), (3 : Int)))
else
some (Sum.inl ()))
else
some (Sum.inl ())))))))))))))) fun j1 =>
(M.expr_resultType N a0.1 a1).bind fun y17 =>
(if (!y17.2) = true then
some (((0 : Int), (0 : Int)), (8 : Int))
else
some (y17.1, (0 : Int)))
noncomputable def S159 (N : Nat) : Sig := { inn := ⟨[(0, .val true (.leaf rType)), (1, .val false (.leaf (.slice rType))), (2, .val true (.leaf rSignature))], [], [], 0⟩, out := ⟨[(0, .val true (.leaf rType)), (1, .val false (.leaf rInt))], [], [], 0⟩, fn := fun (x : rType.den × (List rType.den) × rSignature.den) => M.expr_nodeType N x.1 x.2.1 x.2.2 }
theorem W159 (N : Nat) : FnOK Tryz.prog 159 (S159 N) := fn_ok (E := ⟨tabs, [(171, S171 N), (172, S172 N), (173, S173 N), (174, S174 N), (175, S175 N), (176, S176 N), (177, S177 N)], (tabcons (W171 N) (tabcons (W172 N) (tabcons (W173 N) (tabcons (W174 N) (tabcons (W175 N) (tabcons (W176 N) (tabcons (W177 N) tabnil))))))), mixed, false, false⟩) (N := N) (a := (.two .nil (.two (.two .nil (.join ⟨[], [], [], 96⟩ (.two .nil (.two .nil (.two .nil (.two .nil (.two .nil (.two .nil (.two .nil (.two .nil (.two .nil (.two .nil (.two .nil (.two .nil (.two .nil (.two .nil (.two .nil (.two .nil (.two .nil (.two .nil (.meet ⟨[(83, .val false (.leaf .bool))], [], [], 384⟩ .nil (.two .nil (.meet ⟨[(94, .val false (.leaf .bool))], [], [], 384⟩ .nil (.two .nil (.meet ⟨[(105, .val false (.leaf .bool))], [], [], 384⟩ .nil .nil))))))))))))))))))))))) .nil)) .nil))) (sg := S159 N) (c := Tryz.f159.body.getD .skip) (rs := Tryz.f159.results.toList) Tryz.func159 (by kernel_rfl) (by kernel_rfl) rfl rfl rfl rfl (fun x => by kernel_rfl)
noncomputable def M.expr_TypeOf (N : Nat) (a0 : List rType.den) (a1 : rSignature.den) : Option (rType.den × Int × Int) :=
(M.expr_structure N a0).bind fun y1 =>
(if (!decide (y1.2.1 = (0 : Int))) = true then
some (((0 : Int), (0 : Int)), y1.1, y1.2.1)
else
Join (J := List rType.den) (R := rType.den × Int × Int) (Loop (S := Int × List rType.den) (X := (List rType.den) ⊕ (rType.den × Int × Int)) (fun s3 =>
(if (decide (s3.1 < (a0.length : Int))) = true then
(idx a0 s3.1).bind fun x4 =>
((if (!decide (x4.2 = (0 : Int))) = true then
(M.expr_UsesN N x4.1).bind fun y6 =>
some (!y6)
else
some false) : Option (Bool)).bind fun j5 =>
(if j5 = true then
some (Sum.inr (Sum.inr (((0 : Int), (0 : Int)), s3.1, (2 : Int))))
else
(M.expr_Arity N x4.1).bind fun y7 =>
(cutA s3.2 (IntKind.i64.wrap ((s3.2.length : Int) - y7)) (s3.2.length : Int)).bind fun l8 =>
(M.expr_nodeType N x4 l8 a1).bind fun y9 =>
(if (!decide (y9.2 = (0 : Int))) = true then
some (Sum.inr (Sum.inr (((0 : Int), (0 : Int)), s3.1, y9.2)))
else
(cutA s3.2 (0 : Int) (IntKind.i64.wrap ((s3.2.length : Int) - y7))).bind fun l10 =>
(appA l10 ([y9.1] : List rType.den)).bind fun l11 =>
some (Sum.inl (IntKind.i64.wrap (s3.1 + (1 : Int)), l11))))
else
some (Sum.inr (Sum.inl s3.2)))) N ((0 : Int), ([] : List rType.den))) fun j2 =>
(idx j2 (0 : Int)).bind fun x12 =>
some (x12, (0 : Int), (0 : Int)))
noncomputable def S146 (N : Nat) : Sig := { inn := ⟨[(0, .val false (.leaf (.slice rType))), (1, .val true (.leaf rSignature))], [], [], 0⟩, out := ⟨[(0, .val true (.leaf rType)), (1, .val false (.leaf rInt)), (2, .val false (.leaf rInt))], [], [], 0⟩, fn := fun (x : (List rType.den) × rSignature.den) => M.expr_TypeOf N x.1 x.2 }
theorem W146 (N : Nat) : FnOK Tryz.prog 146 (S146 N) := fn_ok (E := ⟨tabs, [(156, S156 N), (157, S157 N), (158, S158 N), (159, S159 N)], (tabcons (W156 N) (tabcons (W157 N) (tabcons (W158 N) (tabcons (W159 N) tabnil)))), mixed, false, false⟩) (N := N) (a := (.two .nil (.two .nil (.two .nil (.two .nil (.join ⟨[(10, .val false (.own 256))], [(256, .own 43 rType)], [], 257⟩ (.two .nil (.two (.loop ⟨[(10, .val false (.own 304)), (29, .val false (.leaf rInt))], [(304, .own 43 rType)], [], 305⟩ (.two .nil (.two .nil (.two (.two (.two .nil (.two (.meet ⟨[(42, .val false (.leaf .bool))], [], [], 417⟩ .nil .nil) .nil)) .nil) .nil)))) .nil)) .nil)))))) (sg := S146 N) (c := Tryz.f146.body.getD .skip) (rs := Tryz.f146.results.toList) Tryz.func146 (by kernel_rfl) (by kernel_rfl) rfl rfl rfl rfl (fun x => by kernel_rfl)
noncomputable def M.law_checkType (N : Nat) (a0 : List rType.den) (a1 : rSignature.den) (a2 : rType.den) : Option (Int) :=
(M.expr_TypeOf N a0 a1).bind fun y1 =>
(if (!decide (y1.2.2 = (0 : Int))) = true then
some y1.2.2
else
(if (!(eqR rType y1.1 a2)) = true then
some (8 : Int)
else
some (0 : Int)))
noncomputable def S131 (N : Nat) : Sig := { inn := ⟨[(0, .val false (.leaf (.slice rType))), (1, .val true (.leaf rSignature)), (2, .val true (.leaf rType))], [], [], 0⟩, out := ⟨[(0, .val false (.leaf rInt))], [], [], 0⟩, fn := fun (x : (List rType.den) × rSignature.den × rType.den) => M.law_checkType N x.1 x.2.1 x.2.2 }
theorem W131 (N : Nat) : FnOK Tryz.prog 131 (S131 N) := fn_ok (E := ⟨tabs, [(146, S146 N)], (tabcons (W146 N) tabnil), mixed, false, false⟩) (N := N) (a := .nil) (sg := S131 N) (c := Tryz.f131.body.getD .skip) (rs := Tryz.f131.results.toList) Tryz.func131 (by kernel_rfl) (by kernel_rfl) rfl rfl rfl rfl (fun x => by kernel_rfl)
noncomputable def M.law_checkRule_c1_v1 (N : Nat) (a0 : rRule.den) (a1 : rRule.den) : Option (Bool × rRule.den) :=
some (decide (a0.1 = a1.1), a1)
noncomputable def S129v1 (N : Nat) : Sig := { inn := ⟨[(0, .val true (.leaf rRule)), (1, .ptr 0 [] 0)], [(0, .box 63 (.leaf rRule))], [], 1⟩, out := ⟨[(0, .val false (.leaf .bool))], [(0, .box 63 (.leaf rRule))], [], 2⟩, fn := fun (x : rRule.den × rRule.den) => M.law_checkRule_c1_v1 N x.1 x.2 }
theorem W129v1 (N : Nat) : FnOK Tryz.prog 129 (S129v1 N) := fn_ok (E := ⟨tabs, [], tabnil, mixed, false, false⟩) (N := N) (a := .nil) (sg := S129v1 N) (c := Tryz.f129.body.getD .skip) (rs := Tryz.f129.results.toList) Tryz.func129 (by kernel_rfl) (by kernel_rfl) rfl rfl rfl rfl (fun x => by kernel_rfl)
noncomputable def M.slices_IndexFunc_guerdon_api_Rule_guerdon_api_Rule_v1 (N : Nat) (a0 : List rRule.den) (a1 : rRule.den) : Option (Int × rRule.den) :=
Loop (S := Int × rRule.den) (X := Int × rRule.den) (fun s1 =>
(if (decide (s1.1 < (a0.length : Int))) = true then
(idx a0 s1.1).bind fun x2 =>
(M.law_checkRule_c1_v1 N x2 s1.2).bind fun y3 =>
(if y3.1 = true then
some (Sum.inr (s1.1, y3.2))
else
some (Sum.inl (IntKind.i64.wrap (s1.1 + (1 : Int)), y3.2)))
else
some (Sum.inr ((-1 : Int), s1.2)))) N ((0 : Int), a1)
noncomputable def S144v1 (N : Nat) : Sig := { inn := ⟨[(0, .val false (.leaf (.slice rRule))), (1, .fn 129 [(0, [], 0)])], [(0, .box 63 (.leaf rRule))], [], 1⟩, out := ⟨[(0, .val false (.leaf rInt))], [(0, .box 63 (.leaf rRule))], [], 2⟩, fn := fun (x : (List rRule.den) × rRule.den) => M.slices_IndexFunc_guerdon_api_Rule_guerdon_api_Rule_v1 N x.1 x.2 }
theorem W144v1 (N : Nat) : FnOK Tryz.prog 144 (S144v1 N) := fn_ok (E := ⟨tabs, [(129, S129v1 N)], (tabcons (W129v1 N) tabnil), mixed, false, false⟩) (N := N) (a := (.two .nil (.two (.two .nil (.two (.loop ⟨[(8, .val false (.leaf rInt))], [(0, .box 63 (.leaf rRule))], [], 66⟩ .nil) .nil)) .nil))) (sg := S144v1 N) (c := Tryz.f144.body.getD .skip) (rs := Tryz.f144.results.toList) Tryz.func144 (by kernel_rfl) (by kernel_rfl) rfl rfl rfl rfl (fun x => by kernel_rfl)
noncomputable def M.slices_ContainsFunc_guerdon_api_Rule_guerdon_api_Rule_v1 (N : Nat) (a0 : List rRule.den) (a1 : rRule.den) : Option (Bool × rRule.den) :=
(M.slices_IndexFunc_guerdon_api_Rule_guerdon_api_Rule_v1 N a0 a1).bind fun y1 =>
some (decide ((0 : Int) ≤ y1.1), y1.2)
noncomputable def S128v1 (N : Nat) : Sig := { inn := ⟨[(0, .val false (.leaf (.slice rRule))), (1, .fn 129 [(0, [], 0)])], [(0, .box 63 (.leaf rRule))], [], 1⟩, out := ⟨[(0, .val false (.leaf .bool))], [(0, .box 63 (.leaf rRule))], [], 2⟩, fn := fun (x : (List rRule.den) × rRule.den) => M.slices_ContainsFunc_guerdon_api_Rule_guerdon_api_Rule_v1 N x.1 x.2 }
theorem W128v1 (N : Nat) : FnOK Tryz.prog 128 (S128v1 N) := fn_ok (E := ⟨tabs, [(144, S144v1 N)], (tabcons (W144v1 N) tabnil), mixed, false, false⟩) (N := N) (a := .nil) (sg := S128v1 N) (c := Tryz.f128.body.getD .skip) (rs := Tryz.f128.results.toList) Tryz.func128 (by kernel_rfl) (by kernel_rfl) rfl rfl rfl rfl (fun x => by kernel_rfl)
noncomputable def M.law_checkRule (N : Nat) (a0 : rScope.den) (a1 : Int) (a2 : rSignature.den) : Option (Int) :=
(idx a0.2.2.2.2 a1).bind fun x1 =>
((cutA a0.2.2.2.2 (0 : Int) a1).bind fun l3 =>
Loop (S := Int × Int) (X := Int) (fun s4 =>
(if (decide (s4.2 < (l3.length : Int))) = true then
((idx l3 s4.2).bind fun x6 =>
(if (decide (x6.2.1 = x1.2.1)) = true then
some (IntKind.i64.wrap (s4.1 + (1 : Int)))
else
some s4.1) : Option (Int)).bind fun j5 =>
some (Sum.inl (j5, IntKind.i64.wrap (s4.2 + (1 : Int))))
else
some (Sum.inr s4.1))) N ((0 : Int), (0 : Int)) : Option (Int)).bind fun j2 =>
(M.lexer_IsIdentifier N x1.1).bind fun y7 =>
(if (!y7) = true then
some (2 : Int)
else
(cutA a0.2.2.2.2 (0 : Int) a1).bind fun l8 =>
(M.slices_ContainsFunc_guerdon_api_Rule_guerdon_api_Rule_v1 N l8 x1).bind fun y9 =>
(if y9.1 = true then
some (7 : Int)
else
((if (decide (y9.2.2.1 < (0 : Int))) = true then
some true
else
some (decide ((a0.2.2.2.1.length : Int) ≤ y9.2.2.1))) : Option (Bool)).bind fun j10 =>
(if j10 = true then
some (6 : Int)
else
((if (!decide (y9.2.2.2.1 = (-1 : Int))) = true then
(if (decide (y9.2.2.2.1 < (0 : Int))) = true then
some true
else
(if (decide (a1 ≤ y9.2.2.2.1)) = true then
some true
else
(idx a0.2.2.2.2 y9.2.2.2.1).bind fun x12 =>
some (!decide (x12.2.1 = y9.2.2.1))))
else
some false) : Option (Bool)).bind fun j11 =>
(if j11 = true then
some (9 : Int)
else
((if (decide (y9.2.2.2.2.1 < (0 : Int))) = true then
some true
else
some (decide ((9 : Int) < y9.2.2.2.2.1))) : Option (Bool)).bind fun j13 =>
(if j13 = true then
some (3 : Int)
else
((if (decide (y9.2.2.2.2.2.1.1 < (0 : Int))) = true then
some true
else
(if (decide (y9.2.2.2.2.2.1.2 ≤ y9.2.2.2.2.2.1.1)) = true then
some true
else
some (decide ((109573 : Int) < y9.2.2.2.2.2.1.2)))) : Option (Bool)).bind fun j14 =>
(if j14 = true then
some (3 : Int)
else
(if (decide ((8 : Int) ≤ j2)) = true then
some (4 : Int)
else
(M.law_validSource N y9.2.2.2.2.2.2.2.2).bind fun y15 =>
(if (!y15) = true then
some (2 : Int)
else
Join (J := Unit) (R := Int) ((if (decide ((0 : Int) < (y9.2.2.2.2.2.2.1.length : Int))) = true then
(M.law_checkType N y9.2.2.2.2.2.2.1 a2 ((1 : Int), (0 : Int))).bind fun y17 =>
(if (!decide (y17 = (0 : Int))) = true then
some (Sum.inr y17)
else
some (Sum.inl ()))
else
some (Sum.inl ()))) fun j16 =>
(idx a0.2.2.2.1 y9.2.2.1).bind fun x18 =>
(M.law_checkType N y9.2.2.2.2.2.2.2.1 a2 x18.2).bind fun y19 =>
some y19))))))))
noncomputable def S103 (N : Nat) : Sig := { inn := ⟨[(0, .val true (.leaf rScope)), (1, .val false (.leaf rInt)), (2, .val true (.leaf rSignature))], [], [], 0⟩, out := ⟨[(0, .val false (.leaf rInt))], [], [], 0⟩, fn := fun (x : rScope.den × Int × rSignature.den) => M.law_checkRule N x.1 x.2.1 x.2.2 }
theorem W103 (N : Nat) : FnOK Tryz.prog 103 (S103 N) := fn_ok (E := ⟨tabs, [(62, S62 N), (128, S128v1 N), (130, S130 N), (131, S131 N)], (tabcons (W62 N) (tabcons (W128v1 N) (tabcons (W130 N) (tabcons (W131 N) tabnil)))), mixed, false, false⟩) (N := N) (a := (.two .nil (.two .nil (.two .nil (.meet ⟨[(8, .val false (.leaf rInt))], [], [], 176⟩ (.two .nil (.two (.loop ⟨[(8, .val false (.leaf rInt)), (22, .val false (.leaf rInt))], [], [], 272⟩ (.two .nil (.two .nil (.two (.meet ⟨[(8, .val false (.leaf rInt))], [], [], 288⟩ .nil .nil) .nil)))) .nil)) (.two (.two (.two .nil (.two .nil (.two .nil (.two .nil (.meet ⟨[(46, .val false (.leaf .bool))], [], [], 368⟩ .nil (.two .nil (.meet ⟨[(58, .val false (.leaf .bool))], [], [], 368⟩ .nil (.two .nil (.meet ⟨[(85, .val false (.leaf .bool))], [], [], 368⟩ .nil (.two .nil (.meet ⟨[(94, .val false (.leaf .bool))], [], [], 368⟩ .nil .nil))))))))))) .nil) (.join ⟨[], [], [], 496⟩ .nil .nil))))))) (sg := S103 N) (c := Tryz.f103.body.getD .skip) (rs := Tryz.f103.results.toList) Tryz.func103 (by kernel_rfl) (by kernel_rfl) rfl rfl rfl rfl (fun x => by kernel_rfl)
noncomputable def M.slices_Index_int_int (N : Nat) (a0 : List Int) (a1 : Int) : Option (Int) :=
Loop (S := Int) (X := Int) (fun s1 =>
(if (decide (s1 < (a0.length : Int))) = true then
(idx a0 s1).bind fun x2 =>
(if (decide (a1 = x2)) = true then
some (Sum.inr s1)
else
some (Sum.inl (IntKind.i64.wrap (s1 + (1 : Int)))))
else
some (Sum.inr (-1 : Int)))) N (0 : Int)
noncomputable def S132 (N : Nat) : Sig := { inn := ⟨[(0, .val false (.leaf (.slice rInt))), (1, .val false (.leaf rInt))], [], [], 0⟩, out := ⟨[(0, .val false (.leaf rInt))], [], [], 0⟩, fn := fun (x : (List Int) × Int) => M.slices_Index_int_int N x.1 x.2 }
theorem W132 (N : Nat) : FnOK Tryz.prog 132 (S132 N) := fn_ok (E := ⟨tabs, [], tabnil, mixed, false, false⟩) (N := N) (a := (.two .nil (.two (.two .nil (.two (.loop ⟨[(8, .val false (.leaf rInt))], [], [], 64⟩ .nil) .nil)) .nil))) (sg := S132 N) (c := Tryz.f132.body.getD .skip) (rs := Tryz.f132.results.toList) Tryz.func132 (by kernel_rfl) (by kernel_rfl) rfl rfl rfl rfl (fun x => by kernel_rfl)
noncomputable def M.slices_Contains_int_int (N : Nat) (a0 : List Int) (a1 : Int) : Option (Bool) :=
(M.slices_Index_int_int N a0 a1).bind fun y1 =>
some (decide ((0 : Int) ≤ y1))
noncomputable def S104 (N : Nat) : Sig := { inn := ⟨[(0, .val false (.leaf (.slice rInt))), (1, .val false (.leaf rInt))], [], [], 0⟩, out := ⟨[(0, .val false (.leaf .bool))], [], [], 0⟩, fn := fun (x : (List Int) × Int) => M.slices_Contains_int_int N x.1 x.2 }
theorem W104 (N : Nat) : FnOK Tryz.prog 104 (S104 N) := fn_ok (E := ⟨tabs, [(132, S132 N)], (tabcons (W132 N) tabnil), mixed, false, false⟩) (N := N) (a := .nil) (sg := S104 N) (c := Tryz.f104.body.getD .skip) (rs := Tryz.f104.results.toList) Tryz.func104 (by kernel_rfl) (by kernel_rfl) rfl rfl rfl rfl (fun x => by kernel_rfl)
noncomputable def M.deps_reached (N : Nat) (a0 : List (List Int)) (a1 : Int) : Option (List Int) :=
(mkL (a0.length : Int) false).bind fun l1 =>
(Loop (S := (List Bool) × List Int) (X := List Bool) (fun s3 =>
(if (decide ((0 : Int) < (s3.2.length : Int))) = true then
(idx s3.2 (0 : Int)).bind fun x4 =>
(cutA s3.2 (1 : Int) (s3.2.length : Int)).bind fun l5 =>
(idx a0 x4).bind fun x6 =>
Loop (S := Int × (List Bool) × List Int) (X := ((List Bool) × List Int) ⊕ (List Bool)) (fun s7 =>
(if (decide (s7.1 < (x6.length : Int))) = true then
((idx x6 s7.1).bind fun x9 =>
(idx s7.2.1 x9).bind fun x10 =>
(if (!x10) = true then
(idx s7.2.1 x9).bind fun x11 =>
(appA s7.2.2 ([x9] : List Int)).bind fun l12 =>
some (setL s7.2.1 x9 true, l12)
else
some (s7.2.1, s7.2.2)) : Option ((List Bool) × List Int)).bind fun j8 =>
some (Sum.inl (IntKind.i64.wrap (s7.1 + (1 : Int)), j8.1, j8.2))
else
some (Sum.inr (Sum.inl (s7.2.1, s7.2.2))))) N ((0 : Int), s3.1, l5)
else
some (Sum.inr s3.1))) N (l1, ([a1] : List Int)) : Option (List Bool)).bind fun j2 =>
Loop (S := Int × List Int) (X := List Int) (fun s13 =>
(if (decide (s13.1 < (j2.length : Int))) = true then
((idx j2 s13.1).bind fun x15 =>
(if x15 = true then
(appA s13.2 ([s13.1] : List Int)).bind fun l16 =>
some l16
else
some s13.2) : Option (List Int)).bind fun j14 =>
some (Sum.inl (IntKind.i64.wrap (s13.1 + (1 : Int)), j14))
else
some (Sum.inr s13.2))) N ((0 : Int), ([] : List Int))
noncomputable def S133 (N : Nat) : Sig := { inn := ⟨[(0, .val false (.leaf (.slice (.slice rInt)))), (1, .val false (.leaf rInt))], [], [], 0⟩, out := ⟨[(0, .val false (.own 0))], [(0, .own 3 rInt)], [], 1⟩, fn := fun (x : (List (List Int)) × Int) => M.deps_reached N x.1 x.2 }
theorem W133 (N : Nat) : FnOK Tryz.prog 133 (S133 N) := fn_ok (E := ⟨tabs, [], tabnil, mixed, false, true⟩) (N := N) (a := (.two .nil (.two .nil (.two .nil (.meet ⟨[], [(48, .own 4 .bool)], [96], 129⟩ (.two (.loop ⟨[(6, .val false (.own 128))], [(48, .own 4 .bool), (128, .own 3 rInt)], [96], 130⟩ (.two .nil (.two (.two .nil (.two .nil (.two .nil (.two (.loop ⟨[(6, .val false (.own 386)), (31, .val false (.leaf rInt))], [(48, .own 4 .bool), (386, .own 3 rInt)], [258], 388⟩ (.two .nil (.two .nil (.two (.meet ⟨[(6, .val false (.own 404))], [(48, .own 4 .bool), (404, .own 3 rInt)], [386], 406⟩ .nil .nil) .nil)))) .nil)))) .nil))) .nil) (.two .nil (.two (.two .nil (.two (.loop ⟨[(10, .val false (.own 193)), (50, .val false (.leaf rInt))], [(193, .own 3 rInt)], [], 194⟩ (.two .nil (.two .nil (.two (.meet ⟨[(10, .val false (.own 210))], [(210, .own 3 rInt)], [193], 211⟩ .nil .nil) .nil)))) .nil)) .nil))))))) (sg := S133 N) (c := Tryz.f133.body.getD .skip) (rs := Tryz.f133.results.toList) Tryz.func133 (by kernel_rfl) (by kernel_rfl) rfl rfl rfl rfl (fun x => by kernel_rfl)
noncomputable def M.slices_Sort_int_int (N : Nat) (a0 : List Int) : Option (List Int) := sortM a0
noncomputable def S161 (N : Nat) : Sig := { inn := ⟨[(0, .val false (.own 0))], [(0, .own 3 rInt)], [], 1⟩, out := ⟨[], [(0, .own 3 rInt)], [], 2⟩, fn := fun (x : List Int) => M.slices_Sort_int_int N x }
theorem W161 (N : Nat) : FnOK Tryz.prog 161 (S161 N) := sort_fn ⟨_, Tryz.func161, by kernel_rfl, by kernel_rfl⟩ Tryz.slices_Sort_int Tryz.slices_Sort_int_none
noncomputable def M.slices_Compact_int_int (N : Nat) (a0 : List Int) : Option (List Int) := compactM a0
noncomputable def S162 (N : Nat) : Sig := { inn := ⟨[(0, .val false (.own 0))], [(0, .own 3 rInt)], [], 1⟩, out := ⟨[(0, .val false (.own 1))], [(1, .own 3 rInt)], [], 2⟩, fn := fun (x : List Int) => M.slices_Compact_int_int N x }
theorem W162 (N : Nat) : FnOK Tryz.prog 162 (S162 N) := compact_fn ⟨_, Tryz.func162, by kernel_rfl, by kernel_rfl⟩ Tryz.slices_Compact_int Tryz.slices_Compact_int_empty
noncomputable def M.expr_distinct_v1 (N : Nat) (a0 : List Int) : Option (List Int) :=
(M.slices_Sort_int_int N a0).bind fun y1 =>
(M.slices_Compact_int_int N y1).bind fun y2 =>
some y2
noncomputable def S178v1 (N : Nat) : Sig := { inn := ⟨[(0, .val false (.own 0))], [(0, .own 3 rInt)], [], 1⟩, out := ⟨[(0, .val false (.own 1))], [(1, .own 3 rInt)], [], 2⟩, fn := fun (x : List Int) => M.expr_distinct_v1 N x }
theorem W178v1 (N : Nat) : FnOK Tryz.prog 178 (S178v1 N) := fn_ok (E := ⟨tabs, [(161, S161 N), (162, S162 N)], (tabcons (W161 N) (tabcons (W162 N) tabnil)), mixed, false, false⟩) (N := N) (a := .nil) (sg := S178v1 N) (c := Tryz.f178.body.getD .skip) (rs := Tryz.f178.results.toList) Tryz.func178 (by kernel_rfl) (by kernel_rfl) rfl rfl rfl rfl (fun x => by kernel_rfl)
noncomputable def M.expr_References (N : Nat) (a0 : List rType.den) : Option ((List Int) × (List Int) × List Int) :=
(Loop (S := Int × (List Int) × (List Int) × List Int) (X := (List Int) × (List Int) × List Int) (fun s2 =>
(if (decide (s2.1 < (a0.length : Int))) = true then
(idx a0 s2.1).bind fun x3 =>
((if (decide (x3.1 = (7 : Int))) = true then
(appA s2.2.1 ([x3.2] : List Int)).bind fun l5 =>
some (l5, s2.2.2.1, s2.2.2.2)
else
(if (decide (x3.1 = (8 : Int))) = true then
(appA s2.2.2.1 ([x3.2] : List Int)).bind fun l6 =>
some (s2.2.1, l6, s2.2.2.2)
else
((if (decide (x3.1 = (36 : Int))) = true then
some (decide (x3.1 = (36 : Int)))
else
(if (decide (x3.1 = (37 : Int))) = true then
some (decide (x3.1 = (37 : Int)))
else
(if (decide (x3.1 = (38 : Int))) = true then
some (decide (x3.1 = (38 : Int)))
else
some (decide (x3.1 = (39 : Int)))))) : Option (Bool)).bind fun j7 =>
(if j7 = true then
(appA s2.2.2.2 ([x3.2] : List Int)).bind fun l8 =>
some (s2.2.1, s2.2.2.1, l8)
else
some (s2.2.1, s2.2.2.1, s2.2.2.2)))) : Option ((List Int) × (List Int) × List Int)).bind fun j4 =>
some (Sum.inl (IntKind.i64.wrap (s2.1 + (1 : Int)), j4.1, j4.2.1, j4.2.2))
else
some (Sum.inr (s2.2.1, s2.2.2.1, s2.2.2.2)))) N ((0 : Int), ([] : List Int), ([] : List Int), ([] : List Int)) : Option ((List Int) × (List Int) × List Int)).bind fun j1 =>
(M.expr_distinct_v1 N j1.1).bind fun y9 =>
(M.expr_distinct_v1 N j1.2.1).bind fun y10 =>
(M.expr_distinct_v1 N j1.2.2).bind fun y11 =>
some (y9, y10, y11)
noncomputable def S160 (N : Nat) : Sig := { inn := ⟨[(0, .val false (.leaf (.slice rType)))], [], [], 0⟩, out := ⟨[(0, .val false (.own 0)), (1, .val false (.own 1)), (2, .val false (.own 2))], [(0, .own 3 rInt), (1, .own 3 rInt), (2, .own 3 rInt)], [], 3⟩, fn := fun (x : List rType.den) => M.expr_References N x }
theorem W160 (N : Nat) : FnOK Tryz.prog 160 (S160 N) := fn_ok (E := ⟨tabs, [(178, S178v1 N)], (tabcons (W178v1 N) tabnil), mixed, false, false⟩) (N := N) (a := (.two .nil (.two .nil (.meet ⟨[(5, .val false (.own 96)), (6, .val false (.own 97)), (7, .val false (.own 98))], [(96, .own 3 rInt), (97, .own 3 rInt), (98, .own 3 rInt)], [], 99⟩ (.two .nil (.two (.loop ⟨[(5, .val false (.own 144)), (6, .val false (.own 145)), (7, .val false (.own 146)), (12, .val false (.leaf rInt))], [(144, .own 3 rInt), (145, .own 3 rInt), (146, .own 3 rInt)], [], 147⟩ (.two .nil (.two .nil (.two (.two (.two .nil (.two .nil (.meet ⟨[(5, .val false (.own 259)), (6, .val false (.own 260)), (7, .val false (.own 261))], [(259, .own 3 rInt), (260, .own 3 rInt), (261, .own 3 rInt)], [144, 145, 146], 262⟩ (.two .nil (.two .nil (.two .nil (.two .nil (.meet ⟨[(32, .val false (.leaf .bool))], [], [], 323⟩ .nil .nil))))) .nil))) .nil) .nil)))) .nil)) .nil)))) (sg := S160 N) (c := Tryz.f160.body.getD .skip) (rs := Tryz.f160.results.toList) Tryz.func160 (by kernel_rfl) (by kernel_rfl) rfl rfl rfl rfl (fun x => by kernel_rfl)
noncomputable def M.deps_definitionsOf (N : Nat) (a0 : rRule.den) (a1 : Int) : Option (List Int) :=
(M.expr_References N a0.2.2.2.2.2.1).bind fun y1 =>
(M.expr_References N a0.2.2.2.2.2.2.1).bind fun y2 =>
(Loop (S := Int × List Int) (X := List Int) (fun s4 =>
(if (decide (s4.1 < (y1.2.1.length : Int))) = true then
((idx y1.2.1 s4.1).bind fun x6 =>
((if (decide ((0 : Int) ≤ x6)) = true then
some (decide (x6 < a1))
else
some false) : Option (Bool)).bind fun j7 =>
(if j7 = true then
(appA s4.2 ([x6] : List Int)).bind fun l8 =>
some l8
else
some s4.2) : Option (List Int)).bind fun j5 =>
some (Sum.inl (IntKind.i64.wrap (s4.1 + (1 : Int)), j5))
else
some (Sum.inr s4.2))) N ((0 : Int), ([] : List Int)) : Option (List Int)).bind fun j3 =>
Loop (S := Int × List Int) (X := List Int) (fun s9 =>
(if (decide (s9.1 < (y2.2.1.length : Int))) = true then
((idx y2.2.1 s9.1).bind fun x11 =>
((if (decide ((0 : Int) ≤ x11)) = true then
some (decide (x11 < a1))
else
some false) : Option (Bool)).bind fun j12 =>
(if j12 = true then
(appA s9.2 ([x11] : List Int)).bind fun l13 =>
some l13
else
some s9.2) : Option (List Int)).bind fun j10 =>
some (Sum.inl (IntKind.i64.wrap (s9.1 + (1 : Int)), j10))
else
some (Sum.inr s9.2))) N ((0 : Int), j3)
noncomputable def S147 (N : Nat) : Sig := { inn := ⟨[(0, .val true (.leaf rRule)), (1, .val false (.leaf rInt))], [], [], 0⟩, out := ⟨[(0, .val false (.own 0))], [(0, .own 3 rInt)], [], 1⟩, fn := fun (x : rRule.den × Int) => M.deps_definitionsOf N x.1 x.2 }
theorem W147 (N : Nat) : FnOK Tryz.prog 147 (S147 N) := fn_ok (E := ⟨tabs, [(160, S160 N)], (tabcons (W160 N) tabnil), mixed, false, false⟩) (N := N) (a := (.two .nil (.two .nil (.two .nil (.two .nil (.meet ⟨[(5, .val false (.own 368))], [(368, .own 3 rInt)], [], 369⟩ (.two .nil (.two (.loop ⟨[(5, .val false (.own 416)), (32, .val false (.leaf rInt))], [(416, .own 3 rInt)], [], 417⟩ (.two .nil (.two .nil (.two (.meet ⟨[(5, .val false (.own 433))], [(433, .own 3 rInt)], [416], 434⟩ (.two .nil (.meet ⟨[(42, .val false (.leaf .bool))], [], [], 481⟩ .nil .nil)) .nil) .nil)))) .nil)) (.two (.two .nil (.two (.loop ⟨[(5, .val false (.own 417)), (50, .val false (.leaf rInt))], [(417, .own 3 rInt)], [368], 418⟩ (.two .nil (.two .nil (.two (.meet ⟨[(5, .val false (.own 434))], [(434, .own 3 rInt)], [417], 435⟩ (.two .nil (.meet ⟨[(60, .val false (.leaf .bool))], [], [], 482⟩ .nil .nil)) .nil) .nil)))) .nil)) .nil))))))) (sg := S147 N) (c := Tryz.f147.body.getD .skip) (rs := Tryz.f147.results.toList) Tryz.func147 (by kernel_rfl) (by kernel_rfl) rfl rfl rfl rfl (fun x => by kernel_rfl)
noncomputable def M.deps_sortedSet_v1 (N : Nat) (a0 : List Int) : Option (List Int) :=
(M.slices_Sort_int_int N a0).bind fun y1 =>
(M.slices_Compact_int_int N y1).bind fun y2 =>
some y2
noncomputable def S148v1 (N : Nat) : Sig := { inn := ⟨[(0, .val false (.own 0))], [(0, .own 3 rInt)], [], 1⟩, out := ⟨[(0, .val false (.own 1))], [(1, .own 3 rInt)], [], 2⟩, fn := fun (x : List Int) => M.deps_sortedSet_v1 N x }
theorem W148v1 (N : Nat) : FnOK Tryz.prog 148 (S148v1 N) := fn_ok (E := ⟨tabs, [(161, S161 N), (162, S162 N)], (tabcons (W161 N) (tabcons (W162 N) tabnil)), mixed, false, false⟩) (N := N) (a := .nil) (sg := S148v1 N) (c := Tryz.f148.body.getD .skip) (rs := Tryz.f148.results.toList) Tryz.func148 (by kernel_rfl) (by kernel_rfl) rfl rfl rfl rfl (fun x => by kernel_rfl)
noncomputable def M.deps_allDirect (N : Nat) (a0 : rScope.den) : Option (List (List Int)) :=
(mkL (a0.2.2.2.1.length : Int) ([] : List Int)).bind fun l1 =>
(Loop (S := Int × List (List Int)) (X := List (List Int)) (fun s3 =>
(if (decide (s3.1 < (a0.2.2.2.2.length : Int))) = true then
((idx a0.2.2.2.2 s3.1).bind fun x5 =>
((if (decide ((0 : Int) ≤ x5.2.1)) = true then
some (decide (x5.2.1 < (s3.2.length : Int)))
else
some false) : Option (Bool)).bind fun j6 =>
(if j6 = true then
(idx s3.2 x5.2.1).bind fun x7 =>
(idx s3.2 x5.2.1).bind fun x8 =>
(M.deps_definitionsOf N x5 (s3.2.length : Int)).bind fun y9 =>
(appA x8 y9).bind fun l10 =>
(idx s3.2 x5.2.1).bind fun x11 =>
(if decide (x5.2.1 = x5.2.1) = true then
(idx s3.2 x5.2.1).bind fun x12 =>
some (modL s3.2 x5.2.1 (fun m13 => l10))
else none)
else
some s3.2) : Option (List (List Int))).bind fun j4 =>
some (Sum.inl (IntKind.i64.wrap (s3.1 + (1 : Int)), j4))
else
some (Sum.inr s3.2))) N ((0 : Int), l1) : Option (List (List Int))).bind fun j2 =>
Loop (S := Int × List (List Int)) (X := List (List Int)) (fun s14 =>
(if (decide (s14.1 < (j2.length : Int))) = true then
(idx s14.2 s14.1).bind fun x15 =>
(idx s14.2 s14.1).bind fun x16 =>
(M.deps_sortedSet_v1 N x16).bind fun y17 =>
(idx s14.2 s14.1).bind fun x18 =>
(if decide (s14.1 = s14.1) = true then
(idx s14.2 s14.1).bind fun x19 =>
some (Sum.inl (IntKind.i64.wrap (s14.1 + (1 : Int)), modL s14.2 s14.1 (fun m20 => y17)))
else none)
else
some (Sum.inr s14.2))) N ((0 : Int), j2)
noncomputable def S134 (N : Nat) : Sig := { inn := ⟨[(0, .val true (.leaf rScope))], [], [], 0⟩, out := ⟨[(0, .val false (.own 0))], [(0, .deep 108 (.sl 3 (.leaf rInt)))], [], 1⟩, fn := fun (x : rScope.den) => M.deps_allDirect N x }
theorem W134 (N : Nat) : FnOK Tryz.prog 134 (S134 N) := fn_ok (E := ⟨tabs, [(147, S147 N), (148, S148v1 N)], (tabcons (W147 N) (tabcons (W148v1 N) tabnil)), mixed, true, false⟩) (N := N) (a := (.two .nil (.two .nil (.meet ⟨[], [(80, .deep 108 (.sl 3 (.leaf rInt)))], [], 113⟩ (.two .nil (.two (.loop ⟨[(15, .val false (.leaf rInt))], [(80, .deep 108 (.sl 3 (.leaf rInt)))], [], 177⟩ (.two .nil (.two .nil (.two (.meet ⟨[], [(80, .deep 108 (.sl 3 (.leaf rInt)))], [], 194⟩ (.two .nil (.meet ⟨[(28, .val false (.leaf .bool))], [], [], 257⟩ .nil .nil)) .nil) .nil)))) .nil)) (.two (.two .nil (.two (.loop ⟨[(46, .val false (.leaf rInt))], [(80, .deep 108 (.sl 3 (.leaf rInt)))], [], 162⟩ .nil) .nil)) .nil))))) (sg := S134 N) (c := Tryz.f134.body.getD .skip) (rs := Tryz.f134.results.toList) Tryz.func134 (by kernel_rfl) (by kernel_rfl) rfl rfl rfl rfl (fun x => by kernel_rfl)
noncomputable def M.deps_Transitive (N : Nat) (a0 : rScope.den) (a1 : Int) : Option (List Int) :=
((if (decide (a1 < (0 : Int))) = true then
some true
else
some (decide ((a0.2.2.2.1.length : Int) ≤ a1))) : Option (Bool)).bind fun j1 =>
(if j1 = true then
some ([] : List Int)
else
(M.deps_allDirect N a0).bind fun y2 =>
(M.deps_reached N y2 a1).bind fun y3 =>
some y3)
noncomputable def S105 (N : Nat) : Sig := { inn := ⟨[(0, .val true (.leaf rScope)), (1, .val false (.leaf rInt))], [], [], 0⟩, out := ⟨[(0, .val false (.own 0))], [(0, .own 3 rInt)], [], 1⟩, fn := fun (x : rScope.den × Int) => M.deps_Transitive N x.1 x.2 }
theorem W105 (N : Nat) : FnOK Tryz.prog 105 (S105 N) := fn_ok (E := ⟨tabs, [(133, S133 N), (134, S134 N)], (tabcons (W133 N) (tabcons (W134 N) tabnil)), mixed, false, false⟩) (N := N) (a := (.two .nil (.two (.meet ⟨[(13, .val false (.leaf .bool))], [], [], 32⟩ .nil .nil) .nil))) (sg := S105 N) (c := Tryz.f105.body.getD .skip) (rs := Tryz.f105.results.toList) Tryz.func105 (by kernel_rfl) (by kernel_rfl) rfl rfl rfl rfl (fun x => by kernel_rfl)
noncomputable def M.law_checkScope_c1_v1 (N : Nat) (a0 : rScope.den) (a1 : rScope.den) : Option (Bool × rScope.den) :=
some (decide (a0.1 = a1.1), a1)
noncomputable def S101v1 (N : Nat) : Sig := { inn := ⟨[(0, .val true (.leaf rScope)), (1, .ptr 0 [] 0)], [(0, .box 41 (.leaf rScope))], [], 1⟩, out := ⟨[(0, .val false (.leaf .bool))], [(0, .box 41 (.leaf rScope))], [], 2⟩, fn := fun (x : rScope.den × rScope.den) => M.law_checkScope_c1_v1 N x.1 x.2 }
theorem W101v1 (N : Nat) : FnOK Tryz.prog 101 (S101v1 N) := fn_ok (E := ⟨tabs, [], tabnil, mixed, false, false⟩) (N := N) (a := .nil) (sg := S101v1 N) (c := Tryz.f101.body.getD .skip) (rs := Tryz.f101.results.toList) Tryz.func101 (by kernel_rfl) (by kernel_rfl) rfl rfl rfl rfl (fun x => by kernel_rfl)
noncomputable def M.slices_IndexFunc_guerdon_api_Scope_guerdon_api_Scope_v1 (N : Nat) (a0 : List rScope.den) (a1 : rScope.den) : Option (Int × rScope.den) :=
Loop (S := Int × rScope.den) (X := Int × rScope.den) (fun s1 =>
(if (decide (s1.1 < (a0.length : Int))) = true then
(idx a0 s1.1).bind fun x2 =>
(M.law_checkScope_c1_v1 N x2 s1.2).bind fun y3 =>
(if y3.1 = true then
some (Sum.inr (s1.1, y3.2))
else
some (Sum.inl (IntKind.i64.wrap (s1.1 + (1 : Int)), y3.2)))
else
some (Sum.inr ((-1 : Int), s1.2)))) N ((0 : Int), a1)
noncomputable def S33v1 (N : Nat) : Sig := { inn := ⟨[(0, .val false (.leaf (.slice rScope))), (1, .fn 101 [(0, [], 0)])], [(0, .box 41 (.leaf rScope))], [], 1⟩, out := ⟨[(0, .val false (.leaf rInt))], [(0, .box 41 (.leaf rScope))], [], 2⟩, fn := fun (x : (List rScope.den) × rScope.den) => M.slices_IndexFunc_guerdon_api_Scope_guerdon_api_Scope_v1 N x.1 x.2 }
theorem W33v1 (N : Nat) : FnOK Tryz.prog 33 (S33v1 N) := fn_ok (E := ⟨tabs, [(101, S101v1 N)], (tabcons (W101v1 N) tabnil), mixed, false, false⟩) (N := N) (a := (.two .nil (.two (.two .nil (.two (.loop ⟨[(8, .val false (.leaf rInt))], [(0, .box 41 (.leaf rScope))], [], 66⟩ .nil) .nil)) .nil))) (sg := S33v1 N) (c := Tryz.f33.body.getD .skip) (rs := Tryz.f33.results.toList) Tryz.func33 (by kernel_rfl) (by kernel_rfl) rfl rfl rfl rfl (fun x => by kernel_rfl)
noncomputable def M.slices_ContainsFunc_guerdon_api_Scope_guerdon_api_Scope_v1 (N : Nat) (a0 : List rScope.den) (a1 : rScope.den) : Option (Bool × rScope.den) :=
(M.slices_IndexFunc_guerdon_api_Scope_guerdon_api_Scope_v1 N a0 a1).bind fun y1 =>
some (decide ((0 : Int) ≤ y1.1), y1.2)
noncomputable def S100v1 (N : Nat) : Sig := { inn := ⟨[(0, .val false (.leaf (.slice rScope))), (1, .fn 101 [(0, [], 0)])], [(0, .box 41 (.leaf rScope))], [], 1⟩, out := ⟨[(0, .val false (.leaf .bool))], [(0, .box 41 (.leaf rScope))], [], 2⟩, fn := fun (x : (List rScope.den) × rScope.den) => M.slices_ContainsFunc_guerdon_api_Scope_guerdon_api_Scope_v1 N x.1 x.2 }
theorem W100v1 (N : Nat) : FnOK Tryz.prog 100 (S100v1 N) := fn_ok (E := ⟨tabs, [(33, S33v1 N)], (tabcons (W33v1 N) tabnil), mixed, false, false⟩) (N := N) (a := .nil) (sg := S100v1 N) (c := Tryz.f100.body.getD .skip) (rs := Tryz.f100.results.toList) Tryz.func100 (by kernel_rfl) (by kernel_rfl) rfl rfl rfl rfl (fun x => by kernel_rfl)
noncomputable def M.law_checkScope (N : Nat) (a0 : rLaw.den) (a1 : Int) : Option (Int × Int) :=
(idx a0.2.2 a1).bind fun x1 =>
(cutA a0.2.2 (0 : Int) a1).bind fun l2 =>
((M.law_hasEnum N a0.1 x1.1).bind fun y4 =>
(if y4 = true then
some (true, x1)
else
(M.law_hasTable N a0.2.1 x1.1).bind fun y5 =>
(if y5 = true then
some (true, x1)
else
(M.slices_ContainsFunc_guerdon_api_Scope_guerdon_api_Scope_v1 N l2 x1).bind fun y6 =>
some (y6.1, y6.2))) : Option (Bool × rScope.den)).bind fun j3 =>
(M.lexer_IsIdentifier N j3.2.1).bind fun y7 =>
(if (!y7) = true then
some ((2 : Int), (0 : Int))
else
(if j3.1 = true then
some ((7 : Int), (0 : Int))
else
((if (!decide (j3.2.2.1 = (-1 : Int))) = true then
(if (decide (j3.2.2.1 < (0 : Int))) = true then
some true
else
(if (decide (a1 ≤ j3.2.2.1)) = true then
some true
else
(idx l2 j3.2.2.1).bind fun x9 =>
some (!decide (x9.2.1 = (-1 : Int)))))
else
some false) : Option (Bool)).bind fun j8 =>
(if j8 = true then
some ((6 : Int), (0 : Int))
else
(if (decide ((12 : Int) < (j3.2.2.2.1.length : Int))) = true then
some ((4 : Int), (112 : Int))
else
(if (decide ((12 : Int) < (j3.2.2.2.2.1.length : Int))) = true then
some ((4 : Int), (212 : Int))
else
Join (J := Unit) (R := Int × Int) (Loop (S := Int) (X := (Unit) ⊕ (Int × Int)) (fun s11 =>
(if (decide (s11 < (j3.2.2.2.1.length : Int))) = true then
(idx j3.2.2.2.1 s11).bind fun x12 =>
(cutA j3.2.2.2.1 (0 : Int) s11).bind fun l13 =>
(M.law_checkField N a0 x12 l13 ([] : List rField.den)).bind fun y14 =>
(if (!decide (y14 = (0 : Int))) = true then
some (Sum.inr (Sum.inr (y14, IntKind.i64.wrap ((100 : Int) + s11))))
else
some (Sum.inl (IntKind.i64.wrap (s11 + (1 : Int)))))
else
some (Sum.inr (Sum.inl ())))) N (0 : Int)) fun j10 =>
Join (J := Unit) (R := Int × Int) (Loop (S := Int) (X := (Unit) ⊕ (Int × Int)) (fun s16 =>
(if (decide (s16 < (j3.2.2.2.2.1.length : Int))) = true then
(idx j3.2.2.2.2.1 s16).bind fun x17 =>
(cutA j3.2.2.2.2.1 (0 : Int) s16).bind fun l18 =>
(M.law_checkField N a0 x17 j3.2.2.2.1 l18).bind fun y19 =>
(if (!decide (y19 = (0 : Int))) = true then
some (Sum.inr (Sum.inr (y19, IntKind.i64.wrap ((200 : Int) + s16))))
else
some (Sum.inl (IntKind.i64.wrap (s16 + (1 : Int)))))
else
some (Sum.inr (Sum.inl ())))) N (0 : Int)) fun j15 =>
(M.law_sharedSignature N a0 a1).bind fun y20 =>
Join (J := Unit) (R := Int × Int) (Loop (S := Int) (X := (Unit) ⊕ (Int × Int)) (fun s22 =>
(if (decide (s22 < (j3.2.2.2.2.2.length : Int))) = true then
(M.law_checkRule N j3.2 s22 (y20.1, (y20.2.1, (y20.2.2.2.1, (y20.2.2.2.2.1, (y20.2.2.2.2.2, y20.2.2.1)))))).bind fun y23 =>
(if (!decide (y23 = (0 : Int))) = true then
some (Sum.inr (Sum.inr (y23, IntKind.i64.wrap ((300 : Int) + s22))))
else
some (Sum.inl (IntKind.i64.wrap (s22 + (1 : Int)))))
else
some (Sum.inr (Sum.inl ())))) N (0 : Int)) fun j21 =>
Loop (S := Int) (X := Int × Int) (fun s24 =>
(if (decide (s24 < (j3.2.2.2.2.1.length : Int))) = true then
(M.deps_Transitive N j3.2 s24).bind fun y25 =>
(M.slices_Contains_int_int N y25 s24).bind fun y26 =>
(if y26 = true then
some (Sum.inr ((9 : Int), IntKind.i64.wrap ((200 : Int) + s24)))
else
some (Sum.inl (IntKind.i64.wrap (s24 + (1 : Int)))))
else
some (Sum.inr ((0 : Int), (0 : Int))))) N (0 : Int))))))
noncomputable def S65 (N : Nat) : Sig := { inn := ⟨[(0, .val true (.leaf rLaw)), (1, .val false (.leaf rInt))], [], [], 0⟩, out := ⟨[(0, .val false (.leaf rInt)), (1, .val false (.leaf rInt))], [], [], 0⟩, fn := fun (x : rLaw.den × Int) => M.law_checkScope N x.1 x.2 }
theorem W65 (N : Nat) : FnOK Tryz.prog 65 (S65 N) := fn_ok (E := ⟨tabs, [(45, S45 N), (62, S62 N), (63, S63 N), (64, S64 N), (100, S100v1 N), (102, S102 N), (103, S103 N), (104, S104 N), (105, S105 N)], (tabcons (W45 N) (tabcons (W62 N) (tabcons (W63 N) (tabcons (W64 N) (tabcons (W100v1 N) (tabcons (W102 N) (tabcons (W103 N) (tabcons (W104 N) (tabcons (W105 N) tabnil))))))))), mixed, false, false⟩) (N := N) (a := (.two .nil (.two .nil (.two .nil (.meet ⟨[(8, .val false (.leaf .bool))], [(128, .box 41 (.leaf rScope))], [], 241⟩ .nil (.two (.two (.two .nil (.two .nil (.two .nil (.two .nil (.meet ⟨[(52, .val false (.leaf .bool))], [], [], 353⟩ .nil .nil))))) .nil) (.join ⟨[], [], [], 513⟩ (.two .nil (.two (.loop ⟨[(89, .val false (.leaf rInt))], [], [], 577⟩ .nil) .nil)) (.join ⟨[], [], [], 513⟩ (.two .nil (.two (.loop ⟨[(110, .val false (.leaf rInt))], [], [], 577⟩ .nil) .nil)) (.two .nil (.join ⟨[], [], [], 593⟩ (.two .nil (.two (.loop ⟨[(136, .val false (.leaf rInt))], [], [], 657⟩ .nil) .nil)) (.two (.two .nil (.two (.loop ⟨[(152, .val false (.leaf rInt))], [], [], 657⟩ .nil) .nil)) .nil))))))))))) (sg := S65 N) (c := Tryz.f65.body.getD .skip) (rs := Tryz.f65.results.toList) Tryz.func65 (by kernel_rfl) (by kernel_rfl) rfl rfl rfl rfl (fun x => by kernel_rfl)
noncomputable def M.law_checkScopes (N : Nat) (a0 : rLaw.den) : Option (rLawError.den) :=
(if (decide ((4 : Int) < (a0.2.2.length : Int))) = true then
some ((4 : Int), ((3 : Int), ((4 : Int), (0 : Int))))
else
Join (J := Unit) (R := rLawError.den) (Loop (S := Int) (X := (Unit) ⊕ (rLawError.den)) (fun s2 =>
(if (decide (s2 < (a0.2.2.length : Int))) = true then
(M.law_checkScope N a0 s2).bind fun y3 =>
(if (!decide (y3.1 = (0 : Int))) = true then
some (Sum.inr (Sum.inr (y3.1, ((3 : Int), (s2, y3.2)))))
else
some (Sum.inl (IntKind.i64.wrap (s2 + (1 : Int)))))
else
some (Sum.inr (Sum.inl ())))) N (0 : Int)) fun j1 =>
some ((0 : Int), ((0 : Int), ((0 : Int), (0 : Int)))))
noncomputable def S29 (N : Nat) : Sig := { inn := ⟨[(0, .val true (.leaf rLaw))], [], [], 0⟩, out := ⟨[(0, .val true (.leaf rLawError))], [], [], 0⟩, fn := fun (x : rLaw.den) => M.law_checkScopes N x }
theorem W29 (N : Nat) : FnOK Tryz.prog 29 (S29 N) := fn_ok (E := ⟨tabs, [(65, S65 N)], (tabcons (W65 N) tabnil), mixed, false, false⟩) (N := N) (a := (.two .nil (.two .nil (.join ⟨[], [], [], 96⟩ (.two .nil (.two (.loop ⟨[(14, .val false (.leaf rInt))], [], [], 160⟩ .nil) .nil)) .nil)))) (sg := S29 N) (c := Tryz.f29.body.getD .skip) (rs := Tryz.f29.results.toList) Tryz.func29 (by kernel_rfl) (by kernel_rfl) rfl rfl rfl rfl (fun x => by kernel_rfl)
noncomputable def M.law_Validate (N : Nat) (a0 : rLaw.den) : Option (rLawError.den) :=
(M.law_checkEnums N a0).bind fun y1 =>
(if (!decide (y1.1 = (0 : Int))) = true then
some y1
else
(M.law_checkTables N a0).bind fun y2 =>
(if (!decide (y2.1 = (0 : Int))) = true then
some y2
else
(M.law_checkScopes N a0).bind fun y3 =>
some y3))
noncomputable def S11 (N : Nat) : Sig := { inn := ⟨[(0, .val true (.leaf rLaw))], [], [], 0⟩, out := ⟨[(0, .val true (.leaf rLawError))], [], [], 0⟩, fn := fun (x : rLaw.den) => M.law_Validate N x }
theorem W11 (N : Nat) : FnOK Tryz.prog 11 (S11 N) := fn_ok (E := ⟨tabs, [(27, S27 N), (28, S28 N), (29, S29 N)], (tabcons (W27 N) (tabcons (W28 N) (tabcons (W29 N) tabnil))), mixed, false, false⟩) (N := N) (a := .nil) (sg := S11 N) (c := Tryz.f11.body.getD .skip) (rs := Tryz.f11.results.toList) Tryz.func11 (by kernel_rfl) (by kernel_rfl) rfl rfl rfl rfl (fun x => by kernel_rfl)
noncomputable def M.same_TinyLaw (N : Nat) (a0 : List rType.den) : Option (List rScope.den) :=
some ([((⟨#[104, 111, 117, 115, 101]⟩ : ByteArray), ((-1 : Int), (([((⟨#[97]⟩ : ByteArray), ((3 : Int), (0 : Int)))] : List rField.den), (([((⟨#[100]⟩ : ByteArray), ((3 : Int), (0 : Int)))] : List rField.den), ([((⟨#[98, 97, 115, 101]⟩ : ByteArray), ((0 : Int), ((-1 : Int), ((0 : Int), (((0 : Int), (109573 : Int)), (([] : List rType.den), (a0, ByteArray.empty)))))))] : List rRule.den)))))] : List rScope.den)
noncomputable def S26 (N : Nat) : Sig := { inn := ⟨[(0, .val false (.leaf (.slice rType)))], [], [], 0⟩, out := ⟨[(0, .val true (.pair .nil (.pair .nil (.own 0))))], [(0, .own 41 rScope)], [], 1⟩, fn := fun (x : List rType.den) => M.same_TinyLaw N x }
theorem W26 (N : Nat) : FnOK Tryz.prog 26 (S26 N) := fn_ok (E := ⟨tabs, [], tabnil, mixed, false, false⟩) (N := N) (a := .nil) (sg := S26 N) (c := Tryz.f26.body.getD .skip) (rs := Tryz.f26.results.toList) Tryz.func26 (by kernel_rfl) (by kernel_rfl) rfl rfl rfl rfl (fun x => by kernel_rfl)
noncomputable def M.law17_awake (N : Nat) : Option (Bool) :=
(M.same_TinyLaw N ([((2 : Int), (5 : Int))] : List rType.den)).bind fun y1 =>
(M.law_Validate N (([] : List rEnum.den), (([] : List rTable.den), y1))).bind fun y2 =>
(M.same_TinyLaw N ([((3 : Int), (5 : Int))] : List rType.den)).bind fun y3 =>
(M.law_Validate N (([] : List rEnum.den), (([] : List rTable.den), y3))).bind fun y4 =>
((if (eqR rLawError y2 ((8 : Int), ((3 : Int), ((0 : Int), (300 : Int))))) = true then
some (eqR rLawError y4 ((0 : Int), ((0 : Int), ((0 : Int), (0 : Int)))))
else
some false) : Option (Bool)).bind fun j5 =>
some j5
noncomputable def S10 (N : Nat) : Sig := { inn := ⟨[], [], [], 0⟩, out := ⟨[(0, .val false (.leaf .bool))], [], [], 0⟩, fn := fun (x : Unit) => M.law17_awake N }
theorem W10 (N : Nat) : FnOK Tryz.prog 10 (S10 N) := fn_ok (E := ⟨tabs, [(11, S11 N), (26, S26 N)], (tabcons (W11 N) (tabcons (W26 N) tabnil)), mixed, false, false⟩) (N := N) (a := (.two .nil (.two .nil (.two .nil (.meet ⟨[(0, .val false (.leaf .bool))], [], [], 208⟩ .nil .nil))))) (sg := S10 N) (c := Tryz.f10.body.getD .skip) (rs := Tryz.f10.results.toList) Tryz.func10 (by kernel_rfl) (by kernel_rfl) rfl rfl rfl rfl (fun x => by kernel_rfl)
noncomputable def M.ref08_lower (N : Nat) (a0 : Int) : Option (Bool) :=
((if (decide ((97 : Int) ≤ a0)) = true then
some (decide (a0 ≤ (122 : Int)))
else
some false) : Option (Bool)).bind fun j1 =>
some j1
noncomputable def S106 (N : Nat) : Sig := { inn := ⟨[(0, .val false (.leaf (.int .u8)))], [], [], 0⟩, out := ⟨[(0, .val false (.leaf .bool))], [], [], 0⟩, fn := fun (x : Int) => M.ref08_lower N x }
theorem W106 (N : Nat) : FnOK Tryz.prog 106 (S106 N) := fn_ok (E := ⟨tabs, [], tabnil, mixed, false, false⟩) (N := N) (a := (.two .nil (.meet ⟨[(2, .val false (.leaf .bool))], [], [], 16⟩ .nil .nil))) (sg := S106 N) (c := Tryz.f106.body.getD .skip) (rs := Tryz.f106.results.toList) Tryz.func106 (by kernel_rfl) (by kernel_rfl) rfl rfl rfl rfl (fun x => by kernel_rfl)
noncomputable def M.ref08_digit (N : Nat) (a0 : Int) : Option (Bool) :=
((if (decide ((48 : Int) ≤ a0)) = true then
some (decide (a0 ≤ (57 : Int)))
else
some false) : Option (Bool)).bind fun j1 =>
some j1
noncomputable def S135 (N : Nat) : Sig := { inn := ⟨[(0, .val false (.leaf (.int .u8)))], [], [], 0⟩, out := ⟨[(0, .val false (.leaf .bool))], [], [], 0⟩, fn := fun (x : Int) => M.ref08_digit N x }
theorem W135 (N : Nat) : FnOK Tryz.prog 135 (S135 N) := fn_ok (E := ⟨tabs, [], tabnil, mixed, false, false⟩) (N := N) (a := (.two .nil (.meet ⟨[(2, .val false (.leaf .bool))], [], [], 16⟩ .nil .nil))) (sg := S135 N) (c := Tryz.f135.body.getD .skip) (rs := Tryz.f135.results.toList) Tryz.func135 (by kernel_rfl) (by kernel_rfl) rfl rfl rfl rfl (fun x => by kernel_rfl)
noncomputable def M.ref08_word (N : Nat) (a0 : Int) : Option (Bool) :=
((M.ref08_lower N a0).bind fun y2 =>
(if y2 = true then
some true
else
(M.ref08_digit N a0).bind fun y3 =>
(if y3 = true then
some true
else
some (decide (a0 = (95 : Int))))) : Option (Bool)).bind fun j1 =>
some j1
noncomputable def S107 (N : Nat) : Sig := { inn := ⟨[(0, .val false (.leaf (.int .u8)))], [], [], 0⟩, out := ⟨[(0, .val false (.leaf .bool))], [], [], 0⟩, fn := fun (x : Int) => M.ref08_word N x }
theorem W107 (N : Nat) : FnOK Tryz.prog 107 (S107 N) := fn_ok (E := ⟨tabs, [(106, S106 N), (135, S135 N)], (tabcons (W106 N) (tabcons (W135 N) tabnil)), mixed, false, false⟩) (N := N) (a := (.two .nil (.meet ⟨[(2, .val false (.leaf .bool))], [], [], 16⟩ .nil .nil))) (sg := S107 N) (c := Tryz.f107.body.getD .skip) (rs := Tryz.f107.results.toList) Tryz.func107 (by kernel_rfl) (by kernel_rfl) rfl rfl rfl rfl (fun x => by kernel_rfl)
noncomputable def M.ref08_Reserved (N : Nat) : Option (List ByteArray) :=
some ([(⟨#[105, 102]⟩ : ByteArray), (⟨#[116, 104, 101, 110]⟩ : ByteArray), (⟨#[101, 108, 115, 101]⟩ : ByteArray), (⟨#[111, 114]⟩ : ByteArray), (⟨#[97, 110, 100]⟩ : ByteArray), (⟨#[110, 111, 116]⟩ : ByteArray), (⟨#[116, 114, 117, 101]⟩ : ByteArray), (⟨#[102, 97, 108, 115, 101]⟩ : ByteArray), (⟨#[116, 111, 100, 97, 121]⟩ : ByteArray), (⟨#[115, 104, 97, 114, 101]⟩ : ByteArray), (⟨#[100, 105, 118]⟩ : ByteArray), (⟨#[114, 111, 117, 110, 100]⟩ : ByteArray), (⟨#[109, 105, 110]⟩ : ByteArray), (⟨#[109, 97, 120]⟩ : ByteArray), (⟨#[112, 108, 117, 115]⟩ : ByteArray), (⟨#[109, 111, 110, 116, 104, 115]⟩ : ByteArray), (⟨#[100, 97, 121, 115]⟩ : ByteArray), (⟨#[121, 101, 97, 114, 115]⟩ : ByteArray), (⟨#[121, 101, 97, 114]⟩ : ByteArray), (⟨#[109, 111, 110, 116, 104]⟩ : ByteArray), (⟨#[116, 97, 98]⟩ : ByteArray), (⟨#[98, 97, 110, 100]⟩ : ByteArray), (⟨#[99, 111, 117, 110, 116]⟩ : ByteArray), (⟨#[115, 117, 109]⟩ : ByteArray), (⟨#[97, 108, 108]⟩ : ByteArray), (⟨#[97, 110, 121]⟩ : ByteArray), (⟨#[109, 111, 115, 116]⟩ : ByteArray), (⟨#[101, 110, 117, 109]⟩ : ByteArray), (⟨#[116, 97, 98, 108, 101]⟩ : ByteArray), (⟨#[114, 111, 119]⟩ : ByteArray), (⟨#[115, 99, 111, 112, 101]⟩ : ByteArray), (⟨#[109, 101, 109, 98, 101, 114, 115]⟩ : ByteArray), (⟨#[105, 110, 112, 117, 116]⟩ : ByteArray), (⟨#[100, 101, 102]⟩ : ByteArray), (⟨#[114, 117, 108, 101]⟩ : ByteArray), (⟨#[111, 102]⟩ : ByteArray), (⟨#[111, 118, 101, 114]⟩ : ByteArray), (⟨#[112, 114, 105, 111]⟩ : ByteArray), (⟨#[102, 114, 111, 109]⟩ : ByteArray), (⟨#[116, 111]⟩ : ByteArray), (⟨#[101, 110, 100]⟩ : ByteArray), (⟨#[119, 104, 101, 110]⟩ : ByteArray), (⟨#[105, 115]⟩ : ByteArray), (⟨#[115, 114, 99]⟩ : ByteArray), (⟨#[98, 111, 111, 108]⟩ : ByteArray), (⟨#[105, 110, 116]⟩ : ByteArray), (⟨#[109, 111, 110, 101, 121]⟩ : ByteArray), (⟨#[114, 97, 116, 101]⟩ : ByteArray), (⟨#[100, 97, 116, 101]⟩ : ByteArray), (⟨#[100, 111, 119, 110]⟩ : ByteArray), (⟨#[117, 112]⟩ : ByteArray), (⟨#[122, 101, 114, 111]⟩ : ByteArray), (⟨#[97, 119, 97, 121]⟩ : ByteArray), (⟨#[104, 97, 108, 102]⟩ : ByteArray), (⟨#[101, 118, 101, 110]⟩ : ByteArray)] : List ByteArray)
noncomputable def S108 (N : Nat) : Sig := { inn := ⟨[], [], [], 0⟩, out := ⟨[(0, .val false (.own 0))], [(0, .own 9 .str)], [], 1⟩, fn := fun (x : Unit) => M.ref08_Reserved N }
theorem W108 (N : Nat) : FnOK Tryz.prog 108 (S108 N) := fn_ok (E := ⟨tabs, [], tabnil, mixed, false, false⟩) (N := N) (a := .nil) (sg := S108 N) (c := Tryz.f108.body.getD .skip) (rs := Tryz.f108.results.toList) Tryz.func108 (by kernel_rfl) (by kernel_rfl) rfl rfl rfl rfl (fun x => by kernel_rfl)
noncomputable def M.ref08_IsIdentifier (N : Nat) (a0 : ByteArray) : Option (Bool) :=
((if (decide ((a0.size : Int) = (0 : Int))) = true then
some true
else
(if (decide ((16 : Int) < (a0.size : Int))) = true then
some true
else
(byteA a0 (0 : Int)).bind fun x2 =>
(M.ref08_lower N x2).bind fun y3 =>
some (!y3))) : Option (Bool)).bind fun j1 =>
(if j1 = true then
some false
else
Join (J := Unit) (R := Bool) (Loop (S := Int) (X := (Unit) ⊕ (Bool)) (fun s5 =>
(if (decide (s5 < (a0.size : Int))) = true then
(byteA a0 s5).bind fun x6 =>
(M.ref08_word N x6).bind fun y7 =>
(if (!y7) = true then
some (Sum.inr (Sum.inr false))
else
some (Sum.inl (IntKind.i64.wrap (s5 + (1 : Int)))))
else
some (Sum.inr (Sum.inl ())))) N (0 : Int)) fun j4 =>
(M.ref08_Reserved N).bind fun y8 =>
Loop (S := Int) (X := Bool) (fun s9 =>
(if (decide (s9 < (y8.length : Int))) = true then
(idx y8 s9).bind fun x10 =>
(if (decide (x10 = a0)) = true then
some (Sum.inr false)
else
some (Sum.inl (IntKind.i64.wrap (s9 + (1 : Int)))))
else
some (Sum.inr true))) N (0 : Int))
noncomputable def S66 (N : Nat) : Sig := { inn := ⟨[(0, .val false (.leaf .str))], [], [], 0⟩, out := ⟨[(0, .val false (.leaf .bool))], [], [], 0⟩, fn := fun (x : ByteArray) => M.ref08_IsIdentifier N x }
theorem W66 (N : Nat) : FnOK Tryz.prog 66 (S66 N) := fn_ok (E := ⟨tabs, [(106, S106 N), (107, S107 N), (108, S108 N)], (tabcons (W106 N) (tabcons (W107 N) (tabcons (W108 N) tabnil))), mixed, false, false⟩) (N := N) (a := (.two .nil (.two (.meet ⟨[(19, .val false (.leaf .bool))], [], [], 16⟩ .nil .nil) (.join ⟨[], [], [], 16⟩ (.two .nil (.two (.loop ⟨[(3, .val false (.leaf rInt))], [], [], 32⟩ .nil) .nil)) (.two .nil (.two (.two .nil (.two (.loop ⟨[(5, .val false (.leaf rInt))], [], [], 64⟩ .nil) .nil)) .nil)))))) (sg := S66 N) (c := Tryz.f66.body.getD .skip) (rs := Tryz.f66.results.toList) Tryz.func66 (by kernel_rfl) (by kernel_rfl) rfl rfl rfl rfl (fun x => by kernel_rfl)
noncomputable def M.ref17_nameTaken (N : Nat) (a0 : rLaw.den) (a1 : Int) (a2 : Int) (a3 : ByteArray) : Option (Bool) :=
Join (J := Unit) (R := Bool) (Loop (S := Int) (X := (Unit) ⊕ (Bool)) (fun s2 =>
(if (decide (s2 < (a0.1.length : Int))) = true then
((if (decide ((1 : Int) < a1)) = true then
(idx a0.1 s2).bind fun x4 =>
some (decide (x4.1 = a3))
else
(if (decide (s2 < a2)) = true then
(idx a0.1 s2).bind fun x5 =>
some (decide (x5.1 = a3))
else
some false)) : Option (Bool)).bind fun j3 =>
(if j3 = true then
some (Sum.inr (Sum.inr true))
else
some (Sum.inl (IntKind.i64.wrap (s2 + (1 : Int)))))
else
some (Sum.inr (Sum.inl ())))) N (0 : Int)) fun j1 =>
Join (J := Unit) (R := Bool) (Loop (S := Int) (X := (Unit) ⊕ (Bool)) (fun s7 =>
(if (decide (s7 < (a0.2.1.length : Int))) = true then
((if (decide ((2 : Int) < a1)) = true then
(idx a0.2.1 s7).bind fun x9 =>
some (decide (x9.1 = a3))
else
(if (decide (a1 = (2 : Int))) = true then
(if (decide (s7 < a2)) = true then
(idx a0.2.1 s7).bind fun x10 =>
some (decide (x10.1 = a3))
else
some false)
else
some false)) : Option (Bool)).bind fun j8 =>
(if j8 = true then
some (Sum.inr (Sum.inr true))
else
some (Sum.inl (IntKind.i64.wrap (s7 + (1 : Int)))))
else
some (Sum.inr (Sum.inl ())))) N (0 : Int)) fun j6 =>
Loop (S := Int) (X := Bool) (fun s11 =>
(if (decide (s11 < (a0.2.2.length : Int))) = true then
((if (decide (a1 = (3 : Int))) = true then
(if (decide (s11 < a2)) = true then
(idx a0.2.2 s11).bind fun x13 =>
some (decide (x13.1 = a3))
else
some false)
else
some false) : Option (Bool)).bind fun j12 =>
(if j12 = true then
some (Sum.inr true)
else
some (Sum.inl (IntKind.i64.wrap (s11 + (1 : Int)))))
else
some (Sum.inr false))) N (0 : Int)
noncomputable def S67 (N : Nat) : Sig := { inn := ⟨[(0, .val true (.leaf rLaw)), (1, .val false (.leaf rInt)), (2, .val false (.leaf rInt)), (3, .val false (.leaf .str))], [], [], 0⟩, out := ⟨[(0, .val false (.leaf .bool))], [], [], 0⟩, fn := fun (x : rLaw.den × Int × Int × ByteArray) => M.ref17_nameTaken N x.1 x.2.1 x.2.2.1 x.2.2.2 }
theorem W67 (N : Nat) : FnOK Tryz.prog 67 (S67 N) := fn_ok (E := ⟨tabs, [], tabnil, mixed, false, false⟩) (N := N) (a := (.two .nil (.join ⟨[], [], [], 32⟩ (.two .nil (.two (.loop ⟨[(9, .val false (.leaf rInt))], [], [], 48⟩ (.two .nil (.two (.two (.meet ⟨[(35, .val false (.leaf .bool))], [], [], 128⟩ .nil .nil) .nil) .nil))) .nil)) (.join ⟨[], [], [], 32⟩ (.two .nil (.two (.loop ⟨[(10, .val false (.leaf rInt))], [], [], 48⟩ (.two .nil (.two (.two (.meet ⟨[(63, .val false (.leaf .bool))], [], [], 128⟩ .nil .nil) .nil) .nil))) .nil)) (.two (.two .nil (.two (.loop ⟨[(11, .val false (.leaf rInt))], [], [], 48⟩ (.two .nil (.two (.two (.meet ⟨[(87, .val false (.leaf .bool))], [], [], 128⟩ .nil .nil) .nil) .nil))) .nil)) .nil))))) (sg := S67 N) (c := Tryz.f67.body.getD .skip) (rs := Tryz.f67.results.toList) Tryz.func67 (by kernel_rfl) (by kernel_rfl) rfl rfl rfl rfl (fun x => by kernel_rfl)
noncomputable def M.ref17_enumError (N : Nat) (a0 : rLaw.den) (a1 : Int) : Option (rLawError.den) :=
(idx a0.1 a1).bind fun x1 =>
(M.ref08_IsIdentifier N x1.1).bind fun y2 =>
(if (!y2) = true then
some ((2 : Int), ((1 : Int), (a1, (0 : Int))))
else
(M.ref17_nameTaken N a0 (1 : Int) a1 x1.1).bind fun y3 =>
(if y3 = true then
some ((7 : Int), ((1 : Int), (a1, (0 : Int))))
else
(if (decide ((x1.2.length : Int) = (0 : Int))) = true then
some ((5 : Int), ((1 : Int), (a1, (0 : Int))))
else
(if (decide ((16 : Int) < (x1.2.length : Int))) = true then
some ((4 : Int), ((1 : Int), (a1, (116 : Int))))
else
Join (J := rLawError.den) (R := rLawError.den) (Loop (S := Int × rLawError.den) (X := (rLawError.den) ⊕ (rLawError.den)) (fun s5 =>
(if (decide (s5.1 < (x1.2.length : Int))) = true then
Join (J := rLawError.den) (R := (Int × rLawError.den) ⊕ ((rLawError.den) ⊕ (rLawError.den))) ((idx x1.2 s5.1).bind fun x7 =>
(M.ref08_IsIdentifier N x7).bind fun y8 =>
(if (!y8) = true then
some (Sum.inr (Sum.inr (Sum.inr ((2 : Int), (s5.2.2.1, (s5.2.2.2.1, IntKind.i64.wrap ((100 : Int) + s5.1)))))))
else
Loop (S := Int) (X := (rLawError.den) ⊕ ((Int × rLawError.den) ⊕ ((rLawError.den) ⊕ (rLawError.den)))) (fun s9 =>
(if (decide (s9 < s5.1)) = true then
(idx x1.2 s9).bind fun x10 =>
(idx x1.2 s5.1).bind fun x11 =>
(if (decide (x10 = x11)) = true then
some (Sum.inr (Sum.inr (Sum.inr (Sum.inr ((7 : Int), (s5.2.2.1, (s5.2.2.2.1, IntKind.i64.wrap ((100 : Int) + s5.1))))))))
else
some (Sum.inl (IntKind.i64.wrap (s9 + (1 : Int)))))
else
some (Sum.inr (Sum.inl (s5.2.1, (s5.2.2.1, (s5.2.2.2.1, IntKind.i64.wrap ((100 : Int) + s5.1)))))))) N (0 : Int))) fun j6 =>
some (Sum.inl (IntKind.i64.wrap (s5.1 + (1 : Int)), j6))
else
some (Sum.inr (Sum.inl s5.2)))) N ((0 : Int), ((0 : Int), ((1 : Int), (a1, (0 : Int)))))) fun j4 =>
some ((0 : Int), ((0 : Int), ((0 : Int), (0 : Int))))))))
noncomputable def S30 (N : Nat) : Sig := { inn := ⟨[(0, .val true (.leaf rLaw)), (1, .val false (.leaf rInt))], [], [], 0⟩, out := ⟨[(0, .val true (.leaf rLawError))], [], [], 0⟩, fn := fun (x : rLaw.den × Int) => M.ref17_enumError N x.1 x.2 }
theorem W30 (N : Nat) : FnOK Tryz.prog 30 (S30 N) := fn_ok (E := ⟨tabs, [(66, S66 N), (67, S67 N)], (tabcons (W66 N) (tabcons (W67 N) tabnil)), mixed, false, false⟩) (N := N) (a := (.two .nil (.two .nil (.two .nil (.two .nil (.two .nil (.two .nil (.two .nil (.join ⟨[], [(176, .box 31 (.leaf rLawError))], [], 481⟩ (.two .nil (.two (.loop ⟨[(7, .val false (.leaf rInt))], [(176, .box 31 (.leaf rLawError))], [], 497⟩ (.two .nil (.join ⟨[], [(176, .box 31 (.leaf rLawError))], [], 578⟩ (.two (.two .nil (.two .nil (.two .nil (.two (.loop ⟨[(8, .val false (.leaf rInt))], [], [], 769⟩ .nil) .nil)))) .nil) .nil))) .nil)) .nil))))))))) (sg := S30 N) (c := Tryz.f30.body.getD .skip) (rs := Tryz.f30.results.toList) Tryz.func30 (by kernel_rfl) (by kernel_rfl) rfl rfl rfl rfl (fun x => by kernel_rfl)
noncomputable def M.ref09_ValidType (N : Nat) (a0 : rType.den) (a1 : List rEnum.den) : Option (Bool) :=
(if (decide (a0.1 = (6 : Int))) = true then
((if (decide ((0 : Int) ≤ a0.2)) = true then
some (decide (a0.2 < (a1.length : Int)))
else
some false) : Option (Bool)).bind fun j1 =>
some j1
else
((if (decide ((1 : Int) ≤ a0.1)) = true then
(if (decide (a0.1 ≤ (5 : Int))) = true then
some (decide (a0.2 = (0 : Int)))
else
some false)
else
some false) : Option (Bool)).bind fun j2 =>
some j2)
noncomputable def S109 (N : Nat) : Sig := { inn := ⟨[(0, .val true (.leaf rType)), (1, .val false (.leaf (.slice rEnum)))], [], [], 0⟩, out := ⟨[(0, .val false (.leaf .bool))], [], [], 0⟩, fn := fun (x : rType.den × List rEnum.den) => M.ref09_ValidType N x.1 x.2 }
theorem W109 (N : Nat) : FnOK Tryz.prog 109 (S109 N) := fn_ok (E := ⟨tabs, [], tabnil, mixed, false, false⟩) (N := N) (a := (.two .nil (.two (.two .nil (.two (.meet ⟨[(4, .val false (.leaf .bool))], [], [], 80⟩ .nil .nil) .nil)) (.meet ⟨[(4, .val false (.leaf .bool))], [], [], 80⟩ .nil .nil)))) (sg := S109 N) (c := Tryz.f109.body.getD .skip) (rs := Tryz.f109.results.toList) Tryz.func109 (by kernel_rfl) (by kernel_rfl) rfl rfl rfl rfl (fun x => by kernel_rfl)
noncomputable def M.ref05_Valid (N : Nat) (a0 : rType.den) : Option (Bool) :=
((if (decide ((0 : Int) ≤ a0.1)) = true then
(if (decide (a0.1 ≤ a0.2)) = true then
some (decide (a0.2 ≤ (109573 : Int)))
else
some false)
else
some false) : Option (Bool)).bind fun j1 =>
some j1
noncomputable def S113 (N : Nat) : Sig := { inn := ⟨[(0, .val true (.leaf rType))], [], [], 0⟩, out := ⟨[(0, .val false (.leaf .bool))], [], [], 0⟩, fn := fun (x : rType.den) => M.ref05_Valid N x }
theorem W113 (N : Nat) : FnOK Tryz.prog 113 (S113 N) := fn_ok (E := ⟨tabs, [], tabnil, mixed, false, false⟩) (N := N) (a := (.two .nil (.meet ⟨[(2, .val false (.leaf .bool))], [], [], 32⟩ .nil .nil))) (sg := S113 N) (c := Tryz.f113.body.getD .skip) (rs := Tryz.f113.results.toList) Tryz.func113 (by kernel_rfl) (by kernel_rfl) rfl rfl rfl rfl (fun x => by kernel_rfl)
noncomputable def M.ref09_Bounds (N : Nat) (a0 : rType.den) (a1 : List rEnum.den) : Option (Int × Int) :=
(M.ref09_ValidType N a0 a1).bind fun y1 =>
(if (!y1) = true then
some ((0 : Int), (-1 : Int))
else
(if (decide (a0.1 = (1 : Int))) = true then
some ((0 : Int), (1 : Int))
else
(if (decide (a0.1 = (2 : Int))) = true then
some ((-1000000000000 : Int), (1000000000000 : Int))
else
(if (decide (a0.1 = (3 : Int))) = true then
some ((-1000000000000000 : Int), (1000000000000000 : Int))
else
(if (decide (a0.1 = (4 : Int))) = true then
some ((-1000000000 : Int), (1000000000 : Int))
else
(if (decide (a0.1 = (5 : Int))) = true then
some ((0 : Int), (109572 : Int))
else
(idx a1 a0.2).bind fun x2 =>
some ((0 : Int), IntKind.i64.wrap ((x2.2.length : Int) - (1 : Int)))))))))
noncomputable def S149 (N : Nat) : Sig := { inn := ⟨[(0, .val true (.leaf rType)), (1, .val false (.leaf (.slice rEnum)))], [], [], 0⟩, out := ⟨[(0, .val false (.leaf rInt)), (1, .val false (.leaf rInt))], [], [], 0⟩, fn := fun (x : rType.den × List rEnum.den) => M.ref09_Bounds N x.1 x.2 }
theorem W149 (N : Nat) : FnOK Tryz.prog 149 (S149 N) := fn_ok (E := ⟨tabs, [(109, S109 N)], (tabcons (W109 N) tabnil), mixed, false, false⟩) (N := N) (a := .nil) (sg := S149 N) (c := Tryz.f149.body.getD .skip) (rs := Tryz.f149.results.toList) Tryz.func149 (by kernel_rfl) (by kernel_rfl) rfl rfl rfl rfl (fun x => by kernel_rfl)
noncomputable def M.ref09_In (N : Nat) (a0 : Int) (a1 : rType.den) (a2 : List rEnum.den) : Option (Bool) :=
(M.ref09_Bounds N a1 a2).bind fun y1 =>
((if (decide (y1.1 ≤ a0)) = true then
some (decide (a0 ≤ y1.2))
else
some false) : Option (Bool)).bind fun j2 =>
some j2
noncomputable def S136 (N : Nat) : Sig := { inn := ⟨[(0, .val false (.leaf rInt)), (1, .val true (.leaf rType)), (2, .val false (.leaf (.slice rEnum)))], [], [], 0⟩, out := ⟨[(0, .val false (.leaf .bool))], [], [], 0⟩, fn := fun (x : Int × rType.den × List rEnum.den) => M.ref09_In N x.1 x.2.1 x.2.2 }
theorem W136 (N : Nat) : FnOK Tryz.prog 136 (S136 N) := fn_ok (E := ⟨tabs, [(149, S149 N)], (tabcons (W149 N) tabnil), mixed, false, false⟩) (N := N) (a := (.two .nil (.two .nil (.meet ⟨[(6, .val false (.leaf .bool))], [], [], 160⟩ .nil .nil)))) (sg := S136 N) (c := Tryz.f136.body.getD .skip) (rs := Tryz.f136.results.toList) Tryz.func136 (by kernel_rfl) (by kernel_rfl) rfl rfl rfl rfl (fun x => by kernel_rfl)
noncomputable def M.ref12_wrong (N : Nat) (a0 : rRow.den) (a1 : rTable.den) (a2 : List rEnum.den) : Option (Bool) :=
((M.ref05_Valid N a0.1).bind fun y2 =>
(if (!y2) = true then
some true
else
(if (decide (a0.1.1 = a0.1.2)) = true then
some true
else
some (decide (a0.2.2.1 ≤ a0.2.1)))) : Option (Bool)).bind fun j1 =>
(if j1 = true then
some true
else
((M.ref09_In N a0.2.1 a1.2.1 a2).bind fun y4 =>
(if (!y4) = true then
some true
else
(M.ref09_In N (IntKind.i64.wrap (a0.2.2.1 - (1 : Int))) a1.2.1 a2).bind fun y5 =>
(if (!y5) = true then
some true
else
(M.ref09_In N a0.2.2.2 a1.2.2.1 a2).bind fun y6 =>
some (!y6))) : Option (Bool)).bind fun j3 =>
some j3)
noncomputable def S110 (N : Nat) : Sig := { inn := ⟨[(0, .val true (.leaf rRow)), (1, .val true (.leaf rTable)), (2, .val false (.leaf (.slice rEnum)))], [], [], 0⟩, out := ⟨[(0, .val false (.leaf .bool))], [], [], 0⟩, fn := fun (x : rRow.den × rTable.den × List rEnum.den) => M.ref12_wrong N x.1 x.2.1 x.2.2 }
theorem W110 (N : Nat) : FnOK Tryz.prog 110 (S110 N) := fn_ok (E := ⟨tabs, [(113, S113 N), (136, S136 N)], (tabcons (W113 N) (tabcons (W136 N) tabnil)), mixed, false, false⟩) (N := N) (a := (.two .nil (.two (.meet ⟨[(26, .val false (.leaf .bool))], [], [], 48⟩ .nil .nil) (.meet ⟨[(6, .val false (.leaf .bool))], [], [], 48⟩ .nil .nil)))) (sg := S110 N) (c := Tryz.f110.body.getD .skip) (rs := Tryz.f110.results.toList) Tryz.func110 (by kernel_rfl) (by kernel_rfl) rfl rfl rfl rfl (fun x => by kernel_rfl)
noncomputable def M.ref05_Intersect (N : Nat) (a0 : rType.den) (a1 : rType.den) : Option (rType.den × Bool) :=
((M.ref05_Valid N a0).bind fun y2 =>
(if (!y2) = true then
some true
else
(M.ref05_Valid N a1).bind fun y3 =>
some (!y3)) : Option (Bool)).bind fun j1 =>
(if j1 = true then
some (((0 : Int), (0 : Int)), false)
else
(if (decide ((if a1.2 < a0.2 then a1.2 else a0.2) ≤ (if a0.1 < a1.1 then a1.1 else a0.1))) = true then
some (((0 : Int), (0 : Int)), false)
else
some ((if a0.1 < a1.1 then a1.1 else a0.1, if a1.2 < a0.2 then a1.2 else a0.2), true)))
noncomputable def S137 (N : Nat) : Sig := { inn := ⟨[(0, .val true (.leaf rType)), (1, .val true (.leaf rType))], [], [], 0⟩, out := ⟨[(0, .val true (.leaf rType)), (1, .val false (.leaf .bool))], [], [], 0⟩, fn := fun (x : rType.den × rType.den) => M.ref05_Intersect N x.1 x.2 }
theorem W137 (N : Nat) : FnOK Tryz.prog 137 (S137 N) := fn_ok (E := ⟨tabs, [(113, S113 N)], (tabcons (W113 N) tabnil), mixed, false, false⟩) (N := N) (a := (.two .nil (.two (.meet ⟨[(14, .val false (.leaf .bool))], [], [], 64⟩ .nil .nil) .nil))) (sg := S137 N) (c := Tryz.f137.body.getD .skip) (rs := Tryz.f137.results.toList) Tryz.func137 (by kernel_rfl) (by kernel_rfl) rfl rfl rfl rfl (fun x => by kernel_rfl)
noncomputable def M.ref12_conflict (N : Nat) (a0 : rRow.den) (a1 : rRow.den) : Option (Bool) :=
(M.ref05_Intersect N a0.1 a1.1).bind fun y1 =>
((if y1.2 = true then
some (decide ((if a0.2.1 < a1.2.1 then a1.2.1 else a0.2.1) < (if a1.2.2.1 < a0.2.2.1 then a1.2.2.1 else a0.2.2.1)))
else
some false) : Option (Bool)).bind fun j2 =>
some j2
noncomputable def S111 (N : Nat) : Sig := { inn := ⟨[(0, .val true (.leaf rRow)), (1, .val true (.leaf rRow))], [], [], 0⟩, out := ⟨[(0, .val false (.leaf .bool))], [], [], 0⟩, fn := fun (x : rRow.den × rRow.den) => M.ref12_conflict N x.1 x.2 }
theorem W111 (N : Nat) : FnOK Tryz.prog 111 (S111 N) := fn_ok (E := ⟨tabs, [(137, S137 N)], (tabcons (W137 N) tabnil), mixed, false, false⟩) (N := N) (a := (.two .nil (.two .nil (.meet ⟨[(4, .val false (.leaf .bool))], [], [], 224⟩ .nil .nil)))) (sg := S111 N) (c := Tryz.f111.body.getD .skip) (rs := Tryz.f111.results.toList) Tryz.func111 (by kernel_rfl) (by kernel_rfl) rfl rfl rfl rfl (fun x => by kernel_rfl)
noncomputable def M.ref12_Validate (N : Nat) (a0 : rTable.den) (a1 : List rEnum.den) : Option (Int × Int) :=
(if (decide ((64 : Int) < (a0.2.2.2.length : Int))) = true then
some ((64 : Int), (4 : Int))
else
((M.ref09_ValidType N a0.2.1 a1).bind fun y2 =>
(if (!y2) = true then
some true
else
(M.ref09_ValidType N a0.2.2.1 a1).bind fun y3 =>
some (!y3)) : Option (Bool)).bind fun j1 =>
(if j1 = true then
some ((-1 : Int), (8 : Int))
else
Loop (S := Int) (X := Int × Int) (fun s4 =>
(if (decide (s4 < (a0.2.2.2.length : Int))) = true then
Join (J := Unit) (R := (Int) ⊕ (Int × Int)) ((idx a0.2.2.2 s4).bind fun x6 =>
(M.ref12_wrong N x6 a0 a1).bind fun y7 =>
(if y7 = true then
some (Sum.inr (Sum.inr (s4, (3 : Int))))
else
Loop (S := Int) (X := (Unit) ⊕ ((Int) ⊕ (Int × Int))) (fun s8 =>
(if (decide (s8 < s4)) = true then
(idx a0.2.2.2 s8).bind fun x9 =>
(idx a0.2.2.2 s4).bind fun x10 =>
(M.ref12_conflict N x9 x10).bind fun y11 =>
(if y11 = true then
some (Sum.inr (Sum.inr (Sum.inr (s4, (11 : Int)))))
else
some (Sum.inl (IntKind.i64.wrap (s8 + (1 : Int)))))
else
some (Sum.inr (Sum.inl ())))) N (0 : Int))) fun j5 =>
some (Sum.inl (IntKind.i64.wrap (s4 + (1 : Int))))
else
some (Sum.inr ((0 : Int), (0 : Int))))) N (0 : Int)))
noncomputable def S68 (N : Nat) : Sig := { inn := ⟨[(0, .val true (.leaf rTable)), (1, .val false (.leaf (.slice rEnum)))], [], [], 0⟩, out := ⟨[(0, .val false (.leaf rInt)), (1, .val false (.leaf rInt))], [], [], 0⟩, fn := fun (x : rTable.den × List rEnum.den) => M.ref12_Validate N x.1 x.2 }
theorem W68 (N : Nat) : FnOK Tryz.prog 68 (S68 N) := fn_ok (E := ⟨tabs, [(109, S109 N), (110, S110 N), (111, S111 N)], (tabcons (W109 N) (tabcons (W110 N) (tabcons (W111 N) tabnil))), mixed, false, false⟩) (N := N) (a := (.two .nil (.two .nil (.two (.meet ⟨[(23, .val false (.leaf .bool))], [], [], 112⟩ .nil .nil) (.two (.two .nil (.two (.loop ⟨[(6, .val false (.leaf rInt))], [], [], 128⟩ (.two .nil (.join ⟨[], [], [], 208⟩ (.two (.two .nil (.two .nil (.two (.loop ⟨[(7, .val false (.leaf rInt))], [], [], 352⟩ .nil) .nil))) .nil) .nil))) .nil)) .nil))))) (sg := S68 N) (c := Tryz.f68.body.getD .skip) (rs := Tryz.f68.results.toList) Tryz.func68 (by kernel_rfl) (by kernel_rfl) rfl rfl rfl rfl (fun x => by kernel_rfl)
noncomputable def M.ref17_tableError (N : Nat) (a0 : rLaw.den) (a1 : Int) : Option (rLawError.den) :=
(idx a0.2.1 a1).bind fun x1 =>
(M.ref08_IsIdentifier N x1.1).bind fun y2 =>
(if (!y2) = true then
some ((2 : Int), ((2 : Int), (a1, (0 : Int))))
else
(M.ref17_nameTaken N a0 (2 : Int) a1 x1.1).bind fun y3 =>
(if y3 = true then
some ((7 : Int), ((2 : Int), (a1, (0 : Int))))
else
(M.ref12_Validate N x1 a0.1).bind fun y4 =>
(if (decide (y4.2 = (0 : Int))) = true then
some ((0 : Int), ((0 : Int), ((0 : Int), (0 : Int))))
else
((if (decide ((0 : Int) ≤ y4.1)) = true then
some (y4.2, ((2 : Int), (a1, IntKind.i64.wrap ((100 : Int) + y4.1))))
else
some (y4.2, ((2 : Int), (a1, (0 : Int))))) : Option (rLawError.den)).bind fun j5 =>
some j5)))
noncomputable def S31 (N : Nat) : Sig := { inn := ⟨[(0, .val true (.leaf rLaw)), (1, .val false (.leaf rInt))], [], [], 0⟩, out := ⟨[(0, .val true (.leaf rLawError))], [], [], 0⟩, fn := fun (x : rLaw.den × Int) => M.ref17_tableError N x.1 x.2 }
theorem W31 (N : Nat) : FnOK Tryz.prog 31 (S31 N) := fn_ok (E := ⟨tabs, [(66, S66 N), (67, S67 N), (68, S68 N)], (tabcons (W66 N) (tabcons (W67 N) (tabcons (W68 N) tabnil))), mixed, false, false⟩) (N := N) (a := (.two .nil (.two .nil (.two .nil (.two .nil (.two .nil (.two .nil (.two .nil (.two .nil (.meet ⟨[], [(176, .box 31 (.leaf rLawError))], [], 577⟩ .nil .nil)))))))))) (sg := S31 N) (c := Tryz.f31.body.getD .skip) (rs := Tryz.f31.results.toList) Tryz.func31 (by kernel_rfl) (by kernel_rfl) rfl rfl rfl rfl (fun x => by kernel_rfl)
noncomputable def M.ref17_hasField (N : Nat) (a0 : List rField.den) (a1 : Int) (a2 : ByteArray) : Option (Bool) :=
Loop (S := Int) (X := Bool) (fun s1 =>
((if (decide (s1 < a1)) = true then
some (decide (s1 < (a0.length : Int)))
else
some false) : Option (Bool)).bind fun j2 =>
(if j2 = true then
(idx a0 s1).bind fun x3 =>
(if (decide (x3.1 = a2)) = true then
some (Sum.inr true)
else
some (Sum.inl (IntKind.i64.wrap (s1 + (1 : Int)))))
else
some (Sum.inr false))) N (0 : Int)
noncomputable def S112 (N : Nat) : Sig := { inn := ⟨[(0, .val false (.leaf (.slice rField))), (1, .val false (.leaf rInt)), (2, .val false (.leaf .str))], [], [], 0⟩, out := ⟨[(0, .val false (.leaf .bool))], [], [], 0⟩, fn := fun (x : (List rField.den) × Int × ByteArray) => M.ref17_hasField N x.1 x.2.1 x.2.2 }
theorem W112 (N : Nat) : FnOK Tryz.prog 112 (S112 N) := fn_ok (E := ⟨tabs, [], tabnil, mixed, false, false⟩) (N := N) (a := (.two .nil (.two (.two .nil (.two (.loop ⟨[(7, .val false (.leaf rInt))], [], [], 32⟩ (.two (.meet ⟨[(16, .val false (.leaf .bool))], [], [], 32⟩ .nil .nil) .nil)) .nil)) .nil))) (sg := S112 N) (c := Tryz.f112.body.getD .skip) (rs := Tryz.f112.results.toList) Tryz.func112 (by kernel_rfl) (by kernel_rfl) rfl rfl rfl rfl (fun x => by kernel_rfl)
noncomputable def M.ref17_fieldError (N : Nat) (a0 : rLaw.den) (a1 : Int) : Option (rLawError.den) :=
(idx a0.2.2 a1).bind fun x1 =>
Join (J := Unit) (R := rLawError.den) (Loop (S := Int) (X := (Unit) ⊕ (rLawError.den)) (fun s3 =>
(if (decide (s3 < (x1.2.2.1.length : Int))) = true then
((idx x1.2.2.1 s3).bind fun x5 =>
(M.ref08_IsIdentifier N x5.1).bind fun y6 =>
(if (!y6) = true then
some ((2 : Int), ((3 : Int), (a1, IntKind.i64.wrap ((100 : Int) + s3))))
else
(idx x1.2.2.1 s3).bind fun x7 =>
(M.ref17_hasField N x1.2.2.1 s3 x7.1).bind fun y8 =>
(if y8 = true then
some ((7 : Int), ((3 : Int), (a1, IntKind.i64.wrap ((100 : Int) + s3))))
else
(idx x1.2.2.1 s3).bind fun x9 =>
(M.ref09_ValidType N x9.2 a0.1).bind fun y10 =>
(if (!y10) = true then
some ((8 : Int), ((3 : Int), (a1, IntKind.i64.wrap ((100 : Int) + s3))))
else
some ((0 : Int), ((3 : Int), (a1, IntKind.i64.wrap ((100 : Int) + s3))))))) : Option (rLawError.den)).bind fun j4 =>
(if (!decide (j4.1 = (0 : Int))) = true then
some (Sum.inr (Sum.inr j4))
else
some (Sum.inl (IntKind.i64.wrap (s3 + (1 : Int)))))
else
some (Sum.inr (Sum.inl ())))) N (0 : Int)) fun j2 =>
Join (J := Unit) (R := rLawError.den) (Loop (S := Int) (X := (Unit) ⊕ (rLawError.den)) (fun s12 =>
(if (decide (s12 < (x1.2.2.2.1.length : Int))) = true then
((idx x1.2.2.2.1 s12).bind fun x14 =>
(M.ref08_IsIdentifier N x14.1).bind fun y15 =>
(if (!y15) = true then
some ((2 : Int), ((3 : Int), (a1, IntKind.i64.wrap ((200 : Int) + s12))))
else
((idx x1.2.2.2.1 s12).bind fun x17 =>
(M.ref17_hasField N x1.2.2.1 (x1.2.2.1.length : Int) x17.1).bind fun y18 =>
(if y18 = true then
some true
else
(idx x1.2.2.2.1 s12).bind fun x19 =>
(M.ref17_hasField N x1.2.2.2.1 s12 x19.1).bind fun y20 =>
some y20) : Option (Bool)).bind fun j16 =>
(if j16 = true then
some ((7 : Int), ((3 : Int), (a1, IntKind.i64.wrap ((200 : Int) + s12))))
else
(idx x1.2.2.2.1 s12).bind fun x21 =>
(M.ref09_ValidType N x21.2 a0.1).bind fun y22 =>
(if (!y22) = true then
some ((8 : Int), ((3 : Int), (a1, IntKind.i64.wrap ((200 : Int) + s12))))
else
some ((0 : Int), ((3 : Int), (a1, IntKind.i64.wrap ((200 : Int) + s12))))))) : Option (rLawError.den)).bind fun j13 =>
(if (!decide (j13.1 = (0 : Int))) = true then
some (Sum.inr (Sum.inr j13))
else
some (Sum.inl (IntKind.i64.wrap (s12 + (1 : Int)))))
else
some (Sum.inr (Sum.inl ())))) N (0 : Int)) fun j11 =>
some ((0 : Int), ((0 : Int), ((0 : Int), (0 : Int))))
noncomputable def S69 (N : Nat) : Sig := { inn := ⟨[(0, .val true (.leaf rLaw)), (1, .val false (.leaf rInt))], [], [], 0⟩, out := ⟨[(0, .val true (.leaf rLawError))], [], [], 0⟩, fn := fun (x : rLaw.den × Int) => M.ref17_fieldError N x.1 x.2 }
theorem W69 (N : Nat) : FnOK Tryz.prog 69 (S69 N) := fn_ok (E := ⟨tabs, [(66, S66 N), (109, S109 N), (112, S112 N)], (tabcons (W66 N) (tabcons (W109 N) (tabcons (W112 N) tabnil))), mixed, false, false⟩) (N := N) (a := (.two .nil (.two .nil (.join ⟨[], [], [], 144⟩ (.two .nil (.two (.loop ⟨[(6, .val false (.leaf rInt))], [], [], 160⟩ (.two .nil (.two (.two (.two .nil (.meet ⟨[], [(304, .box 31 (.leaf rLawError))], [], 337⟩ .nil .nil)) .nil) .nil))) .nil)) (.join ⟨[], [], [], 144⟩ (.two .nil (.two (.loop ⟨[(8, .val false (.leaf rInt))], [], [], 160⟩ (.two .nil (.two (.two (.two .nil (.meet ⟨[], [(304, .box 31 (.leaf rLawError))], [], 337⟩ (.two .nil (.two .nil (.meet ⟨[(104, .val false (.leaf .bool))], [], [], 464⟩ .nil .nil))) .nil)) .nil) .nil))) .nil)) .nil))))) (sg := S69 N) (c := Tryz.f69.body.getD .skip) (rs := Tryz.f69.results.toList) Tryz.func69 (by kernel_rfl) (by kernel_rfl) rfl rfl rfl rfl (fun x => by kernel_rfl)
noncomputable def M.ref17_fieldTypes (N : Nat) (a0 : List rField.den) : Option (List rType.den) :=
Loop (S := Int × List rType.den) (X := List rType.den) (fun s1 =>
(if (decide (s1.1 < (a0.length : Int))) = true then
(idx a0 s1.1).bind fun x2 =>
(appA s1.2 ([x2.2] : List rType.den)).bind fun l3 =>
some (Sum.inl (IntKind.i64.wrap (s1.1 + (1 : Int)), l3))
else
some (Sum.inr s1.2))) N ((0 : Int), ([] : List rType.den))
noncomputable def S46 (N : Nat) : Sig := { inn := ⟨[(0, .val false (.leaf (.slice rField)))], [], [], 0⟩, out := ⟨[(0, .val false (.own 0))], [(0, .own 43 rType)], [], 1⟩, fn := fun (x : List rField.den) => M.ref17_fieldTypes N x }
theorem W46 (N : Nat) : FnOK Tryz.prog 46 (S46 N) := fn_ok (E := ⟨tabs, [], tabnil, mixed, false, false⟩) (N := N) (a := (.two .nil (.two .nil (.two (.two .nil (.two (.loop ⟨[(3, .val false (.own 48)), (4, .val false (.leaf rInt))], [(48, .own 43 rType)], [], 49⟩ .nil) .nil)) .nil)))) (sg := S46 N) (c := Tryz.f46.body.getD .skip) (rs := Tryz.f46.results.toList) Tryz.func46 (by kernel_rfl) (by kernel_rfl) rfl rfl rfl rfl (fun x => by kernel_rfl)
noncomputable def M.ref17_Signature (N : Nat) (a0 : rLaw.den) (a1 : Int) : Option ((List rEnum.den) × (List rTable.den) × Bool × (List rType.den) × (List rType.den) × List rType.den) :=
((if (decide (a1 < (0 : Int))) = true then
some true
else
some (decide ((a0.2.2.length : Int) ≤ a1))) : Option (Bool)).bind fun j1 =>
(if j1 = true then
some (([] : List rEnum.den), ([] : List rTable.den), false, ([] : List rType.den), ([] : List rType.den), ([] : List rType.den))
else
(idx a0.2.2 a1).bind fun x2 =>
(M.ref17_fieldTypes N x2.2.2.1).bind fun y3 =>
(M.ref17_fieldTypes N x2.2.2.2.1).bind fun y4 =>
(((if (decide ((0 : Int) ≤ x2.2.1)) = true then
some (decide (x2.2.1 < (a0.2.2.length : Int)))
else
some false) : Option (Bool)).bind fun j6 =>
(if j6 = true then
(idx a0.2.2 x2.2.1).bind fun x7 =>
(M.ref17_fieldTypes N x7.2.2.2.1).bind fun y8 =>
some (y3, y4, a0.1, a0.2.1, true, y8)
else
some (y3, y4, a0.1, a0.2.1, false, ([] : List rType.den))) : Option ((List rType.den) × (List rType.den) × (List rEnum.den) × (List rTable.den) × Bool × List rType.den)).bind fun j5 =>
some (j5.2.2.1, j5.2.2.2.1, j5.2.2.2.2.1, j5.1, j5.2.1, j5.2.2.2.2.2))
noncomputable def S18 (N : Nat) : Sig := { inn := ⟨[(0, .val true (.leaf rLaw)), (1, .val false (.leaf rInt))], [], [], 0⟩, out := ⟨[(0, .val true (.pair (.leaf (.slice rEnum)) (.pair (.leaf (.slice rTable)) (.pair (.own 0) (.pair (.own 1) (.pair (.own 2) (.leaf .bool)))))))], [(0, .own 43 rType), (1, .own 43 rType), (2, .own 43 rType)], [], 3⟩, fn := fun (x : rLaw.den × Int) => M.ref17_Signature N x.1 x.2 }
theorem W18 (N : Nat) : FnOK Tryz.prog 18 (S18 N) := fn_ok (E := ⟨tabs, [(46, S46 N)], (tabcons (W46 N) tabnil), mixed, false, false⟩) (N := N) (a := (.two .nil (.two (.meet ⟨[(15, .val false (.leaf .bool))], [], [], 32⟩ .nil .nil) (.two .nil (.two .nil (.meet ⟨[], [(240, .own 43 rType), (288, .own 43 rType), (320, .box 50 (.pair (.leaf (.slice rEnum)) (.pair (.leaf (.slice rTable)) (.pair (.own 240) (.pair (.own 288) (.pair (.own 352) (.leaf .bool))))))), (352, .own 43 rType)], [], 356⟩ (.meet ⟨[(43, .val false (.leaf .bool))], [], [], 352⟩ .nil .nil) .nil)))))) (sg := S18 N) (c := Tryz.f18.body.getD .skip) (rs := Tryz.f18.results.toList) Tryz.func18 (by kernel_rfl) (by kernel_rfl) rfl rfl rfl rfl (fun x => by kernel_rfl)
noncomputable def M.ref17_plainText (N : Nat) (a0 : ByteArray) : Option (Bool) :=
Loop (S := Int) (X := Bool) (fun s1 =>
(if (decide (s1 < (a0.size : Int))) = true then
((byteA a0 s1).bind fun x3 =>
(if (decide (x3 < (32 : Int))) = true then
some true
else
(byteA a0 s1).bind fun x4 =>
(if (decide ((126 : Int) < x4)) = true then
some true
else
(byteA a0 s1).bind fun x5 =>
some (decide (x5 = (34 : Int))))) : Option (Bool)).bind fun j2 =>
(if j2 = true then
some (Sum.inr false)
else
some (Sum.inl (IntKind.i64.wrap (s1 + (1 : Int)))))
else
some (Sum.inr (decide ((a0.size : Int) ≤ (64 : Int)))))) N (0 : Int)
noncomputable def S114 (N : Nat) : Sig := { inn := ⟨[(0, .val false (.leaf .str))], [], [], 0⟩, out := ⟨[(0, .val false (.leaf .bool))], [], [], 0⟩, fn := fun (x : ByteArray) => M.ref17_plainText N x }
theorem W114 (N : Nat) : FnOK Tryz.prog 114 (S114 N) := fn_ok (E := ⟨tabs, [], tabnil, mixed, false, false⟩) (N := N) (a := (.two .nil (.two (.two .nil (.two (.loop ⟨[(3, .val false (.leaf rInt))], [], [], 32⟩ (.two .nil (.two (.two (.meet ⟨[(25, .val false (.leaf .bool))], [], [], 96⟩ .nil .nil) .nil) .nil))) .nil)) .nil))) (sg := S114 N) (c := Tryz.f114.body.getD .skip) (rs := Tryz.f114.results.toList) Tryz.func114 (by kernel_rfl) (by kernel_rfl) rfl rfl rfl rfl (fun x => by kernel_rfl)
noncomputable def M.ref10_Arity (N : Nat) (a0 : Int) : Option (Int) :=
((if (decide ((1 : Int) ≤ a0)) = true then
(if (decide (a0 ≤ (9 : Int))) = true then
some true
else
(if (decide ((35 : Int) ≤ a0)) = true then
some (decide (a0 ≤ (39 : Int)))
else
some false))
else
(if (decide ((35 : Int) ≤ a0)) = true then
some (decide (a0 ≤ (39 : Int)))
else
some false)) : Option (Bool)).bind fun j1 =>
(if j1 = true then
some (0 : Int)
else
((if (decide (a0 = (10 : Int))) = true then
some (decide (a0 = (10 : Int)))
else
(if (decide (a0 = (25 : Int))) = true then
some (decide (a0 = (25 : Int)))
else
(if (decide (a0 = (31 : Int))) = true then
some (decide (a0 = (31 : Int)))
else
(if (decide (a0 = (32 : Int))) = true then
some (decide (a0 = (32 : Int)))
else
(if (decide (a0 = (33 : Int))) = true then
some (decide (a0 = (33 : Int)))
else
some (decide (a0 = (34 : Int)))))))) : Option (Bool)).bind fun j2 =>
(if j2 = true then
some (1 : Int)
else
(if (decide (a0 = (26 : Int))) = true then
some (3 : Int)
else
((if (decide ((11 : Int) ≤ a0)) = true then
some (decide (a0 ≤ (30 : Int)))
else
some false) : Option (Bool)).bind fun j3 =>
(if j3 = true then
some (2 : Int)
else
some (-1 : Int)))))
noncomputable def S151 (N : Nat) : Sig := { inn := ⟨[(0, .val false (.leaf rInt))], [], [], 0⟩, out := ⟨[(0, .val false (.leaf rInt))], [], [], 0⟩, fn := fun (x : Int) => M.ref10_Arity N x }
theorem W151 (N : Nat) : FnOK Tryz.prog 151 (S151 N) := fn_ok (E := ⟨tabs, [], tabnil, mixed, false, false⟩) (N := N) (a := (.two .nil (.two (.meet ⟨[(16, .val false (.leaf .bool))], [], [], 16⟩ .nil .nil) (.two (.two .nil (.two (.meet ⟨[(18, .val false (.leaf .bool))], [], [], 32⟩ .nil .nil) .nil)) (.two (.meet ⟨[(32, .val false (.leaf .bool))], [], [], 64⟩ .nil .nil) .nil))))) (sg := S151 N) (c := Tryz.f151.body.getD .skip) (rs := Tryz.f151.results.toList) Tryz.func151 (by kernel_rfl) (by kernel_rfl) rfl rfl rfl rfl (fun x => by kernel_rfl)
noncomputable def M.ref10_structure (N : Nat) (a0 : List rType.den) : Option (Int × Int × List Int) :=
(if (decide ((48 : Int) < (a0.length : Int))) = true then
some ((0 : Int), (4 : Int), ([] : List Int))
else
(if (decide ((a0.length : Int) = (0 : Int))) = true then
some ((0 : Int), (5 : Int), ([] : List Int))
else
Join (J := (List Int) × List Int) (R := Int × Int × List Int) (Loop (S := Int × (List Int) × List Int) (X := ((List Int) × List Int) ⊕ (Int × Int × List Int)) (fun s2 =>
(if (decide (s2.1 < (a0.length : Int))) = true then
(idx a0 s2.1).bind fun x3 =>
(M.ref10_Arity N x3.1).bind fun y4 =>
(if (decide (y4 < (0 : Int))) = true then
some (Sum.inr (Sum.inr (s2.1, (2 : Int), ([] : List Int))))
else
(if (decide ((s2.2.2.length : Int) < y4)) = true then
some (Sum.inr (Sum.inr (s2.1, (5 : Int), ([] : List Int))))
else
((if (decide ((0 : Int) < y4)) = true then
(idx s2.2.2 (IntKind.i64.wrap ((s2.2.2.length : Int) - y4))).bind fun x6 =>
(cutA s2.2.2 (0 : Int) (IntKind.i64.wrap ((s2.2.2.length : Int) - y4))).bind fun l7 =>
some (x6, l7)
else
some (s2.1, s2.2.2)) : Option (Int × List Int)).bind fun j5 =>
(appA j5.2 ([j5.1] : List Int)).bind fun l8 =>
(appA s2.2.1 ([j5.1] : List Int)).bind fun l9 =>
(if (decide ((12 : Int) < (l8.length : Int))) = true then
some (Sum.inr (Sum.inr (s2.1, (16 : Int), ([] : List Int))))
else
some (Sum.inl (IntKind.i64.wrap (s2.1 + (1 : Int)), l9, l8)))))
else
some (Sum.inr (Sum.inl (s2.2.1, s2.2.2))))) N ((0 : Int), ([] : List Int), ([] : List Int))) fun j1 =>
(if (decide ((1 : Int) < (j1.2.length : Int))) = true then
some ((a0.length : Int), (4 : Int), ([] : List Int))
else
some ((0 : Int), (0 : Int), j1.1))))
noncomputable def S150 (N : Nat) : Sig := { inn := ⟨[(0, .val false (.leaf (.slice rType)))], [], [], 0⟩, out := ⟨[(0, .val false (.own 0)), (1, .val false (.leaf rInt)), (2, .val false (.leaf rInt))], [(0, .own 3 rInt)], [], 1⟩, fn := fun (x : List rType.den) => M.ref10_structure N x }
theorem W150 (N : Nat) : FnOK Tryz.prog 150 (S150 N) := fn_ok (E := ⟨tabs, [(151, S151 N)], (tabcons (W151 N) tabnil), mixed, false, false⟩) (N := N) (a := (.two .nil (.two .nil (.two .nil (.two .nil (.join ⟨[(5, .val false (.own 176)), (6, .val false (.own 177))], [(176, .own 3 rInt), (177, .own 3 rInt)], [], 178⟩ (.two .nil (.two (.loop ⟨[(5, .val false (.own 192)), (6, .val false (.own 193)), (7, .val false (.leaf rInt))], [(192, .own 3 rInt), (193, .own 3 rInt)], [], 194⟩ (.two .nil (.two (.two (.two .nil (.two .nil (.two .nil (.two .nil (.meet ⟨[(6, .val false (.own 498)), (9, .val false (.leaf rInt))], [(498, .own 3 rInt)], [193], 499⟩ .nil .nil))))) .nil) .nil))) .nil)) .nil)))))) (sg := S150 N) (c := Tryz.f150.body.getD .skip) (rs := Tryz.f150.results.toList) Tryz.func150 (by kernel_rfl) (by kernel_rfl) rfl rfl rfl rfl (fun x => by kernel_rfl)
noncomputable def M.ref10_meaning (N : Nat) (a0 : Int) : Option (Bool) :=
((if (decide ((1 : Int) ≤ a0)) = true then
(if (decide (a0 ≤ (8 : Int))) = true then
some true
else
(if (decide ((36 : Int) ≤ a0)) = true then
some (decide (a0 ≤ (39 : Int)))
else
some false))
else
(if (decide ((36 : Int) ≤ a0)) = true then
some (decide (a0 ≤ (39 : Int)))
else
some false)) : Option (Bool)).bind fun j1 =>
(if j1 = true then
some true
else
((if (decide (a0 = (14 : Int))) = true then
some true
else
(if (decide (a0 = (15 : Int))) = true then
some true
else
(if (decide (a0 = (16 : Int))) = true then
some true
else
(if (decide (a0 = (33 : Int))) = true then
some true
else
some (decide (a0 = (34 : Int))))))) : Option (Bool)).bind fun j2 =>
some j2)
noncomputable def S163 (N : Nat) : Sig := { inn := ⟨[(0, .val false (.leaf rInt))], [], [], 0⟩, out := ⟨[(0, .val false (.leaf .bool))], [], [], 0⟩, fn := fun (x : Int) => M.ref10_meaning N x }
theorem W163 (N : Nat) : FnOK Tryz.prog 163 (S163 N) := fn_ok (E := ⟨tabs, [], tabnil, mixed, false, false⟩) (N := N) (a := (.two .nil (.two (.meet ⟨[(16, .val false (.leaf .bool))], [], [], 16⟩ .nil .nil) (.meet ⟨[(2, .val false (.leaf .bool))], [], [], 16⟩ .nil .nil)))) (sg := S163 N) (c := Tryz.f163.body.getD .skip) (rs := Tryz.f163.results.toList) Tryz.func163 (by kernel_rfl) (by kernel_rfl) rfl rfl rfl rfl (fun x => by kernel_rfl)
noncomputable def M.ref10_kind (N : Nat) (a0 : Int) : Option (rType.den) :=
some (a0, (0 : Int))
noncomputable def S181 (N : Nat) : Sig := { inn := ⟨[(0, .val false (.leaf rInt))], [], [], 0⟩, out := ⟨[(0, .val true (.leaf rType))], [], [], 0⟩, fn := fun (x : Int) => M.ref10_kind N x }
theorem W181 (N : Nat) : FnOK Tryz.prog 181 (S181 N) := fn_ok (E := ⟨tabs, [], tabnil, mixed, false, false⟩) (N := N) (a := .nil) (sg := S181 N) (c := Tryz.f181.body.getD .skip) (rs := Tryz.f181.results.toList) Tryz.func181 (by kernel_rfl) (by kernel_rfl) rfl rfl rfl rfl (fun x => by kernel_rfl)
noncomputable def M.ref10_ranged (N : Nat) (a0 : rType.den) (a1 : rSignature.den) : Option (Bool) :=
((if (decide (a0.1 = (1 : Int))) = true then
some (decide (a0.1 = (1 : Int)))
else
(if (decide (a0.1 = (2 : Int))) = true then
some (decide (a0.1 = (2 : Int)))
else
(if (decide (a0.1 = (3 : Int))) = true then
some (decide (a0.1 = (3 : Int)))
else
(if (decide (a0.1 = (4 : Int))) = true then
some (decide (a0.1 = (4 : Int)))
else
some (decide (a0.1 = (5 : Int))))))) : Option (Bool)).bind fun j1 =>
(if j1 = true then
(M.ref10_kind N a0.1).bind fun y2 =>
(M.ref09_Bounds N y2 a1.1).bind fun y3 =>
((if (decide (y3.1 ≤ a0.2)) = true then
some (decide (a0.2 ≤ y3.2))
else
some false) : Option (Bool)).bind fun j4 =>
some j4
else
((if (decide (a0.1 = (14 : Int))) = true then
some (decide (a0.1 = (14 : Int)))
else
(if (decide (a0.1 = (15 : Int))) = true then
some (decide (a0.1 = (15 : Int)))
else
some (decide (a0.1 = (16 : Int))))) : Option (Bool)).bind fun j5 =>
(if j5 = true then
((if (decide ((0 : Int) ≤ a0.2)) = true then
some (decide (a0.2 ≤ (5 : Int)))
else
some false) : Option (Bool)).bind fun j6 =>
some j6
else
(if (decide (a0.1 = (34 : Int))) = true then
((if (decide ((0 : Int) ≤ a0.2)) = true then
some (decide ((Int.tmod a0.2 (8 : Int)) ≤ (5 : Int)))
else
some false) : Option (Bool)).bind fun j7 =>
some j7
else
(if (decide (a0.1 = (6 : Int))) = true then
some (decide ((0 : Int) ≤ a0.2))
else
some true))))
noncomputable def S164 (N : Nat) : Sig := { inn := ⟨[(0, .val true (.leaf rType)), (1, .val true (.leaf rSignature))], [], [], 0⟩, out := ⟨[(0, .val false (.leaf .bool))], [], [], 0⟩, fn := fun (x : rType.den × rSignature.den) => M.ref10_ranged N x.1 x.2 }
theorem W164 (N : Nat) : FnOK Tryz.prog 164 (S164 N) := fn_ok (E := ⟨tabs, [(149, S149 N), (181, S181 N)], (tabcons (W149 N) (tabcons (W181 N) tabnil)), mixed, false, false⟩) (N := N) (a := (.two .nil (.two (.two .nil (.two (.meet ⟨[(9, .val false (.leaf .bool))], [], [], 80⟩ .nil (.two (.two .nil (.meet ⟨[(4, .val false (.leaf .bool))], [], [], 256⟩ .nil .nil)) (.meet ⟨[(34, .val false (.leaf .bool))], [], [], 80⟩ .nil (.two (.meet ⟨[(4, .val false (.leaf .bool))], [], [], 80⟩ .nil .nil) (.two .nil (.two (.meet ⟨[(4, .val false (.leaf .bool))], [], [], 112⟩ .nil .nil) .nil)))))) .nil)) .nil))) (sg := S164 N) (c := Tryz.f164.body.getD .skip) (rs := Tryz.f164.results.toList) Tryz.func164 (by kernel_rfl) (by kernel_rfl) rfl rfl rfl rfl (fun x => by kernel_rfl)
noncomputable def M.ref10_found (N : Nat) (a0 : rType.den) (a1 : rSignature.den) : Option (Bool) :=
(if (decide (a0.1 = (6 : Int))) = true then
((if (decide ((IntKind.i64.wrap (Int.tdiv a0.2 (16 : Int))) < (a1.1.length : Int))) = true then
(idx a1.1 (IntKind.i64.wrap (Int.tdiv a0.2 (16 : Int)))).bind fun x2 =>
some (decide ((Int.tmod a0.2 (16 : Int)) < (x2.2.length : Int)))
else
some false) : Option (Bool)).bind fun j1 =>
some j1
else
(if (decide (a0.1 = (7 : Int))) = true then
((if (decide ((0 : Int) ≤ a0.2)) = true then
some (decide (a0.2 < (a1.2.2.1.length : Int)))
else
some false) : Option (Bool)).bind fun j3 =>
some j3
else
(if (decide (a0.1 = (8 : Int))) = true then
((if (decide ((0 : Int) ≤ a0.2)) = true then
some (decide (a0.2 < (a1.2.2.2.1.length : Int)))
else
some false) : Option (Bool)).bind fun j4 =>
some j4
else
(if (decide (a0.1 = (33 : Int))) = true then
((if (decide ((0 : Int) ≤ a0.2)) = true then
some (decide (a0.2 < (a1.2.1.length : Int)))
else
some false) : Option (Bool)).bind fun j5 =>
some j5
else
(if (decide (a0.1 = (34 : Int))) = true then
some (decide ((IntKind.i64.wrap (Int.tdiv a0.2 (8 : Int))) < (a1.2.1.length : Int)))
else
(if (decide (a0.1 = (35 : Int))) = true then
some a1.2.2.2.2.2
else
((if (decide (a0.1 = (36 : Int))) = true then
some (decide (a0.1 = (36 : Int)))
else
(if (decide (a0.1 = (37 : Int))) = true then
some (decide (a0.1 = (37 : Int)))
else
(if (decide (a0.1 = (38 : Int))) = true then
some (decide (a0.1 = (38 : Int)))
else
some (decide (a0.1 = (39 : Int)))))) : Option (Bool)).bind fun j6 =>
(if j6 = true then
((if a1.2.2.2.2.2 = true then
(if (decide ((0 : Int) ≤ a0.2)) = true then
some (decide (a0.2 < (a1.2.2.2.2.1.length : Int)))
else
some false)
else
some false) : Option (Bool)).bind fun j7 =>
some j7
else
some true)))))))
noncomputable def S165 (N : Nat) : Sig := { inn := ⟨[(0, .val true (.leaf rType)), (1, .val true (.leaf rSignature))], [], [], 0⟩, out := ⟨[(0, .val false (.leaf .bool))], [], [], 0⟩, fn := fun (x : rType.den × rSignature.den) => M.ref10_found N x.1 x.2 }
theorem W165 (N : Nat) : FnOK Tryz.prog 165 (S165 N) := fn_ok (E := ⟨tabs, [], tabnil, mixed, false, false⟩) (N := N) (a := (.two .nil (.two (.two .nil (.two (.two .nil (.two (.meet ⟨[(4, .val false (.leaf .bool))], [], [], 112⟩ .nil .nil) (.two .nil (.two (.meet ⟨[(4, .val false (.leaf .bool))], [], [], 144⟩ .nil .nil) (.two .nil (.two (.meet ⟨[(4, .val false (.leaf .bool))], [], [], 176⟩ .nil .nil) (.two .nil (.two (.meet ⟨[(4, .val false (.leaf .bool))], [], [], 208⟩ .nil .nil) (.two .nil (.two .nil (.two .nil (.two .nil (.meet ⟨[(83, .val false (.leaf .bool))], [], [], 272⟩ .nil (.two (.meet ⟨[(4, .val false (.leaf .bool))], [], [], 272⟩ .nil .nil) .nil)))))))))))))) .nil)) .nil))) (sg := S165 N) (c := Tryz.f165.body.getD .skip) (rs := Tryz.f165.results.toList) Tryz.func165 (by kernel_rfl) (by kernel_rfl) rfl rfl rfl rfl (fun x => by kernel_rfl)
noncomputable def M.ref10_number (N : Nat) (a0 : Int) : Option (Bool) :=
((if (decide (a0 = (2 : Int))) = true then
some true
else
(if (decide (a0 = (3 : Int))) = true then
some true
else
some (decide (a0 = (4 : Int))))) : Option (Bool)).bind fun j1 =>
some j1
noncomputable def S183 (N : Nat) : Sig := { inn := ⟨[(0, .val false (.leaf rInt))], [], [], 0⟩, out := ⟨[(0, .val false (.leaf .bool))], [], [], 0⟩, fn := fun (x : Int) => M.ref10_number N x }
theorem W183 (N : Nat) : FnOK Tryz.prog 183 (S183 N) := fn_ok (E := ⟨tabs, [], tabnil, mixed, false, false⟩) (N := N) (a := (.two .nil (.meet ⟨[(2, .val false (.leaf .bool))], [], [], 16⟩ .nil .nil))) (sg := S183 N) (c := Tryz.f183.body.getD .skip) (rs := Tryz.f183.results.toList) Tryz.func183 (by kernel_rfl) (by kernel_rfl) rfl rfl rfl rfl (fun x => by kernel_rfl)
noncomputable def M.ref10_ordered (N : Nat) (a0 : Int) : Option (Bool) :=
((M.ref10_number N a0).bind fun y2 =>
(if y2 = true then
some true
else
some (decide (a0 = (5 : Int)))) : Option (Bool)).bind fun j1 =>
some j1
noncomputable def S182 (N : Nat) : Sig := { inn := ⟨[(0, .val false (.leaf rInt))], [], [], 0⟩, out := ⟨[(0, .val false (.leaf .bool))], [], [], 0⟩, fn := fun (x : Int) => M.ref10_ordered N x }
theorem W182 (N : Nat) : FnOK Tryz.prog 182 (S182 N) := fn_ok (E := ⟨tabs, [(183, S183 N)], (tabcons (W183 N) tabnil), mixed, false, false⟩) (N := N) (a := (.two .nil (.meet ⟨[(2, .val false (.leaf .bool))], [], [], 16⟩ .nil .nil))) (sg := S182 N) (c := Tryz.f182.body.getD .skip) (rs := Tryz.f182.results.toList) Tryz.func182 (by kernel_rfl) (by kernel_rfl) rfl rfl rfl rfl (fun x => by kernel_rfl)
noncomputable def M.ref10_leaf (N : Nat) (a0 : rType.den) (a1 : rSignature.den) : Option (rType.den × Bool) :=
((if (decide (a0.1 = (6 : Int))) = true then
some ((6 : Int), IntKind.i64.wrap (Int.tdiv a0.2 (16 : Int)))
else
(if (decide (a0.1 = (7 : Int))) = true then
(idx a1.2.2.1 a0.2).bind fun x2 =>
some x2
else
(if (decide (a0.1 = (8 : Int))) = true then
(idx a1.2.2.2.1 a0.2).bind fun x3 =>
some x3
else
(if (decide (a0.1 = (9 : Int))) = true then
(M.ref10_kind N (5 : Int)).bind fun y4 =>
some y4
else
(if (decide (a0.1 = (35 : Int))) = true then
(M.ref10_kind N (2 : Int)).bind fun y5 =>
some y5
else
((if (decide (a0.1 = (36 : Int))) = true then
some (decide (a0.1 = (36 : Int)))
else
(if (decide (a0.1 = (37 : Int))) = true then
some (decide (a0.1 = (37 : Int)))
else
(if (decide (a0.1 = (38 : Int))) = true then
some (decide (a0.1 = (38 : Int)))
else
some (decide (a0.1 = (39 : Int)))))) : Option (Bool)).bind fun j6 =>
(if j6 = true then
(idx a1.2.2.2.2.1 a0.2).bind fun x7 =>
some x7
else
(M.ref10_kind N a0.1).bind fun y8 =>
some y8)))))) : Option (rType.den)).bind fun j1 =>
(M.ref09_ValidType N j1 a1.1).bind fun y9 =>
((if (decide (a0.1 = (36 : Int))) = true then
(if y9 = true then
(if (decide (j1.1 = (2 : Int))) = true then
some true
else
some (decide (j1.1 = (3 : Int))))
else
some false)
else
((if (decide (a0.1 = (37 : Int))) = true then
some (decide (a0.1 = (37 : Int)))
else
some (decide (a0.1 = (38 : Int)))) : Option (Bool)).bind fun j11 =>
(if j11 = true then
(if y9 = true then
some (decide (j1.1 = (1 : Int)))
else
some false)
else
(if (decide (a0.1 = (39 : Int))) = true then
(if y9 = true then
(M.ref10_ordered N j1.1).bind fun y12 =>
some y12
else
some false)
else
some y9))) : Option (Bool)).bind fun j10 =>
some (j1, j10)
noncomputable def S166 (N : Nat) : Sig := { inn := ⟨[(0, .val true (.leaf rType)), (1, .val true (.leaf rSignature))], [], [], 0⟩, out := ⟨[(0, .val true (.leaf rType)), (1, .val false (.leaf .bool))], [], [], 0⟩, fn := fun (x : rType.den × rSignature.den) => M.ref10_leaf N x.1 x.2 }
theorem W166 (N : Nat) : FnOK Tryz.prog 166 (S166 N) := fn_ok (E := ⟨tabs, [(109, S109 N), (181, S181 N), (182, S182 N)], (tabcons (W109 N) (tabcons (W181 N) (tabcons (W182 N) tabnil))), mixed, false, false⟩) (N := N) (a := (.two .nil (.two .nil (.two (.two .nil (.meet ⟨[], [(80, .box 43 (.leaf rType))], [], 145⟩ (.two .nil (.two .nil (.two .nil (.two .nil (.two .nil (.two .nil (.two .nil (.two .nil (.two .nil (.two .nil (.meet ⟨[(42, .val false (.leaf .bool))], [], [], 304⟩ .nil .nil))))))))))) .nil)) (.two .nil (.two (.two .nil (.meet ⟨[(7, .val false (.leaf .bool))], [], [], 257⟩ (.two .nil (.two .nil (.meet ⟨[(72, .val false (.leaf .bool))], [], [], 289⟩ .nil .nil))) .nil)) .nil)))))) (sg := S166 N) (c := Tryz.f166.body.getD .skip) (rs := Tryz.f166.results.toList) Tryz.func166 (by kernel_rfl) (by kernel_rfl) rfl rfl rfl rfl (fun x => by kernel_rfl)
noncomputable def M.ref10_single (N : Nat) (a0 : rType.den) (a1 : rType.den) (a2 : rSignature.den) : Option (rType.den × Bool) :=
(if (decide (a0.1 = (10 : Int))) = true then
(M.ref10_number N a1.1).bind fun y1 =>
some (a1, y1)
else
(if (decide (a0.1 = (25 : Int))) = true then
some (a1, decide (a1.1 = (1 : Int)))
else
((if (decide (a0.1 = (31 : Int))) = true then
some (decide (a0.1 = (31 : Int)))
else
some (decide (a0.1 = (32 : Int)))) : Option (Bool)).bind fun j2 =>
(if j2 = true then
(M.ref10_kind N (2 : Int)).bind fun y3 =>
some (y3, decide (a1.1 = (5 : Int)))
else
(if (decide (a0.1 = (33 : Int))) = true then
(idx a2.2.1 a0.2).bind fun x4 =>
((M.ref09_ValidType N x4.2.1 a2.1).bind fun y6 =>
(if y6 = true then
(M.ref09_ValidType N x4.2.2.1 a2.1).bind fun y7 =>
(if y7 = true then
some ((eqR rType a1 x4.2.1), x4.2.2.1)
else
some (false, x4.2.2.1))
else
some (false, x4.2.2.1)) : Option (Bool × rType.den)).bind fun j5 =>
some (j5.2, j5.1)
else
(idx a2.2.1 (IntKind.i64.wrap (Int.tdiv a0.2 (8 : Int)))).bind fun x8 =>
((if (decide (a1.1 = (3 : Int))) = true then
(M.ref10_kind N (3 : Int)).bind fun y10 =>
(if (eqR rType x8.2.1 y10) = true then
(M.ref10_kind N (4 : Int)).bind fun y11 =>
some ((eqR rType x8.2.2.1 y11), a1)
else
some (false, a1))
else
some (false, a1)) : Option (Bool × rType.den)).bind fun j9 =>
some (j9.2, j9.1)))))
noncomputable def S167 (N : Nat) : Sig := { inn := ⟨[(0, .val true (.leaf rType)), (1, .val true (.leaf rType)), (2, .val true (.leaf rSignature))], [], [], 0⟩, out := ⟨[(0, .val true (.leaf rType)), (1, .val false (.leaf .bool))], [], [], 0⟩, fn := fun (x : rType.den × rType.den × rSignature.den) => M.ref10_single N x.1 x.2.1 x.2.2 }
theorem W167 (N : Nat) : FnOK Tryz.prog 167 (S167 N) := fn_ok (E := ⟨tabs, [(109, S109 N), (181, S181 N), (183, S183 N)], (tabcons (W109 N) (tabcons (W181 N) (tabcons (W183 N) tabnil))), mixed, false, false⟩) (N := N) (a := (.two .nil (.two (.two .nil (.two (.two .nil (.two .nil (.two .nil (.two .nil (.meet ⟨[(24, .val false (.leaf .bool))], [], [], 176⟩ .nil (.two .nil (.two .nil (.two (.two .nil (.meet ⟨[(7, .val false (.leaf .bool))], [(48, .box 43 (.leaf rType))], [], 337⟩ .nil .nil)) .nil)))))))) .nil)) (.two .nil (.meet ⟨[(7, .val false (.leaf .bool))], [(48, .box 43 (.leaf rType))], [], 353⟩ .nil .nil))))) (sg := S167 N) (c := Tryz.f167.body.getD .skip) (rs := Tryz.f167.results.toList) Tryz.func167 (by kernel_rfl) (by kernel_rfl) rfl rfl rfl rfl (fun x => by kernel_rfl)
noncomputable def M.ref10_scaled (N : Nat) (a0 : Int) (a1 : Int) (a2 : Int) : Option (rType.den × Bool) :=
(if (decide (a0 = (13 : Int))) = true then
((M.ref10_kind N a1).bind fun y2 =>
(if (decide (a2 = (2 : Int))) = true then
(if (decide (a1 = (2 : Int))) = true then
some (true, y2)
else
some (decide (a1 = (3 : Int)), y2))
else
some (false, y2)) : Option (Bool × rType.den)).bind fun j1 =>
some (j1.2, j1.1)
else
(if (decide (a0 = (14 : Int))) = true then
((M.ref10_kind N a1).bind fun y4 =>
(if (decide (a2 = (4 : Int))) = true then
(if (decide (a1 = (3 : Int))) = true then
some (true, y4)
else
some (decide (a1 = (4 : Int)), y4))
else
some (false, y4)) : Option (Bool × rType.den)).bind fun j3 =>
some (j3.2, j3.1)
else
((if (decide (a1 = (3 : Int))) = true then
some (decide (a2 = (3 : Int)))
else
some false) : Option (Bool)).bind fun j5 =>
(if j5 = true then
(M.ref10_kind N (4 : Int)).bind fun y6 =>
some (y6, true)
else
((M.ref10_kind N a1).bind fun y8 =>
(if (decide (a2 = (2 : Int))) = true then
(if (decide (a1 = (2 : Int))) = true then
some (true, y8)
else
some (decide (a1 = (3 : Int)), y8))
else
some (false, y8)) : Option (Bool × rType.den)).bind fun j7 =>
some (j7.2, j7.1))))
noncomputable def S184 (N : Nat) : Sig := { inn := ⟨[(0, .val false (.leaf rInt)), (1, .val false (.leaf rInt)), (2, .val false (.leaf rInt))], [], [], 0⟩, out := ⟨[(0, .val true (.leaf rType)), (1, .val false (.leaf .bool))], [], [], 0⟩, fn := fun (x : Int × Int × Int) => M.ref10_scaled N x.1 x.2.1 x.2.2 }
theorem W184 (N : Nat) : FnOK Tryz.prog 184 (S184 N) := fn_ok (E := ⟨tabs, [(181, S181 N)], (tabcons (W181 N) tabnil), mixed, false, false⟩) (N := N) (a := (.two .nil (.two (.two .nil (.two (.two .nil (.two (.meet ⟨[(7, .val false (.leaf .bool))], [(0, .box 43 (.leaf rType))], [], 81⟩ .nil .nil) (.two .nil (.two (.meet ⟨[(7, .val false (.leaf .bool))], [(0, .box 43 (.leaf rType))], [], 113⟩ .nil .nil) .nil)))) .nil)) (.two (.meet ⟨[(42, .val false (.leaf .bool))], [], [], 112⟩ .nil .nil) (.meet ⟨[(7, .val false (.leaf .bool))], [(0, .box 43 (.leaf rType))], [], 113⟩ .nil .nil))))) (sg := S184 N) (c := Tryz.f184.body.getD .skip) (rs := Tryz.f184.results.toList) Tryz.func184 (by kernel_rfl) (by kernel_rfl) rfl rfl rfl rfl (fun x => by kernel_rfl)
noncomputable def M.ref10_double (N : Nat) (a0 : Int) (a1 : rType.den) (a2 : rType.den) : Option (rType.den × Bool) :=
((if (decide (a0 = (11 : Int))) = true then
some (decide (a0 = (11 : Int)))
else
some (decide (a0 = (12 : Int)))) : Option (Bool)).bind fun j1 =>
(if j1 = true then
((if (eqR rType a1 a2) = true then
(M.ref10_number N a1.1).bind fun y3 =>
some (y3, a1)
else
some (false, a1)) : Option (Bool × rType.den)).bind fun j2 =>
some (j2.2, j2.1)
else
((if (decide (a0 = (13 : Int))) = true then
some (decide (a0 = (13 : Int)))
else
(if (decide (a0 = (14 : Int))) = true then
some (decide (a0 = (14 : Int)))
else
some (decide (a0 = (15 : Int))))) : Option (Bool)).bind fun j4 =>
(if j4 = true then
(M.ref10_scaled N a0 a1.1 a2.1).bind fun y5 =>
some (y5.1, y5.2)
else
(if (decide (a0 = (16 : Int))) = true then
((if (decide (a1.1 = (3 : Int))) = true then
some (decide (a2.1 = (3 : Int)), a1)
else
some (false, a1)) : Option (Bool × rType.den)).bind fun j6 =>
some (j6.2, j6.1)
else
((if (decide (a0 = (17 : Int))) = true then
some (decide (a0 = (17 : Int)))
else
some (decide (a0 = (18 : Int)))) : Option (Bool)).bind fun j7 =>
(if j7 = true then
((if (eqR rType a1 a2) = true then
(M.ref10_ordered N a1.1).bind fun y9 =>
some (y9, a1)
else
some (false, a1)) : Option (Bool × rType.den)).bind fun j8 =>
some (j8.2, j8.1)
else
((if (decide (a0 = (19 : Int))) = true then
some (decide (a0 = (19 : Int)))
else
some (decide (a0 = (20 : Int)))) : Option (Bool)).bind fun j10 =>
(if j10 = true then
(M.ref10_kind N (1 : Int)).bind fun y11 =>
some (y11, (eqR rType a1 a2))
else
((if (decide (a0 = (21 : Int))) = true then
some (decide (a0 = (21 : Int)))
else
some (decide (a0 = (22 : Int)))) : Option (Bool)).bind fun j12 =>
(if j12 = true then
((M.ref10_kind N (1 : Int)).bind fun y14 =>
(if (eqR rType a1 a2) = true then
(M.ref10_ordered N a1.1).bind fun y15 =>
some (y15, y14)
else
some (false, y14)) : Option (Bool × rType.den)).bind fun j13 =>
some (j13.2, j13.1)
else
((if (decide (a0 = (23 : Int))) = true then
some (decide (a0 = (23 : Int)))
else
some (decide (a0 = (24 : Int)))) : Option (Bool)).bind fun j16 =>
(if j16 = true then
((if (decide (a1.1 = (1 : Int))) = true then
some (decide (a2.1 = (1 : Int)), a1)
else
some (false, a1)) : Option (Bool × rType.den)).bind fun j17 =>
some (j17.2, j17.1)
else
((if (decide (a0 = (27 : Int))) = true then
some (decide (a0 = (27 : Int)))
else
some (decide (a0 = (28 : Int)))) : Option (Bool)).bind fun j18 =>
(if j18 = true then
((if (decide (a1.1 = (5 : Int))) = true then
some (decide (a2.1 = (2 : Int)), a1)
else
some (false, a1)) : Option (Bool × rType.den)).bind fun j19 =>
some (j19.2, j19.1)
else
((M.ref10_kind N (2 : Int)).bind fun y21 =>
(if (decide (a1.1 = (5 : Int))) = true then
some (decide (a2.1 = (5 : Int)), y21)
else
some (false, y21)) : Option (Bool × rType.den)).bind fun j20 =>
some (j20.2, j20.1)))))))))
noncomputable def S168 (N : Nat) : Sig := { inn := ⟨[(0, .val false (.leaf rInt)), (1, .val true (.leaf rType)), (2, .val true (.leaf rType))], [], [], 0⟩, out := ⟨[(0, .val true (.leaf rType)), (1, .val false (.leaf .bool))], [], [], 0⟩, fn := fun (x : Int × rType.den × rType.den) => M.ref10_double N x.1 x.2.1 x.2.2 }
theorem W168 (N : Nat) : FnOK Tryz.prog 168 (S168 N) := fn_ok (E := ⟨tabs, [(181, S181 N), (182, S182 N), (183, S183 N), (184, S184 N)], (tabcons (W181 N) (tabcons (W182 N) (tabcons (W183 N) (tabcons (W184 N) tabnil)))), mixed, false, false⟩) (N := N) (a := (.two .nil (.two (.two .nil (.two (.meet ⟨[(9, .val false (.leaf .bool))], [], [], 80⟩ .nil (.two (.meet ⟨[(7, .val false (.leaf .bool))], [(32, .box 43 (.leaf rType))], [], 81⟩ .nil .nil) (.meet ⟨[(21, .val false (.leaf .bool))], [], [], 80⟩ .nil (.two .nil (.two .nil (.two (.meet ⟨[(7, .val false (.leaf .bool))], [(32, .box 43 (.leaf rType))], [], 113⟩ .nil .nil) (.meet ⟨[(44, .val false (.leaf .bool))], [], [], 112⟩ .nil (.two (.meet ⟨[(7, .val false (.leaf .bool))], [(32, .box 43 (.leaf rType))], [], 113⟩ .nil .nil) (.meet ⟨[(56, .val false (.leaf .bool))], [], [], 112⟩ .nil (.two .nil (.meet ⟨[(63, .val false (.leaf .bool))], [], [], 112⟩ .nil (.two (.meet ⟨[(7, .val false (.leaf .bool))], [(32, .box 43 (.leaf rType))], [], 113⟩ .nil .nil) (.meet ⟨[(75, .val false (.leaf .bool))], [], [], 112⟩ .nil (.two (.meet ⟨[(7, .val false (.leaf .bool))], [(32, .box 43 (.leaf rType))], [], 113⟩ .nil .nil) (.meet ⟨[(87, .val false (.leaf .bool))], [], [], 112⟩ .nil (.two (.meet ⟨[(7, .val false (.leaf .bool))], [(32, .box 43 (.leaf rType))], [], 113⟩ .nil .nil) .nil)))))))))))))))) .nil)) (.meet ⟨[(7, .val false (.leaf .bool))], [(32, .box 43 (.leaf rType))], [], 113⟩ .nil .nil)))) (sg := S168 N) (c := Tryz.f168.body.getD .skip) (rs := Tryz.f168.results.toList) Tryz.func168 (by kernel_rfl) (by kernel_rfl) rfl rfl rfl rfl (fun x => by kernel_rfl)
noncomputable def M.ref10_Result (N : Nat) (a0 : rType.den) (a1 : List rType.den) (a2 : rSignature.den) : Option (rType.den × Int) :=
((if (!decide (a0.2 = (0 : Int))) = true then
(M.ref10_meaning N a0.1).bind fun y2 =>
some (!y2)
else
some false) : Option (Bool)).bind fun j1 =>
(if j1 = true then
some (((0 : Int), (0 : Int)), (2 : Int))
else
(M.ref10_ranged N a0 a2).bind fun y3 =>
(if (!y3) = true then
some (((0 : Int), (0 : Int)), (3 : Int))
else
(M.ref10_found N a0 a2).bind fun y4 =>
(if (!y4) = true then
some (((0 : Int), (0 : Int)), (6 : Int))
else
((if (decide ((a1.length : Int) = (0 : Int))) = true then
(M.ref10_leaf N a0 a2).bind fun y6 =>
some (y6.2, y6.1)
else
(if (decide ((a1.length : Int) = (1 : Int))) = true then
(idx a1 (0 : Int)).bind fun x7 =>
(M.ref10_single N a0 x7 a2).bind fun y8 =>
some (y8.2, y8.1)
else
(if (decide ((a1.length : Int) = (2 : Int))) = true then
(idx a1 (0 : Int)).bind fun x9 =>
(idx a1 (1 : Int)).bind fun x10 =>
(M.ref10_double N a0.1 x9 x10).bind fun y11 =>
some (y11.2, y11.1)
else
(idx a1 (1 : Int)).bind fun x12 =>
(idx a1 (0 : Int)).bind fun x13 =>
(if (decide (x13.1 = (1 : Int))) = true then
(idx a1 (1 : Int)).bind fun x14 =>
(idx a1 (2 : Int)).bind fun x15 =>
some ((eqR rType x14 x15), x12)
else
some (false, x12))))) : Option (Bool × rType.den)).bind fun j5 =>
(if (!j5.1) = true then
some (((0 : Int), (0 : Int)), (8 : Int))
else
some (j5.2, (0 : Int))))))
noncomputable def S152 (N : Nat) : Sig := { inn := ⟨[(0, .val true (.leaf rType)), (1, .val false (.leaf (.slice rType))), (2, .val true (.leaf rSignature))], [], [], 0⟩, out := ⟨[(0, .val true (.leaf rType)), (1, .val false (.leaf rInt))], [], [], 0⟩, fn := fun (x : rType.den × (List rType.den) × rSignature.den) => M.ref10_Result N x.1 x.2.1 x.2.2 }
theorem W152 (N : Nat) : FnOK Tryz.prog 152 (S152 N) := fn_ok (E := ⟨tabs, [(163, S163 N), (164, S164 N), (165, S165 N), (166, S166 N), (167, S167 N), (168, S168 N)], (tabcons (W163 N) (tabcons (W164 N) (tabcons (W165 N) (tabcons (W166 N) (tabcons (W167 N) (tabcons (W168 N) tabnil)))))), mixed, false, false⟩) (N := N) (a := (.two .nil (.two (.meet ⟨[(18, .val false (.leaf .bool))], [], [], 64⟩ .nil .nil) (.two .nil (.two .nil (.two .nil (.two .nil (.two (.two .nil (.meet ⟨[(9, .val false (.leaf .bool))], [(208, .box 43 (.leaf rType))], [], 289⟩ .nil .nil)) .nil)))))))) (sg := S152 N) (c := Tryz.f152.body.getD .skip) (rs := Tryz.f152.results.toList) Tryz.func152 (by kernel_rfl) (by kernel_rfl) rfl rfl rfl rfl (fun x => by kernel_rfl)
noncomputable def M.ref10_TypeOf (N : Nat) (a0 : List rType.den) (a1 : rSignature.den) : Option (rType.den × Int × Int) :=
(M.ref10_structure N a0).bind fun y1 =>
(if (!decide (y1.2.1 = (0 : Int))) = true then
some (((0 : Int), (0 : Int)), y1.1, y1.2.1)
else
Join (J := List rType.den) (R := rType.den × Int × Int) (Loop (S := Int × List rType.den) (X := (List rType.den) ⊕ (rType.den × Int × Int)) (fun s3 =>
(if (decide (s3.1 < (a0.length : Int))) = true then
(idx a0 s3.1).bind fun x4 =>
(M.ref10_Arity N x4.1).bind fun y5 =>
(idx a0 s3.1).bind fun x6 =>
(cutA s3.2 (IntKind.i64.wrap ((s3.2.length : Int) - y5)) (s3.2.length : Int)).bind fun l7 =>
(M.ref10_Result N x6 l7 a1).bind fun y8 =>
(if (!decide (y8.2 = (0 : Int))) = true then
some (Sum.inr (Sum.inr (((0 : Int), (0 : Int)), s3.1, y8.2)))
else
(cutA s3.2 (0 : Int) (IntKind.i64.wrap ((s3.2.length : Int) - y5))).bind fun l9 =>
(appA l9 ([y8.1] : List rType.den)).bind fun l10 =>
some (Sum.inl (IntKind.i64.wrap (s3.1 + (1 : Int)), l10)))
else
some (Sum.inr (Sum.inl s3.2)))) N ((0 : Int), ([] : List rType.den))) fun j2 =>
(idx j2 (0 : Int)).bind fun x11 =>
some (x11, (0 : Int), (0 : Int)))
noncomputable def S138 (N : Nat) : Sig := { inn := ⟨[(0, .val false (.leaf (.slice rType))), (1, .val true (.leaf rSignature))], [], [], 0⟩, out := ⟨[(0, .val true (.leaf rType)), (1, .val false (.leaf rInt)), (2, .val false (.leaf rInt))], [], [], 0⟩, fn := fun (x : (List rType.den) × rSignature.den) => M.ref10_TypeOf N x.1 x.2 }
theorem W138 (N : Nat) : FnOK Tryz.prog 138 (S138 N) := fn_ok (E := ⟨tabs, [(150, S150 N), (151, S151 N), (152, S152 N)], (tabcons (W150 N) (tabcons (W151 N) (tabcons (W152 N) tabnil))), mixed, false, false⟩) (N := N) (a := (.two .nil (.two .nil (.two .nil (.two .nil (.join ⟨[(10, .val false (.own 256))], [(256, .own 43 rType)], [], 257⟩ (.two .nil (.two (.loop ⟨[(10, .val false (.own 272)), (11, .val false (.leaf rInt))], [(272, .own 43 rType)], [], 273⟩ .nil) .nil)) .nil)))))) (sg := S138 N) (c := Tryz.f138.body.getD .skip) (rs := Tryz.f138.results.toList) Tryz.func138 (by kernel_rfl) (by kernel_rfl) rfl rfl rfl rfl (fun x => by kernel_rfl)
noncomputable def M.ref17_exprError (N : Nat) (a0 : List rType.den) (a1 : rSignature.den) (a2 : rType.den) : Option (Int) :=
(M.ref10_TypeOf N a0 a1).bind fun y1 =>
(if (!decide (y1.2.2 = (0 : Int))) = true then
some y1.2.2
else
(if (!(eqR rType y1.1 a2)) = true then
some (8 : Int)
else
some (0 : Int)))
noncomputable def S115 (N : Nat) : Sig := { inn := ⟨[(0, .val false (.leaf (.slice rType))), (1, .val true (.leaf rSignature)), (2, .val true (.leaf rType))], [], [], 0⟩, out := ⟨[(0, .val false (.leaf rInt))], [], [], 0⟩, fn := fun (x : (List rType.den) × rSignature.den × rType.den) => M.ref17_exprError N x.1 x.2.1 x.2.2 }
theorem W115 (N : Nat) : FnOK Tryz.prog 115 (S115 N) := fn_ok (E := ⟨tabs, [(138, S138 N)], (tabcons (W138 N) tabnil), mixed, false, false⟩) (N := N) (a := .nil) (sg := S115 N) (c := Tryz.f115.body.getD .skip) (rs := Tryz.f115.results.toList) Tryz.func115 (by kernel_rfl) (by kernel_rfl) rfl rfl rfl rfl (fun x => by kernel_rfl)
noncomputable def M.ref17_ruleError (N : Nat) (a0 : rLaw.den) (a1 : Int) (a2 : Int) : Option (Int) :=
(idx a0.2.2 a1).bind fun x1 =>
(idx x1.2.2.2.2 a2).bind fun x2 =>
(M.ref08_IsIdentifier N x2.1).bind fun y3 =>
(if (!y3) = true then
some (2 : Int)
else
Join (J := Int) (R := Int) (Loop (S := Int × Int) (X := (Int) ⊕ (Int)) (fun s5 =>
(if (decide (s5.2 < a2)) = true then
Join (J := Int) (R := (Int × Int) ⊕ ((Int) ⊕ (Int))) ((idx x1.2.2.2.2 s5.2).bind fun x7 =>
(if (decide (x7.1 = x2.1)) = true then
some (Sum.inr (Sum.inr (Sum.inr (7 : Int))))
else
(idx x1.2.2.2.2 s5.2).bind fun x8 =>
(if (decide (x8.2.1 = x2.2.1)) = true then
some (Sum.inl (IntKind.i64.wrap (s5.1 + (1 : Int))))
else
some (Sum.inl s5.1)))) fun j6 =>
some (Sum.inl (j6, IntKind.i64.wrap (s5.2 + (1 : Int))))
else
some (Sum.inr (Sum.inl s5.1)))) N ((0 : Int), (0 : Int))) fun j4 =>
((if (decide (x2.2.1 < (0 : Int))) = true then
some true
else
some (decide ((x1.2.2.2.1.length : Int) ≤ x2.2.1))) : Option (Bool)).bind fun j9 =>
(if j9 = true then
some (6 : Int)
else
((if (!decide (x2.2.2.1 = (-1 : Int))) = true then
(if (decide (x2.2.2.1 < (0 : Int))) = true then
some true
else
(if (decide (a2 ≤ x2.2.2.1)) = true then
some true
else
(idx x1.2.2.2.2 x2.2.2.1).bind fun x11 =>
some (!decide (x11.2.1 = x2.2.1))))
else
some false) : Option (Bool)).bind fun j10 =>
(if j10 = true then
some (9 : Int)
else
((if (decide (x2.2.2.2.1 < (0 : Int))) = true then
some true
else
(if (decide ((9 : Int) < x2.2.2.2.1)) = true then
some true
else
(M.ref05_Valid N x2.2.2.2.2.1).bind fun y13 =>
(if (!y13) = true then
some true
else
some (decide (x2.2.2.2.2.1.1 = x2.2.2.2.2.1.2))))) : Option (Bool)).bind fun j12 =>
(if j12 = true then
some (3 : Int)
else
(if (decide ((8 : Int) ≤ j4)) = true then
some (4 : Int)
else
(M.ref17_plainText N x2.2.2.2.2.2.2.2).bind fun y14 =>
(if (!y14) = true then
some (2 : Int)
else
(M.ref17_Signature N a0 a1).bind fun y15 =>
Join (J := Unit) (R := Int) ((if (decide ((0 : Int) < (x2.2.2.2.2.2.1.length : Int))) = true then
(M.ref17_exprError N x2.2.2.2.2.2.1 (y15.1, (y15.2.1, (y15.2.2.2.1, (y15.2.2.2.2.1, (y15.2.2.2.2.2, y15.2.2.1))))) ((1 : Int), (0 : Int))).bind fun y17 =>
(if (!decide (y17 = (0 : Int))) = true then
some (Sum.inr y17)
else
some (Sum.inl ()))
else
some (Sum.inl ()))) fun j16 =>
(idx x1.2.2.2.1 x2.2.1).bind fun x18 =>
(M.ref17_exprError N x2.2.2.2.2.2.2.1 (y15.1, (y15.2.1, (y15.2.2.2.1, (y15.2.2.2.2.1, (y15.2.2.2.2.2, y15.2.2.1))))) x18.2).bind fun y19 =>
some y19))))))
noncomputable def S70 (N : Nat) : Sig := { inn := ⟨[(0, .val true (.leaf rLaw)), (1, .val false (.leaf rInt)), (2, .val false (.leaf rInt))], [], [], 0⟩, out := ⟨[(0, .val false (.leaf rInt))], [], [], 0⟩, fn := fun (x : rLaw.den × Int × Int) => M.ref17_ruleError N x.1 x.2.1 x.2.2 }
theorem W70 (N : Nat) : FnOK Tryz.prog 70 (S70 N) := fn_ok (E := ⟨tabs, [(18, S18 N), (66, S66 N), (113, S113 N), (114, S114 N), (115, S115 N)], (tabcons (W18 N) (tabcons (W66 N) (tabcons (W113 N) (tabcons (W114 N) (tabcons (W115 N) tabnil))))), mixed, false, false⟩) (N := N) (a := (.two .nil (.two .nil (.two .nil (.two .nil (.two .nil (.join ⟨[(9, .val false (.leaf rInt))], [], [], 336⟩ (.two .nil (.two (.loop ⟨[(9, .val false (.leaf rInt)), (10, .val false (.leaf rInt))], [], [], 352⟩ (.two .nil (.two (.join ⟨[(9, .val false (.leaf rInt))], [], [], 400⟩ .nil .nil) .nil))) .nil)) (.two (.meet ⟨[(62, .val false (.leaf .bool))], [], [], 336⟩ .nil .nil) (.two (.meet ⟨[(88, .val false (.leaf .bool))], [], [], 336⟩ .nil .nil) (.two (.meet ⟨[(111, .val false (.leaf .bool))], [], [], 336⟩ .nil .nil) (.two .nil (.two .nil (.two .nil (.join ⟨[], [], [], 512⟩ .nil .nil)))))))))))))) (sg := S70 N) (c := Tryz.f70.body.getD .skip) (rs := Tryz.f70.results.toList) Tryz.func70 (by kernel_rfl) (by kernel_rfl) rfl rfl rfl rfl (fun x => by kernel_rfl)
noncomputable def M.ref16_insert (N : Nat) (a0 : List Int) (a1 : Int) : Option (List Int) :=
(Loop (S := Bool × Int × List Int) (X := Bool × List Int) (fun s2 =>
(if (decide (s2.2.1 < (a0.length : Int))) = true then
(((if (!s2.1) = true then
(idx a0 s2.2.1).bind fun x5 =>
some (decide (a1 ≤ x5))
else
some false) : Option (Bool)).bind fun j4 =>
(if j4 = true then
((idx a0 s2.2.1).bind fun x7 =>
(if (decide (a1 < x7)) = true then
(appA s2.2.2 ([a1] : List Int)).bind fun l8 =>
some l8
else
some s2.2.2) : Option (List Int)).bind fun j6 =>
some (true, j6)
else
some (s2.1, s2.2.2)) : Option (Bool × List Int)).bind fun j3 =>
(idx a0 s2.2.1).bind fun x9 =>
(appA j3.2 ([x9] : List Int)).bind fun l10 =>
some (Sum.inl (j3.1, IntKind.i64.wrap (s2.2.1 + (1 : Int)), l10))
else
some (Sum.inr (s2.1, s2.2.2)))) N (false, (0 : Int), ([] : List Int)) : Option (Bool × List Int)).bind fun j1 =>
((if (!j1.1) = true then
(appA j1.2 ([a1] : List Int)).bind fun l12 =>
some l12
else
some j1.2) : Option (List Int)).bind fun j11 =>
some j11
noncomputable def S117 (N : Nat) : Sig := { inn := ⟨[(0, .val false (.leaf (.slice rInt))), (1, .val false (.leaf rInt))], [], [], 0⟩, out := ⟨[(0, .val false (.own 0))], [(0, .own 3 rInt)], [], 1⟩, fn := fun (x : (List Int) × Int) => M.ref16_insert N x.1 x.2 }
theorem W117 (N : Nat) : FnOK Tryz.prog 117 (S117 N) := fn_ok (E := ⟨tabs, [], tabnil, mixed, false, false⟩) (N := N) (a := (.two .nil (.two .nil (.two .nil (.meet ⟨[(5, .val false (.own 48)), (6, .val false (.leaf .bool))], [(48, .own 3 rInt)], [], 49⟩ (.two .nil (.two (.loop ⟨[(5, .val false (.own 64)), (6, .val false (.leaf .bool)), (7, .val false (.leaf rInt))], [(64, .own 3 rInt)], [], 65⟩ (.two .nil (.two (.two (.meet ⟨[(5, .val false (.own 129)), (6, .val false (.leaf .bool))], [(129, .own 3 rInt)], [64], 130⟩ (.meet ⟨[(23, .val false (.leaf .bool))], [], [], 129⟩ .nil (.two (.meet ⟨[(5, .val false (.own 129))], [(129, .own 3 rInt)], [64], 130⟩ .nil .nil) .nil)) .nil) .nil) .nil))) .nil)) (.meet ⟨[(5, .val false (.own 49))], [(49, .own 3 rInt)], [48], 50⟩ .nil .nil)))))) (sg := S117 N) (c := Tryz.f117.body.getD .skip) (rs := Tryz.f117.results.toList) Tryz.func117 (by kernel_rfl) (by kernel_rfl) rfl rfl rfl rfl (fun x => by kernel_rfl)
noncomputable def M.ref16_is (N : Nat) (a0 : rScope.den) (a1 : Int) : Option (Bool) :=
((if (decide ((0 : Int) ≤ a1)) = true then
some (decide (a1 < (a0.2.2.2.1.length : Int)))
else
some false) : Option (Bool)).bind fun j1 =>
some j1
noncomputable def S139 (N : Nat) : Sig := { inn := ⟨[(0, .val true (.leaf rScope)), (1, .val false (.leaf rInt))], [], [], 0⟩, out := ⟨[(0, .val false (.leaf .bool))], [], [], 0⟩, fn := fun (x : rScope.den × Int) => M.ref16_is N x.1 x.2 }
theorem W139 (N : Nat) : FnOK Tryz.prog 139 (S139 N) := fn_ok (E := ⟨tabs, [], tabnil, mixed, false, false⟩) (N := N) (a := (.two .nil (.meet ⟨[(4, .val false (.leaf .bool))], [], [], 32⟩ .nil .nil))) (sg := S139 N) (c := Tryz.f139.body.getD .skip) (rs := Tryz.f139.results.toList) Tryz.func139 (by kernel_rfl) (by kernel_rfl) rfl rfl rfl rfl (fun x => by kernel_rfl)
noncomputable def M.ref10_insert (N : Nat) (a0 : List Int) (a1 : Int) : Option (List Int) :=
(Loop (S := Bool × Int × List Int) (X := Bool × List Int) (fun s2 =>
(if (decide (s2.2.1 < (a0.length : Int))) = true then
(((if (!s2.1) = true then
(idx a0 s2.2.1).bind fun x5 =>
some (decide (a1 ≤ x5))
else
some false) : Option (Bool)).bind fun j4 =>
(if j4 = true then
((idx a0 s2.2.1).bind fun x7 =>
(if (decide (a1 < x7)) = true then
(appA s2.2.2 ([a1] : List Int)).bind fun l8 =>
some l8
else
some s2.2.2) : Option (List Int)).bind fun j6 =>
some (true, j6)
else
some (s2.1, s2.2.2)) : Option (Bool × List Int)).bind fun j3 =>
(idx a0 s2.2.1).bind fun x9 =>
(appA j3.2 ([x9] : List Int)).bind fun l10 =>
some (Sum.inl (j3.1, IntKind.i64.wrap (s2.2.1 + (1 : Int)), l10))
else
some (Sum.inr (s2.1, s2.2.2)))) N (false, (0 : Int), ([] : List Int)) : Option (Bool × List Int)).bind fun j1 =>
((if (!j1.1) = true then
(appA j1.2 ([a1] : List Int)).bind fun l12 =>
some l12
else
some j1.2) : Option (List Int)).bind fun j11 =>
some j11
noncomputable def S153 (N : Nat) : Sig := { inn := ⟨[(0, .val false (.leaf (.slice rInt))), (1, .val false (.leaf rInt))], [], [], 0⟩, out := ⟨[(0, .val false (.own 0))], [(0, .own 3 rInt)], [], 1⟩, fn := fun (x : (List Int) × Int) => M.ref10_insert N x.1 x.2 }
theorem W153 (N : Nat) : FnOK Tryz.prog 153 (S153 N) := fn_ok (E := ⟨tabs, [], tabnil, mixed, false, false⟩) (N := N) (a := (.two .nil (.two .nil (.two .nil (.meet ⟨[(5, .val false (.own 48)), (6, .val false (.leaf .bool))], [(48, .own 3 rInt)], [], 49⟩ (.two .nil (.two (.loop ⟨[(5, .val false (.own 64)), (6, .val false (.leaf .bool)), (7, .val false (.leaf rInt))], [(64, .own 3 rInt)], [], 65⟩ (.two .nil (.two (.two (.meet ⟨[(5, .val false (.own 129)), (6, .val false (.leaf .bool))], [(129, .own 3 rInt)], [64], 130⟩ (.meet ⟨[(23, .val false (.leaf .bool))], [], [], 129⟩ .nil (.two (.meet ⟨[(5, .val false (.own 129))], [(129, .own 3 rInt)], [64], 130⟩ .nil .nil) .nil)) .nil) .nil) .nil))) .nil)) (.meet ⟨[(5, .val false (.own 49))], [(49, .own 3 rInt)], [48], 50⟩ .nil .nil)))))) (sg := S153 N) (c := Tryz.f153.body.getD .skip) (rs := Tryz.f153.results.toList) Tryz.func153 (by kernel_rfl) (by kernel_rfl) rfl rfl rfl rfl (fun x => by kernel_rfl)
noncomputable def M.ref10_References (N : Nat) (a0 : List rType.den) : Option ((List Int) × (List Int) × List Int) :=
(Loop (S := Int × (List Int) × (List Int) × List Int) (X := (List Int) × (List Int) × List Int) (fun s2 =>
(if (decide (s2.1 < (a0.length : Int))) = true then
((idx a0 s2.1).bind fun x4 =>
((if (decide (x4.1 = (7 : Int))) = true then
(idx a0 s2.1).bind fun x6 =>
(M.ref10_insert N s2.2.1 x6.2).bind fun y7 =>
some y7
else
some s2.2.1) : Option (List Int)).bind fun j5 =>
((if (decide (x4.1 = (8 : Int))) = true then
(idx a0 s2.1).bind fun x9 =>
(M.ref10_insert N s2.2.2.1 x9.2).bind fun y10 =>
some y10
else
some s2.2.2.1) : Option (List Int)).bind fun j8 =>
((if (decide ((36 : Int) ≤ x4.1)) = true then
some (decide (x4.1 ≤ (39 : Int)))
else
some false) : Option (Bool)).bind fun j11 =>
(if j11 = true then
(idx a0 s2.1).bind fun x12 =>
(M.ref10_insert N s2.2.2.2 x12.2).bind fun y13 =>
some (j5, j8, y13)
else
some (j5, j8, s2.2.2.2)) : Option ((List Int) × (List Int) × List Int)).bind fun j3 =>
some (Sum.inl (IntKind.i64.wrap (s2.1 + (1 : Int)), j3.1, j3.2.1, j3.2.2))
else
some (Sum.inr (s2.2.1, s2.2.2.1, s2.2.2.2)))) N ((0 : Int), ([] : List Int), ([] : List Int), ([] : List Int)) : Option ((List Int) × (List Int) × List Int)).bind fun j1 =>
some (j1.1, j1.2.1, j1.2.2)
noncomputable def S140 (N : Nat) : Sig := { inn := ⟨[(0, .val false (.leaf (.slice rType)))], [], [], 0⟩, out := ⟨[(0, .val false (.own 0)), (1, .val false (.own 1)), (2, .val false (.own 2))], [(0, .own 3 rInt), (1, .own 3 rInt), (2, .own 3 rInt)], [], 3⟩, fn := fun (x : List rType.den) => M.ref10_References N x }
theorem W140 (N : Nat) : FnOK Tryz.prog 140 (S140 N) := fn_ok (E := ⟨tabs, [(153, S153 N)], (tabcons (W153 N) tabnil), mixed, false, false⟩) (N := N) (a := (.two .nil (.two .nil (.meet ⟨[(5, .val false (.own 96)), (6, .val false (.own 97)), (7, .val false (.own 98))], [(96, .own 3 rInt), (97, .own 3 rInt), (98, .own 3 rInt)], [], 99⟩ (.two .nil (.two (.loop ⟨[(5, .val false (.own 112)), (6, .val false (.own 113)), (7, .val false (.own 114)), (8, .val false (.leaf rInt))], [(112, .own 3 rInt), (113, .own 3 rInt), (114, .own 3 rInt)], [], 115⟩ (.two .nil (.two (.meet ⟨[(5, .val false (.own 179)), (6, .val false (.own 180)), (7, .val false (.own 181))], [(179, .own 3 rInt), (180, .own 3 rInt), (181, .own 3 rInt)], [112, 113, 114], 182⟩ (.two .nil (.meet ⟨[(5, .val false (.own 275))], [(275, .own 3 rInt)], [112], 276⟩ .nil (.meet ⟨[(6, .val false (.own 276))], [(276, .own 3 rInt)], [113], 277⟩ .nil (.meet ⟨[(44, .val false (.leaf .bool))], [], [], 277⟩ .nil .nil)))) .nil) .nil))) .nil)) .nil)))) (sg := S140 N) (c := Tryz.f140.body.getD .skip) (rs := Tryz.f140.results.toList) Tryz.func140 (by kernel_rfl) (by kernel_rfl) rfl rfl rfl rfl (fun x => by kernel_rfl)
noncomputable def M.ref16_Direct (N : Nat) (a0 : rScope.den) (a1 : Int) : Option (List Int) :=
(M.ref16_is N a0 a1).bind fun y1 =>
(if (!y1) = true then
some ([] : List Int)
else
Loop (S := Int × List Int) (X := List Int) (fun s2 =>
(if (decide (s2.1 < (a0.2.2.2.2.length : Int))) = true then
(((idx a0.2.2.2.2 s2.1).bind fun x5 =>
(if (!decide (x5.2.1 = a1)) = true then
some s2.2
else
(idx a0.2.2.2.2 s2.1).bind fun x6 =>
(M.ref10_References N x6.2.2.2.2.2.1).bind fun y7 =>
(idx a0.2.2.2.2 s2.1).bind fun x8 =>
(M.ref10_References N x8.2.2.2.2.2.2.1).bind fun y9 =>
(Loop (S := Int × List Int) (X := List Int) (fun s11 =>
(if (decide (s11.1 < (y7.2.1.length : Int))) = true then
((idx y7.2.1 s11.1).bind fun x13 =>
(M.ref16_is N a0 x13).bind fun y14 =>
(if y14 = true then
(idx y7.2.1 s11.1).bind fun x15 =>
(M.ref16_insert N s11.2 x15).bind fun y16 =>
some y16
else
some s11.2) : Option (List Int)).bind fun j12 =>
some (Sum.inl (IntKind.i64.wrap (s11.1 + (1 : Int)), j12))
else
some (Sum.inr s11.2))) N ((0 : Int), s2.2) : Option (List Int)).bind fun j10 =>
Loop (S := Int × List Int) (X := List Int) (fun s17 =>
(if (decide (s17.1 < (y9.2.1.length : Int))) = true then
((idx y9.2.1 s17.1).bind fun x19 =>
(M.ref16_is N a0 x19).bind fun y20 =>
(if y20 = true then
(idx y9.2.1 s17.1).bind fun x21 =>
(M.ref16_insert N s17.2 x21).bind fun y22 =>
some y22
else
some s17.2) : Option (List Int)).bind fun j18 =>
some (Sum.inl (IntKind.i64.wrap (s17.1 + (1 : Int)), j18))
else
some (Sum.inr s17.2))) N ((0 : Int), j10)) : Option (List Int)).bind fun j4 =>
some j4 : Option (List Int)).bind fun j3 =>
some (Sum.inl (IntKind.i64.wrap (s2.1 + (1 : Int)), j3))
else
some (Sum.inr s2.2))) N ((0 : Int), ([] : List Int)))
noncomputable def S116 (N : Nat) : Sig := { inn := ⟨[(0, .val true (.leaf rScope)), (1, .val false (.leaf rInt))], [], [], 0⟩, out := ⟨[(0, .val false (.own 0))], [(0, .own 3 rInt)], [], 1⟩, fn := fun (x : rScope.den × Int) => M.ref16_Direct N x.1 x.2 }
theorem W116 (N : Nat) : FnOK Tryz.prog 116 (S116 N) := fn_ok (E := ⟨tabs, [(117, S117 N), (139, S139 N), (140, S140 N)], (tabcons (W117 N) (tabcons (W139 N) (tabcons (W140 N) tabnil))), mixed, false, false⟩) (N := N) (a := (.two .nil (.two .nil (.two .nil (.two (.two .nil (.two (.loop ⟨[(5, .val false (.own 128)), (6, .val false (.leaf rInt))], [(128, .own 3 rInt)], [], 129⟩ (.two .nil (.meet ⟨[(5, .val false (.own 209))], [(209, .own 3 rInt)], [128], 210⟩ (.meet ⟨[(5, .val false (.own 209))], [(209, .own 3 rInt)], [128], 210⟩ (.two .nil (.two .nil (.two .nil (.meet ⟨[(5, .val false (.own 785))], [(785, .own 3 rInt)], [128], 786⟩ (.two .nil (.two (.loop ⟨[(5, .val false (.own 801)), (13, .val false (.leaf rInt))], [(801, .own 3 rInt)], [128], 802⟩ (.two .nil (.two (.meet ⟨[(5, .val false (.own 866))], [(866, .own 3 rInt)], [801], 867⟩ .nil .nil) .nil))) .nil)) (.two .nil (.two (.loop ⟨[(5, .val false (.own 802)), (14, .val false (.leaf rInt))], [(802, .own 3 rInt)], [785], 803⟩ (.two .nil (.two (.meet ⟨[(5, .val false (.own 867))], [(867, .own 3 rInt)], [802], 868⟩ .nil .nil) .nil))) .nil)))))) .nil) .nil))) .nil)) .nil))))) (sg := S116 N) (c := Tryz.f116.body.getD .skip) (rs := Tryz.f116.results.toList) Tryz.func116 (by kernel_rfl) (by kernel_rfl) rfl rfl rfl rfl (fun x => by kernel_rfl)
noncomputable def M.ref16_Transitive (N : Nat) (a0 : rScope.den) (a1 : Int) : Option (List Int) :=
(M.ref16_Direct N a0 a1).bind fun y1 =>
Loop (S := (List Int) × Int) (X := List Int) (fun s2 =>
(if (decide (s2.2 < (a0.2.2.2.1.length : Int))) = true then
(Loop (S := (List Int) × Int) (X := List Int) (fun s4 =>
(if (decide (s4.2 < (s2.1.length : Int))) = true then
((idx s2.1 s4.2).bind fun x6 =>
(M.ref16_Direct N a0 x6).bind fun y7 =>
Loop (S := (List Int) × Int) (X := List Int) (fun s8 =>
(if (decide (s8.2 < (y7.length : Int))) = true then
(idx y7 s8.2).bind fun x9 =>
(M.ref16_insert N s8.1 x9).bind fun y10 =>
some (Sum.inl (y10, IntKind.i64.wrap (s8.2 + (1 : Int))))
else
some (Sum.inr s8.1))) N (s4.1, (0 : Int)) : Option (List Int)).bind fun j5 =>
some (Sum.inl (j5, IntKind.i64.wrap (s4.2 + (1 : Int))))
else
some (Sum.inr s4.1))) N (s2.1, (0 : Int)) : Option (List Int)).bind fun j3 =>
some (Sum.inl (j3, IntKind.i64.wrap (s2.2 + (1 : Int))))
else
some (Sum.inr s2.1))) N (y1, (0 : Int))
noncomputable def S71 (N : Nat) : Sig := { inn := ⟨[(0, .val true (.leaf rScope)), (1, .val false (.leaf rInt))], [], [], 0⟩, out := ⟨[(0, .val false (.leaf (.slice rInt)))], [], [], 0⟩, fn := fun (x : rScope.den × Int) => M.ref16_Transitive N x.1 x.2 }
theorem W71 (N : Nat) : FnOK Tryz.prog 71 (S71 N) := fn_ok (E := ⟨tabs, [(116, S116 N), (117, S117 N)], (tabcons (W116 N) (tabcons (W117 N) tabnil)), mixed, false, false⟩) (N := N) (a := (.two .nil (.two .nil (.two (.two .nil (.two (.loop ⟨[(5, .val false (.leaf (.slice rInt))), (6, .val false (.leaf rInt))], [], [64], 112⟩ (.two .nil (.meet ⟨[(5, .val false (.leaf (.slice rInt)))], [], [], 192⟩ (.two (.two .nil (.two .nil (.two (.loop ⟨[(5, .val false (.leaf (.slice rInt))), (8, .val false (.leaf rInt))], [], [], 240⟩ (.two .nil (.meet ⟨[(5, .val false (.leaf (.slice rInt)))], [], [], 304⟩ (.two (.two .nil (.two .nil (.two (.loop ⟨[(5, .val false (.leaf (.slice rInt))), (10, .val false (.leaf rInt))], [], [], 432⟩ .nil) .nil))) .nil) .nil))) .nil))) .nil) .nil))) .nil)) .nil)))) (sg := S71 N) (c := Tryz.f71.body.getD .skip) (rs := Tryz.f71.results.toList) Tryz.func71 (by kernel_rfl) (by kernel_rfl) rfl rfl rfl rfl (fun x => by kernel_rfl)
noncomputable def M.ref17_scopeError (N : Nat) (a0 : rLaw.den) (a1 : Int) : Option (rLawError.den) :=
(idx a0.2.2 a1).bind fun x1 =>
(M.ref08_IsIdentifier N x1.1).bind fun y2 =>
(if (!y2) = true then
some ((2 : Int), ((3 : Int), (a1, (0 : Int))))
else
(M.ref17_nameTaken N a0 (3 : Int) a1 x1.1).bind fun y3 =>
(if y3 = true then
some ((7 : Int), ((3 : Int), (a1, (0 : Int))))
else
((if (!decide (x1.2.1 = (-1 : Int))) = true then
(if (decide (x1.2.1 < (0 : Int))) = true then
some true
else
(if (decide (a1 ≤ x1.2.1)) = true then
some true
else
(idx a0.2.2 x1.2.1).bind fun x5 =>
some (!decide (x5.2.1 = (-1 : Int)))))
else
some false) : Option (Bool)).bind fun j4 =>
(if j4 = true then
some ((6 : Int), ((3 : Int), (a1, (0 : Int))))
else
(if (decide ((12 : Int) < (x1.2.2.1.length : Int))) = true then
some ((4 : Int), ((3 : Int), (a1, (112 : Int))))
else
(if (decide ((12 : Int) < (x1.2.2.2.1.length : Int))) = true then
some ((4 : Int), ((3 : Int), (a1, (212 : Int))))
else
(M.ref17_fieldError N a0 a1).bind fun y6 =>
(if (!decide (y6.1 = (0 : Int))) = true then
some y6
else
Join (J := Unit) (R := rLawError.den) (Loop (S := Int) (X := (Unit) ⊕ (rLawError.den)) (fun s8 =>
(if (decide (s8 < (x1.2.2.2.2.length : Int))) = true then
(M.ref17_ruleError N a0 a1 s8).bind fun y9 =>
(if (!decide (y9 = (0 : Int))) = true then
some (Sum.inr (Sum.inr (y9, ((3 : Int), (a1, IntKind.i64.wrap ((300 : Int) + s8))))))
else
some (Sum.inl (IntKind.i64.wrap (s8 + (1 : Int)))))
else
some (Sum.inr (Sum.inl ())))) N (0 : Int)) fun j7 =>
Join (J := Unit) (R := rLawError.den) (Loop (S := Int) (X := (Unit) ⊕ (rLawError.den)) (fun s11 =>
(if (decide (s11 < (x1.2.2.2.1.length : Int))) = true then
Join (J := Unit) (R := (Int) ⊕ ((Unit) ⊕ (rLawError.den))) ((M.ref16_Transitive N x1 s11).bind fun y13 =>
Loop (S := Int) (X := (Unit) ⊕ ((Int) ⊕ ((Unit) ⊕ (rLawError.den)))) (fun s14 =>
(if (decide (s14 < (y13.length : Int))) = true then
(idx y13 s14).bind fun x15 =>
(if (decide (x15 = s11)) = true then
some (Sum.inr (Sum.inr (Sum.inr (Sum.inr ((9 : Int), ((3 : Int), (a1, IntKind.i64.wrap ((200 : Int) + s11))))))))
else
some (Sum.inl (IntKind.i64.wrap (s14 + (1 : Int)))))
else
some (Sum.inr (Sum.inl ())))) N (0 : Int)) fun j12 =>
some (Sum.inl (IntKind.i64.wrap (s11 + (1 : Int))))
else
some (Sum.inr (Sum.inl ())))) N (0 : Int)) fun j10 =>
some ((0 : Int), ((0 : Int), ((0 : Int), (0 : Int))))))))))
noncomputable def S32 (N : Nat) : Sig := { inn := ⟨[(0, .val true (.leaf rLaw)), (1, .val false (.leaf rInt))], [], [], 0⟩, out := ⟨[(0, .val true (.leaf rLawError))], [], [], 0⟩, fn := fun (x : rLaw.den × Int) => M.ref17_scopeError N x.1 x.2 }
theorem W32 (N : Nat) : FnOK Tryz.prog 32 (S32 N) := fn_ok (E := ⟨tabs, [(66, S66 N), (67, S67 N), (69, S69 N), (70, S70 N), (71, S71 N)], (tabcons (W66 N) (tabcons (W67 N) (tabcons (W69 N) (tabcons (W70 N) (tabcons (W71 N) tabnil))))), mixed, false, false⟩) (N := N) (a := (.two .nil (.two .nil (.two .nil (.two .nil (.two .nil (.two (.meet ⟨[(56, .val false (.leaf .bool))], [], [], 352⟩ .nil .nil) (.two .nil (.two .nil (.two .nil (.two .nil (.join ⟨[], [], [], 608⟩ (.two .nil (.two (.loop ⟨[(8, .val false (.leaf rInt))], [], [], 624⟩ .nil) .nil)) (.join ⟨[], [], [], 608⟩ (.two .nil (.two (.loop ⟨[(10, .val false (.leaf rInt))], [], [], 624⟩ (.two .nil (.join ⟨[], [], [], 704⟩ (.two (.two .nil (.two .nil (.two (.loop ⟨[(12, .val false (.leaf rInt))], [], [], 784⟩ .nil) .nil))) .nil) .nil))) .nil)) .nil))))))))))))) (sg := S32 N) (c := Tryz.f32.body.getD .skip) (rs := Tryz.f32.results.toList) Tryz.func32 (by kernel_rfl) (by kernel_rfl) rfl rfl rfl rfl (fun x => by kernel_rfl)
noncomputable def M.ref17_Validate (N : Nat) (a0 : rLaw.den) : Option (rLawError.den) :=
(if (decide ((8 : Int) < (a0.1.length : Int))) = true then
some ((4 : Int), ((1 : Int), ((8 : Int), (0 : Int))))
else
Join (J := Unit) (R := rLawError.den) (Loop (S := Int) (X := (Unit) ⊕ (rLawError.den)) (fun s2 =>
(if (decide (s2 < (a0.1.length : Int))) = true then
(M.ref17_enumError N a0 s2).bind fun y3 =>
(if (!decide (y3.1 = (0 : Int))) = true then
some (Sum.inr (Sum.inr y3))
else
some (Sum.inl (IntKind.i64.wrap (s2 + (1 : Int)))))
else
some (Sum.inr (Sum.inl ())))) N (0 : Int)) fun j1 =>
(if (decide ((8 : Int) < (a0.2.1.length : Int))) = true then
some ((4 : Int), ((2 : Int), ((8 : Int), (0 : Int))))
else
Join (J := Unit) (R := rLawError.den) (Loop (S := Int) (X := (Unit) ⊕ (rLawError.den)) (fun s5 =>
(if (decide (s5 < (a0.2.1.length : Int))) = true then
(M.ref17_tableError N a0 s5).bind fun y6 =>
(if (!decide (y6.1 = (0 : Int))) = true then
some (Sum.inr (Sum.inr y6))
else
some (Sum.inl (IntKind.i64.wrap (s5 + (1 : Int)))))
else
some (Sum.inr (Sum.inl ())))) N (0 : Int)) fun j4 =>
(if (decide ((4 : Int) < (a0.2.2.length : Int))) = true then
some ((4 : Int), ((3 : Int), ((4 : Int), (0 : Int))))
else
Join (J := Unit) (R := rLawError.den) (Loop (S := Int) (X := (Unit) ⊕ (rLawError.den)) (fun s8 =>
(if (decide (s8 < (a0.2.2.length : Int))) = true then
(M.ref17_scopeError N a0 s8).bind fun y9 =>
(if (!decide (y9.1 = (0 : Int))) = true then
some (Sum.inr (Sum.inr y9))
else
some (Sum.inl (IntKind.i64.wrap (s8 + (1 : Int)))))
else
some (Sum.inr (Sum.inl ())))) N (0 : Int)) fun j7 =>
some ((0 : Int), ((0 : Int), ((0 : Int), (0 : Int)))))))
noncomputable def S12 (N : Nat) : Sig := { inn := ⟨[(0, .val true (.leaf rLaw))], [], [], 0⟩, out := ⟨[(0, .val true (.leaf rLawError))], [], [], 0⟩, fn := fun (x : rLaw.den) => M.ref17_Validate N x }
theorem W12 (N : Nat) : FnOK Tryz.prog 12 (S12 N) := fn_ok (E := ⟨tabs, [(30, S30 N), (31, S31 N), (32, S32 N)], (tabcons (W30 N) (tabcons (W31 N) (tabcons (W32 N) tabnil))), mixed, false, false⟩) (N := N) (a := (.two .nil (.two .nil (.join ⟨[], [], [], 96⟩ (.two .nil (.two (.loop ⟨[(3, .val false (.leaf rInt))], [], [], 112⟩ .nil) .nil)) (.two .nil (.join ⟨[], [], [], 160⟩ (.two .nil (.two (.loop ⟨[(5, .val false (.leaf rInt))], [], [], 176⟩ .nil) .nil)) (.two .nil (.join ⟨[], [], [], 224⟩ (.two .nil (.two (.loop ⟨[(7, .val false (.leaf rInt))], [], [], 240⟩ .nil) .nil)) .nil)))))))) (sg := S12 N) (c := Tryz.f12.body.getD .skip) (rs := Tryz.f12.results.toList) Tryz.func12 (by kernel_rfl) (by kernel_rfl) rfl rfl rfl rfl (fun x => by kernel_rfl)
noncomputable def M.law17_LawValidate (N : Nat) (a0 : rLaw.den) : Option (Bool) :=
(M.same_SmallLaw N a0).bind fun y1 =>
(if (!y1) = true then
(M.law17_awake N).bind fun y2 =>
some y2
else
((M.law_Validate N a0).bind fun y4 =>
(M.ref17_Validate N a0).bind fun y5 =>
(if (eqR rLawError y4 y5) = true then
(M.law17_awake N).bind fun y6 =>
some y6
else
some false) : Option (Bool)).bind fun j3 =>
some j3)
noncomputable def S3 (N : Nat) : Sig := { inn := ⟨[(0, .val true (.leaf rLaw))], [], [], 0⟩, out := ⟨[(0, .val false (.leaf .bool))], [], [], 0⟩, fn := fun (x : rLaw.den) => M.law17_LawValidate N x }
theorem W3 (N : Nat) : FnOK Tryz.prog 3 (S3 N) := fn_ok (E := ⟨tabs, [(9, S9 N), (10, S10 N), (11, S11 N), (12, S12 N)], (tabcons (W9 N) (tabcons (W10 N) (tabcons (W11 N) (tabcons (W12 N) tabnil)))), mixed, false, false⟩) (N := N) (a := (.two .nil (.two .nil (.meet ⟨[(2, .val false (.leaf .bool))], [], [], 80⟩ .nil .nil)))) (sg := S3 N) (c := Tryz.f3.body.getD .skip) (rs := Tryz.f3.results.toList) Tryz.func3 (by kernel_rfl) (by kernel_rfl) rfl rfl rfl rfl (fun x => by kernel_rfl)
noncomputable def M.law_Find_c1_v1 (N : Nat) (a0 : rScope.den) (a1 : ByteArray) : Option (Bool × ByteArray) :=
some (decide (a0.1 = a1), a1)
noncomputable def S34v1 (N : Nat) : Sig := { inn := ⟨[(0, .val true (.leaf rScope)), (1, .ptr 0 [] 0)], [(0, .box 9 (.leaf .str))], [], 1⟩, out := ⟨[(0, .val false (.leaf .bool))], [(0, .box 9 (.leaf .str))], [], 2⟩, fn := fun (x : rScope.den × ByteArray) => M.law_Find_c1_v1 N x.1 x.2 }
theorem W34v1 (N : Nat) : FnOK Tryz.prog 34 (S34v1 N) := fn_ok (E := ⟨tabs, [], tabnil, mixed, false, false⟩) (N := N) (a := .nil) (sg := S34v1 N) (c := Tryz.f34.body.getD .skip) (rs := Tryz.f34.results.toList) Tryz.func34 (by kernel_rfl) (by kernel_rfl) rfl rfl rfl rfl (fun x => by kernel_rfl)
noncomputable def M.slices_IndexFunc_guerdon_api_Scope_guerdon_api_Scope_v2 (N : Nat) (a0 : List rScope.den) (a1 : ByteArray) : Option (Int × ByteArray) :=
Loop (S := Int × ByteArray) (X := Int × ByteArray) (fun s1 =>
(if (decide (s1.1 < (a0.length : Int))) = true then
(idx a0 s1.1).bind fun x2 =>
(M.law_Find_c1_v1 N x2 s1.2).bind fun y3 =>
(if y3.1 = true then
some (Sum.inr (s1.1, y3.2))
else
some (Sum.inl (IntKind.i64.wrap (s1.1 + (1 : Int)), y3.2)))
else
some (Sum.inr ((-1 : Int), s1.2)))) N ((0 : Int), a1)
noncomputable def S33v2 (N : Nat) : Sig := { inn := ⟨[(0, .val false (.leaf (.slice rScope))), (1, .fn 34 [(0, [], 0)])], [(0, .box 9 (.leaf .str))], [], 1⟩, out := ⟨[(0, .val false (.leaf rInt))], [(0, .box 9 (.leaf .str))], [], 2⟩, fn := fun (x : (List rScope.den) × ByteArray) => M.slices_IndexFunc_guerdon_api_Scope_guerdon_api_Scope_v2 N x.1 x.2 }
theorem W33v2 (N : Nat) : FnOK Tryz.prog 33 (S33v2 N) := fn_ok (E := ⟨tabs, [(34, S34v1 N)], (tabcons (W34v1 N) tabnil), mixed, false, false⟩) (N := N) (a := (.two .nil (.two (.two .nil (.two (.loop ⟨[(8, .val false (.leaf rInt))], [(0, .box 9 (.leaf .str))], [], 66⟩ .nil) .nil)) .nil))) (sg := S33v2 N) (c := Tryz.f33.body.getD .skip) (rs := Tryz.f33.results.toList) Tryz.func33 (by kernel_rfl) (by kernel_rfl) rfl rfl rfl rfl (fun x => by kernel_rfl)
noncomputable def M.law_Find_c2_v1 (N : Nat) (a0 : rField.den) (a1 : ByteArray) : Option (Bool × ByteArray) :=
some (decide (a0.1 = a1), a1)
noncomputable def S35v1 (N : Nat) : Sig := { inn := ⟨[(0, .val true (.leaf rField)), (1, .ptr 0 [] 0)], [(0, .box 9 (.leaf .str))], [], 1⟩, out := ⟨[(0, .val false (.leaf .bool))], [(0, .box 9 (.leaf .str))], [], 2⟩, fn := fun (x : rField.den × ByteArray) => M.law_Find_c2_v1 N x.1 x.2 }
theorem W35v1 (N : Nat) : FnOK Tryz.prog 35 (S35v1 N) := fn_ok (E := ⟨tabs, [], tabnil, mixed, false, false⟩) (N := N) (a := .nil) (sg := S35v1 N) (c := Tryz.f35.body.getD .skip) (rs := Tryz.f35.results.toList) Tryz.func35 (by kernel_rfl) (by kernel_rfl) rfl rfl rfl rfl (fun x => by kernel_rfl)
noncomputable def M.slices_IndexFunc_guerdon_api_Field_guerdon_api_Field_v2 (N : Nat) (a0 : List rField.den) (a1 : ByteArray) : Option (Int × ByteArray) :=
Loop (S := Int × ByteArray) (X := Int × ByteArray) (fun s1 =>
(if (decide (s1.1 < (a0.length : Int))) = true then
(idx a0 s1.1).bind fun x2 =>
(M.law_Find_c2_v1 N x2 s1.2).bind fun y3 =>
(if y3.1 = true then
some (Sum.inr (s1.1, y3.2))
else
some (Sum.inl (IntKind.i64.wrap (s1.1 + (1 : Int)), y3.2)))
else
some (Sum.inr ((-1 : Int), s1.2)))) N ((0 : Int), a1)
noncomputable def S36v2 (N : Nat) : Sig := { inn := ⟨[(0, .val false (.leaf (.slice rField))), (1, .fn 35 [(0, [], 0)])], [(0, .box 9 (.leaf .str))], [], 1⟩, out := ⟨[(0, .val false (.leaf rInt))], [(0, .box 9 (.leaf .str))], [], 2⟩, fn := fun (x : (List rField.den) × ByteArray) => M.slices_IndexFunc_guerdon_api_Field_guerdon_api_Field_v2 N x.1 x.2 }
theorem W36v2 (N : Nat) : FnOK Tryz.prog 36 (S36v2 N) := fn_ok (E := ⟨tabs, [(35, S35v1 N)], (tabcons (W35v1 N) tabnil), mixed, false, false⟩) (N := N) (a := (.two .nil (.two (.two .nil (.two (.loop ⟨[(8, .val false (.leaf rInt))], [(0, .box 9 (.leaf .str))], [], 66⟩ .nil) .nil)) .nil))) (sg := S36v2 N) (c := Tryz.f36.body.getD .skip) (rs := Tryz.f36.results.toList) Tryz.func36 (by kernel_rfl) (by kernel_rfl) rfl rfl rfl rfl (fun x => by kernel_rfl)
noncomputable def M.law_Find (N : Nat) (a0 : rLaw.den) (a1 : ByteArray) (a2 : ByteArray) : Option (Int × Int × Int) :=
(M.slices_IndexFunc_guerdon_api_Scope_guerdon_api_Scope_v2 N a0.2.2 a1).bind fun y1 =>
(if (decide (y1.1 < (0 : Int))) = true then
some ((-1 : Int), (-1 : Int), (-1 : Int))
else
(idx a0.2.2 y1.1).bind fun x2 =>
(M.slices_IndexFunc_guerdon_api_Field_guerdon_api_Field_v2 N x2.2.2.2.1 a2).bind fun y3 =>
(M.slices_IndexFunc_guerdon_api_Field_guerdon_api_Field_v2 N x2.2.2.1 y3.2).bind fun y4 =>
some (y1.1, y3.1, y4.1))
noncomputable def S13 (N : Nat) : Sig := { inn := ⟨[(0, .val true (.leaf rLaw)), (1, .val false (.leaf .str)), (2, .val false (.leaf .str))], [], [], 0⟩, out := ⟨[(0, .val false (.leaf rInt)), (1, .val false (.leaf rInt)), (2, .val false (.leaf rInt))], [], [], 0⟩, fn := fun (x : rLaw.den × ByteArray × ByteArray) => M.law_Find N x.1 x.2.1 x.2.2 }
theorem W13 (N : Nat) : FnOK Tryz.prog 13 (S13 N) := fn_ok (E := ⟨tabs, [(33, S33v2 N), (36, S36v2 N)], (tabcons (W33v2 N) (tabcons (W36v2 N) tabnil)), mixed, false, false⟩) (N := N) (a := .nil) (sg := S13 N) (c := Tryz.f13.body.getD .skip) (rs := Tryz.f13.results.toList) Tryz.func13 (by kernel_rfl) (by kernel_rfl) rfl rfl rfl rfl (fun x => by kernel_rfl)
noncomputable def M.ref17_fieldIndex (N : Nat) (a0 : List rField.den) (a1 : ByteArray) : Option (Int) :=
Loop (S := Int) (X := Int) (fun s1 =>
(if (decide (s1 < (a0.length : Int))) = true then
(idx a0 s1).bind fun x2 =>
(if (decide (x2.1 = a1)) = true then
some (Sum.inr s1)
else
some (Sum.inl (IntKind.i64.wrap (s1 + (1 : Int)))))
else
some (Sum.inr (-1 : Int)))) N (0 : Int)
noncomputable def S37 (N : Nat) : Sig := { inn := ⟨[(0, .val false (.leaf (.slice rField))), (1, .val false (.leaf .str))], [], [], 0⟩, out := ⟨[(0, .val false (.leaf rInt))], [], [], 0⟩, fn := fun (x : (List rField.den) × ByteArray) => M.ref17_fieldIndex N x.1 x.2 }
theorem W37 (N : Nat) : FnOK Tryz.prog 37 (S37 N) := fn_ok (E := ⟨tabs, [], tabnil, mixed, false, false⟩) (N := N) (a := (.two .nil (.two (.two .nil (.two (.loop ⟨[(5, .val false (.leaf rInt))], [], [], 32⟩ .nil) .nil)) .nil))) (sg := S37 N) (c := Tryz.f37.body.getD .skip) (rs := Tryz.f37.results.toList) Tryz.func37 (by kernel_rfl) (by kernel_rfl) rfl rfl rfl rfl (fun x => by kernel_rfl)
noncomputable def M.ref17_Find (N : Nat) (a0 : rLaw.den) (a1 : ByteArray) (a2 : ByteArray) : Option (Int × Int × Int) :=
Loop (S := Int) (X := Int × Int × Int) (fun s1 =>
(if (decide (s1 < (a0.2.2.length : Int))) = true then
(idx a0.2.2 s1).bind fun x2 =>
(if (decide (x2.1 = a1)) = true then
(idx a0.2.2 s1).bind fun x3 =>
(M.ref17_fieldIndex N x3.2.2.2.1 a2).bind fun y4 =>
(idx a0.2.2 s1).bind fun x5 =>
(M.ref17_fieldIndex N x5.2.2.1 a2).bind fun y6 =>
some (Sum.inr (s1, y4, y6))
else
some (Sum.inl (IntKind.i64.wrap (s1 + (1 : Int)))))
else
some (Sum.inr ((-1 : Int), (-1 : Int), (-1 : Int))))) N (0 : Int)
noncomputable def S14 (N : Nat) : Sig := { inn := ⟨[(0, .val true (.leaf rLaw)), (1, .val false (.leaf .str)), (2, .val false (.leaf .str))], [], [], 0⟩, out := ⟨[(0, .val false (.leaf rInt)), (1, .val false (.leaf rInt)), (2, .val false (.leaf rInt))], [], [], 0⟩, fn := fun (x : rLaw.den × ByteArray × ByteArray) => M.ref17_Find N x.1 x.2.1 x.2.2 }
theorem W14 (N : Nat) : FnOK Tryz.prog 14 (S14 N) := fn_ok (E := ⟨tabs, [(37, S37 N)], (tabcons (W37 N) tabnil), mixed, false, false⟩) (N := N) (a := (.two .nil (.two (.two .nil (.two (.loop ⟨[(9, .val false (.leaf rInt))], [], [], 80⟩ .nil) .nil)) .nil))) (sg := S14 N) (c := Tryz.f14.body.getD .skip) (rs := Tryz.f14.results.toList) Tryz.func14 (by kernel_rfl) (by kernel_rfl) rfl rfl rfl rfl (fun x => by kernel_rfl)
noncomputable def M.law17_LawFind (N : Nat) (a0 : rLaw.den) (a1 : ByteArray) (a2 : ByteArray) : Option (Bool) :=
(M.same_SmallLaw N a0).bind fun y1 =>
(if (!y1) = true then
(M.law17_awake N).bind fun y2 =>
some y2
else
(M.law_Find N a0 a1 a2).bind fun y3 =>
(M.ref17_Find N a0 a1 a2).bind fun y4 =>
((if (decide (y3.1 = y4.1)) = true then
(if (decide (y3.2.1 = y4.2.1)) = true then
(if (decide (y3.2.2 = y4.2.2)) = true then
(M.law17_awake N).bind fun y6 =>
some y6
else
some false)
else
some false)
else
some false) : Option (Bool)).bind fun j5 =>
some j5)
noncomputable def S4 (N : Nat) : Sig := { inn := ⟨[(0, .val true (.leaf rLaw)), (1, .val false (.leaf .str)), (2, .val false (.leaf .str))], [], [], 0⟩, out := ⟨[(0, .val false (.leaf .bool))], [], [], 0⟩, fn := fun (x : rLaw.den × ByteArray × ByteArray) => M.law17_LawFind N x.1 x.2.1 x.2.2 }
theorem W4 (N : Nat) : FnOK Tryz.prog 4 (S4 N) := fn_ok (E := ⟨tabs, [(9, S9 N), (10, S10 N), (13, S13 N), (14, S14 N)], (tabcons (W9 N) (tabcons (W10 N) (tabcons (W13 N) (tabcons (W14 N) tabnil)))), mixed, false, false⟩) (N := N) (a := (.two .nil (.two .nil (.two .nil (.two .nil (.meet ⟨[(6, .val false (.leaf .bool))], [], [], 432⟩ .nil .nil)))))) (sg := S4 N) (c := Tryz.f4.body.getD .skip) (rs := Tryz.f4.results.toList) Tryz.func4 (by kernel_rfl) (by kernel_rfl) rfl rfl rfl rfl (fun x => by kernel_rfl)
noncomputable def M.slices_Clone_string_string (N : Nat) (a0 : List ByteArray) : Option (List ByteArray) :=
(if Nat.beq (a0).length 0 = true then
Both (some ([] : List ByteArray))
((appA ([] : List ByteArray) a0).bind fun l1 =>
some l1)
else
(appA ([] : List ByteArray) a0).bind fun l2 =>
some l2)
noncomputable def S50 (N : Nat) : Sig := { inn := ⟨[(0, .val false (.leaf (.slice .str)))], [], [], 0⟩, out := ⟨[(0, .val false (.own 0))], [(0, .own 9 .str)], [], 1⟩, fn := fun (x : List ByteArray) => M.slices_Clone_string_string N x }
theorem W50 (N : Nat) : FnOK Tryz.prog 50 (S50 N) := fn_ok (E := ⟨tabs, [], tabnil, mixed, false, false⟩) (N := N) (a := .nil) (sg := S50 N) (c := Tryz.f50.body.getD .skip) (rs := Tryz.f50.results.toList) Tryz.func50 (by kernel_rfl) (by kernel_rfl) rfl rfl rfl rfl (fun x => by kernel_rfl)
noncomputable def M.law_cloneEnums (N : Nat) (a0 : List rEnum.den) : Option (List rEnum.den) :=
Loop (S := Int × List rEnum.den) (X := List rEnum.den) (fun s1 =>
(if (decide (s1.1 < (a0.length : Int))) = true then
(idx a0 s1.1).bind fun x2 =>
(M.slices_Clone_string_string N x2.2).bind fun y3 =>
(appA s1.2 ([(x2.1, y3)] : List rEnum.den)).bind fun l4 =>
some (Sum.inl (IntKind.i64.wrap (s1.1 + (1 : Int)), l4))
else
some (Sum.inr s1.2))) N ((0 : Int), ([] : List rEnum.den))
noncomputable def S38 (N : Nat) : Sig := { inn := ⟨[(0, .val false (.leaf (.slice rEnum)))], [], [], 0⟩, out := ⟨[(0, .val false (.own 0))], [(0, .own 68 rEnum)], [], 1⟩, fn := fun (x : List rEnum.den) => M.law_cloneEnums N x }
theorem W38 (N : Nat) : FnOK Tryz.prog 38 (S38 N) := fn_ok (E := ⟨tabs, [(50, S50 N)], (tabcons (W50 N) tabnil), mixed, false, false⟩) (N := N) (a := (.two .nil (.two .nil (.two (.two .nil (.two (.loop ⟨[(3, .val false (.own 80)), (8, .val false (.leaf rInt))], [(80, .own 68 rEnum)], [], 81⟩ .nil) .nil)) .nil)))) (sg := S38 N) (c := Tryz.f38.body.getD .skip) (rs := Tryz.f38.results.toList) Tryz.func38 (by kernel_rfl) (by kernel_rfl) rfl rfl rfl rfl (fun x => by kernel_rfl)
noncomputable def M.slices_Clone_guerdon_api_Row_guerdon_api_Row (N : Nat) (a0 : List rRow.den) : Option (List rRow.den) :=
(if Nat.beq (a0).length 0 = true then
Both (some ([] : List rRow.den))
((appA ([] : List rRow.den) a0).bind fun l1 =>
some l1)
else
(appA ([] : List rRow.den) a0).bind fun l2 =>
some l2)
noncomputable def S72 (N : Nat) : Sig := { inn := ⟨[(0, .val false (.leaf (.slice rRow)))], [], [], 0⟩, out := ⟨[(0, .val false (.own 0))], [(0, .own 112 rRow)], [], 1⟩, fn := fun (x : List rRow.den) => M.slices_Clone_guerdon_api_Row_guerdon_api_Row N x }
theorem W72 (N : Nat) : FnOK Tryz.prog 72 (S72 N) := fn_ok (E := ⟨tabs, [], tabnil, mixed, false, false⟩) (N := N) (a := .nil) (sg := S72 N) (c := Tryz.f72.body.getD .skip) (rs := Tryz.f72.results.toList) Tryz.func72 (by kernel_rfl) (by kernel_rfl) rfl rfl rfl rfl (fun x => by kernel_rfl)
noncomputable def M.law_cloneTables (N : Nat) (a0 : List rTable.den) : Option (List rTable.den) :=
Loop (S := Int × List rTable.den) (X := List rTable.den) (fun s1 =>
(if (decide (s1.1 < (a0.length : Int))) = true then
(idx a0 s1.1).bind fun x2 =>
(M.slices_Clone_guerdon_api_Row_guerdon_api_Row N x2.2.2.2).bind fun y3 =>
(appA s1.2 ([(x2.1, (x2.2.1, (x2.2.2.1, y3)))] : List rTable.den)).bind fun l4 =>
some (Sum.inl (IntKind.i64.wrap (s1.1 + (1 : Int)), l4))
else
some (Sum.inr s1.2))) N ((0 : Int), ([] : List rTable.den))
noncomputable def S39 (N : Nat) : Sig := { inn := ⟨[(0, .val false (.leaf (.slice rTable)))], [], [], 0⟩, out := ⟨[(0, .val false (.own 0))], [(0, .own 71 rTable)], [], 1⟩, fn := fun (x : List rTable.den) => M.law_cloneTables N x }
theorem W39 (N : Nat) : FnOK Tryz.prog 39 (S39 N) := fn_ok (E := ⟨tabs, [(72, S72 N)], (tabcons (W72 N) tabnil), mixed, false, false⟩) (N := N) (a := (.two .nil (.two .nil (.two (.two .nil (.two (.loop ⟨[(3, .val false (.own 80)), (8, .val false (.leaf rInt))], [(80, .own 71 rTable)], [], 81⟩ .nil) .nil)) .nil)))) (sg := S39 N) (c := Tryz.f39.body.getD .skip) (rs := Tryz.f39.results.toList) Tryz.func39 (by kernel_rfl) (by kernel_rfl) rfl rfl rfl rfl (fun x => by kernel_rfl)
noncomputable def M.slices_Clone_guerdon_api_Field_guerdon_api_Field (N : Nat) (a0 : List rField.den) : Option (List rField.den) :=
(if Nat.beq (a0).length 0 = true then
Both (some ([] : List rField.den))
((appA ([] : List rField.den) a0).bind fun l1 =>
some l1)
else
(appA ([] : List rField.den) a0).bind fun l2 =>
some l2)
noncomputable def S40 (N : Nat) : Sig := { inn := ⟨[(0, .val false (.leaf (.slice rField)))], [], [], 0⟩, out := ⟨[(0, .val false (.own 0))], [(0, .own 45 rField)], [], 1⟩, fn := fun (x : List rField.den) => M.slices_Clone_guerdon_api_Field_guerdon_api_Field N x }
theorem W40 (N : Nat) : FnOK Tryz.prog 40 (S40 N) := fn_ok (E := ⟨tabs, [], tabnil, mixed, false, false⟩) (N := N) (a := .nil) (sg := S40 N) (c := Tryz.f40.body.getD .skip) (rs := Tryz.f40.results.toList) Tryz.func40 (by kernel_rfl) (by kernel_rfl) rfl rfl rfl rfl (fun x => by kernel_rfl)
noncomputable def M.slices_Clone_guerdon_api_Node_guerdon_api_Node (N : Nat) (a0 : List rType.den) : Option (List rType.den) :=
(if Nat.beq (a0).length 0 = true then
Both (some ([] : List rType.den))
((appA ([] : List rType.den) a0).bind fun l1 =>
some l1)
else
(appA ([] : List rType.den) a0).bind fun l2 =>
some l2)
noncomputable def S41 (N : Nat) : Sig := { inn := ⟨[(0, .val false (.leaf (.slice rType)))], [], [], 0⟩, out := ⟨[(0, .val false (.own 0))], [(0, .own 65 rType)], [], 1⟩, fn := fun (x : List rType.den) => M.slices_Clone_guerdon_api_Node_guerdon_api_Node N x }
theorem W41 (N : Nat) : FnOK Tryz.prog 41 (S41 N) := fn_ok (E := ⟨tabs, [], tabnil, mixed, false, false⟩) (N := N) (a := .nil) (sg := S41 N) (c := Tryz.f41.body.getD .skip) (rs := Tryz.f41.results.toList) Tryz.func41 (by kernel_rfl) (by kernel_rfl) rfl rfl rfl rfl (fun x => by kernel_rfl)
noncomputable def M.law_Clone (N : Nat) (a0 : rLaw.den) : Option ((List rEnum.den) × (List rTable.den) × List rScope.den) :=
(M.law_cloneEnums N a0.1).bind fun y1 =>
(M.law_cloneTables N a0.2.1).bind fun y2 =>
(Loop (S := Int × (List rEnum.den) × (List rTable.den) × List rScope.den) (X := (List rEnum.den) × (List rTable.den) × List rScope.den) (fun s4 =>
(if (decide (s4.1 < (a0.2.2.length : Int))) = true then
((idx a0.2.2 s4.1).bind fun x6 =>
(M.slices_Clone_guerdon_api_Field_guerdon_api_Field N x6.2.2.1).bind fun y7 =>
(M.slices_Clone_guerdon_api_Field_guerdon_api_Field N x6.2.2.2.1).bind fun y8 =>
(Loop (S := Int × ByteArray × Int × (List rField.den) × (List rField.den) × List rRule.den) (X := ByteArray × Int × (List rField.den) × (List rField.den) × List rRule.den) (fun s10 =>
(if (decide (s10.1 < (x6.2.2.2.2.length : Int))) = true then
(idx x6.2.2.2.2 s10.1).bind fun x11 =>
(M.slices_Clone_guerdon_api_Node_guerdon_api_Node N x11.2.2.2.2.2.1).bind fun y12 =>
(M.slices_Clone_guerdon_api_Node_guerdon_api_Node N x11.2.2.2.2.2.2.1).bind fun y13 =>
(appA s10.2.2.2.2.2 ([(x11.1, (x11.2.1, (x11.2.2.1, (x11.2.2.2.1, (x11.2.2.2.2.1, (y12, (y13, x11.2.2.2.2.2.2.2)))))))] : List rRule.den)).bind fun l14 =>
some (Sum.inl (IntKind.i64.wrap (s10.1 + (1 : Int)), s10.2.1, s10.2.2.1, s10.2.2.2.1, s10.2.2.2.2.1, l14))
else
some (Sum.inr (s10.2.1, s10.2.2.1, s10.2.2.2.1, s10.2.2.2.2.1, s10.2.2.2.2.2)))) N ((0 : Int), x6.1, x6.2.1, y7, y8, ([] : List rRule.den)) : Option (ByteArray × Int × (List rField.den) × (List rField.den) × List rRule.den)).bind fun j9 =>
(appA s4.2.2.2 ([(j9.1, (j9.2.1, (j9.2.2.1, (j9.2.2.2.1, j9.2.2.2.2))))] : List rScope.den)).bind fun l15 =>
some (s4.2.1, s4.2.2.1, l15) : Option ((List rEnum.den) × (List rTable.den) × List rScope.den)).bind fun j5 =>
some (Sum.inl (IntKind.i64.wrap (s4.1 + (1 : Int)), j5.1, j5.2.1, j5.2.2))
else
some (Sum.inr (s4.2.1, s4.2.2.1, s4.2.2.2)))) N ((0 : Int), y1, y2, ([] : List rScope.den)) : Option ((List rEnum.den) × (List rTable.den) × List rScope.den)).bind fun j3 =>
some (j3.1, j3.2.1, j3.2.2)
noncomputable def S15 (N : Nat) : Sig := { inn := ⟨[(0, .val true (.leaf rLaw))], [], [], 0⟩, out := ⟨[(0, .val true (.pair (.own 0) (.pair (.own 1) (.own 2))))], [(0, .own 68 rEnum), (1, .own 71 rTable), (2, .own 41 rScope)], [], 3⟩, fn := fun (x : rLaw.den) => M.law_Clone N x }
theorem W15 (N : Nat) : FnOK Tryz.prog 15 (S15 N) := fn_ok (E := ⟨tabs, [(38, S38 N), (39, S39 N), (40, S40 N), (41, S41 N)], (tabcons (W38 N) (tabcons (W39 N) (tabcons (W40 N) (tabcons (W41 N) tabnil)))), mixed, false, false⟩) (N := N) (a := (.two .nil (.two .nil (.meet ⟨[], [(64, .own 68 rEnum), (112, .own 71 rTable), (144, .box 26 (.pair (.own 64) (.pair (.own 112) (.own 176)))), (176, .own 41 rScope)], [], 180⟩ (.two .nil (.two (.loop ⟨[(19, .val false (.leaf rInt))], [(64, .own 68 rEnum), (112, .own 71 rTable), (144, .box 26 (.pair (.own 64) (.pair (.own 112) (.own 240)))), (240, .own 41 rScope)], [], 244⟩ (.two .nil (.two .nil (.meet ⟨[], [(64, .own 68 rEnum), (112, .own 71 rTable), (144, .box 26 (.pair (.own 64) (.pair (.own 112) (.own 260)))), (260, .own 41 rScope)], [240], 264⟩ (.two (.two .nil (.two .nil (.two .nil (.two .nil (.two .nil (.meet ⟨[], [(340, .box 41 (.pair (.leaf .str) (.pair (.leaf rInt) (.pair (.own 404) (.pair (.own 484) (.own 564)))))), (404, .own 45 rField), (484, .own 45 rField), (564, .own 63 rRule)], [], 568⟩ (.two .nil (.two (.loop ⟨[(36, .val false (.leaf rInt))], [(340, .box 41 (.pair (.leaf .str) (.pair (.leaf rInt) (.pair (.own 404) (.pair (.own 484) (.own 628)))))), (404, .own 45 rField), (484, .own 45 rField), (628, .own 63 rRule)], [], 632⟩ .nil) .nil)) .nil)))))) .nil) .nil)))) .nil)) .nil)))) (sg := S15 N) (c := Tryz.f15.body.getD .skip) (rs := Tryz.f15.results.toList) Tryz.func15 (by kernel_rfl) (by kernel_rfl) rfl rfl rfl rfl (fun x => by kernel_rfl)
noncomputable def M.law_cloneEnums_v1 (N : Nat) (a0 : List rEnum.den) : Option (List rEnum.den) :=
Loop (S := Int × List rEnum.den) (X := List rEnum.den) (fun s1 =>
(if (decide (s1.1 < (a0.length : Int))) = true then
(idx a0 s1.1).bind fun x2 =>
(M.slices_Clone_string_string N x2.2).bind fun y3 =>
(appA s1.2 ([(x2.1, y3)] : List rEnum.den)).bind fun l4 =>
some (Sum.inl (IntKind.i64.wrap (s1.1 + (1 : Int)), l4))
else
some (Sum.inr s1.2))) N ((0 : Int), ([] : List rEnum.den))
noncomputable def S38v1 (N : Nat) : Sig := { inn := ⟨[(0, .val false (.leaf (.slice rEnum)))], [], [], 0⟩, out := ⟨[(0, .val false (.own 0))], [(0, .deep 68 (.pair (.leaf .str) (.sl 9 (.leaf .str))))], [], 1⟩, fn := fun (x : List rEnum.den) => M.law_cloneEnums_v1 N x }
theorem W38v1 (N : Nat) : FnOK Tryz.prog 38 (S38v1 N) := fn_ok (E := ⟨tabs, [(50, S50 N)], (tabcons (W50 N) tabnil), mixed, true, false⟩) (N := N) (a := (.two .nil (.two .nil (.two (.two .nil (.two (.loop ⟨[(3, .val false (.own 80)), (8, .val false (.leaf rInt))], [(80, .deep 68 (.pair (.leaf .str) (.sl 9 (.leaf .str))))], [], 81⟩ .nil) .nil)) .nil)))) (sg := S38v1 N) (c := Tryz.f38.body.getD .skip) (rs := Tryz.f38.results.toList) Tryz.func38 (by kernel_rfl) (by kernel_rfl) rfl rfl rfl rfl (fun x => by kernel_rfl)
noncomputable def M.law_cloneTables_v1 (N : Nat) (a0 : List rTable.den) : Option (List rTable.den) :=
Loop (S := Int × List rTable.den) (X := List rTable.den) (fun s1 =>
(if (decide (s1.1 < (a0.length : Int))) = true then
(idx a0 s1.1).bind fun x2 =>
(M.slices_Clone_guerdon_api_Row_guerdon_api_Row N x2.2.2.2).bind fun y3 =>
(appA s1.2 ([(x2.1, (x2.2.1, (x2.2.2.1, y3)))] : List rTable.den)).bind fun l4 =>
some (Sum.inl (IntKind.i64.wrap (s1.1 + (1 : Int)), l4))
else
some (Sum.inr s1.2))) N ((0 : Int), ([] : List rTable.den))
noncomputable def S39v1 (N : Nat) : Sig := { inn := ⟨[(0, .val false (.leaf (.slice rTable)))], [], [], 0⟩, out := ⟨[(0, .val false (.own 0))], [(0, .deep 71 (.pair (.leaf .str) (.pair (.leaf rType) (.pair (.leaf rType) (.sl 112 (.leaf rRow))))))], [], 1⟩, fn := fun (x : List rTable.den) => M.law_cloneTables_v1 N x }
theorem W39v1 (N : Nat) : FnOK Tryz.prog 39 (S39v1 N) := fn_ok (E := ⟨tabs, [(72, S72 N)], (tabcons (W72 N) tabnil), mixed, true, false⟩) (N := N) (a := (.two .nil (.two .nil (.two (.two .nil (.two (.loop ⟨[(3, .val false (.own 80)), (8, .val false (.leaf rInt))], [(80, .deep 71 (.pair (.leaf .str) (.pair (.leaf rType) (.pair (.leaf rType) (.sl 112 (.leaf rRow))))))], [], 81⟩ .nil) .nil)) .nil)))) (sg := S39v1 N) (c := Tryz.f39.body.getD .skip) (rs := Tryz.f39.results.toList) Tryz.func39 (by kernel_rfl) (by kernel_rfl) rfl rfl rfl rfl (fun x => by kernel_rfl)
end Go.Proofs.YtjeeligfdpociaaGreat
