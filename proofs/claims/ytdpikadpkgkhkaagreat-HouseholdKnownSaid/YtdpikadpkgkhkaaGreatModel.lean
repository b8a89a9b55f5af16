/- Written by rx.py: models and walks. -/
import Derived.Test.YtdpikadpkgkhkaaGreatJump
import Derived.Test.YtdpikadpkgkhkaaGreatProg
import Derived.Test.YtdpikadpkgkhkaaGreatShelf
import Derived.Test.YtdpikadpkgkhkaaGreatLays
namespace Go.Proofs.YtdpikadpkgkhkaaGreat
open Go Go.RowKit
set_option maxRecDepth 100000
set_option linter.unusedVariables false

@[reducible] def rType : Row := .pair rInt rInt
@[reducible] def rField : Row := .pair .str rType
@[reducible] def rRule : Row := .pair .str (.pair rInt (.pair rInt (.pair rInt (.pair rType (.pair (.slice rType) (.pair (.slice rType) .str))))))
@[reducible] def rScope : Row := .pair .str (.pair rInt (.pair (.slice rField) (.pair (.slice rField) (.slice rRule))))
@[reducible] def rEnum : Row := .pair .str (.slice .str)
@[reducible] def rRow : Row := .pair rType (.pair rInt rType)
@[reducible] def rTable : Row := .pair .str (.pair rType (.pair rType (.slice rRow)))
@[reducible] def rLaw : Row := .pair (.slice rEnum) (.pair (.slice rTable) (.slice rScope))
@[reducible] def rValue : Row := .pair rInt rType
@[reducible] def rFact : Row := .pair rInt (.pair rInt (.pair rInt (.pair rValue (.pair rType rInt))))
@[reducible] def rHousehold : Row := .pair rInt (.pair rInt (.pair rInt (.slice rFact)))
@[reducible] def rLawError : Row := .pair rInt rValue
@[reducible] def rSignature : Row := .pair (.slice rEnum) (.pair (.slice rTable) (.pair (.slice rType) (.pair (.slice rType) (.pair (.slice rType) .bool))))
@[reducible] def rCase : Row := .pair rInt (.pair (.slice rValue) (.slice (.slice rValue)))
theorem Ti3 : TI Tryz.prog 3 rInt := TI.mk (k := 1) (by kernel_rfl) rfl
theorem Ti4 : TI Tryz.prog 4 .bool := TI.mk (k := 1) (by kernel_rfl) rfl
theorem Ti9 : TI Tryz.prog 9 .str := TI.mk (k := 1) (by kernel_rfl) rfl
theorem Ti22 : TI Tryz.prog 22 (.slice rEnum) := TI.mk (k := 1) (by kernel_rfl) rfl
theorem Ti23 : TI Tryz.prog 23 (.slice rTable) := TI.mk (k := 1) (by kernel_rfl) rfl
theorem Ti24 : TI Tryz.prog 24 (.slice rScope) := TI.mk (k := 1) (by kernel_rfl) rfl
theorem Ti26 : TI Tryz.prog 26 rLaw := TI.mk (k := 3) (by kernel_rfl) rfl
theorem Ti27 : TI Tryz.prog 27 (.slice rFact) := TI.mk (k := 1) (by kernel_rfl) rfl
theorem Ti29 : TI Tryz.prog 29 rHousehold := TI.mk (k := 4) (by kernel_rfl) rfl
theorem Ti33 : TI Tryz.prog 33 rInt := TI.mk (k := 1) (by kernel_rfl) rfl
theorem Ti38 : TI Tryz.prog 38 (.slice rInt) := TI.mk (k := 1) (by kernel_rfl) rfl
theorem Ti41 : TI Tryz.prog 41 (.slice rValue) := TI.mk (k := 1) (by kernel_rfl) rfl
theorem Ti42 : TI Tryz.prog 42 (.slice (.slice rValue)) := TI.mk (k := 1) (by kernel_rfl) rfl
theorem Ti44 : TI Tryz.prog 44 rCase := TI.mk (k := 3) (by kernel_rfl) rfl
theorem Ti49 : TI Tryz.prog 49 rType := TI.mk (k := 2) (by kernel_rfl) rfl
theorem Ti51 : TI Tryz.prog 51 rValue := TI.mk (k := 3) (by kernel_rfl) rfl
theorem Ti53 : TI Tryz.prog 53 rType := TI.mk (k := 2) (by kernel_rfl) rfl
theorem Ti55 : TI Tryz.prog 55 rFact := TI.mk (k := 9) (by kernel_rfl) rfl
theorem Ti59 : TI Tryz.prog 59 (.slice .str) := TI.mk (k := 1) (by kernel_rfl) rfl
theorem Ti61 : TI Tryz.prog 61 rEnum := TI.mk (k := 2) (by kernel_rfl) rfl
theorem Ti63 : TI Tryz.prog 63 rType := TI.mk (k := 2) (by kernel_rfl) rfl
theorem Ti64 : TI Tryz.prog 64 (.slice rRow) := TI.mk (k := 1) (by kernel_rfl) rfl
theorem Ti66 : TI Tryz.prog 66 rTable := TI.mk (k := 6) (by kernel_rfl) rfl
theorem Ti67 : TI Tryz.prog 67 (.slice rField) := TI.mk (k := 1) (by kernel_rfl) rfl
theorem Ti68 : TI Tryz.prog 68 (.slice rRule) := TI.mk (k := 1) (by kernel_rfl) rfl
theorem Ti70 : TI Tryz.prog 70 rScope := TI.mk (k := 5) (by kernel_rfl) rfl
theorem Ti74 : TI Tryz.prog 74 rType := TI.mk (k := 2) (by kernel_rfl) rfl
theorem Ti75 : TI Tryz.prog 75 (.slice rType) := TI.mk (k := 1) (by kernel_rfl) rfl
theorem Ti80 : TI Tryz.prog 80 rField := TI.mk (k := 3) (by kernel_rfl) rfl
theorem Ti87 : TI Tryz.prog 87 rLawError := TI.mk (k := 4) (by kernel_rfl) rfl
theorem Ti97 : TI Tryz.prog 97 rRule := TI.mk (k := 9) (by kernel_rfl) rfl
theorem Ti118 : TI Tryz.prog 118 rRow := TI.mk (k := 5) (by kernel_rfl) rfl
theorem Ti131 : TI Tryz.prog 131 (.slice rType) := TI.mk (k := 1) (by kernel_rfl) rfl
theorem Ti133 : TI Tryz.prog 133 rSignature := TI.mk (k := 6) (by kernel_rfl) rfl
theorem Ti210 : TI Tryz.prog 210 (.int .u64) := TI.mk (k := 1) (by kernel_rfl) rfl
theorem Eq3 : EqOK Tryz.prog 3 rInt 1 := eqT_int Tryz.underlying3
theorem Eq63 : EqOK Tryz.prog 63 rType 2 := eqT_struct Tryz.underlying63 (by kernel_rfl) (eqF_cons rfl rfl Tryz.underlying3 (by simp [aggD]) Ti3 Eq3 (eqF_last rfl rfl Tryz.underlying3 (by simp [aggD]) Ti3 Eq3))
theorem Eq33 : EqOK Tryz.prog 33 rInt 1 := eqT_int Tryz.underlying33
theorem Eq87 : EqOK Tryz.prog 87 rLawError 2 := eqT_struct Tryz.underlying87 (by kernel_rfl) (eqF_cons rfl rfl Tryz.underlying33 (by simp [aggD]) Ti33 Eq33 (eqF_cons rfl rfl Tryz.underlying3 (by simp [aggD]) Ti3 Eq3 (eqF_cons rfl rfl Tryz.underlying3 (by simp [aggD]) Ti3 Eq3 (eqF_last rfl rfl Tryz.underlying3 (by simp [aggD]) Ti3 Eq3))))
theorem Eq51 : EqOK Tryz.prog 51 rValue 2 := eqT_struct Tryz.underlying51 (by kernel_rfl) (eqF_cons rfl rfl Tryz.underlying3 (by simp [aggD]) Ti3 Eq3 (eqF_cons rfl rfl Tryz.underlying3 (by simp [aggD]) Ti3 Eq3 (eqF_last rfl rfl Tryz.underlying3 (by simp [aggD]) Ti3 Eq3)))
theorem tu : ∀ p ∈ ([(3, .int .i64), (4, .bool), (5, .int .u8), (9, .str), (22, .slice 61), (23, .slice 66), (24, .slice 70), (26, .struct [(22, 0), (23, 1), (24, 2)]), (27, .slice 55), (29, .struct [(3, 0), (3, 1), (3, 2), (27, 3)]), (33, .int .i64), (38, .slice 3), (41, .slice 51), (42, .slice 41), (44, .struct [(3, 0), (41, 1), (42, 2)]), (49, .array 2 3), (51, .struct [(3, 0), (3, 1), (3, 2)]), (53, .struct [(3, 0), (3, 1)]), (55, .struct [(3, 0), (3, 1), (3, 2), (51, 3), (53, 6), (3, 8)]), (59, .slice 9), (61, .struct [(9, 0), (59, 1)]), (63, .struct [(3, 0), (3, 1)]), (64, .slice 118), (66, .struct [(9, 0), (63, 1), (63, 3), (64, 5)]), (67, .slice 80), (68, .slice 97), (70, .struct [(9, 0), (3, 1), (67, 2), (67, 3), (68, 4)]), (71, .other), (74, .struct [(3, 0), (3, 1)]), (75, .slice 74), (80, .struct [(9, 0), (63, 1)]), (87, .struct [(33, 0), (3, 1), (3, 2), (3, 3)]), (97, .struct [(9, 0), (3, 1), (3, 2), (3, 3), (53, 4), (75, 6), (75, 7), (9, 8)]), (98, .map 3 4), (118, .struct [(53, 0), (3, 2), (3, 3), (3, 4)]), (122, .other), (126, .other), (128, .other), (131, .slice 63), (133, .struct [(22, 0), (23, 1), (131, 2), (131, 3), (131, 4), (4, 5)]), (146, .other), (150, .other), (154, .slice 38), (165, .slice 4), (188, .int .u64), (204, .int .u32), (206, .int .u64), (210, .int .u64), (214, .other), (216, .other)] : List (Nat × TyK)), TyKOK Tryz.prog p.1 p.2 := by
  simp only [List.forall_mem_cons]
  exact ⟨Tryz.underlying3, Tryz.underlying4, Tryz.underlying5, Tryz.underlying9, Tryz.underlying22, Tryz.underlying23, Tryz.underlying24, ⟨_, Tryz.underlying26, rfl⟩, Tryz.underlying27, ⟨_, Tryz.underlying29, rfl⟩, Tryz.underlying33, Tryz.underlying38, Tryz.underlying41, Tryz.underlying42, ⟨_, Tryz.underlying44, rfl⟩, Tryz.underlying49, ⟨_, Tryz.underlying51, rfl⟩, ⟨_, Tryz.underlying53, rfl⟩, ⟨_, Tryz.underlying55, rfl⟩, Tryz.underlying59, ⟨_, Tryz.underlying61, rfl⟩, ⟨_, Tryz.underlying63, rfl⟩, Tryz.underlying64, ⟨_, Tryz.underlying66, rfl⟩, Tryz.underlying67, Tryz.underlying68, ⟨_, Tryz.underlying70, rfl⟩, ⟨_, Tryz.underlying71, rfl⟩, ⟨_, Tryz.underlying74, rfl⟩, Tryz.underlying75, ⟨_, Tryz.underlying80, rfl⟩, ⟨_, Tryz.underlying87, rfl⟩, ⟨_, Tryz.underlying97, rfl⟩, Tryz.underlying98, ⟨_, Tryz.underlying118, rfl⟩, ⟨_, Tryz.underlying122, rfl⟩, ⟨_, Tryz.underlying126, rfl⟩, ⟨_, Tryz.underlying128, rfl⟩, Tryz.underlying131, ⟨_, Tryz.underlying133, rfl⟩, ⟨_, Tryz.underlying146, rfl⟩, ⟨_, Tryz.underlying150, rfl⟩, Tryz.underlying154, Tryz.underlying165, Tryz.underlying188, Tryz.underlying204, Tryz.underlying206, Tryz.underlying210, ⟨_, Tryz.underlying214, rfl⟩, ⟨_, Tryz.underlying216, rfl⟩,  fun _ h => absurd h (by simp)⟩
theorem tr : ∀ p ∈ ([(3, rInt), (4, .bool), (9, .str), (22, (.slice rEnum)), (23, (.slice rTable)), (24, (.slice rScope)), (26, rLaw), (27, (.slice rFact)), (29, rHousehold), (33, rInt), (38, (.slice rInt)), (41, (.slice rValue)), (42, (.slice (.slice rValue))), (44, rCase), (49, rType), (51, rValue), (53, rType), (55, rFact), (59, (.slice .str)), (61, rEnum), (63, rType), (64, (.slice rRow)), (66, rTable), (67, (.slice rField)), (68, (.slice rRule)), (70, rScope), (74, rType), (75, (.slice rType)), (80, rField), (87, rLawError), (97, rRule), (118, rRow), (131, (.slice rType)), (133, rSignature), (210, (.int .u64))] : List (Nat × Row)), TI Tryz.prog p.1 p.2 := by
  simp only [List.forall_mem_cons]
  exact ⟨Ti3, Ti4, Ti9, Ti22, Ti23, Ti24, Ti26, Ti27, Ti29, Ti33, Ti38, Ti41, Ti42, Ti44, Ti49, Ti51, Ti53, Ti55, Ti59, Ti61, Ti63, Ti64, Ti66, Ti67, Ti68, Ti70, Ti74, Ti75, Ti80, Ti87, Ti97, Ti118, Ti131, Ti133, Ti210,  fun _ h => absurd h (by simp)⟩
theorem te : ∀ p ∈ ([(51, rValue), (63, rType), (87, rLawError)] : List (Nat × Row)), ∃ K d, EqOK Tryz.prog p.1 p.2 K ∧ d + K = 10000 ∧ Tryz.prog.eqGuardType Tryz.prog.depth p.1 = false ∧ (Tryz.prog.underlying p.1).any aggD = true := by
  simp only [List.forall_mem_cons]
  exact ⟨⟨2, 9998, Eq51, rfl, by kernel_rfl, by kernel_rfl⟩, ⟨2, 9998, Eq63, rfl, by kernel_rfl, by kernel_rfl⟩, ⟨2, 9998, Eq87, rfl, by kernel_rfl, by kernel_rfl⟩,  fun _ h => absurd h (by simp)⟩
theorem tz : ∀ p ∈ ([(4, (false, .bool))] : List (Nat × (Bool × Row))), ZeroOK Tryz.prog p.1 p.2.1 p.2.2 := by
  simp only [List.forall_mem_cons]
  exact ⟨⟨_, by kernel_rfl, rfl⟩,  fun _ h => absurd h (by simp)⟩
def tabs : Tabs Tryz.prog := ⟨_, _, _, _, forall_find tu, forall_find tr, forall_find te, fun t a r h => forall_find (Q := fun t p => ZeroOK Tryz.prog t p.1 p.2) tz t (a, r) h⟩
theorem mixed : Tryz.prog.follows .mixedOrders = true := by kernel_rfl
noncomputable def M.same_smallScope (N : Nat) (a0 : rScope.den) : Option (Bool) :=
((if (decide ((80 : Int) < (a0.1.size : Int))) = true then
some true
else
(if (decide ((14 : Int) < (a0.2.2.1.length : Int))) = true then
some true
else
(if (decide ((14 : Int) < (a0.2.2.2.1.length : Int))) = true then
some true
else
some (decide ((60 : Int) < (a0.2.2.2.2.length : Int)))))) : Option (Bool)).bind fun j1 =>
(if j1 = true then
some false
else
Join (J := Unit) (R := Bool) (Loop (S := Int) (X := (Unit) ⊕ (Bool)) (fun s3 =>
(if (decide (s3 < (a0.2.2.1.length : Int))) = true then
(idx a0.2.2.1 s3).bind fun x4 =>
(if (decide ((80 : Int) < (x4.1.size : Int))) = true then
some (Sum.inr (Sum.inr false))
else
some (Sum.inl (IntKind.i64.wrap (s3 + (1 : Int)))))
else
some (Sum.inr (Sum.inl ())))) N (0 : Int)) fun j2 =>
Join (J := Unit) (R := Bool) (Loop (S := Int) (X := (Unit) ⊕ (Bool)) (fun s6 =>
(if (decide (s6 < (a0.2.2.2.1.length : Int))) = true then
(idx a0.2.2.2.1 s6).bind fun x7 =>
(if (decide ((80 : Int) < (x7.1.size : Int))) = true then
some (Sum.inr (Sum.inr false))
else
some (Sum.inl (IntKind.i64.wrap (s6 + (1 : Int)))))
else
some (Sum.inr (Sum.inl ())))) N (0 : Int)) fun j5 =>
Loop (S := Int) (X := Bool) (fun s8 =>
(if (decide (s8 < (a0.2.2.2.2.length : Int))) = true then
(idx a0.2.2.2.2 s8).bind fun x9 =>
((if (decide ((80 : Int) < (x9.1.size : Int))) = true then
some true
else
(if (decide ((80 : Int) < (x9.2.2.2.2.2.2.2.size : Int))) = true then
some true
else
(if (decide ((50 : Int) < (x9.2.2.2.2.2.1.length : Int))) = true then
some true
else
some (decide ((50 : Int) < (x9.2.2.2.2.2.2.1.length : Int)))))) : Option (Bool)).bind fun j10 =>
(if j10 = true then
some (Sum.inr false)
else
some (Sum.inl (IntKind.i64.wrap (s8 + (1 : Int)))))
else
some (Sum.inr true))) N (0 : Int))
noncomputable def S21 (N : Nat) : Sig := { inn := ⟨[(0, .val true (.leaf rScope))], [], [], 0⟩, out := ⟨[(0, .val false (.leaf .bool))], [], [], 0⟩, fn := fun (x : rScope.den) => M.same_smallScope N x }
theorem W21 (N : Nat) : FnOK Tryz.prog 21 (S21 N) := fn_ok (E := ⟨tabs, [], tabnil, mixed, false, false⟩) (N := N) (a := (.two .nil (.two (.meet ⟨[(28, .val false (.leaf .bool))], [], [], 32⟩ .nil .nil) (.join ⟨[], [], [], 32⟩ (.two .nil (.two (.loop ⟨[(3, .val false (.leaf rInt))], [], [], 48⟩ .nil) .nil)) (.join ⟨[], [], [], 32⟩ (.two .nil (.two (.loop ⟨[(4, .val false (.leaf rInt))], [], [], 48⟩ .nil) .nil)) (.two (.two .nil (.two (.loop ⟨[(5, .val false (.leaf rInt))], [], [], 48⟩ (.two .nil (.two (.two (.two .nil (.meet ⟨[(92, .val false (.leaf .bool))], [], [], 240⟩ .nil .nil)) .nil) .nil))) .nil)) .nil)))))) (sg := S21 N) (c := Tryz.f21.body.getD .skip) (rs := Tryz.f21.results.toList) Tryz.func21 (by kernel_rfl) (by kernel_rfl) rfl rfl rfl rfl (fun x => by kernel_rfl)
noncomputable def M.same_SmallLaw (N : Nat) (a0 : rLaw.den) : Option (Bool) :=
((if (decide ((9 : Int) < (a0.1.length : Int))) = true then
some true
else
(if (decide ((9 : Int) < (a0.2.1.length : Int))) = true then
some true
else
some (decide ((5 : Int) < (a0.2.2.length : Int))))) : Option (Bool)).bind fun j1 =>
(if j1 = true then
some false
else
Join (J := Unit) (R := Bool) (Loop (S := Int) (X := (Unit) ⊕ (Bool)) (fun s3 =>
(if (decide (s3 < (a0.1.length : Int))) = true then
Join (J := Unit) (R := (Int) ⊕ ((Unit) ⊕ (Bool))) (((idx a0.1 s3).bind fun x6 =>
(if (decide ((80 : Int) < (x6.1.size : Int))) = true then
some true
else
(idx a0.1 s3).bind fun x7 =>
some (decide ((20 : Int) < (x7.2.length : Int)))) : Option (Bool)).bind fun j5 =>
(if j5 = true then
some (Sum.inr (Sum.inr (Sum.inr false)))
else
Loop (S := Int) (X := (Unit) ⊕ ((Int) ⊕ ((Unit) ⊕ (Bool)))) (fun s8 =>
(idx a0.1 s3).bind fun x9 =>
(if (decide (s8 < (x9.2.length : Int))) = true then
(idx a0.1 s3).bind fun x10 =>
(idx x10.2 s8).bind fun x11 =>
(if (decide ((80 : Int) < (x11.size : Int))) = true then
some (Sum.inr (Sum.inr (Sum.inr (Sum.inr false))))
else
some (Sum.inl (IntKind.i64.wrap (s8 + (1 : Int)))))
else
some (Sum.inr (Sum.inl ())))) N (0 : Int))) fun j4 =>
some (Sum.inl (IntKind.i64.wrap (s3 + (1 : Int))))
else
some (Sum.inr (Sum.inl ())))) N (0 : Int)) fun j2 =>
Join (J := Unit) (R := Bool) (Loop (S := Int × Int) (X := (Unit) ⊕ (Bool)) (fun s13 =>
(if (decide (s13.2 < (a0.2.1.length : Int))) = true then
(idx a0.2.1 s13.2).bind fun x14 =>
((idx a0.2.1 s13.2).bind fun x16 =>
(if (decide ((80 : Int) < (x16.1.size : Int))) = true then
some true
else
some (decide ((150 : Int) < (IntKind.i64.wrap (s13.1 + (x14.2.2.2.length : Int)))))) : Option (Bool)).bind fun j15 =>
(if j15 = true then
some (Sum.inr (Sum.inr false))
else
some (Sum.inl (IntKind.i64.wrap (s13.1 + (x14.2.2.2.length : Int)), IntKind.i64.wrap (s13.2 + (1 : Int)))))
else
some (Sum.inr (Sum.inl ())))) N ((0 : Int), (0 : Int))) fun j12 =>
Loop (S := Int × Int) (X := Bool) (fun s17 =>
(if (decide (s17.2 < (a0.2.2.length : Int))) = true then
(idx a0.2.2 s17.2).bind fun x18 =>
((if (decide ((60 : Int) < (IntKind.i64.wrap (s17.1 + (x18.2.2.2.2.length : Int))))) = true then
some true
else
(idx a0.2.2 s17.2).bind fun x20 =>
(M.same_smallScope N x20).bind fun y21 =>
some (!y21)) : Option (Bool)).bind fun j19 =>
(if j19 = true then
some (Sum.inr false)
else
some (Sum.inl (IntKind.i64.wrap (s17.1 + (x18.2.2.2.2.length : Int)), IntKind.i64.wrap (s17.2 + (1 : Int)))))
else
some (Sum.inr true))) N ((0 : Int), (0 : Int)))
noncomputable def S9 (N : Nat) : Sig := { inn := ⟨[(0, .val true (.leaf rLaw))], [], [], 0⟩, out := ⟨[(0, .val false (.leaf .bool))], [], [], 0⟩, fn := fun (x : rLaw.den) => M.same_SmallLaw N x }
theorem W9 (N : Nat) : FnOK Tryz.prog 9 (S9 N) := fn_ok (E := ⟨tabs, [(21, S21 N)], (tabcons (W21 N) tabnil), mixed, false, false⟩) (N := N) (a := (.two .nil (.two (.meet ⟨[(24, .val false (.leaf .bool))], [], [], 32⟩ .nil .nil) (.two .nil (.two .nil (.join ⟨[], [], [], 64⟩ (.two .nil (.two (.loop ⟨[(5, .val false (.leaf rInt))], [], [], 80⟩ (.two .nil (.join ⟨[], [], [], 160⟩ (.two (.two (.meet ⟨[(49, .val false (.leaf .bool))], [], [], 160⟩ .nil .nil) (.two .nil (.two (.loop ⟨[(6, .val false (.leaf rInt))], [], [], 176⟩ .nil) .nil))) .nil) .nil))) .nil)) (.join ⟨[], [], [], 64⟩ (.two .nil (.two (.loop ⟨[(3, .val false (.leaf rInt)), (7, .val false (.leaf rInt))], [], [], 80⟩ (.two .nil (.two (.two (.two .nil (.meet ⟨[(99, .val false (.leaf .bool))], [], [], 320⟩ .nil .nil)) .nil) .nil))) .nil)) (.two (.two .nil (.two (.loop ⟨[(4, .val false (.leaf rInt)), (8, .val false (.leaf rInt))], [], [], 80⟩ (.two .nil (.two (.two (.two .nil (.meet ⟨[(126, .val false (.leaf .bool))], [], [], 320⟩ .nil .nil)) .nil) .nil))) .nil)) .nil)))))))) (sg := S9 N) (c := Tryz.f9.body.getD .skip) (rs := Tryz.f9.results.toList) Tryz.func9 (by kernel_rfl) (by kernel_rfl) rfl rfl rfl rfl (fun x => by kernel_rfl)
noncomputable def M.same_SmallHousehold (N : Nat) (a0 : rHousehold.den) : Option (Bool) :=
some (decide ((a0.2.2.2.length : Int) ≤ (40 : Int)))
noncomputable def S10 (N : Nat) : Sig := { inn := ⟨[(0, .val true (.leaf rHousehold))], [], [], 0⟩, out := ⟨[(0, .val false (.leaf .bool))], [], [], 0⟩, fn := fun (x : rHousehold.den) => M.same_SmallHousehold N x }
theorem W10 (N : Nat) : FnOK Tryz.prog 10 (S10 N) := fn_ok (E := ⟨tabs, [], tabnil, mixed, false, false⟩) (N := N) (a := .nil) (sg := S10 N) (c := Tryz.f10.body.getD .skip) (rs := Tryz.f10.results.toList) Tryz.func10 (by kernel_rfl) (by kernel_rfl) rfl rfl rfl rfl (fun x => by kernel_rfl)
noncomputable def M.household_memberInputs (N : Nat) (a0 : rLaw.den) (a1 : Int) : Option ((List rField.den) × Bool) :=
(idx a0.2.2 a1).bind fun x1 =>
((if (decide (x1.2.1 < (0 : Int))) = true then
some true
else
some (decide ((a0.2.2.length : Int) ≤ x1.2.1))) : Option (Bool)).bind fun j2 =>
(if j2 = true then
some (([] : List rField.den), false)
else
(idx a0.2.2 x1.2.1).bind fun x3 =>
some (x3.2.2.1, true))
noncomputable def S23 (N : Nat) : Sig := { inn := ⟨[(0, .val true (.leaf rLaw)), (1, .val false (.leaf rInt))], [], [], 0⟩, out := ⟨[(0, .val false (.leaf (.slice rField))), (1, .val false (.leaf .bool))], [], [], 0⟩, fn := fun (x : rLaw.den × Int) => M.household_memberInputs N x.1 x.2 }
theorem W23 (N : Nat) : FnOK Tryz.prog 23 (S23 N) := fn_ok (E := ⟨tabs, [], tabnil, mixed, false, false⟩) (N := N) (a := (.two .nil (.two .nil (.two (.meet ⟨[(21, .val false (.leaf .bool))], [], [], 160⟩ .nil .nil) .nil)))) (sg := S23 N) (c := Tryz.f23.body.getD .skip) (rs := Tryz.f23.results.toList) Tryz.func23 (by kernel_rfl) (by kernel_rfl) rfl rfl rfl rfl (fun x => by kernel_rfl)
noncomputable def M.daterange_Valid (N : Nat) (a0 : rType.den) : Option (Bool) :=
((if (decide ((0 : Int) ≤ a0.1)) = true then
(if (decide (a0.1 ≤ a0.2)) = true then
some (decide (a0.2 ≤ (109573 : Int)))
else
some false)
else
some false) : Option (Bool)).bind fun j1 =>
some j1
noncomputable def S55 (N : Nat) : Sig := { inn := ⟨[(0, .val true (.leaf rType))], [], [], 0⟩, out := ⟨[(0, .val false (.leaf .bool))], [], [], 0⟩, fn := fun (x : rType.den) => M.daterange_Valid N x }
theorem W55 (N : Nat) : FnOK Tryz.prog 55 (S55 N) := fn_ok (E := ⟨tabs, [], tabnil, mixed, false, false⟩) (N := N) (a := (.two .nil (.meet ⟨[(2, .val false (.leaf .bool))], [], [], 32⟩ .nil .nil))) (sg := S55 N) (c := Tryz.f55.body.getD .skip) (rs := Tryz.f55.results.toList) Tryz.func55 (by kernel_rfl) (by kernel_rfl) rfl rfl rfl rfl (fun x => by kernel_rfl)
noncomputable def M.facts_nonempty (N : Nat) (a0 : rType.den) : Option (Bool) :=
((M.daterange_Valid N a0).bind fun y2 =>
(if y2 = true then
some (decide (a0.1 < a0.2))
else
some false) : Option (Bool)).bind fun j1 =>
some j1
noncomputable def S52 (N : Nat) : Sig := { inn := ⟨[(0, .val true (.leaf rType))], [], [], 0⟩, out := ⟨[(0, .val false (.leaf .bool))], [], [], 0⟩, fn := fun (x : rType.den) => M.facts_nonempty N x }
theorem W52 (N : Nat) : FnOK Tryz.prog 52 (S52 N) := fn_ok (E := ⟨tabs, [(55, S55 N)], (tabcons (W55 N) tabnil), mixed, false, false⟩) (N := N) (a := (.two .nil (.meet ⟨[(2, .val false (.leaf .bool))], [], [], 32⟩ .nil .nil))) (sg := S52 N) (c := Tryz.f52.body.getD .skip) (rs := Tryz.f52.results.toList) Tryz.func52 (by kernel_rfl) (by kernel_rfl) rfl rfl rfl rfl (fun x => by kernel_rfl)
noncomputable def M.facts_checkFact (N : Nat) (a0 : rFact.den) : Option (Int) :=
(if (decide (a0.1 < (0 : Int))) = true then
some (3 : Int)
else
((if (decide (a0.2.1 < (-1 : Int))) = true then
some true
else
some (decide ((8 : Int) ≤ a0.2.1))) : Option (Bool)).bind fun j1 =>
(if j1 = true then
some (3 : Int)
else
((if (decide (a0.2.2.1 < (-1 : Int))) = true then
some true
else
some (decide ((12 : Int) ≤ a0.2.2.1))) : Option (Bool)).bind fun j2 =>
(if j2 = true then
some (3 : Int)
else
((if (decide (a0.2.1 = (-1 : Int))) = true then
some (decide (a0.2.2.1 = (-1 : Int)))
else
some false) : Option (Bool)).bind fun j3 =>
(if j3 = true then
some (3 : Int)
else
(M.facts_nonempty N a0.2.2.2.2.1).bind fun y4 =>
(if (!y4) = true then
some (3 : Int)
else
((if (decide (a0.2.2.2.2.2 < (0 : Int))) = true then
some true
else
some (decide ((109572 : Int) < a0.2.2.2.2.2))) : Option (Bool)).bind fun j5 =>
(if j5 = true then
some (3 : Int)
else
((if (decide (a0.2.2.2.1.1 < (1 : Int))) = true then
some true
else
some (decide ((6 : Int) < a0.2.2.2.1.1))) : Option (Bool)).bind fun j6 =>
(if j6 = true then
some (8 : Int)
else
((if (decide (a0.2.2.1 = (-1 : Int))) = true then
some (!decide (a0.2.2.2.1.1 = (1 : Int)))
else
some false) : Option (Bool)).bind fun j7 =>
(if j7 = true then
some (8 : Int)
else
some (0 : Int)))))))))
noncomputable def S39 (N : Nat) : Sig := { inn := ⟨[(0, .val true (.leaf rFact))], [], [], 0⟩, out := ⟨[(0, .val false (.leaf rInt))], [], [], 0⟩, fn := fun (x : rFact.den) => M.facts_checkFact N x }
theorem W39 (N : Nat) : FnOK Tryz.prog 39 (S39 N) := fn_ok (E := ⟨tabs, [(52, S52 N)], (tabcons (W52 N) tabnil), mixed, false, false⟩) (N := N) (a := (.two .nil (.two (.two (.two .nil (.two .nil (.meet ⟨[(7, .val false (.leaf .bool))], [], [], 96⟩ .nil (.two .nil (.meet ⟨[(16, .val false (.leaf .bool))], [], [], 96⟩ .nil (.two .nil (.meet ⟨[(25, .val false (.leaf .bool))], [], [], 96⟩ .nil (.two .nil (.two .nil (.two .nil (.meet ⟨[(39, .val false (.leaf .bool))], [], [], 176⟩ .nil (.two .nil (.meet ⟨[(48, .val false (.leaf .bool))], [], [], 176⟩ .nil (.two .nil (.meet ⟨[(59, .val false (.leaf .bool))], [], [], 176⟩ .nil .nil))))))))))))))) .nil) .nil))) (sg := S39 N) (c := Tryz.f39.body.getD .skip) (rs := Tryz.f39.results.toList) Tryz.func39 (by kernel_rfl) (by kernel_rfl) rfl rfl rfl rfl (fun x => by kernel_rfl)
noncomputable def M.facts_Validate (N : Nat) (a0 : List rFact.den) : Option (Int × Int) :=
(if (decide ((128 : Int) < (a0.length : Int))) = true then
some ((0 : Int), (4 : Int))
else
Loop (S := Int × List (Int × Bool)) (X := Int × Int) (fun s1 =>
(if (decide (s1.1 < (a0.length : Int))) = true then
(idx a0 s1.1).bind fun x2 =>
(M.facts_checkFact N x2).bind fun y3 =>
(if (!decide (y3 = (0 : Int))) = true then
some (Sum.inr (s1.1, y3))
else
(if ((lookA rInt s1.2 x2.1).getD false) = true then
some (Sum.inr (s1.1, (7 : Int)))
else
some (Sum.inl (IntKind.i64.wrap (s1.1 + (1 : Int)), putA rInt s1.2 x2.1 true))))
else
some (Sum.inr ((0 : Int), (0 : Int))))) N ((0 : Int), ([] : List (Int × Bool))))
noncomputable def S24 (N : Nat) : Sig := { inn := ⟨[(0, .val false (.leaf (.slice rFact)))], [], [], 0⟩, out := ⟨[(0, .val false (.leaf rInt)), (1, .val false (.leaf rInt))], [], [], 0⟩, fn := fun (x : List rFact.den) => M.facts_Validate N x }
theorem W24 (N : Nat) : FnOK Tryz.prog 24 (S24 N) := fn_ok (E := ⟨tabs, [(39, S39 N)], (tabcons (W39 N) tabnil), mixed, false, false⟩) (N := N) (a := (.two .nil (.two .nil (.two .nil (.two (.two .nil (.two (.loop ⟨[(14, .val false (.leaf rInt))], [(80, .map 98 rInt false .bool)], [], 161⟩ .nil) .nil)) .nil))))) (sg := S24 N) (c := Tryz.f24.body.getD .skip) (rs := Tryz.f24.results.toList) Tryz.func24 (by kernel_rfl) (by kernel_rfl) rfl rfl rfl rfl (fun x => by kernel_rfl)
noncomputable def M.value_ValidType (N : Nat) (a0 : rType.den) (a1 : List rEnum.den) : Option (Bool) :=
((if (decide (a0.1 = (1 : Int))) = true then
some (decide (a0.1 = (1 : Int)))
else
(if (decide (a0.1 = (2 : Int))) = true then
some (decide (a0.1 = (2 : Int)))
else
(if (decide (a0.1 = (3 : Int))) = true then
some (decide (a0.1 = (3 : Int)))
else
(if (decide (a0.1 = (4 : Int))) = true then
some (decide (a0.1 = (4 : Int)))
else
some (decide (a0.1 = (5 : Int))))))) : Option (Bool)).bind fun j1 =>
(if j1 = true then
some (decide (a0.2 = (0 : Int)))
else
(if (decide (a0.1 = (6 : Int))) = true then
((if (decide ((0 : Int) ≤ a0.2)) = true then
some (decide (a0.2 < (a1.length : Int)))
else
some false) : Option (Bool)).bind fun j2 =>
some j2
else
some false))
noncomputable def S40 (N : Nat) : Sig := { inn := ⟨[(0, .val true (.leaf rType)), (1, .val false (.leaf (.slice rEnum)))], [], [], 0⟩, out := ⟨[(0, .val false (.leaf .bool))], [], [], 0⟩, fn := fun (x : rType.den × List rEnum.den) => M.value_ValidType N x.1 x.2 }
theorem W40 (N : Nat) : FnOK Tryz.prog 40 (S40 N) := fn_ok (E := ⟨tabs, [], tabnil, mixed, false, false⟩) (N := N) (a := (.two .nil (.two (.two .nil (.two (.meet ⟨[(7, .val false (.leaf .bool))], [], [], 64⟩ .nil (.two .nil (.two .nil (.two (.meet ⟨[(4, .val false (.leaf .bool))], [], [], 96⟩ .nil .nil) .nil)))) .nil)) .nil))) (sg := S40 N) (c := Tryz.f40.body.getD .skip) (rs := Tryz.f40.results.toList) Tryz.func40 (by kernel_rfl) (by kernel_rfl) rfl rfl rfl rfl (fun x => by kernel_rfl)
noncomputable def M.value_Bounds (N : Nat) (a0 : rType.den) (a1 : List rEnum.den) : Option (Int × Int) :=
(M.value_ValidType N a0 a1).bind fun y1 =>
(if (!y1) = true then
some ((0 : Int), (-1 : Int))
else
(if (decide (a0.1 = (1 : Int))) = true then
some ((0 : Int), (1 : Int))
else
(if (decide (a0.1 = (2 : Int))) = true then
some ((-1000000000000 : Int), (1000000000000 : Int))
else
(if (decide (a0.1 = (3 : Int))) = true then
some ((-1000000000000000 : Int), (1000000000000000 : Int))
else
(if (decide (a0.1 = (4 : Int))) = true then
some ((-1000000000 : Int), (1000000000 : Int))
else
(if (decide (a0.1 = (5 : Int))) = true then
some ((0 : Int), (109572 : Int))
else
(idx a1 a0.2).bind fun x2 =>
some ((0 : Int), IntKind.i64.wrap ((x2.2.length : Int) - (1 : Int)))))))))
noncomputable def S25 (N : Nat) : Sig := { inn := ⟨[(0, .val true (.leaf rType)), (1, .val false (.leaf (.slice rEnum)))], [], [], 0⟩, out := ⟨[(0, .val false (.leaf rInt)), (1, .val false (.leaf rInt))], [], [], 0⟩, fn := fun (x : rType.den × List rEnum.den) => M.value_Bounds N x.1 x.2 }
theorem W25 (N : Nat) : FnOK Tryz.prog 25 (S25 N) := fn_ok (E := ⟨tabs, [(40, S40 N)], (tabcons (W40 N) tabnil), mixed, false, false⟩) (N := N) (a := .nil) (sg := S25 N) (c := Tryz.f25.body.getD .skip) (rs := Tryz.f25.results.toList) Tryz.func25 (by kernel_rfl) (by kernel_rfl) rfl rfl rfl rfl (fun x => by kernel_rfl)
noncomputable def M.household_Validate (N : Nat) (a0 : rLaw.den) (a1 : rHousehold.den) : Option (Int × Int) :=
((if (decide (a1.2.1 < (0 : Int))) = true then
some true
else
some (decide ((a0.2.2.length : Int) ≤ a1.2.1))) : Option (Bool)).bind fun j1 =>
(if j1 = true then
some ((-1 : Int), (6 : Int))
else
(M.household_memberInputs N a0 a1.2.1).bind fun y2 =>
((if (decide (a1.1 < (0 : Int))) = true then
some true
else
(if (decide (a1.2.2.1 < (0 : Int))) = true then
some true
else
(if (decide ((8 : Int) < a1.2.2.1)) = true then
some true
else
(if (!decide (a1.2.2.1 = (0 : Int))) = true then
some (!y2.2)
else
some false)))) : Option (Bool)).bind fun j3 =>
(if j3 = true then
some ((-1 : Int), (3 : Int))
else
(M.facts_Validate N a1.2.2.2).bind fun y4 =>
(if (!decide (y4.2 = (0 : Int))) = true then
some (y4.1, y4.2)
else
Loop (S := Int) (X := Int × Int) (fun s5 =>
(if (decide (s5 < (a1.2.2.2.length : Int))) = true then
(idx a1.2.2.2 s5).bind fun x6 =>
(if (decide (a1.2.2.1 ≤ x6.2.1)) = true then
some (Sum.inr (s5, (6 : Int)))
else
((if (decide (x6.2.1 = (-1 : Int))) = true then
(idx a0.2.2 a1.2.1).bind fun x8 =>
some x8.2.2.1
else
some y2.1) : Option (List rField.den)).bind fun j7 =>
Join (J := rType.den) (R := (Int) ⊕ (Int × Int)) ((if (!decide (x6.2.2.1 = (-1 : Int))) = true then
((if (decide (x6.2.2.1 < (0 : Int))) = true then
some true
else
some (decide ((j7.length : Int) ≤ x6.2.2.1))) : Option (Bool)).bind fun j10 =>
(if j10 = true then
some (Sum.inr (Sum.inr (s5, (6 : Int))))
else
(idx j7 x6.2.2.1).bind fun x11 =>
some (Sum.inl x11.2))
else
some (Sum.inl ((1 : Int), (0 : Int))))) fun j9 =>
((if (!decide (x6.2.2.2.1.1 = j9.1)) = true then
some true
else
some (!decide (x6.2.2.2.1.2.1 = j9.2))) : Option (Bool)).bind fun j12 =>
(if j12 = true then
some (Sum.inr (s5, (8 : Int)))
else
(M.value_Bounds N j9 a0.1).bind fun y13 =>
((if (decide (x6.2.2.2.1.2.2 < y13.1)) = true then
some true
else
some (decide (y13.2 < x6.2.2.2.1.2.2))) : Option (Bool)).bind fun j14 =>
(if j14 = true then
some (Sum.inr (s5, (3 : Int)))
else
some (Sum.inl (IntKind.i64.wrap (s5 + (1 : Int)))))))
else
some (Sum.inr ((0 : Int), (0 : Int))))) N (0 : Int))))
noncomputable def S12 (N : Nat) : Sig := { inn := ⟨[(0, .val true (.leaf rLaw)), (1, .val true (.leaf rHousehold))], [], [], 0⟩, out := ⟨[(0, .val false (.leaf rInt)), (1, .val false (.leaf rInt))], [], [], 0⟩, fn := fun (x : rLaw.den × rHousehold.den) => M.household_Validate N x.1 x.2 }
theorem W12 (N : Nat) : FnOK Tryz.prog 12 (S12 N) := fn_ok (E := ⟨tabs, [(23, S23 N), (24, S24 N), (25, S25 N)], (tabcons (W23 N) (tabcons (W24 N) (tabcons (W25 N) tabnil))), mixed, false, false⟩) (N := N) (a := (.two .nil (.two (.meet ⟨[(26, .val false (.leaf .bool))], [], [], 64⟩ .nil .nil) (.two .nil (.two (.meet ⟨[(55, .val false (.leaf .bool))], [], [], 208⟩ .nil .nil) (.two .nil (.two (.two .nil (.two (.loop ⟨[(69, .val false (.leaf rInt))], [], [], 432⟩ (.two .nil (.two .nil (.two (.two (.two .nil (.two .nil (.two .nil (.meet ⟨[(12, .val false (.leaf (.slice rField)))], [], [], 656⟩ .nil (.two .nil (.join ⟨[], [(672, .box 63 (.leaf rType))], [], 705⟩ (.two .nil (.two (.two (.meet ⟨[(104, .val false (.leaf .bool))], [], [], 752⟩ .nil .nil) .nil) .nil)) (.two (.meet ⟨[(125, .val false (.leaf .bool))], [], [], 705⟩ .nil .nil) (.two .nil (.meet ⟨[(145, .val false (.leaf .bool))], [], [], 849⟩ .nil .nil))))))))) .nil) .nil)))) .nil)) .nil))))))) (sg := S12 N) (c := Tryz.f12.body.getD .skip) (rs := Tryz.f12.results.toList) Tryz.func12 (by kernel_rfl) (by kernel_rfl) rfl rfl rfl rfl (fun x => by kernel_rfl)
noncomputable def M.same_Ints (N : Nat) (a0 : List Int) (a1 : List Int) : Option (Bool) :=
(if (!decide ((a0.length : Int) = (a1.length : Int))) = true then
some false
else
Loop (S := Int) (X := Bool) (fun s1 =>
((if (decide (s1 < (a0.length : Int))) = true then
some (decide (s1 < (a1.length : Int)))
else
some false) : Option (Bool)).bind fun j2 =>
(if j2 = true then
(idx a0 s1).bind fun x3 =>
(idx a1 s1).bind fun x4 =>
(if (!decide (x3 = x4)) = true then
some (Sum.inr false)
else
some (Sum.inl (IntKind.i64.wrap (s1 + (1 : Int)))))
else
some (Sum.inr true))) N (0 : Int))
noncomputable def S14 (N : Nat) : Sig := { inn := ⟨[(0, .val false (.leaf (.slice rInt))), (1, .val false (.leaf (.slice rInt)))], [], [], 0⟩, out := ⟨[(0, .val false (.leaf .bool))], [], [], 0⟩, fn := fun (x : (List Int) × List Int) => M.same_Ints N x.1 x.2 }
theorem W14 (N : Nat) : FnOK Tryz.prog 14 (S14 N) := fn_ok (E := ⟨tabs, [], tabnil, mixed, false, false⟩) (N := N) (a := (.two .nil (.two .nil (.two (.two .nil (.two (.loop ⟨[(5, .val false (.leaf rInt))], [], [], 112⟩ (.two (.meet ⟨[(20, .val false (.leaf .bool))], [], [], 112⟩ .nil .nil) .nil)) .nil)) .nil)))) (sg := S14 N) (c := Tryz.f14.body.getD .skip) (rs := Tryz.f14.results.toList) Tryz.func14 (by kernel_rfl) (by kernel_rfl) rfl rfl rfl rfl (fun x => by kernel_rfl)
noncomputable def M.daterange_Contains (N : Nat) (a0 : rType.den) (a1 : Int) : Option (Bool) :=
((M.daterange_Valid N a0).bind fun y2 =>
(if y2 = true then
(if (decide (a0.1 ≤ a1)) = true then
some (decide (a1 < a0.2))
else
some false)
else
some false) : Option (Bool)).bind fun j1 =>
some j1
noncomputable def S44 (N : Nat) : Sig := { inn := ⟨[(0, .val true (.leaf rType)), (1, .val false (.leaf rInt))], [], [], 0⟩, out := ⟨[(0, .val false (.leaf .bool))], [], [], 0⟩, fn := fun (x : rType.den × Int) => M.daterange_Contains N x.1 x.2 }
theorem W44 (N : Nat) : FnOK Tryz.prog 44 (S44 N) := fn_ok (E := ⟨tabs, [(55, S55 N)], (tabcons (W55 N) tabnil), mixed, false, false⟩) (N := N) (a := (.two .nil (.meet ⟨[(4, .val false (.leaf .bool))], [], [], 32⟩ .nil .nil))) (sg := S44 N) (c := Tryz.f44.body.getD .skip) (rs := Tryz.f44.results.toList) Tryz.func44 (by kernel_rfl) (by kernel_rfl) rfl rfl rfl rfl (fun x => by kernel_rfl)
noncomputable def M.facts_wins (N : Nat) (a0 : rFact.den) (a1 : rFact.den) : Option (Bool) :=
(if (!decide (a0.2.2.2.2.2 = a1.2.2.2.2.2)) = true then
some (decide (a1.2.2.2.2.2 < a0.2.2.2.2.2))
else
some (decide (a1.1 < a0.1)))
noncomputable def S45 (N : Nat) : Sig := { inn := ⟨[(0, .val true (.leaf rFact)), (1, .val true (.leaf rFact))], [], [], 0⟩, out := ⟨[(0, .val false (.leaf .bool))], [], [], 0⟩, fn := fun (x : rFact.den × rFact.den) => M.facts_wins N x.1 x.2 }
theorem W45 (N : Nat) : FnOK Tryz.prog 45 (S45 N) := fn_ok (E := ⟨tabs, [], tabnil, mixed, false, false⟩) (N := N) (a := .nil) (sg := S45 N) (c := Tryz.f45.body.getD .skip) (rs := Tryz.f45.results.toList) Tryz.func45 (by kernel_rfl) (by kernel_rfl) rfl rfl rfl rfl (fun x => by kernel_rfl)
noncomputable def M.facts_AsOf (N : Nat) (a0 : List rFact.den) (a1 : Int) (a2 : Int) (a3 : Int) (a4 : Int) : Option (rValue.den × Bool) :=
(Loop (S := Int × Int) (X := Int) (fun s2 =>
(if (decide (s2.2 < (a0.length : Int))) = true then
((idx a0 s2.2).bind fun x4 =>
((if (!decide (x4.2.1 = a1)) = true then
some true
else
(if (!decide (x4.2.2.1 = a2)) = true then
some true
else
(if (decide (a4 < x4.2.2.2.2.2)) = true then
some true
else
(M.daterange_Contains N x4.2.2.2.2.1 a3).bind fun y6 =>
some (!y6)))) : Option (Bool)).bind fun j5 =>
(if j5 = true then
some s2.1
else
((if (decide (s2.1 < (0 : Int))) = true then
some true
else
(idx a0 s2.1).bind fun x8 =>
(M.facts_wins N x4 x8).bind fun y9 =>
some y9) : Option (Bool)).bind fun j7 =>
(if j7 = true then
some s2.2
else
some s2.1)) : Option (Int)).bind fun j3 =>
some (Sum.inl (j3, IntKind.i64.wrap (s2.2 + (1 : Int))))
else
some (Sum.inr s2.1))) N ((-1 : Int), (0 : Int)) : Option (Int)).bind fun j1 =>
(if (decide (j1 < (0 : Int))) = true then
some (((0 : Int), ((0 : Int), (0 : Int))), false)
else
(idx a0 j1).bind fun x10 =>
some (x10.2.2.2.1, true))
noncomputable def S29 (N : Nat) : Sig := { inn := ⟨[(0, .val false (.leaf (.slice rFact))), (1, .val false (.leaf rInt)), (2, .val false (.leaf rInt)), (3, .val false (.leaf rInt)), (4, .val false (.leaf rInt))], [], [], 0⟩, out := ⟨[(0, .val true (.leaf rValue)), (1, .val false (.leaf .bool))], [], [], 0⟩, fn := fun (x : (List rFact.den) × Int × Int × Int × Int) => M.facts_AsOf N x.1 x.2.1 x.2.2.1 x.2.2.2.1 x.2.2.2.2 }
theorem W29 (N : Nat) : FnOK Tryz.prog 29 (S29 N) := fn_ok (E := ⟨tabs, [(44, S44 N), (45, S45 N)], (tabcons (W44 N) (tabcons (W45 N) tabnil)), mixed, false, false⟩) (N := N) (a := (.two .nil (.two .nil (.meet ⟨[(12, .val false (.leaf rInt))], [], [], 48⟩ (.two .nil (.two (.loop ⟨[(12, .val false (.leaf rInt)), (17, .val false (.leaf rInt))], [], [], 96⟩ (.two .nil (.two .nil (.two (.meet ⟨[(12, .val false (.leaf rInt))], [], [], 112⟩ (.two .nil (.two (.meet ⟨[(44, .val false (.leaf .bool))], [], [], 208⟩ .nil .nil) (.meet ⟨[(54, .val false (.leaf .bool))], [], [], 208⟩ .nil .nil))) .nil) .nil)))) .nil)) .nil)))) (sg := S29 N) (c := Tryz.f29.body.getD .skip) (rs := Tryz.f29.results.toList) Tryz.func29 (by kernel_rfl) (by kernel_rfl) rfl rfl rfl rfl (fun x => by kernel_rfl)
noncomputable def M.household_MembersOn (N : Nat) (a0 : rHousehold.den) (a1 : Int) (a2 : Int) : Option (List Int) :=
Loop (S := Int × List Int) (X := List Int) (fun s1 =>
(if (decide (s1.1 < (if (8 : Int) < (if a0.2.2.1 < (0 : Int) then (0 : Int) else a0.2.2.1) then (8 : Int) else (if a0.2.2.1 < (0 : Int) then (0 : Int) else a0.2.2.1)))) = true then
((M.facts_AsOf N a0.2.2.2 s1.1 (-1 : Int) a1 a2).bind fun y3 =>
((if y3.2 = true then
(if (decide (y3.1.1 = (1 : Int))) = true then
some (decide (y3.1.2.2 = (1 : Int)))
else
some false)
else
some false) : Option (Bool)).bind fun j4 =>
(if j4 = true then
(appA s1.2 ([s1.1] : List Int)).bind fun l5 =>
some l5
else
some s1.2) : Option (List Int)).bind fun j2 =>
some (Sum.inl (IntKind.i64.wrap (s1.1 + (1 : Int)), j2))
else
some (Sum.inr s1.2))) N ((0 : Int), ([] : List Int))
noncomputable def S15 (N : Nat) : Sig := { inn := ⟨[(0, .val true (.leaf rHousehold)), (1, .val false (.leaf rInt)), (2, .val false (.leaf rInt))], [], [], 0⟩, out := ⟨[(0, .val false (.own 0))], [(0, .own 3 rInt)], [], 1⟩, fn := fun (x : rHousehold.den × Int × Int) => M.household_MembersOn N x.1 x.2.1 x.2.2 }
theorem W15 (N : Nat) : FnOK Tryz.prog 15 (S15 N) := fn_ok (E := ⟨tabs, [(29, S29 N)], (tabcons (W29 N) tabnil), mixed, false, false⟩) (N := N) (a := (.two .nil (.two .nil (.two (.two .nil (.two (.loop ⟨[(7, .val false (.own 128)), (15, .val false (.leaf rInt))], [(128, .own 3 rInt)], [], 129⟩ (.two .nil (.two .nil (.two (.meet ⟨[(7, .val false (.own 145))], [(145, .own 3 rInt)], [128], 146⟩ (.two .nil (.two .nil (.meet ⟨[(37, .val false (.leaf .bool))], [], [], 369⟩ .nil .nil))) .nil) .nil)))) .nil)) .nil)))) (sg := S15 N) (c := Tryz.f15.body.getD .skip) (rs := Tryz.f15.results.toList) Tryz.func15 (by kernel_rfl) (by kernel_rfl) rfl rfl rfl rfl (fun x => by kernel_rfl)
noncomputable def M.lexer_isLower (N : Nat) (a0 : Int) : Option (Bool) :=
((if (decide ((97 : Int) ≤ a0)) = true then
some (decide (a0 ≤ (122 : Int)))
else
some false) : Option (Bool)).bind fun j1 =>
some j1
noncomputable def S71 (N : Nat) : Sig := { inn := ⟨[(0, .val false (.leaf (.int .u8)))], [], [], 0⟩, out := ⟨[(0, .val false (.leaf .bool))], [], [], 0⟩, fn := fun (x : Int) => M.lexer_isLower N x }
theorem W71 (N : Nat) : FnOK Tryz.prog 71 (S71 N) := fn_ok (E := ⟨tabs, [], tabnil, mixed, false, false⟩) (N := N) (a := (.two .nil (.meet ⟨[(2, .val false (.leaf .bool))], [], [], 16⟩ .nil .nil))) (sg := S71 N) (c := Tryz.f71.body.getD .skip) (rs := Tryz.f71.results.toList) Tryz.func71 (by kernel_rfl) (by kernel_rfl) rfl rfl rfl rfl (fun x => by kernel_rfl)
noncomputable def M.lexer_isDigit (N : Nat) (a0 : Int) : Option (Bool) :=
((if (decide ((48 : Int) ≤ a0)) = true then
some (decide (a0 ≤ (57 : Int)))
else
some false) : Option (Bool)).bind fun j1 =>
some j1
noncomputable def S93 (N : Nat) : Sig := { inn := ⟨[(0, .val false (.leaf (.int .u8)))], [], [], 0⟩, out := ⟨[(0, .val false (.leaf .bool))], [], [], 0⟩, fn := fun (x : Int) => M.lexer_isDigit N x }
theorem W93 (N : Nat) : FnOK Tryz.prog 93 (S93 N) := fn_ok (E := ⟨tabs, [], tabnil, mixed, false, false⟩) (N := N) (a := (.two .nil (.meet ⟨[(2, .val false (.leaf .bool))], [], [], 16⟩ .nil .nil))) (sg := S93 N) (c := Tryz.f93.body.getD .skip) (rs := Tryz.f93.results.toList) Tryz.func93 (by kernel_rfl) (by kernel_rfl) rfl rfl rfl rfl (fun x => by kernel_rfl)
noncomputable def M.lexer_nameLength (N : Nat) (a0 : ByteArray) : Option (Int) :=
Loop (S := Int) (X := Int) (fun s1 =>
((if (decide (s1 < (a0.size : Int))) = true then
(byteA a0 s1).bind fun x3 =>
(M.lexer_isLower N x3).bind fun y4 =>
(if y4 = true then
some true
else
(byteA a0 s1).bind fun x5 =>
(M.lexer_isDigit N x5).bind fun y6 =>
(if y6 = true then
some true
else
(byteA a0 s1).bind fun x7 =>
some (decide (x7 = (95 : Int)))))
else
some false) : Option (Bool)).bind fun j2 =>
(if j2 = true then
some (Sum.inl (IntKind.i64.wrap (s1 + (1 : Int))))
else
some (Sum.inr s1))) N (0 : Int)
noncomputable def S72 (N : Nat) : Sig := { inn := ⟨[(0, .val false (.leaf .str))], [], [], 0⟩, out := ⟨[(0, .val false (.leaf rInt))], [], [], 0⟩, fn := fun (x : ByteArray) => M.lexer_nameLength N x }
theorem W72 (N : Nat) : FnOK Tryz.prog 72 (S72 N) := fn_ok (E := ⟨tabs, [(71, S71 N), (93, S93 N)], (tabcons (W71 N) (tabcons (W93 N) tabnil)), mixed, false, false⟩) (N := N) (a := (.two .nil (.two .nil (.two (.two (.loop ⟨[(3, .val false (.leaf rInt))], [], [], 32⟩ (.two (.meet ⟨[(25, .val false (.leaf .bool))], [], [], 32⟩ .nil .nil) .nil)) .nil) .nil)))) (sg := S72 N) (c := Tryz.f72.body.getD .skip) (rs := Tryz.f72.results.toList) Tryz.func72 (by kernel_rfl) (by kernel_rfl) rfl rfl rfl rfl (fun x => by kernel_rfl)
noncomputable def M.lexer_reserved (N : Nat) (a0 : ByteArray) : Option (Bool) :=
((if (decide (a0 = (⟨#[105, 102]⟩ : ByteArray))) = true then
some (decide (a0 = (⟨#[105, 102]⟩ : ByteArray)))
else
(if (decide (a0 = (⟨#[116, 104, 101, 110]⟩ : ByteArray))) = true then
some (decide (a0 = (⟨#[116, 104, 101, 110]⟩ : ByteArray)))
else
(if (decide (a0 = (⟨#[101, 108, 115, 101]⟩ : ByteArray))) = true then
some (decide (a0 = (⟨#[101, 108, 115, 101]⟩ : ByteArray)))
else
(if (decide (a0 = (⟨#[111, 114]⟩ : ByteArray))) = true then
some (decide (a0 = (⟨#[111, 114]⟩ : ByteArray)))
else
(if (decide (a0 = (⟨#[97, 110, 100]⟩ : ByteArray))) = true then
some (decide (a0 = (⟨#[97, 110, 100]⟩ : ByteArray)))
else
(if (decide (a0 = (⟨#[110, 111, 116]⟩ : ByteArray))) = true then
some (decide (a0 = (⟨#[110, 111, 116]⟩ : ByteArray)))
else
(if (decide (a0 = (⟨#[116, 114, 117, 101]⟩ : ByteArray))) = true then
some (decide (a0 = (⟨#[116, 114, 117, 101]⟩ : ByteArray)))
else
(if (decide (a0 = (⟨#[102, 97, 108, 115, 101]⟩ : ByteArray))) = true then
some (decide (a0 = (⟨#[102, 97, 108, 115, 101]⟩ : ByteArray)))
else
(if (decide (a0 = (⟨#[116, 111, 100, 97, 121]⟩ : ByteArray))) = true then
some (decide (a0 = (⟨#[116, 111, 100, 97, 121]⟩ : ByteArray)))
else
(if (decide (a0 = (⟨#[115, 104, 97, 114, 101]⟩ : ByteArray))) = true then
some (decide (a0 = (⟨#[115, 104, 97, 114, 101]⟩ : ByteArray)))
else
(if (decide (a0 = (⟨#[100, 105, 118]⟩ : ByteArray))) = true then
some (decide (a0 = (⟨#[100, 105, 118]⟩ : ByteArray)))
else
(if (decide (a0 = (⟨#[114, 111, 117, 110, 100]⟩ : ByteArray))) = true then
some (decide (a0 = (⟨#[114, 111, 117, 110, 100]⟩ : ByteArray)))
else
(if (decide (a0 = (⟨#[109, 105, 110]⟩ : ByteArray))) = true then
some (decide (a0 = (⟨#[109, 105, 110]⟩ : ByteArray)))
else
(if (decide (a0 = (⟨#[109, 97, 120]⟩ : ByteArray))) = true then
some (decide (a0 = (⟨#[109, 97, 120]⟩ : ByteArray)))
else
(if (decide (a0 = (⟨#[112, 108, 117, 115]⟩ : ByteArray))) = true then
some (decide (a0 = (⟨#[112, 108, 117, 115]⟩ : ByteArray)))
else
(if (decide (a0 = (⟨#[109, 111, 110, 116, 104, 115]⟩ : ByteArray))) = true then
some (decide (a0 = (⟨#[109, 111, 110, 116, 104, 115]⟩ : ByteArray)))
else
(if (decide (a0 = (⟨#[100, 97, 121, 115]⟩ : ByteArray))) = true then
some (decide (a0 = (⟨#[100, 97, 121, 115]⟩ : ByteArray)))
else
(if (decide (a0 = (⟨#[121, 101, 97, 114, 115]⟩ : ByteArray))) = true then
some (decide (a0 = (⟨#[121, 101, 97, 114, 115]⟩ : ByteArray)))
else
(if (decide (a0 = (⟨#[121, 101, 97, 114]⟩ : ByteArray))) = true then
some (decide (a0 = (⟨#[121, 101, 97, 114]⟩ : ByteArray)))
else
(if (decide (a0 = (⟨#[109, 111, 110, 116, 104]⟩ : ByteArray))) = true then
some (decide (a0 = (⟨#[109, 111, 110, 116, 104]⟩ : ByteArray)))
else
(if (decide (a0 = (⟨#[116, 97, 98]⟩ : ByteArray))) = true then
some (decide (a0 = (⟨#[116, 97, 98]⟩ : ByteArray)))
else
(if (decide (a0 = (⟨#[98, 97, 110, 100]⟩ : ByteArray))) = true then
some (decide (a0 = (⟨#[98, 97, 110, 100]⟩ : ByteArray)))
else
(if (decide (a0 = (⟨#[99, 111, 117, 110, 116]⟩ : ByteArray))) = true then
some (decide (a0 = (⟨#[99, 111, 117, 110, 116]⟩ : ByteArray)))
else
(if (decide (a0 = (⟨#[115, 117, 109]⟩ : ByteArray))) = true then
some (decide (a0 = (⟨#[115, 117, 109]⟩ : ByteArray)))
else
(if (decide (a0 = (⟨#[97, 108, 108]⟩ : ByteArray))) = true then
some (decide (a0 = (⟨#[97, 108, 108]⟩ : ByteArray)))
else
(if (decide (a0 = (⟨#[97, 110, 121]⟩ : ByteArray))) = true then
some (decide (a0 = (⟨#[97, 110, 121]⟩ : ByteArray)))
else
(if (decide (a0 = (⟨#[109, 111, 115, 116]⟩ : ByteArray))) = true then
some (decide (a0 = (⟨#[109, 111, 115, 116]⟩ : ByteArray)))
else
(if (decide (a0 = (⟨#[101, 110, 117, 109]⟩ : ByteArray))) = true then
some (decide (a0 = (⟨#[101, 110, 117, 109]⟩ : ByteArray)))
else
(if (decide (a0 = (⟨#[116, 97, 98, 108, 101]⟩ : ByteArray))) = true then
some (decide (a0 = (⟨#[116, 97, 98, 108, 101]⟩ : ByteArray)))
else
(if (decide (a0 = (⟨#[114, 111, 119]⟩ : ByteArray))) = true then
some (decide (a0 = (⟨#[114, 111, 119]⟩ : ByteArray)))
else
(if (decide (a0 = (⟨#[115, 99, 111, 112, 101]⟩ : ByteArray))) = true then
some (decide (a0 = (⟨#[115, 99, 111, 112, 101]⟩ : ByteArray)))
else
(if (decide (a0 = (⟨#[109, 101, 109, 98, 101, 114, 115]⟩ : ByteArray))) = true then
some (decide (a0 = (⟨#[109, 101, 109, 98, 101, 114, 115]⟩ : ByteArray)))
else
(if (decide (a0 = (⟨#[105, 110, 112, 117, 116]⟩ : ByteArray))) = true then
some (decide (a0 = (⟨#[105, 110, 112, 117, 116]⟩ : ByteArray)))
else
(if (decide (a0 = (⟨#[100, 101, 102]⟩ : ByteArray))) = true then
some (decide (a0 = (⟨#[100, 101, 102]⟩ : ByteArray)))
else
(if (decide (a0 = (⟨#[114, 117, 108, 101]⟩ : ByteArray))) = true then
some (decide (a0 = (⟨#[114, 117, 108, 101]⟩ : ByteArray)))
else
(if (decide (a0 = (⟨#[111, 102]⟩ : ByteArray))) = true then
some (decide (a0 = (⟨#[111, 102]⟩ : ByteArray)))
else
(if (decide (a0 = (⟨#[111, 118, 101, 114]⟩ : ByteArray))) = true then
some (decide (a0 = (⟨#[111, 118, 101, 114]⟩ : ByteArray)))
else
(if (decide (a0 = (⟨#[112, 114, 105, 111]⟩ : ByteArray))) = true then
some (decide (a0 = (⟨#[112, 114, 105, 111]⟩ : ByteArray)))
else
(if (decide (a0 = (⟨#[102, 114, 111, 109]⟩ : ByteArray))) = true then
some (decide (a0 = (⟨#[102, 114, 111, 109]⟩ : ByteArray)))
else
(if (decide (a0 = (⟨#[116, 111]⟩ : ByteArray))) = true then
some (decide (a0 = (⟨#[116, 111]⟩ : ByteArray)))
else
(if (decide (a0 = (⟨#[101, 110, 100]⟩ : ByteArray))) = true then
some (decide (a0 = (⟨#[101, 110, 100]⟩ : ByteArray)))
else
(if (decide (a0 = (⟨#[119, 104, 101, 110]⟩ : ByteArray))) = true then
some (decide (a0 = (⟨#[119, 104, 101, 110]⟩ : ByteArray)))
else
(if (decide (a0 = (⟨#[105, 115]⟩ : ByteArray))) = true then
some (decide (a0 = (⟨#[105, 115]⟩ : ByteArray)))
else
(if (decide (a0 = (⟨#[115, 114, 99]⟩ : ByteArray))) = true then
some (decide (a0 = (⟨#[115, 114, 99]⟩ : ByteArray)))
else
(if (decide (a0 = (⟨#[98, 111, 111, 108]⟩ : ByteArray))) = true then
some (decide (a0 = (⟨#[98, 111, 111, 108]⟩ : ByteArray)))
else
(if (decide (a0 = (⟨#[105, 110, 116]⟩ : ByteArray))) = true then
some (decide (a0 = (⟨#[105, 110, 116]⟩ : ByteArray)))
else
(if (decide (a0 = (⟨#[109, 111, 110, 101, 121]⟩ : ByteArray))) = true then
some (decide (a0 = (⟨#[109, 111, 110, 101, 121]⟩ : ByteArray)))
else
(if (decide (a0 = (⟨#[114, 97, 116, 101]⟩ : ByteArray))) = true then
some (decide (a0 = (⟨#[114, 97, 116, 101]⟩ : ByteArray)))
else
(if (decide (a0 = (⟨#[100, 97, 116, 101]⟩ : ByteArray))) = true then
some (decide (a0 = (⟨#[100, 97, 116, 101]⟩ : ByteArray)))
else
(if (decide (a0 = (⟨#[100, 111, 119, 110]⟩ : ByteArray))) = true then
some (decide (a0 = (⟨#[100, 111, 119, 110]⟩ : ByteArray)))
else
(if (decide (a0 = (⟨#[117, 112]⟩ : ByteArray))) = true then
some (decide (a0 = (⟨#[117, 112]⟩ : ByteArray)))
else
(if (decide (a0 = (⟨#[122, 101, 114, 111]⟩ : ByteArray))) = true then
some (decide (a0 = (⟨#[122, 101, 114, 111]⟩ : ByteArray)))
else
(if (decide (a0 = (⟨#[97, 119, 97, 121]⟩ : ByteArray))) = true then
some (decide (a0 = (⟨#[97, 119, 97, 121]⟩ : ByteArray)))
else
(if (decide (a0 = (⟨#[104, 97, 108, 102]⟩ : ByteArray))) = true then
some (decide (a0 = (⟨#[104, 97, 108, 102]⟩ : ByteArray)))
else
some (decide (a0 = (⟨#[101, 118, 101, 110]⟩ : ByteArray))))))))))))))))))))))))))))))))))))))))))))))))))))))))) : Option (Bool)).bind fun j1 =>
(if j1 = true then
some true
else
some false)
noncomputable def S73 (N : Nat) : Sig := { inn := ⟨[(0, .val false (.leaf .str))], [], [], 0⟩, out := ⟨[(0, .val false (.leaf .bool))], [], [], 0⟩, fn := fun (x : ByteArray) => M.lexer_reserved N x }
theorem W73 (N : Nat) : FnOK Tryz.prog 73 (S73 N) := fn_ok (E := ⟨tabs, [], tabnil, mixed, false, false⟩) (N := N) (a := (.two .nil (.two (.two .nil (.two (.meet ⟨[(4, .val false (.leaf .bool))], [], [], 32⟩ .nil .nil) .nil)) .nil))) (sg := S73 N) (c := Tryz.f73.body.getD .skip) (rs := Tryz.f73.results.toList) Tryz.func73 (by kernel_rfl) (by kernel_rfl) rfl rfl rfl rfl (fun x => by kernel_rfl)
noncomputable def M.lexer_IsIdentifier (N : Nat) (a0 : ByteArray) : Option (Bool) :=
((if (!decide (a0 = (⟨#[]⟩ : ByteArray))) = true then
(byteA a0 (0 : Int)).bind fun x2 =>
(M.lexer_isLower N x2).bind fun y3 =>
(if y3 = true then
(M.lexer_nameLength N a0).bind fun y4 =>
(if (decide (y4 = (a0.size : Int))) = true then
(if (decide ((a0.size : Int) ≤ (16 : Int))) = true then
(M.lexer_reserved N a0).bind fun y5 =>
some (!y5)
else
some false)
else
some false)
else
some false)
else
some false) : Option (Bool)).bind fun j1 =>
some j1
noncomputable def S59 (N : Nat) : Sig := { inn := ⟨[(0, .val false (.leaf .str))], [], [], 0⟩, out := ⟨[(0, .val false (.leaf .bool))], [], [], 0⟩, fn := fun (x : ByteArray) => M.lexer_IsIdentifier N x }
theorem W59 (N : Nat) : FnOK Tryz.prog 59 (S59 N) := fn_ok (E := ⟨tabs, [(71, S71 N), (72, S72 N), (73, S73 N)], (tabcons (W71 N) (tabcons (W72 N) (tabcons (W73 N) tabnil))), mixed, false, false⟩) (N := N) (a := (.two .nil (.meet ⟨[(2, .val false (.leaf .bool))], [], [], 16⟩ .nil .nil))) (sg := S59 N) (c := Tryz.f59.body.getD .skip) (rs := Tryz.f59.results.toList) Tryz.func59 (by kernel_rfl) (by kernel_rfl) rfl rfl rfl rfl (fun x => by kernel_rfl)
noncomputable def M.law_hasEnum_c1_v1 (N : Nat) (a0 : rEnum.den) (a1 : ByteArray) : Option (Bool × ByteArray) :=
some (decide (a0.1 = a1), a1)
noncomputable def S75v1 (N : Nat) : Sig := { inn := ⟨[(0, .val true (.leaf rEnum)), (1, .ptr 0 [] 0)], [(0, .box 9 (.leaf .str))], [], 1⟩, out := ⟨[(0, .val false (.leaf .bool))], [(0, .box 9 (.leaf .str))], [], 2⟩, fn := fun (x : rEnum.den × ByteArray) => M.law_hasEnum_c1_v1 N x.1 x.2 }
theorem W75v1 (N : Nat) : FnOK Tryz.prog 75 (S75v1 N) := fn_ok (E := ⟨tabs, [], tabnil, mixed, false, false⟩) (N := N) (a := .nil) (sg := S75v1 N) (c := Tryz.f75.body.getD .skip) (rs := Tryz.f75.results.toList) Tryz.func75 (by kernel_rfl) (by kernel_rfl) rfl rfl rfl rfl (fun x => by kernel_rfl)
noncomputable def M.slices_IndexFunc_guerdon_api_Enum_guerdon_api_Enum_v1 (N : Nat) (a0 : List rEnum.den) (a1 : ByteArray) : Option (Int × ByteArray) :=
Loop (S := Int × ByteArray) (X := Int × ByteArray) (fun s1 =>
(if (decide (s1.1 < (a0.length : Int))) = true then
(idx a0 s1.1).bind fun x2 =>
(M.law_hasEnum_c1_v1 N x2 s1.2).bind fun y3 =>
(if y3.1 = true then
some (Sum.inr (s1.1, y3.2))
else
some (Sum.inl (IntKind.i64.wrap (s1.1 + (1 : Int)), y3.2)))
else
some (Sum.inr ((-1 : Int), s1.2)))) N ((0 : Int), a1)
noncomputable def S94v1 (N : Nat) : Sig := { inn := ⟨[(0, .val false (.leaf (.slice rEnum))), (1, .fn 75 [(0, [], 0)])], [(0, .box 9 (.leaf .str))], [], 1⟩, out := ⟨[(0, .val false (.leaf rInt))], [(0, .box 9 (.leaf .str))], [], 2⟩, fn := fun (x : (List rEnum.den) × ByteArray) => M.slices_IndexFunc_guerdon_api_Enum_guerdon_api_Enum_v1 N x.1 x.2 }
theorem W94v1 (N : Nat) : FnOK Tryz.prog 94 (S94v1 N) := fn_ok (E := ⟨tabs, [(75, S75v1 N)], (tabcons (W75v1 N) tabnil), mixed, false, false⟩) (N := N) (a := (.two .nil (.two (.two .nil (.two (.loop ⟨[(8, .val false (.leaf rInt))], [(0, .box 9 (.leaf .str))], [], 66⟩ .nil) .nil)) .nil))) (sg := S94v1 N) (c := Tryz.f94.body.getD .skip) (rs := Tryz.f94.results.toList) Tryz.func94 (by kernel_rfl) (by kernel_rfl) rfl rfl rfl rfl (fun x => by kernel_rfl)
noncomputable def M.slices_ContainsFunc_guerdon_api_Enum_guerdon_api_Enum_v1 (N : Nat) (a0 : List rEnum.den) (a1 : ByteArray) : Option (Bool × ByteArray) :=
(M.slices_IndexFunc_guerdon_api_Enum_guerdon_api_Enum_v1 N a0 a1).bind fun y1 =>
some (decide ((0 : Int) ≤ y1.1), y1.2)
noncomputable def S74v1 (N : Nat) : Sig := { inn := ⟨[(0, .val false (.leaf (.slice rEnum))), (1, .fn 75 [(0, [], 0)])], [(0, .box 9 (.leaf .str))], [], 1⟩, out := ⟨[(0, .val false (.leaf .bool))], [(0, .box 9 (.leaf .str))], [], 2⟩, fn := fun (x : (List rEnum.den) × ByteArray) => M.slices_ContainsFunc_guerdon_api_Enum_guerdon_api_Enum_v1 N x.1 x.2 }
theorem W74v1 (N : Nat) : FnOK Tryz.prog 74 (S74v1 N) := fn_ok (E := ⟨tabs, [(94, S94v1 N)], (tabcons (W94v1 N) tabnil), mixed, false, false⟩) (N := N) (a := .nil) (sg := S74v1 N) (c := Tryz.f74.body.getD .skip) (rs := Tryz.f74.results.toList) Tryz.func74 (by kernel_rfl) (by kernel_rfl) rfl rfl rfl rfl (fun x => by kernel_rfl)
noncomputable def M.law_hasEnum (N : Nat) (a0 : List rEnum.den) (a1 : ByteArray) : Option (Bool) :=
(M.slices_ContainsFunc_guerdon_api_Enum_guerdon_api_Enum_v1 N a0 a1).bind fun y1 =>
some y1.1
noncomputable def S60 (N : Nat) : Sig := { inn := ⟨[(0, .val false (.leaf (.slice rEnum))), (1, .val false (.leaf .str))], [], [], 0⟩, out := ⟨[(0, .val false (.leaf .bool))], [], [], 0⟩, fn := fun (x : (List rEnum.den) × ByteArray) => M.law_hasEnum N x.1 x.2 }
theorem W60 (N : Nat) : FnOK Tryz.prog 60 (S60 N) := fn_ok (E := ⟨tabs, [(74, S74v1 N)], (tabcons (W74v1 N) tabnil), mixed, false, false⟩) (N := N) (a := .nil) (sg := S60 N) (c := Tryz.f60.body.getD .skip) (rs := Tryz.f60.results.toList) Tryz.func60 (by kernel_rfl) (by kernel_rfl) rfl rfl rfl rfl (fun x => by kernel_rfl)
noncomputable def M.slices_Index_string_string (N : Nat) (a0 : List ByteArray) (a1 : ByteArray) : Option (Int) :=
Loop (S := Int) (X := Int) (fun s1 =>
(if (decide (s1 < (a0.length : Int))) = true then
(idx a0 s1).bind fun x2 =>
(if (decide (a1 = x2)) = true then
some (Sum.inr s1)
else
some (Sum.inl (IntKind.i64.wrap (s1 + (1 : Int)))))
else
some (Sum.inr (-1 : Int)))) N (0 : Int)
noncomputable def S91 (N : Nat) : Sig := { inn := ⟨[(0, .val false (.leaf (.slice .str))), (1, .val false (.leaf .str))], [], [], 0⟩, out := ⟨[(0, .val false (.leaf rInt))], [], [], 0⟩, fn := fun (x : (List ByteArray) × ByteArray) => M.slices_Index_string_string N x.1 x.2 }
theorem W91 (N : Nat) : FnOK Tryz.prog 91 (S91 N) := fn_ok (E := ⟨tabs, [], tabnil, mixed, false, false⟩) (N := N) (a := (.two .nil (.two (.two .nil (.two (.loop ⟨[(8, .val false (.leaf rInt))], [], [], 64⟩ .nil) .nil)) .nil))) (sg := S91 N) (c := Tryz.f91.body.getD .skip) (rs := Tryz.f91.results.toList) Tryz.func91 (by kernel_rfl) (by kernel_rfl) rfl rfl rfl rfl (fun x => by kernel_rfl)
noncomputable def M.slices_Contains_string_string (N : Nat) (a0 : List ByteArray) (a1 : ByteArray) : Option (Bool) :=
(M.slices_Index_string_string N a0 a1).bind fun y1 =>
some (decide ((0 : Int) ≤ y1))
noncomputable def S67 (N : Nat) : Sig := { inn := ⟨[(0, .val false (.leaf (.slice .str))), (1, .val false (.leaf .str))], [], [], 0⟩, out := ⟨[(0, .val false (.leaf .bool))], [], [], 0⟩, fn := fun (x : (List ByteArray) × ByteArray) => M.slices_Contains_string_string N x.1 x.2 }
theorem W67 (N : Nat) : FnOK Tryz.prog 67 (S67 N) := fn_ok (E := ⟨tabs, [(91, S91 N)], (tabcons (W91 N) tabnil), mixed, false, false⟩) (N := N) (a := .nil) (sg := S67 N) (c := Tryz.f67.body.getD .skip) (rs := Tryz.f67.results.toList) Tryz.func67 (by kernel_rfl) (by kernel_rfl) rfl rfl rfl rfl (fun x => by kernel_rfl)
noncomputable def M.law_checkEnum (N : Nat) (a0 : rLaw.den) (a1 : Int) (a2 : rEnum.den) : Option (Int × Int) :=
(M.lexer_IsIdentifier N a2.1).bind fun y1 =>
(if (!y1) = true then
some ((2 : Int), (0 : Int))
else
(cutA a0.1 (0 : Int) a1).bind fun l2 =>
(M.law_hasEnum N l2 a2.1).bind fun y3 =>
(if y3 = true then
some ((7 : Int), (0 : Int))
else
(if (decide ((a2.2.length : Int) = (0 : Int))) = true then
some ((5 : Int), (0 : Int))
else
(if (decide ((16 : Int) < (a2.2.length : Int))) = true then
some ((4 : Int), (116 : Int))
else
Loop (S := Int) (X := Int × Int) (fun s4 =>
(if (decide (s4 < (a2.2.length : Int))) = true then
(idx a2.2 s4).bind fun x5 =>
(M.lexer_IsIdentifier N x5).bind fun y6 =>
(if (!y6) = true then
some (Sum.inr ((2 : Int), IntKind.i64.wrap ((100 : Int) + s4)))
else
(cutA a2.2 (0 : Int) s4).bind fun l7 =>
(M.slices_Contains_string_string N l7 x5).bind fun y8 =>
(if y8 = true then
some (Sum.inr ((7 : Int), IntKind.i64.wrap ((100 : Int) + s4)))
else
some (Sum.inl (IntKind.i64.wrap (s4 + (1 : Int))))))
else
some (Sum.inr ((0 : Int), (0 : Int))))) N (0 : Int)))))
noncomputable def S57 (N : Nat) : Sig := { inn := ⟨[(0, .val true (.leaf rLaw)), (1, .val false (.leaf rInt)), (2, .val true (.leaf rEnum))], [], [], 0⟩, out := ⟨[(0, .val false (.leaf rInt)), (1, .val false (.leaf rInt))], [], [], 0⟩, fn := fun (x : rLaw.den × Int × rEnum.den) => M.law_checkEnum N x.1 x.2.1 x.2.2 }
theorem W57 (N : Nat) : FnOK Tryz.prog 57 (S57 N) := fn_ok (E := ⟨tabs, [(59, S59 N), (60, S60 N), (67, S67 N)], (tabcons (W59 N) (tabcons (W60 N) (tabcons (W67 N) tabnil))), mixed, false, false⟩) (N := N) (a := (.two .nil (.two .nil (.two (.two .nil (.two (.loop ⟨[(36, .val false (.leaf rInt))], [], [], 496⟩ .nil) .nil)) .nil)))) (sg := S57 N) (c := Tryz.f57.body.getD .skip) (rs := Tryz.f57.results.toList) Tryz.func57 (by kernel_rfl) (by kernel_rfl) rfl rfl rfl rfl (fun x => by kernel_rfl)
noncomputable def M.law_checkEnums (N : Nat) (a0 : rLaw.den) : Option (rLawError.den) :=
(if (decide ((8 : Int) < (a0.1.length : Int))) = true then
some ((4 : Int), ((1 : Int), ((8 : Int), (0 : Int))))
else
Join (J := Unit) (R := rLawError.den) (Loop (S := Int) (X := (Unit) ⊕ (rLawError.den)) (fun s2 =>
(if (decide (s2 < (a0.1.length : Int))) = true then
(idx a0.1 s2).bind fun x3 =>
(M.law_checkEnum N a0 s2 x3).bind fun y4 =>
(if (!decide (y4.1 = (0 : Int))) = true then
some (Sum.inr (Sum.inr (y4.1, ((1 : Int), (s2, y4.2)))))
else
some (Sum.inl (IntKind.i64.wrap (s2 + (1 : Int)))))
else
some (Sum.inr (Sum.inl ())))) N (0 : Int)) fun j1 =>
some ((0 : Int), ((0 : Int), ((0 : Int), (0 : Int)))))
noncomputable def S47 (N : Nat) : Sig := { inn := ⟨[(0, .val true (.leaf rLaw))], [], [], 0⟩, out := ⟨[(0, .val true (.leaf rLawError))], [], [], 0⟩, fn := fun (x : rLaw.den) => M.law_checkEnums N x }
theorem W47 (N : Nat) : FnOK Tryz.prog 47 (S47 N) := fn_ok (E := ⟨tabs, [(57, S57 N)], (tabcons (W57 N) tabnil), mixed, false, false⟩) (N := N) (a := (.two .nil (.two .nil (.join ⟨[], [], [], 96⟩ (.two .nil (.two (.loop ⟨[(15, .val false (.leaf rInt))], [], [], 160⟩ .nil) .nil)) .nil)))) (sg := S47 N) (c := Tryz.f47.body.getD .skip) (rs := Tryz.f47.results.toList) Tryz.func47 (by kernel_rfl) (by kernel_rfl) rfl rfl rfl rfl (fun x => by kernel_rfl)
noncomputable def M.daterange_hasDate (N : Nat) (a0 : rType.den) : Option (Bool) :=
((M.daterange_Valid N a0).bind fun y2 =>
(if y2 = true then
some (decide (a0.1 < a0.2))
else
some false) : Option (Bool)).bind fun j1 =>
some j1
noncomputable def S118 (N : Nat) : Sig := { inn := ⟨[(0, .val true (.leaf rType))], [], [], 0⟩, out := ⟨[(0, .val false (.leaf .bool))], [], [], 0⟩, fn := fun (x : rType.den) => M.daterange_hasDate N x }
theorem W118 (N : Nat) : FnOK Tryz.prog 118 (S118 N) := fn_ok (E := ⟨tabs, [(55, S55 N)], (tabcons (W55 N) tabnil), mixed, false, false⟩) (N := N) (a := (.two .nil (.meet ⟨[(2, .val false (.leaf .bool))], [], [], 32⟩ .nil .nil))) (sg := S118 N) (c := Tryz.f118.body.getD .skip) (rs := Tryz.f118.results.toList) Tryz.func118 (by kernel_rfl) (by kernel_rfl) rfl rfl rfl rfl (fun x => by kernel_rfl)
noncomputable def M.daterange_Intersect (N : Nat) (a0 : rType.den) (a1 : rType.den) : Option (rType.den × Bool) :=
((M.daterange_hasDate N a0).bind fun y2 =>
(if (!y2) = true then
some true
else
(M.daterange_hasDate N a1).bind fun y3 =>
some (!y3)) : Option (Bool)).bind fun j1 =>
(if j1 = true then
some (((0 : Int), (0 : Int)), false)
else
(if (decide ((if a1.2 < a0.2 then a1.2 else a0.2) ≤ (if a0.1 < a1.1 then a1.1 else a0.1))) = true then
some (((0 : Int), (0 : Int)), false)
else
some ((if a0.1 < a1.1 then a1.1 else a0.1, if a1.2 < a0.2 then a1.2 else a0.2), true)))
noncomputable def S92 (N : Nat) : Sig := { inn := ⟨[(0, .val true (.leaf rType)), (1, .val true (.leaf rType))], [], [], 0⟩, out := ⟨[(0, .val true (.leaf rType)), (1, .val false (.leaf .bool))], [], [], 0⟩, fn := fun (x : rType.den × rType.den) => M.daterange_Intersect N x.1 x.2 }
theorem W92 (N : Nat) : FnOK Tryz.prog 92 (S92 N) := fn_ok (E := ⟨tabs, [(118, S118 N)], (tabcons (W118 N) tabnil), mixed, false, false⟩) (N := N) (a := (.two .nil (.two (.meet ⟨[(14, .val false (.leaf .bool))], [], [], 64⟩ .nil .nil) .nil))) (sg := S92 N) (c := Tryz.f92.body.getD .skip) (rs := Tryz.f92.results.toList) Tryz.func92 (by kernel_rfl) (by kernel_rfl) rfl rfl rfl rfl (fun x => by kernel_rfl)
noncomputable def M.table_conflict (N : Nat) (a0 : rRow.den) (a1 : rRow.den) : Option (Bool) :=
(M.daterange_Intersect N a0.1 a1.1).bind fun y1 =>
((if y1.2 = true then
some (decide ((if a0.2.1 < a1.2.1 then a1.2.1 else a0.2.1) < (if a1.2.2.1 < a0.2.2.1 then a1.2.2.1 else a0.2.2.1)))
else
some false) : Option (Bool)).bind fun j2 =>
some j2
noncomputable def S70 (N : Nat) : Sig := { inn := ⟨[(0, .val true (.leaf rRow)), (1, .val true (.leaf rRow))], [], [], 0⟩, out := ⟨[(0, .val false (.leaf .bool))], [], [], 0⟩, fn := fun (x : rRow.den × rRow.den) => M.table_conflict N x.1 x.2 }
theorem W70 (N : Nat) : FnOK Tryz.prog 70 (S70 N) := fn_ok (E := ⟨tabs, [(92, S92 N)], (tabcons (W92 N) tabnil), mixed, false, false⟩) (N := N) (a := (.two .nil (.two .nil (.meet ⟨[(4, .val false (.leaf .bool))], [], [], 224⟩ .nil .nil)))) (sg := S70 N) (c := Tryz.f70.body.getD .skip) (rs := Tryz.f70.results.toList) Tryz.func70 (by kernel_rfl) (by kernel_rfl) rfl rfl rfl rfl (fun x => by kernel_rfl)
noncomputable def M.table_Validate_c1_v1 (N : Nat) (a0 : rRow.den) (a1 : rRow.den) : Option (Bool × rRow.den) :=
(M.table_conflict N a0 a1).bind fun y1 =>
some (y1, a1)
noncomputable def S69v1 (N : Nat) : Sig := { inn := ⟨[(0, .val true (.leaf rRow)), (1, .ptr 0 [] 0)], [(0, .box 118 (.leaf rRow))], [], 1⟩, out := ⟨[(0, .val false (.leaf .bool))], [(0, .box 118 (.leaf rRow))], [], 2⟩, fn := fun (x : rRow.den × rRow.den) => M.table_Validate_c1_v1 N x.1 x.2 }
theorem W69v1 (N : Nat) : FnOK Tryz.prog 69 (S69v1 N) := fn_ok (E := ⟨tabs, [(70, S70 N)], (tabcons (W70 N) tabnil), mixed, false, false⟩) (N := N) (a := .nil) (sg := S69v1 N) (c := Tryz.f69.body.getD .skip) (rs := Tryz.f69.results.toList) Tryz.func69 (by kernel_rfl) (by kernel_rfl) rfl rfl rfl rfl (fun x => by kernel_rfl)
noncomputable def M.table_first_guerdon_api_Row_v1 (N : Nat) (a0 : List rRow.den) (a1 : rRow.den) : Option (Int × Bool × rRow.den) :=
Loop (S := Int × rRow.den) (X := Int × Bool × rRow.den) (fun s1 =>
(if (decide (s1.1 < (a0.length : Int))) = true then
(idx a0 s1.1).bind fun x2 =>
(M.table_Validate_c1_v1 N x2 s1.2).bind fun y3 =>
(if y3.1 = true then
some (Sum.inr (s1.1, true, y3.2))
else
some (Sum.inl (IntKind.i64.wrap (s1.1 + (1 : Int)), y3.2)))
else
some (Sum.inr ((0 : Int), false, s1.2)))) N ((0 : Int), a1)
noncomputable def S68v1 (N : Nat) : Sig := { inn := ⟨[(0, .val false (.leaf (.slice rRow))), (1, .fn 69 [(0, [], 0)])], [(0, .box 118 (.leaf rRow))], [], 1⟩, out := ⟨[(0, .val false (.leaf rInt)), (1, .val false (.leaf .bool))], [(0, .box 118 (.leaf rRow))], [], 2⟩, fn := fun (x : (List rRow.den) × rRow.den) => M.table_first_guerdon_api_Row_v1 N x.1 x.2 }
theorem W68v1 (N : Nat) : FnOK Tryz.prog 68 (S68v1 N) := fn_ok (E := ⟨tabs, [(69, S69v1 N)], (tabcons (W69v1 N) tabnil), mixed, false, false⟩) (N := N) (a := (.two .nil (.two (.two .nil (.two (.loop ⟨[(10, .val false (.leaf rInt))], [(0, .box 118 (.leaf rRow))], [], 82⟩ .nil) .nil)) .nil))) (sg := S68v1 N) (c := Tryz.f68.body.getD .skip) (rs := Tryz.f68.results.toList) Tryz.func68 (by kernel_rfl) (by kernel_rfl) rfl rfl rfl rfl (fun x => by kernel_rfl)
noncomputable def M.table_Validate (N : Nat) (a0 : rTable.den) (a1 : List rEnum.den) : Option (Int × Int) :=
(if (decide ((64 : Int) < (a0.2.2.2.length : Int))) = true then
some ((64 : Int), (4 : Int))
else
((M.value_ValidType N a0.2.1 a1).bind fun y2 =>
(if (!y2) = true then
some true
else
(M.value_ValidType N a0.2.2.1 a1).bind fun y3 =>
some (!y3)) : Option (Bool)).bind fun j1 =>
(if j1 = true then
some ((-1 : Int), (8 : Int))
else
(M.value_Bounds N a0.2.1 a1).bind fun y4 =>
(M.value_Bounds N a0.2.2.1 a1).bind fun y5 =>
Loop (S := Int) (X := Int × Int) (fun s6 =>
(if (decide (s6 < (a0.2.2.2.length : Int))) = true then
(idx a0.2.2.2 s6).bind fun x7 =>
((M.daterange_Valid N x7.1).bind fun y9 =>
(if (!y9) = true then
some true
else
(if (decide (x7.1.1 = x7.1.2)) = true then
some true
else
some (decide (x7.2.2.1 ≤ x7.2.1)))) : Option (Bool)).bind fun j8 =>
(if j8 = true then
some (Sum.inr (s6, (3 : Int)))
else
((if (decide (x7.2.1 < y4.1)) = true then
some true
else
(if (decide (y4.2 < x7.2.1)) = true then
some true
else
(if (decide ((IntKind.i64.wrap (x7.2.2.1 - (1 : Int))) < y4.1)) = true then
some true
else
some (decide (y4.2 < (IntKind.i64.wrap (x7.2.2.1 - (1 : Int)))))))) : Option (Bool)).bind fun j10 =>
(if j10 = true then
some (Sum.inr (s6, (3 : Int)))
else
((if (decide (x7.2.2.2 < y5.1)) = true then
some true
else
some (decide (y5.2 < x7.2.2.2))) : Option (Bool)).bind fun j11 =>
(if j11 = true then
some (Sum.inr (s6, (3 : Int)))
else
(cutA a0.2.2.2 (0 : Int) s6).bind fun l12 =>
(M.table_first_guerdon_api_Row_v1 N l12 x7).bind fun y13 =>
(if y13.2.1 = true then
some (Sum.inr (s6, (11 : Int)))
else
some (Sum.inl (IntKind.i64.wrap (s6 + (1 : Int))))))))
else
some (Sum.inr ((0 : Int), (0 : Int))))) N (0 : Int)))
noncomputable def S58 (N : Nat) : Sig := { inn := ⟨[(0, .val true (.leaf rTable)), (1, .val false (.leaf (.slice rEnum)))], [], [], 0⟩, out := ⟨[(0, .val false (.leaf rInt)), (1, .val false (.leaf rInt))], [], [], 0⟩, fn := fun (x : rTable.den × List rEnum.den) => M.table_Validate N x.1 x.2 }
theorem W58 (N : Nat) : FnOK Tryz.prog 58 (S58 N) := fn_ok (E := ⟨tabs, [(25, S25 N), (40, S40 N), (55, S55 N), (68, S68v1 N)], (tabcons (W25 N) (tabcons (W40 N) (tabcons (W55 N) (tabcons (W68v1 N) tabnil)))), mixed, false, false⟩) (N := N) (a := (.two .nil (.two .nil (.two (.meet ⟨[(29, .val false (.leaf .bool))], [], [], 112⟩ .nil .nil) (.two .nil (.two .nil (.two (.two .nil (.two (.loop ⟨[(47, .val false (.leaf rInt))], [], [], 464⟩ (.two .nil (.two .nil (.two (.two (.two .nil (.two (.meet ⟨[(71, .val false (.leaf .bool))], [], [], 576⟩ .nil .nil) (.two (.meet ⟨[(96, .val false (.leaf .bool))], [], [], 576⟩ .nil .nil) (.two (.meet ⟨[(107, .val false (.leaf .bool))], [], [], 576⟩ .nil .nil) .nil)))) .nil) .nil)))) .nil)) .nil))))))) (sg := S58 N) (c := Tryz.f58.body.getD .skip) (rs := Tryz.f58.results.toList) Tryz.func58 (by kernel_rfl) (by kernel_rfl) rfl rfl rfl rfl (fun x => by kernel_rfl)
noncomputable def M.law_hasTable_c1_v1 (N : Nat) (a0 : rTable.den) (a1 : ByteArray) : Option (Bool × ByteArray) :=
some (decide (a0.1 = a1), a1)
noncomputable def S77v1 (N : Nat) : Sig := { inn := ⟨[(0, .val true (.leaf rTable)), (1, .ptr 0 [] 0)], [(0, .box 9 (.leaf .str))], [], 1⟩, out := ⟨[(0, .val false (.leaf .bool))], [(0, .box 9 (.leaf .str))], [], 2⟩, fn := fun (x : rTable.den × ByteArray) => M.law_hasTable_c1_v1 N x.1 x.2 }
theorem W77v1 (N : Nat) : FnOK Tryz.prog 77 (S77v1 N) := fn_ok (E := ⟨tabs, [], tabnil, mixed, false, false⟩) (N := N) (a := .nil) (sg := S77v1 N) (c := Tryz.f77.body.getD .skip) (rs := Tryz.f77.results.toList) Tryz.func77 (by kernel_rfl) (by kernel_rfl) rfl rfl rfl rfl (fun x => by kernel_rfl)
noncomputable def M.slices_IndexFunc_guerdon_api_Table_guerdon_api_Table_v1 (N : Nat) (a0 : List rTable.den) (a1 : ByteArray) : Option (Int × ByteArray) :=
Loop (S := Int × ByteArray) (X := Int × ByteArray) (fun s1 =>
(if (decide (s1.1 < (a0.length : Int))) = true then
(idx a0 s1.1).bind fun x2 =>
(M.law_hasTable_c1_v1 N x2 s1.2).bind fun y3 =>
(if y3.1 = true then
some (Sum.inr (s1.1, y3.2))
else
some (Sum.inl (IntKind.i64.wrap (s1.1 + (1 : Int)), y3.2)))
else
some (Sum.inr ((-1 : Int), s1.2)))) N ((0 : Int), a1)
noncomputable def S95v1 (N : Nat) : Sig := { inn := ⟨[(0, .val false (.leaf (.slice rTable))), (1, .fn 77 [(0, [], 0)])], [(0, .box 9 (.leaf .str))], [], 1⟩, out := ⟨[(0, .val false (.leaf rInt))], [(0, .box 9 (.leaf .str))], [], 2⟩, fn := fun (x : (List rTable.den) × ByteArray) => M.slices_IndexFunc_guerdon_api_Table_guerdon_api_Table_v1 N x.1 x.2 }
theorem W95v1 (N : Nat) : FnOK Tryz.prog 95 (S95v1 N) := fn_ok (E := ⟨tabs, [(77, S77v1 N)], (tabcons (W77v1 N) tabnil), mixed, false, false⟩) (N := N) (a := (.two .nil (.two (.two .nil (.two (.loop ⟨[(8, .val false (.leaf rInt))], [(0, .box 9 (.leaf .str))], [], 66⟩ .nil) .nil)) .nil))) (sg := S95v1 N) (c := Tryz.f95.body.getD .skip) (rs := Tryz.f95.results.toList) Tryz.func95 (by kernel_rfl) (by kernel_rfl) rfl rfl rfl rfl (fun x => by kernel_rfl)
noncomputable def M.slices_ContainsFunc_guerdon_api_Table_guerdon_api_Table_v1 (N : Nat) (a0 : List rTable.den) (a1 : ByteArray) : Option (Bool × ByteArray) :=
(M.slices_IndexFunc_guerdon_api_Table_guerdon_api_Table_v1 N a0 a1).bind fun y1 =>
some (decide ((0 : Int) ≤ y1.1), y1.2)
noncomputable def S76v1 (N : Nat) : Sig := { inn := ⟨[(0, .val false (.leaf (.slice rTable))), (1, .fn 77 [(0, [], 0)])], [(0, .box 9 (.leaf .str))], [], 1⟩, out := ⟨[(0, .val false (.leaf .bool))], [(0, .box 9 (.leaf .str))], [], 2⟩, fn := fun (x : (List rTable.den) × ByteArray) => M.slices_ContainsFunc_guerdon_api_Table_guerdon_api_Table_v1 N x.1 x.2 }
theorem W76v1 (N : Nat) : FnOK Tryz.prog 76 (S76v1 N) := fn_ok (E := ⟨tabs, [(95, S95v1 N)], (tabcons (W95v1 N) tabnil), mixed, false, false⟩) (N := N) (a := .nil) (sg := S76v1 N) (c := Tryz.f76.body.getD .skip) (rs := Tryz.f76.results.toList) Tryz.func76 (by kernel_rfl) (by kernel_rfl) rfl rfl rfl rfl (fun x => by kernel_rfl)
noncomputable def M.law_hasTable (N : Nat) (a0 : List rTable.den) (a1 : ByteArray) : Option (Bool) :=
(M.slices_ContainsFunc_guerdon_api_Table_guerdon_api_Table_v1 N a0 a1).bind fun y1 =>
some y1.1
noncomputable def S61 (N : Nat) : Sig := { inn := ⟨[(0, .val false (.leaf (.slice rTable))), (1, .val false (.leaf .str))], [], [], 0⟩, out := ⟨[(0, .val false (.leaf .bool))], [], [], 0⟩, fn := fun (x : (List rTable.den) × ByteArray) => M.law_hasTable N x.1 x.2 }
theorem W61 (N : Nat) : FnOK Tryz.prog 61 (S61 N) := fn_ok (E := ⟨tabs, [(76, S76v1 N)], (tabcons (W76v1 N) tabnil), mixed, false, false⟩) (N := N) (a := .nil) (sg := S61 N) (c := Tryz.f61.body.getD .skip) (rs := Tryz.f61.results.toList) Tryz.func61 (by kernel_rfl) (by kernel_rfl) rfl rfl rfl rfl (fun x => by kernel_rfl)
noncomputable def M.law_checkTables (N : Nat) (a0 : rLaw.den) : Option (rLawError.den) :=
(if (decide ((8 : Int) < (a0.2.1.length : Int))) = true then
some ((4 : Int), ((2 : Int), ((8 : Int), (0 : Int))))
else
Join (J := Unit) (R := rLawError.den) (Loop (S := Int) (X := (Unit) ⊕ (rLawError.den)) (fun s2 =>
(if (decide (s2 < (a0.2.1.length : Int))) = true then
(idx a0.2.1 s2).bind fun x3 =>
(M.table_Validate N x3 a0.1).bind fun y4 =>
((M.lexer_IsIdentifier N x3.1).bind fun y6 =>
(if (!y6) = true then
some ((2 : Int), ((2 : Int), (s2, (0 : Int))))
else
((M.law_hasEnum N a0.1 x3.1).bind fun y8 =>
(if y8 = true then
some true
else
(cutA a0.2.1 (0 : Int) s2).bind fun l9 =>
(M.law_hasTable N l9 x3.1).bind fun y10 =>
some y10) : Option (Bool)).bind fun j7 =>
(if j7 = true then
some ((7 : Int), ((2 : Int), (s2, (0 : Int))))
else
(if (!decide (y4.2 = (0 : Int))) = true then
(if (!decide (y4.1 = (-1 : Int))) = true then
some (y4.2, ((2 : Int), (s2, IntKind.i64.wrap ((100 : Int) + y4.1))))
else
some (y4.2, ((2 : Int), (s2, (0 : Int)))))
else
some ((0 : Int), ((2 : Int), (s2, (0 : Int))))))) : Option (rLawError.den)).bind fun j5 =>
(if (!decide (j5.1 = (0 : Int))) = true then
some (Sum.inr (Sum.inr j5))
else
some (Sum.inl (IntKind.i64.wrap (s2 + (1 : Int)))))
else
some (Sum.inr (Sum.inl ())))) N (0 : Int)) fun j1 =>
some ((0 : Int), ((0 : Int), ((0 : Int), (0 : Int)))))
noncomputable def S48 (N : Nat) : Sig := { inn := ⟨[(0, .val true (.leaf rLaw))], [], [], 0⟩, out := ⟨[(0, .val true (.leaf rLawError))], [], [], 0⟩, fn := fun (x : rLaw.den) => M.law_checkTables N x }
theorem W48 (N : Nat) : FnOK Tryz.prog 48 (S48 N) := fn_ok (E := ⟨tabs, [(58, S58 N), (59, S59 N), (60, S60 N), (61, S61 N)], (tabcons (W58 N) (tabcons (W59 N) (tabcons (W60 N) (tabcons (W61 N) tabnil)))), mixed, false, false⟩) (N := N) (a := (.two .nil (.two .nil (.join ⟨[], [], [], 96⟩ (.two .nil (.two (.loop ⟨[(16, .val false (.leaf rInt))], [], [], 160⟩ (.two .nil (.two .nil (.two (.two (.two .nil (.two .nil (.two .nil (.two (.meet ⟨[], [(304, .box 87 (.leaf rLawError))], [], 481⟩ (.two .nil (.two .nil (.meet ⟨[(36, .val false (.leaf .bool))], [], [], 560⟩ .nil .nil))) .nil) .nil)))) .nil) .nil)))) .nil)) .nil)))) (sg := S48 N) (c := Tryz.f48.body.getD .skip) (rs := Tryz.f48.results.toList) Tryz.func48 (by kernel_rfl) (by kernel_rfl) rfl rfl rfl rfl (fun x => by kernel_rfl)
noncomputable def M.law_checkField_c1_v1 (N : Nat) (a0 : rField.den) (a1 : rField.den) : Option (Bool × rField.den) :=
some (decide (a0.1 = a1.1), a1)
noncomputable def S97v1 (N : Nat) : Sig := { inn := ⟨[(0, .val true (.leaf rField)), (1, .ptr 0 [] 0)], [(0, .box 80 (.leaf rField))], [], 1⟩, out := ⟨[(0, .val false (.leaf .bool))], [(0, .box 80 (.leaf rField))], [], 2⟩, fn := fun (x : rField.den × rField.den) => M.law_checkField_c1_v1 N x.1 x.2 }
theorem W97v1 (N : Nat) : FnOK Tryz.prog 97 (S97v1 N) := fn_ok (E := ⟨tabs, [], tabnil, mixed, false, false⟩) (N := N) (a := .nil) (sg := S97v1 N) (c := Tryz.f97.body.getD .skip) (rs := Tryz.f97.results.toList) Tryz.func97 (by kernel_rfl) (by kernel_rfl) rfl rfl rfl rfl (fun x => by kernel_rfl)
noncomputable def M.slices_IndexFunc_guerdon_api_Field_guerdon_api_Field_v1 (N : Nat) (a0 : List rField.den) (a1 : rField.den) : Option (Int × rField.den) :=
Loop (S := Int × rField.den) (X := Int × rField.den) (fun s1 =>
(if (decide (s1.1 < (a0.length : Int))) = true then
(idx a0 s1.1).bind fun x2 =>
(M.law_checkField_c1_v1 N x2 s1.2).bind fun y3 =>
(if y3.1 = true then
some (Sum.inr (s1.1, y3.2))
else
some (Sum.inl (IntKind.i64.wrap (s1.1 + (1 : Int)), y3.2)))
else
some (Sum.inr ((-1 : Int), s1.2)))) N ((0 : Int), a1)
noncomputable def S119v1 (N : Nat) : Sig := { inn := ⟨[(0, .val false (.leaf (.slice rField))), (1, .fn 97 [(0, [], 0)])], [(0, .box 80 (.leaf rField))], [], 1⟩, out := ⟨[(0, .val false (.leaf rInt))], [(0, .box 80 (.leaf rField))], [], 2⟩, fn := fun (x : (List rField.den) × rField.den) => M.slices_IndexFunc_guerdon_api_Field_guerdon_api_Field_v1 N x.1 x.2 }
theorem W119v1 (N : Nat) : FnOK Tryz.prog 119 (S119v1 N) := fn_ok (E := ⟨tabs, [(97, S97v1 N)], (tabcons (W97v1 N) tabnil), mixed, false, false⟩) (N := N) (a := (.two .nil (.two (.two .nil (.two (.loop ⟨[(8, .val false (.leaf rInt))], [(0, .box 80 (.leaf rField))], [], 66⟩ .nil) .nil)) .nil))) (sg := S119v1 N) (c := Tryz.f119.body.getD .skip) (rs := Tryz.f119.results.toList) Tryz.func119 (by kernel_rfl) (by kernel_rfl) rfl rfl rfl rfl (fun x => by kernel_rfl)
noncomputable def M.slices_ContainsFunc_guerdon_api_Field_guerdon_api_Field_v1 (N : Nat) (a0 : List rField.den) (a1 : rField.den) : Option (Bool × rField.den) :=
(M.slices_IndexFunc_guerdon_api_Field_guerdon_api_Field_v1 N a0 a1).bind fun y1 =>
some (decide ((0 : Int) ≤ y1.1), y1.2)
noncomputable def S98v1 (N : Nat) : Sig := { inn := ⟨[(0, .val false (.leaf (.slice rField))), (1, .fn 97 [(0, [], 0)])], [(0, .box 80 (.leaf rField))], [], 1⟩, out := ⟨[(0, .val false (.leaf .bool))], [(0, .box 80 (.leaf rField))], [], 2⟩, fn := fun (x : (List rField.den) × rField.den) => M.slices_ContainsFunc_guerdon_api_Field_guerdon_api_Field_v1 N x.1 x.2 }
theorem W98v1 (N : Nat) : FnOK Tryz.prog 98 (S98v1 N) := fn_ok (E := ⟨tabs, [(119, S119v1 N)], (tabcons (W119v1 N) tabnil), mixed, false, false⟩) (N := N) (a := .nil) (sg := S98v1 N) (c := Tryz.f98.body.getD .skip) (rs := Tryz.f98.results.toList) Tryz.func98 (by kernel_rfl) (by kernel_rfl) rfl rfl rfl rfl (fun x => by kernel_rfl)
noncomputable def M.law_checkField (N : Nat) (a0 : rLaw.den) (a1 : rField.den) (a2 : List rField.den) (a3 : List rField.den) : Option (Int) :=
(M.lexer_IsIdentifier N a1.1).bind fun y1 =>
(if (!y1) = true then
some (2 : Int)
else
((M.slices_ContainsFunc_guerdon_api_Field_guerdon_api_Field_v1 N a2 a1).bind fun y3 =>
(if y3.1 = true then
some (true, y3.2)
else
(M.slices_ContainsFunc_guerdon_api_Field_guerdon_api_Field_v1 N a3 y3.2).bind fun y4 =>
some (y4.1, y4.2)) : Option (Bool × rField.den)).bind fun j2 =>
(if j2.1 = true then
some (7 : Int)
else
(M.value_ValidType N j2.2.2 a0.1).bind fun y5 =>
(if (!y5) = true then
some (8 : Int)
else
some (0 : Int))))
noncomputable def S80 (N : Nat) : Sig := { inn := ⟨[(0, .val true (.leaf rLaw)), (1, .val true (.leaf rField)), (2, .val false (.leaf (.slice rField))), (3, .val false (.leaf (.slice rField)))], [], [], 0⟩, out := ⟨[(0, .val false (.leaf rInt))], [], [], 0⟩, fn := fun (x : rLaw.den × rField.den × (List rField.den) × List rField.den) => M.law_checkField N x.1 x.2.1 x.2.2.1 x.2.2.2 }
theorem W80 (N : Nat) : FnOK Tryz.prog 80 (S80 N) := fn_ok (E := ⟨tabs, [(40, S40 N), (59, S59 N), (98, S98v1 N)], (tabcons (W40 N) (tabcons (W59 N) (tabcons (W98v1 N) tabnil))), mixed, false, false⟩) (N := N) (a := (.two .nil (.two .nil (.two (.two (.two .nil (.two .nil (.meet ⟨[(16, .val false (.leaf .bool))], [(16, .box 80 (.leaf rField))], [], 161⟩ .nil .nil))) .nil) .nil)))) (sg := S80 N) (c := Tryz.f80.body.getD .skip) (rs := Tryz.f80.results.toList) Tryz.func80 (by kernel_rfl) (by kernel_rfl) rfl rfl rfl rfl (fun x => by kernel_rfl)
noncomputable def M.law_fieldTypes (N : Nat) (a0 : List rField.den) : Option (List rType.den) :=
Loop (S := Int × List rType.den) (X := List rType.den) (fun s1 =>
(if (decide (s1.1 < (a0.length : Int))) = true then
(idx a0 s1.1).bind fun x2 =>
(appA s1.2 ([x2.2] : List rType.den)).bind fun l3 =>
some (Sum.inl (IntKind.i64.wrap (s1.1 + (1 : Int)), l3))
else
some (Sum.inr s1.2))) N ((0 : Int), ([] : List rType.den))
noncomputable def S99 (N : Nat) : Sig := { inn := ⟨[(0, .val false (.leaf (.slice rField)))], [], [], 0⟩, out := ⟨[(0, .val false (.own 0))], [(0, .own 63 rType)], [], 1⟩, fn := fun (x : List rField.den) => M.law_fieldTypes N x }
theorem W99 (N : Nat) : FnOK Tryz.prog 99 (S99 N) := fn_ok (E := ⟨tabs, [], tabnil, mixed, false, false⟩) (N := N) (a := (.two .nil (.two .nil (.two (.two .nil (.two (.loop ⟨[(3, .val false (.own 80)), (8, .val false (.leaf rInt))], [(80, .own 63 rType)], [], 81⟩ .nil) .nil)) .nil)))) (sg := S99 N) (c := Tryz.f99.body.getD .skip) (rs := Tryz.f99.results.toList) Tryz.func99 (by kernel_rfl) (by kernel_rfl) rfl rfl rfl rfl (fun x => by kernel_rfl)
noncomputable def M.law_sharedSignature (N : Nat) (a0 : rLaw.den) (a1 : Int) : Option ((List rEnum.den) × (List rTable.den) × Bool × (List rType.den) × (List rType.den) × List rType.den) :=
(idx a0.2.2 a1).bind fun x1 =>
(M.law_fieldTypes N x1.2.2.1).bind fun y2 =>
(M.law_fieldTypes N x1.2.2.2.1).bind fun y3 =>
(((if (decide ((0 : Int) ≤ x1.2.1)) = true then
some (decide (x1.2.1 < (a0.2.2.length : Int)))
else
some false) : Option (Bool)).bind fun j5 =>
(if j5 = true then
(idx a0.2.2 x1.2.1).bind fun x6 =>
(M.law_fieldTypes N x6.2.2.2.1).bind fun y7 =>
some (y2, y3, a0.1, a0.2.1, true, y7)
else
some (y2, y3, a0.1, a0.2.1, false, ([] : List rType.den))) : Option ((List rType.den) × (List rType.den) × (List rEnum.den) × (List rTable.den) × Bool × List rType.den)).bind fun j4 =>
some (j4.2.2.1, j4.2.2.2.1, j4.2.2.2.2.1, j4.1, j4.2.1, j4.2.2.2.2.2)
noncomputable def S81 (N : Nat) : Sig := { inn := ⟨[(0, .val true (.leaf rLaw)), (1, .val false (.leaf rInt))], [], [], 0⟩, out := ⟨[(0, .val true (.pair (.leaf (.slice rEnum)) (.pair (.leaf (.slice rTable)) (.pair (.own 0) (.pair (.own 1) (.pair (.own 2) (.leaf .bool)))))))], [(0, .own 63 rType), (1, .own 63 rType), (2, .own 63 rType)], [], 3⟩, fn := fun (x : rLaw.den × Int) => M.law_sharedSignature N x.1 x.2 }
theorem W81 (N : Nat) : FnOK Tryz.prog 81 (S81 N) := fn_ok (E := ⟨tabs, [(99, S99 N)], (tabcons (W99 N) tabnil), mixed, false, false⟩) (N := N) (a := (.two .nil (.two .nil (.two .nil (.meet ⟨[], [(240, .own 63 rType), (288, .own 63 rType), (320, .box 133 (.pair (.leaf (.slice rEnum)) (.pair (.leaf (.slice rTable)) (.pair (.own 240) (.pair (.own 288) (.pair (.own 352) (.leaf .bool))))))), (352, .own 63 rType)], [], 356⟩ (.meet ⟨[(33, .val false (.leaf .bool))], [], [], 352⟩ .nil .nil) .nil))))) (sg := S81 N) (c := Tryz.f81.body.getD .skip) (rs := Tryz.f81.results.toList) Tryz.func81 (by kernel_rfl) (by kernel_rfl) rfl rfl rfl rfl (fun x => by kernel_rfl)
noncomputable def M.strings_Contains (N : Nat) (a0 : ByteArray) (a1 : ByteArray) : Option (Bool) := containsM (a0, a1)
noncomputable def S121 (N : Nat) : Sig := { inn := ⟨[(0, .val false (.leaf .str)), (1, .val false (.leaf .str))], [], [], 0⟩, out := ⟨[(0, .val false (.leaf .bool))], [], [], 0⟩, fn := fun (x : ByteArray × ByteArray) => M.strings_Contains N x.1 x.2 }
theorem W121 (N : Nat) : FnOK Tryz.prog 121 (S121 N) := contains_fn ⟨_, Tryz.func121, by kernel_rfl, by kernel_rfl⟩ Tryz.strings_Contains_one
noncomputable def M.law_validSource (N : Nat) (a0 : ByteArray) : Option (Bool) :=
((if (decide ((64 : Int) < (a0.size : Int))) = true then
some true
else
(M.strings_Contains N a0 (⟨#[34]⟩ : ByteArray)).bind fun y2 =>
some y2) : Option (Bool)).bind fun j1 =>
(if j1 = true then
some false
else
Loop (S := Int) (X := Bool) (fun s3 =>
(if (decide (s3 < (a0.size : Int))) = true then
((byteA a0 s3).bind fun x5 =>
(if (decide (x5 < (32 : Int))) = true then
some true
else
(byteA a0 s3).bind fun x6 =>
some (decide ((126 : Int) < x6))) : Option (Bool)).bind fun j4 =>
(if j4 = true then
some (Sum.inr false)
else
some (Sum.inl (IntKind.i64.wrap (s3 + (1 : Int)))))
else
some (Sum.inr true))) N (0 : Int))
noncomputable def S102 (N : Nat) : Sig := { inn := ⟨[(0, .val false (.leaf .str))], [], [], 0⟩, out := ⟨[(0, .val false (.leaf .bool))], [], [], 0⟩, fn := fun (x : ByteArray) => M.law_validSource N x }
theorem W102 (N : Nat) : FnOK Tryz.prog 102 (S102 N) := fn_ok (E := ⟨tabs, [(121, S121 N)], (tabcons (W121 N) tabnil), mixed, false, false⟩) (N := N) (a := (.two .nil (.two (.meet ⟨[(10, .val false (.leaf .bool))], [], [], 16⟩ .nil .nil) (.two (.two .nil (.two (.loop ⟨[(13, .val false (.leaf rInt))], [], [], 64⟩ (.two .nil (.two .nil (.two (.two (.two .nil (.meet ⟨[(25, .val false (.leaf .bool))], [], [], 112⟩ .nil .nil)) .nil) .nil)))) .nil)) .nil)))) (sg := S102 N) (c := Tryz.f102.body.getD .skip) (rs := Tryz.f102.results.toList) Tryz.func102 (by kernel_rfl) (by kernel_rfl) rfl rfl rfl rfl (fun x => by kernel_rfl)
noncomputable def M.expr_Arity (N : Nat) (a0 : Int) : Option (Int) :=
((if (decide (a0 = (1 : Int))) = true then
some (decide (a0 = (1 : Int)))
else
(if (decide (a0 = (2 : Int))) = true then
some (decide (a0 = (2 : Int)))
else
(if (decide (a0 = (3 : Int))) = true then
some (decide (a0 = (3 : Int)))
else
(if (decide (a0 = (4 : Int))) = true then
some (decide (a0 = (4 : Int)))
else
(if (decide (a0 = (5 : Int))) = true then
some (decide (a0 = (5 : Int)))
else
(if (decide (a0 = (6 : Int))) = true then
some (decide (a0 = (6 : Int)))
else
(if (decide (a0 = (7 : Int))) = true then
some (decide (a0 = (7 : Int)))
else
(if (decide (a0 = (8 : Int))) = true then
some (decide (a0 = (8 : Int)))
else
(if (decide (a0 = (9 : Int))) = true then
some (decide (a0 = (9 : Int)))
else
(if (decide (a0 = (35 : Int))) = true then
some (decide (a0 = (35 : Int)))
else
(if (decide (a0 = (36 : Int))) = true then
some (decide (a0 = (36 : Int)))
else
(if (decide (a0 = (37 : Int))) = true then
some (decide (a0 = (37 : Int)))
else
(if (decide (a0 = (38 : Int))) = true then
some (decide (a0 = (38 : Int)))
else
some (decide (a0 = (39 : Int)))))))))))))))) : Option (Bool)).bind fun j1 =>
(if j1 = true then
some (0 : Int)
else
((if (decide (a0 = (10 : Int))) = true then
some (decide (a0 = (10 : Int)))
else
(if (decide (a0 = (25 : Int))) = true then
some (decide (a0 = (25 : Int)))
else
(if (decide (a0 = (31 : Int))) = true then
some (decide (a0 = (31 : Int)))
else
(if (decide (a0 = (32 : Int))) = true then
some (decide (a0 = (32 : Int)))
else
(if (decide (a0 = (33 : Int))) = true then
some (decide (a0 = (33 : Int)))
else
some (decide (a0 = (34 : Int)))))))) : Option (Bool)).bind fun j2 =>
(if j2 = true then
some (1 : Int)
else
((if (decide (a0 = (11 : Int))) = true then
some (decide (a0 = (11 : Int)))
else
(if (decide (a0 = (12 : Int))) = true then
some (decide (a0 = (12 : Int)))
else
(if (decide (a0 = (13 : Int))) = true then
some (decide (a0 = (13 : Int)))
else
(if (decide (a0 = (14 : Int))) = true then
some (decide (a0 = (14 : Int)))
else
(if (decide (a0 = (15 : Int))) = true then
some (decide (a0 = (15 : Int)))
else
(if (decide (a0 = (16 : Int))) = true then
some (decide (a0 = (16 : Int)))
else
(if (decide (a0 = (17 : Int))) = true then
some (decide (a0 = (17 : Int)))
else
(if (decide (a0 = (18 : Int))) = true then
some (decide (a0 = (18 : Int)))
else
(if (decide (a0 = (19 : Int))) = true then
some (decide (a0 = (19 : Int)))
else
(if (decide (a0 = (20 : Int))) = true then
some (decide (a0 = (20 : Int)))
else
(if (decide (a0 = (21 : Int))) = true then
some (decide (a0 = (21 : Int)))
else
(if (decide (a0 = (22 : Int))) = true then
some (decide (a0 = (22 : Int)))
else
(if (decide (a0 = (23 : Int))) = true then
some (decide (a0 = (23 : Int)))
else
(if (decide (a0 = (24 : Int))) = true then
some (decide (a0 = (24 : Int)))
else
(if (decide (a0 = (27 : Int))) = true then
some (decide (a0 = (27 : Int)))
else
(if (decide (a0 = (28 : Int))) = true then
some (decide (a0 = (28 : Int)))
else
(if (decide (a0 = (29 : Int))) = true then
some (decide (a0 = (29 : Int)))
else
some (decide (a0 = (30 : Int)))))))))))))))))))) : Option (Bool)).bind fun j3 =>
(if j3 = true then
some (2 : Int)
else
(if (decide (a0 = (26 : Int))) = true then
some (3 : Int)
else
some (-1 : Int)))))
noncomputable def S134 (N : Nat) : Sig := { inn := ⟨[(0, .val false (.leaf rInt))], [], [], 0⟩, out := ⟨[(0, .val false (.leaf rInt))], [], [], 0⟩, fn := fun (x : Int) => M.expr_Arity N x }
theorem W134 (N : Nat) : FnOK Tryz.prog 134 (S134 N) := fn_ok (E := ⟨tabs, [], tabnil, mixed, false, false⟩) (N := N) (a := (.two .nil (.two (.two .nil (.two (.meet ⟨[(4, .val false (.leaf .bool))], [], [], 32⟩ .nil (.two .nil (.meet ⟨[(19, .val false (.leaf .bool))], [], [], 32⟩ .nil (.two .nil (.meet ⟨[(26, .val false (.leaf .bool))], [], [], 32⟩ .nil .nil))))) .nil)) .nil))) (sg := S134 N) (c := Tryz.f134.body.getD .skip) (rs := Tryz.f134.results.toList) Tryz.func134 (by kernel_rfl) (by kernel_rfl) rfl rfl rfl rfl (fun x => by kernel_rfl)
noncomputable def M.expr_structure (N : Nat) (a0 : List rType.den) : Option (Int × Int × List Int) :=
(if (decide ((48 : Int) < (a0.length : Int))) = true then
some ((0 : Int), (4 : Int), ([] : List Int))
else
(if (decide ((a0.length : Int) = (0 : Int))) = true then
some ((0 : Int), (5 : Int), ([] : List Int))
else
(mkL (a0.length : Int) (0 : Int)).bind fun l1 =>
Join (J := (List Int) × List Int) (R := Int × Int × List Int) (Loop (S := Int × (List Int) × List Int) (X := ((List Int) × List Int) ⊕ (Int × Int × List Int)) (fun s3 =>
(if (decide (s3.1 < (a0.length : Int))) = true then
(idx a0 s3.1).bind fun x4 =>
(M.expr_Arity N x4.1).bind fun y5 =>
(if (decide (y5 < (0 : Int))) = true then
some (Sum.inr (Sum.inr (s3.1, (2 : Int), ([] : List Int))))
else
(if (decide ((s3.2.2.length : Int) < y5)) = true then
some (Sum.inr (Sum.inr (s3.1, (5 : Int), ([] : List Int))))
else
(idx s3.2.1 s3.1).bind fun x6 =>
((if (decide ((0 : Int) < y5)) = true then
(idx s3.2.2 (IntKind.i64.wrap ((s3.2.2.length : Int) - y5))).bind fun x8 =>
(idx (setL s3.2.1 s3.1 s3.1) s3.1).bind fun x9 =>
some (setL (setL s3.2.1 s3.1 s3.1) s3.1 x8)
else
some (setL s3.2.1 s3.1 s3.1)) : Option (List Int)).bind fun j7 =>
(cutA s3.2.2 (0 : Int) (IntKind.i64.wrap ((s3.2.2.length : Int) - y5))).bind fun l10 =>
(idx j7 s3.1).bind fun x11 =>
(appA l10 ([x11] : List Int)).bind fun l12 =>
(if (decide ((12 : Int) < (l12.length : Int))) = true then
some (Sum.inr (Sum.inr (s3.1, (16 : Int), ([] : List Int))))
else
some (Sum.inl (IntKind.i64.wrap (s3.1 + (1 : Int)), j7, l12)))))
else
some (Sum.inr (Sum.inl (s3.2.1, s3.2.2))))) N ((0 : Int), l1, ([] : List Int))) fun j2 =>
(if (decide ((1 : Int) < (j2.2.length : Int))) = true then
some ((a0.length : Int), (4 : Int), ([] : List Int))
else
some ((0 : Int), (0 : Int), j2.1))))
noncomputable def S132 (N : Nat) : Sig := { inn := ⟨[(0, .val false (.leaf (.slice rType)))], [], [], 0⟩, out := ⟨[(0, .val false (.own 0)), (1, .val false (.leaf rInt)), (2, .val false (.leaf rInt))], [(0, .own 3 rInt)], [], 1⟩, fn := fun (x : List rType.den) => M.expr_structure N x }
theorem W132 (N : Nat) : FnOK Tryz.prog 132 (S132 N) := fn_ok (E := ⟨tabs, [(134, S134 N)], (tabcons (W134 N) tabnil), mixed, false, false⟩) (N := N) (a := (.two .nil (.two .nil (.two .nil (.two .nil (.two .nil (.join ⟨[(6, .val false (.own 224))], [(176, .own 3 rInt), (224, .own 3 rInt)], [], 226⟩ (.two .nil (.two (.loop ⟨[(6, .val false (.own 272)), (21, .val false (.leaf rInt))], [(176, .own 3 rInt), (272, .own 3 rInt)], [], 274⟩ (.two .nil (.two .nil (.two (.two (.two .nil (.two .nil (.two .nil (.two .nil (.two .nil (.meet ⟨[], [(176, .own 3 rInt)], [], 627⟩ .nil .nil)))))) .nil) .nil)))) .nil)) .nil))))))) (sg := S132 N) (c := Tryz.f132.body.getD .skip) (rs := Tryz.f132.results.toList) Tryz.func132 (by kernel_rfl) (by kernel_rfl) rfl rfl rfl rfl (fun x => by kernel_rfl)
noncomputable def M.expr_UsesN (N : Nat) (a0 : Int) : Option (Bool) :=
((if (decide (a0 = (1 : Int))) = true then
some (decide (a0 = (1 : Int)))
else
(if (decide (a0 = (2 : Int))) = true then
some (decide (a0 = (2 : Int)))
else
(if (decide (a0 = (3 : Int))) = true then
some (decide (a0 = (3 : Int)))
else
(if (decide (a0 = (4 : Int))) = true then
some (decide (a0 = (4 : Int)))
else
(if (decide (a0 = (5 : Int))) = true then
some (decide (a0 = (5 : Int)))
else
(if (decide (a0 = (6 : Int))) = true then
some (decide (a0 = (6 : Int)))
else
(if (decide (a0 = (7 : Int))) = true then
some (decide (a0 = (7 : Int)))
else
(if (decide (a0 = (8 : Int))) = true then
some (decide (a0 = (8 : Int)))
else
(if (decide (a0 = (14 : Int))) = true then
some (decide (a0 = (14 : Int)))
else
(if (decide (a0 = (15 : Int))) = true then
some (decide (a0 = (15 : Int)))
else
(if (decide (a0 = (16 : Int))) = true then
some (decide (a0 = (16 : Int)))
else
(if (decide (a0 = (33 : Int))) = true then
some (decide (a0 = (33 : Int)))
else
(if (decide (a0 = (34 : Int))) = true then
some (decide (a0 = (34 : Int)))
else
(if (decide (a0 = (36 : Int))) = true then
some (decide (a0 = (36 : Int)))
else
(if (decide (a0 = (37 : Int))) = true then
some (decide (a0 = (37 : Int)))
else
(if (decide (a0 = (38 : Int))) = true then
some (decide (a0 = (38 : Int)))
else
some (decide (a0 = (39 : Int))))))))))))))))))) : Option (Bool)).bind fun j1 =>
(if j1 = true then
some true
else
some false)
noncomputable def S133 (N : Nat) : Sig := { inn := ⟨[(0, .val false (.leaf rInt))], [], [], 0⟩, out := ⟨[(0, .val false (.leaf .bool))], [], [], 0⟩, fn := fun (x : Int) => M.expr_UsesN N x }
theorem W133 (N : Nat) : FnOK Tryz.prog 133 (S133 N) := fn_ok (E := ⟨tabs, [], tabnil, mixed, false, false⟩) (N := N) (a := (.two .nil (.two (.two .nil (.two (.meet ⟨[(4, .val false (.leaf .bool))], [], [], 32⟩ .nil .nil) .nil)) .nil))) (sg := S133 N) (c := Tryz.f133.body.getD .skip) (rs := Tryz.f133.results.toList) Tryz.func133 (by kernel_rfl) (by kernel_rfl) rfl rfl rfl rfl (fun x => by kernel_rfl)
noncomputable def M.expr_literalType (N : Nat) (a0 : Int) (a1 : Int) (a2 : rSignature.den) : Option (rType.den × Int) :=
(M.value_Bounds N (a1, (0 : Int)) a2.1).bind fun y1 =>
((if (decide (a0 < y1.1)) = true then
some true
else
some (decide (y1.2 < a0))) : Option (Bool)).bind fun j2 =>
(if j2 = true then
some (((0 : Int), (0 : Int)), (3 : Int))
else
some ((a1, (0 : Int)), (0 : Int)))
noncomputable def S144 (N : Nat) : Sig := { inn := ⟨[(0, .val false (.leaf rInt)), (1, .val false (.leaf rInt)), (2, .val true (.leaf rSignature))], [], [], 0⟩, out := ⟨[(0, .val true (.leaf rType)), (1, .val false (.leaf rInt))], [], [], 0⟩, fn := fun (x : Int × Int × rSignature.den) => M.expr_literalType N x.1 x.2.1 x.2.2 }
theorem W144 (N : Nat) : FnOK Tryz.prog 144 (S144 N) := fn_ok (E := ⟨tabs, [(25, S25 N)], (tabcons (W25 N) tabnil), mixed, false, false⟩) (N := N) (a := (.two .nil (.two .nil (.two (.two .nil (.meet ⟨[(27, .val false (.leaf .bool))], [], [], 256⟩ .nil .nil)) .nil)))) (sg := S144 N) (c := Tryz.f144.body.getD .skip) (rs := Tryz.f144.results.toList) Tryz.func144 (by kernel_rfl) (by kernel_rfl) rfl rfl rfl rfl (fun x => by kernel_rfl)
noncomputable def M.expr_enumType (N : Nat) (a0 : Int) (a1 : rSignature.den) : Option (rType.den × Int) :=
(if (decide (a0 < (0 : Int))) = true then
some (((0 : Int), (0 : Int)), (3 : Int))
else
((if (decide ((a1.1.length : Int) ≤ (IntKind.i64.wrap (Int.tdiv a0 (16 : Int))))) = true then
some true
else
(idx a1.1 (IntKind.i64.wrap (Int.tdiv a0 (16 : Int)))).bind fun x2 =>
some (decide ((x2.2.length : Int) ≤ (Int.tmod a0 (16 : Int))))) : Option (Bool)).bind fun j1 =>
(if j1 = true then
some (((0 : Int), (0 : Int)), (6 : Int))
else
some (((6 : Int), IntKind.i64.wrap (Int.tdiv a0 (16 : Int))), (0 : Int))))
noncomputable def S145 (N : Nat) : Sig := { inn := ⟨[(0, .val false (.leaf rInt)), (1, .val true (.leaf rSignature))], [], [], 0⟩, out := ⟨[(0, .val true (.leaf rType)), (1, .val false (.leaf rInt))], [], [], 0⟩, fn := fun (x : Int × rSignature.den) => M.expr_enumType N x.1 x.2 }
theorem W145 (N : Nat) : FnOK Tryz.prog 145 (S145 N) := fn_ok (E := ⟨tabs, [], tabnil, mixed, false, false⟩) (N := N) (a := (.two .nil (.two .nil (.two .nil (.two (.meet ⟨[(30, .val false (.leaf .bool))], [], [], 176⟩ .nil .nil) .nil))))) (sg := S145 N) (c := Tryz.f145.body.getD .skip) (rs := Tryz.f145.results.toList) Tryz.func145 (by kernel_rfl) (by kernel_rfl) rfl rfl rfl rfl (fun x => by kernel_rfl)
noncomputable def M.expr_listedType (N : Nat) (a0 : Int) (a1 : List rType.den) (a2 : rSignature.den) : Option (rType.den × Int) :=
((if (decide (a0 < (0 : Int))) = true then
some true
else
some (decide ((a1.length : Int) ≤ a0))) : Option (Bool)).bind fun j1 =>
(if j1 = true then
some (((0 : Int), (0 : Int)), (6 : Int))
else
(idx a1 a0).bind fun x2 =>
(M.value_ValidType N x2 a2.1).bind fun y3 =>
(if (!y3) = true then
some (((0 : Int), (0 : Int)), (8 : Int))
else
(idx a1 a0).bind fun x4 =>
some (x4, (0 : Int))))
noncomputable def S146 (N : Nat) : Sig := { inn := ⟨[(0, .val false (.leaf rInt)), (1, .val false (.leaf (.slice rType))), (2, .val true (.leaf rSignature))], [], [], 0⟩, out := ⟨[(0, .val true (.leaf rType)), (1, .val false (.leaf rInt))], [], [], 0⟩, fn := fun (x : Int × (List rType.den) × rSignature.den) => M.expr_listedType N x.1 x.2.1 x.2.2 }
theorem W146 (N : Nat) : FnOK Tryz.prog 146 (S146 N) := fn_ok (E := ⟨tabs, [(40, S40 N)], (tabcons (W40 N) tabnil), mixed, false, false⟩) (N := N) (a := (.two .nil (.two (.meet ⟨[(15, .val false (.leaf .bool))], [], [], 48⟩ .nil .nil) .nil))) (sg := S146 N) (c := Tryz.f146.body.getD .skip) (rs := Tryz.f146.results.toList) Tryz.func146 (by kernel_rfl) (by kernel_rfl) rfl rfl rfl rfl (fun x => by kernel_rfl)
noncomputable def M.expr_validMode (N : Nat) (a0 : Int) : Option (Bool) :=
((if (decide ((0 : Int) ≤ a0)) = true then
some (decide (a0 ≤ (5 : Int)))
else
some false) : Option (Bool)).bind fun j1 =>
some j1
noncomputable def S149 (N : Nat) : Sig := { inn := ⟨[(0, .val false (.leaf rInt))], [], [], 0⟩, out := ⟨[(0, .val false (.leaf .bool))], [], [], 0⟩, fn := fun (x : Int) => M.expr_validMode N x }
theorem W149 (N : Nat) : FnOK Tryz.prog 149 (S149 N) := fn_ok (E := ⟨tabs, [], tabnil, mixed, false, false⟩) (N := N) (a := (.two .nil (.meet ⟨[(2, .val false (.leaf .bool))], [], [], 16⟩ .nil .nil))) (sg := S149 N) (c := Tryz.f149.body.getD .skip) (rs := Tryz.f149.results.toList) Tryz.func149 (by kernel_rfl) (by kernel_rfl) rfl rfl rfl rfl (fun x => by kernel_rfl)
noncomputable def M.expr_tableType (N : Nat) (a0 : rType.den) (a1 : rType.den) (a2 : rSignature.den) : Option (rType.den × Int) :=
Join (J := Int) (R := rType.den × Int) ((if (decide (a0.1 = (34 : Int))) = true then
((if (decide (a0.2 < (0 : Int))) = true then
some true
else
(M.expr_validMode N (Int.tmod a0.2 (8 : Int))).bind fun y3 =>
some (!y3)) : Option (Bool)).bind fun j2 =>
(if j2 = true then
some (Sum.inr (((0 : Int), (0 : Int)), (3 : Int)))
else
some (Sum.inl (IntKind.i64.wrap (Int.tdiv a0.2 (8 : Int)))))
else
some (Sum.inl a0.2))) fun j1 =>
((if (decide (j1 < (0 : Int))) = true then
some true
else
some (decide ((a2.2.1.length : Int) ≤ j1))) : Option (Bool)).bind fun j4 =>
(if j4 = true then
some (((0 : Int), (0 : Int)), (6 : Int))
else
(idx a2.2.1 j1).bind fun x5 =>
(idx a2.2.1 j1).bind fun x6 =>
((M.value_ValidType N x5.2.1 a2.1).bind fun y8 =>
(if (!y8) = true then
some true
else
(M.value_ValidType N x6.2.2.1 a2.1).bind fun y9 =>
(if (!y9) = true then
some true
else
some (!(eqR rType a1 x5.2.1)))) : Option (Bool)).bind fun j7 =>
(if j7 = true then
some (((0 : Int), (0 : Int)), (8 : Int))
else
(if (decide (a0.1 = (34 : Int))) = true then
((if (!decide (x5.2.1.1 = (3 : Int))) = true then
some true
else
some (!decide (x6.2.2.1.1 = (4 : Int)))) : Option (Bool)).bind fun j10 =>
(if j10 = true then
some (((0 : Int), (0 : Int)), (8 : Int))
else
some (x5.2.1, (0 : Int)))
else
some (x6.2.2.1, (0 : Int)))))
noncomputable def S147 (N : Nat) : Sig := { inn := ⟨[(0, .val true (.leaf rType)), (1, .val true (.leaf rType)), (2, .val true (.leaf rSignature))], [], [], 0⟩, out := ⟨[(0, .val true (.leaf rType)), (1, .val false (.leaf rInt))], [], [], 0⟩, fn := fun (x : rType.den × rType.den × rSignature.den) => M.expr_tableType N x.1 x.2.1 x.2.2 }
theorem W147 (N : Nat) : FnOK Tryz.prog 147 (S147 N) := fn_ok (E := ⟨tabs, [(40, S40 N), (149, S149 N)], (tabcons (W40 N) (tabcons (W149 N) tabnil)), mixed, false, false⟩) (N := N) (a := (.two .nil (.two .nil (.join ⟨[(8, .val false (.leaf rInt))], [], [], 128⟩ (.two .nil (.two (.two (.meet ⟨[(25, .val false (.leaf .bool))], [], [], 176⟩ .nil .nil) .nil) .nil)) (.two (.meet ⟨[(38, .val false (.leaf .bool))], [], [], 128⟩ .nil .nil) (.two .nil (.two (.meet ⟨[(68, .val false (.leaf .bool))], [], [], 384⟩ .nil .nil) (.two (.two .nil (.two (.two (.meet ⟨[(80, .val false (.leaf .bool))], [], [], 432⟩ .nil .nil) .nil) .nil)) .nil)))))))) (sg := S147 N) (c := Tryz.f147.body.getD .skip) (rs := Tryz.f147.results.toList) Tryz.func147 (by kernel_rfl) (by kernel_rfl) rfl rfl rfl rfl (fun x => by kernel_rfl)
noncomputable def M.expr_isNumber (N : Nat) (a0 : Int) : Option (Bool) :=
((if (decide (a0 = (2 : Int))) = true then
some true
else
(if (decide (a0 = (3 : Int))) = true then
some true
else
some (decide (a0 = (4 : Int))))) : Option (Bool)).bind fun j1 =>
some j1
noncomputable def S164 (N : Nat) : Sig := { inn := ⟨[(0, .val false (.leaf rInt))], [], [], 0⟩, out := ⟨[(0, .val false (.leaf .bool))], [], [], 0⟩, fn := fun (x : Int) => M.expr_isNumber N x }
theorem W164 (N : Nat) : FnOK Tryz.prog 164 (S164 N) := fn_ok (E := ⟨tabs, [], tabnil, mixed, false, false⟩) (N := N) (a := (.two .nil (.meet ⟨[(2, .val false (.leaf .bool))], [], [], 16⟩ .nil .nil))) (sg := S164 N) (c := Tryz.f164.body.getD .skip) (rs := Tryz.f164.results.toList) Tryz.func164 (by kernel_rfl) (by kernel_rfl) rfl rfl rfl rfl (fun x => by kernel_rfl)
noncomputable def M.expr_memberType (N : Nat) (a0 : rType.den) (a1 : rSignature.den) : Option (rType.den × Int) :=
(if (!a1.2.2.2.2.2) = true then
some (((0 : Int), (0 : Int)), (6 : Int))
else
(if (decide (a0.1 = (35 : Int))) = true then
some (((2 : Int), (0 : Int)), (0 : Int))
else
(M.expr_listedType N a0.2 a1.2.2.2.2.1 a1).bind fun y1 =>
(if (!decide (y1.2 = (0 : Int))) = true then
some (((0 : Int), (0 : Int)), y1.2)
else
((if (decide (a0.1 = (36 : Int))) = true then
(if (decide (y1.1.1 = (2 : Int))) = true then
some true
else
some (decide (y1.1.1 = (3 : Int))))
else
((if (decide (a0.1 = (37 : Int))) = true then
some (decide (a0.1 = (37 : Int)))
else
some (decide (a0.1 = (38 : Int)))) : Option (Bool)).bind fun j3 =>
(if j3 = true then
some (decide (y1.1.1 = (1 : Int)))
else
(if (decide (a0.1 = (39 : Int))) = true then
(M.expr_isNumber N y1.1.1).bind fun y4 =>
(if y4 = true then
some true
else
some (decide (y1.1.1 = (5 : Int))))
else
some false))) : Option (Bool)).bind fun j2 =>
(if (!j2) = true then
some (((0 : Int), (0 : Int)), (8 : Int))
else
some (y1.1, (0 : Int))))))
noncomputable def S148 (N : Nat) : Sig := { inn := ⟨[(0, .val true (.leaf rType)), (1, .val true (.leaf rSignature))], [], [], 0⟩, out := ⟨[(0, .val true (.leaf rType)), (1, .val false (.leaf rInt))], [], [], 0⟩, fn := fun (x : rType.den × rSignature.den) => M.expr_memberType N x.1 x.2 }
theorem W148 (N : Nat) : FnOK Tryz.prog 148 (S148 N) := fn_ok (E := ⟨tabs, [(146, S146 N), (164, S164 N)], (tabcons (W146 N) (tabcons (W164 N) tabnil)), mixed, false, false⟩) (N := N) (a := (.two .nil (.two .nil (.two .nil (.two .nil (.two .nil (.two .nil (.two (.two .nil (.meet ⟨[(8, .val false (.leaf .bool))], [], [], 432⟩ (.two .nil (.two .nil (.meet ⟨[(42, .val false (.leaf .bool))], [], [], 464⟩ .nil .nil))) .nil)) .nil)))))))) (sg := S148 N) (c := Tryz.f148.body.getD .skip) (rs := Tryz.f148.results.toList) Tryz.func148 (by kernel_rfl) (by kernel_rfl) rfl rfl rfl rfl (fun x => by kernel_rfl)
noncomputable def M.expr_productType (N : Nat) (a0 : Int) (a1 : Int) (a2 : Int) : Option (rType.den × Bool) :=
(if (decide (a0 = (14 : Int))) = true then
((if (decide (a2 = (4 : Int))) = true then
(if (decide (a1 = (3 : Int))) = true then
some (true, (a1, (0 : Int)))
else
some (decide (a1 = (4 : Int)), (a1, (0 : Int))))
else
some (false, (a1, (0 : Int)))) : Option (Bool × rType.den)).bind fun j1 =>
some (j1.2, j1.1)
else
(if (decide (a2 = (2 : Int))) = true then
((if (decide (a1 = (2 : Int))) = true then
some (true, (a1, (0 : Int)))
else
some (decide (a1 = (3 : Int)), (a1, (0 : Int)))) : Option (Bool × rType.den)).bind fun j2 =>
some (j2.2, j2.1)
else
((if (decide (a0 = (15 : Int))) = true then
(if (decide (a1 = (3 : Int))) = true then
some (decide (a2 = (3 : Int)))
else
some false)
else
some false) : Option (Bool)).bind fun j3 =>
(if j3 = true then
some (((4 : Int), (0 : Int)), true)
else
some (((0 : Int), (0 : Int)), false))))
noncomputable def S165 (N : Nat) : Sig := { inn := ⟨[(0, .val false (.leaf rInt)), (1, .val false (.leaf rInt)), (2, .val false (.leaf rInt))], [], [], 0⟩, out := ⟨[(0, .val true (.leaf rType)), (1, .val false (.leaf .bool))], [], [], 0⟩, fn := fun (x : Int × Int × Int) => M.expr_productType N x.1 x.2.1 x.2.2 }
theorem W165 (N : Nat) : FnOK Tryz.prog 165 (S165 N) := fn_ok (E := ⟨tabs, [], tabnil, mixed, false, false⟩) (N := N) (a := (.two .nil (.two (.two (.two .nil (.two (.meet ⟨[(7, .val false (.leaf .bool))], [(0, .box 63 (.leaf rType))], [], 81⟩ .nil .nil) (.two .nil (.two (.meet ⟨[(7, .val false (.leaf .bool))], [(0, .box 63 (.leaf rType))], [], 129⟩ .nil .nil) (.meet ⟨[(34, .val false (.leaf .bool))], [], [], 128⟩ .nil .nil))))) .nil) .nil))) (sg := S165 N) (c := Tryz.f165.body.getD .skip) (rs := Tryz.f165.results.toList) Tryz.func165 (by kernel_rfl) (by kernel_rfl) rfl rfl rfl rfl (fun x => by kernel_rfl)
noncomputable def M.expr_resultType (N : Nat) (a0 : Int) (a1 : List rType.den) : Option (rType.den × Bool) :=
(if (decide (a0 = (10 : Int))) = true then
(idx a1 (0 : Int)).bind fun x1 =>
(idx a1 (0 : Int)).bind fun x2 =>
(M.expr_isNumber N x2.1).bind fun y3 =>
some (x1, y3)
else
(if (decide (a0 = (25 : Int))) = true then
(idx a1 (0 : Int)).bind fun x4 =>
some (((1 : Int), (0 : Int)), decide (x4.1 = (1 : Int)))
else
((if (decide (a0 = (11 : Int))) = true then
some (decide (a0 = (11 : Int)))
else
some (decide (a0 = (12 : Int)))) : Option (Bool)).bind fun j5 =>
(if j5 = true then
((idx a1 (0 : Int)).bind fun x7 =>
(idx a1 (0 : Int)).bind fun x8 =>
(idx a1 (1 : Int)).bind fun x9 =>
(if (eqR rType x8 x9) = true then
(idx a1 (0 : Int)).bind fun x10 =>
(M.expr_isNumber N x10.1).bind fun y11 =>
some (y11, x7)
else
some (false, x7)) : Option (Bool × rType.den)).bind fun j6 =>
some (j6.2, j6.1)
else
((if (decide (a0 = (13 : Int))) = true then
some (decide (a0 = (13 : Int)))
else
(if (decide (a0 = (14 : Int))) = true then
some (decide (a0 = (14 : Int)))
else
some (decide (a0 = (15 : Int))))) : Option (Bool)).bind fun j12 =>
(if j12 = true then
(idx a1 (0 : Int)).bind fun x13 =>
(idx a1 (1 : Int)).bind fun x14 =>
(M.expr_productType N a0 x13.1 x14.1).bind fun y15 =>
some (y15.1, y15.2)
else
(if (decide (a0 = (16 : Int))) = true then
((idx a1 (0 : Int)).bind fun x17 =>
(idx a1 (0 : Int)).bind fun x18 =>
(if (decide (x18.1 = (3 : Int))) = true then
(idx a1 (1 : Int)).bind fun x19 =>
some (decide (x19.1 = (3 : Int)), x17)
else
some (false, x17)) : Option (Bool × rType.den)).bind fun j16 =>
some (j16.2, j16.1)
else
((if (decide (a0 = (17 : Int))) = true then
some (decide (a0 = (17 : Int)))
else
some (decide (a0 = (18 : Int)))) : Option (Bool)).bind fun j20 =>
(if j20 = true then
((idx a1 (0 : Int)).bind fun x22 =>
(idx a1 (0 : Int)).bind fun x23 =>
(idx a1 (1 : Int)).bind fun x24 =>
(if (eqR rType x23 x24) = true then
(idx a1 (0 : Int)).bind fun x25 =>
(M.expr_isNumber N x25.1).bind fun y26 =>
(if y26 = true then
some (true, x22)
else
(idx a1 (0 : Int)).bind fun x27 =>
some (decide (x27.1 = (5 : Int)), x22))
else
some (false, x22)) : Option (Bool × rType.den)).bind fun j21 =>
some (j21.2, j21.1)
else
((if (decide (a0 = (19 : Int))) = true then
some (decide (a0 = (19 : Int)))
else
some (decide (a0 = (20 : Int)))) : Option (Bool)).bind fun j28 =>
(if j28 = true then
(idx a1 (0 : Int)).bind fun x29 =>
(idx a1 (1 : Int)).bind fun x30 =>
some (((1 : Int), (0 : Int)), (eqR rType x29 x30))
else
((if (decide (a0 = (21 : Int))) = true then
some (decide (a0 = (21 : Int)))
else
some (decide (a0 = (22 : Int)))) : Option (Bool)).bind fun j31 =>
(if j31 = true then
((idx a1 (0 : Int)).bind fun x33 =>
(idx a1 (1 : Int)).bind fun x34 =>
(if (eqR rType x33 x34) = true then
(idx a1 (0 : Int)).bind fun x35 =>
(M.expr_isNumber N x35.1).bind fun y36 =>
(if y36 = true then
some (true, ((1 : Int), (0 : Int)))
else
(idx a1 (0 : Int)).bind fun x37 =>
some (decide (x37.1 = (5 : Int)), ((1 : Int), (0 : Int))))
else
some (false, ((1 : Int), (0 : Int)))) : Option (Bool × rType.den)).bind fun j32 =>
some (j32.2, j32.1)
else
((if (decide (a0 = (23 : Int))) = true then
some (decide (a0 = (23 : Int)))
else
some (decide (a0 = (24 : Int)))) : Option (Bool)).bind fun j38 =>
(if j38 = true then
((idx a1 (0 : Int)).bind fun x40 =>
(if (decide (x40.1 = (1 : Int))) = true then
(idx a1 (1 : Int)).bind fun x41 =>
some (decide (x41.1 = (1 : Int)), ((1 : Int), (0 : Int)))
else
some (false, ((1 : Int), (0 : Int)))) : Option (Bool × rType.den)).bind fun j39 =>
some (j39.2, j39.1)
else
(if (decide (a0 = (26 : Int))) = true then
((idx a1 (1 : Int)).bind fun x43 =>
(idx a1 (0 : Int)).bind fun x44 =>
(if (decide (x44.1 = (1 : Int))) = true then
(idx a1 (1 : Int)).bind fun x45 =>
(idx a1 (2 : Int)).bind fun x46 =>
some ((eqR rType x45 x46), x43)
else
some (false, x43)) : Option (Bool × rType.den)).bind fun j42 =>
some (j42.2, j42.1)
else
((if (decide (a0 = (27 : Int))) = true then
some (decide (a0 = (27 : Int)))
else
some (decide (a0 = (28 : Int)))) : Option (Bool)).bind fun j47 =>
(if j47 = true then
((idx a1 (0 : Int)).bind fun x49 =>
(idx a1 (0 : Int)).bind fun x50 =>
(if (decide (x50.1 = (5 : Int))) = true then
(idx a1 (1 : Int)).bind fun x51 =>
some (decide (x51.1 = (2 : Int)), x49)
else
some (false, x49)) : Option (Bool × rType.den)).bind fun j48 =>
some (j48.2, j48.1)
else
((if (decide (a0 = (29 : Int))) = true then
some (decide (a0 = (29 : Int)))
else
some (decide (a0 = (30 : Int)))) : Option (Bool)).bind fun j52 =>
(if j52 = true then
((idx a1 (0 : Int)).bind fun x54 =>
(if (decide (x54.1 = (5 : Int))) = true then
(idx a1 (1 : Int)).bind fun x55 =>
some (decide (x55.1 = (5 : Int)), ((2 : Int), (0 : Int)))
else
some (false, ((2 : Int), (0 : Int)))) : Option (Bool × rType.den)).bind fun j53 =>
some (j53.2, j53.1)
else
((if (decide (a0 = (31 : Int))) = true then
some (decide (a0 = (31 : Int)))
else
some (decide (a0 = (32 : Int)))) : Option (Bool)).bind fun j56 =>
(if j56 = true then
(idx a1 (0 : Int)).bind fun x57 =>
some (((2 : Int), (0 : Int)), decide (x57.1 = (5 : Int)))
else
some (((0 : Int), (0 : Int)), false))))))))))))))
noncomputable def S150 (N : Nat) : Sig := { inn := ⟨[(0, .val false (.leaf rInt)), (1, .val false (.leaf (.slice rType)))], [], [], 0⟩, out := ⟨[(0, .val true (.leaf rType)), (1, .val false (.leaf .bool))], [], [], 0⟩, fn := fun (x : Int × List rType.den) => M.expr_resultType N x.1 x.2 }
theorem W150 (N : Nat) : FnOK Tryz.prog 150 (S150 N) := fn_ok (E := ⟨tabs, [(164, S164 N), (165, S165 N)], (tabcons (W164 N) (tabcons (W165 N) tabnil)), mixed, false, false⟩) (N := N) (a := (.two .nil (.two .nil (.two (.two .nil (.two (.two .nil (.two .nil (.two .nil (.two .nil (.meet ⟨[(27, .val false (.leaf .bool))], [], [], 160⟩ .nil (.two (.meet ⟨[(5, .val false (.leaf .bool))], [(0, .box 63 (.leaf rType))], [], 161⟩ .nil .nil) (.meet ⟨[(47, .val false (.leaf .bool))], [], [], 160⟩ .nil (.two .nil (.two .nil (.two (.meet ⟨[(5, .val false (.leaf .bool))], [(0, .box 63 (.leaf rType))], [], 193⟩ .nil .nil) (.meet ⟨[(80, .val false (.leaf .bool))], [], [], 192⟩ .nil (.two (.meet ⟨[(5, .val false (.leaf .bool))], [(0, .box 63 (.leaf rType))], [], 193⟩ .nil .nil) (.meet ⟨[(107, .val false (.leaf .bool))], [], [], 192⟩ .nil (.two .nil (.meet ⟨[(118, .val false (.leaf .bool))], [], [], 192⟩ .nil (.two (.meet ⟨[(5, .val false (.leaf .bool))], [(0, .box 63 (.leaf rType))], [], 193⟩ .nil .nil) (.meet ⟨[(143, .val false (.leaf .bool))], [], [], 192⟩ .nil (.two (.meet ⟨[(5, .val false (.leaf .bool))], [(0, .box 63 (.leaf rType))], [], 193⟩ .nil .nil) (.two .nil (.two (.meet ⟨[(5, .val false (.leaf .bool))], [(0, .box 63 (.leaf rType))], [], 225⟩ .nil .nil) (.meet ⟨[(178, .val false (.leaf .bool))], [], [], 224⟩ .nil (.two (.meet ⟨[(5, .val false (.leaf .bool))], [(0, .box 63 (.leaf rType))], [], 225⟩ .nil .nil) (.meet ⟨[(196, .val false (.leaf .bool))], [], [], 224⟩ .nil (.two (.meet ⟨[(5, .val false (.leaf .bool))], [(0, .box 63 (.leaf rType))], [], 225⟩ .nil .nil) (.meet ⟨[(212, .val false (.leaf .bool))], [], [], 224⟩ .nil .nil))))))))))))))))))))))))) .nil)) .nil)))) (sg := S150 N) (c := Tryz.f150.body.getD .skip) (rs := Tryz.f150.results.toList) Tryz.func150 (by kernel_rfl) (by kernel_rfl) rfl rfl rfl rfl (fun x => by kernel_rfl)
noncomputable def M.expr_nodeType (N : Nat) (a0 : rType.den) (a1 : List rType.den) (a2 : rSignature.den) : Option (rType.den × Int) :=
Join (J := Unit) (R := rType.den × Int) ((if (decide (a0.1 = (1 : Int))) = true then
(M.expr_literalType N a0.2 (1 : Int) a2).bind fun y2 =>
some (Sum.inr (y2.1, y2.2))
else
(if (decide (a0.1 = (2 : Int))) = true then
(M.expr_literalType N a0.2 (2 : Int) a2).bind fun y3 =>
some (Sum.inr (y3.1, y3.2))
else
(if (decide (a0.1 = (3 : Int))) = true then
(M.expr_literalType N a0.2 (3 : Int) a2).bind fun y4 =>
some (Sum.inr (y4.1, y4.2))
else
(if (decide (a0.1 = (4 : Int))) = true then
(M.expr_literalType N a0.2 (4 : Int) a2).bind fun y5 =>
some (Sum.inr (y5.1, y5.2))
else
(if (decide (a0.1 = (5 : Int))) = true then
(M.expr_literalType N a0.2 (5 : Int) a2).bind fun y6 =>
some (Sum.inr (y6.1, y6.2))
else
(if (decide (a0.1 = (6 : Int))) = true then
(M.expr_enumType N a0.2 a2).bind fun y7 =>
some (Sum.inr (y7.1, y7.2))
else
(if (decide (a0.1 = (7 : Int))) = true then
(M.expr_listedType N a0.2 a2.2.2.1 a2).bind fun y8 =>
some (Sum.inr (y8.1, y8.2))
else
(if (decide (a0.1 = (8 : Int))) = true then
(M.expr_listedType N a0.2 a2.2.2.2.1 a2).bind fun y9 =>
some (Sum.inr (y9.1, y9.2))
else
(if (decide (a0.1 = (9 : Int))) = true then
some (Sum.inr (((5 : Int), (0 : Int)), (0 : Int)))
else
((if (decide (a0.1 = (33 : Int))) = true then
some (decide (a0.1 = (33 : Int)))
else
some (decide (a0.1 = (34 : Int)))) : Option (Bool)).bind fun j10 =>
(if j10 = true then
(idx a1 (0 : Int)).bind fun x11 =>
(M.expr_tableType N a0 x11 a2).bind fun y12 =>
some (Sum.inr (y12.1, y12.2))
else
((if (decide (a0.1 = (35 : Int))) = true then
some (decide (a0.1 = (35 : Int)))
else
(if (decide (a0.1 = (36 : Int))) = true then
some (decide (a0.1 = (36 : Int)))
else
(if (decide (a0.1 = (37 : Int))) = true then
some (decide (a0.1 = (37 : Int)))
else
(if (decide (a0.1 = (38 : Int))) = true then
some (decide (a0.1 = (38 : Int)))
else
some (decide (a0.1 = (39 : Int))))))) : Option (Bool)).bind fun j13 =>
(if j13 = true then
(M.expr_memberType N a0 a2).bind fun y14 =>
some (Sum.inr (y14.1, y14.2))
else
((if (decide (a0.1 = (14 : Int))) = true then
some (decide (a0.1 = (14 : Int)))
else
(if (decide (a0.1 = (15 : Int))) = true then
some (decide (a0.1 = (15 : Int)))
else
some (decide (a0.1 = (16 : Int))))) : Option (Bool)).bind fun j15 =>
(if j15 = true then
(M.expr_validMode N a0.2).bind fun y16 =>
(if (!y16) = true then
some (Sum.inr (((0 : Int), (0 : Int)), (3 : Int)))
else
some (Sum.inl ()))
else
some (Sum.inl ())))))))))))))) fun j1 =>
(M.expr_resultType N a0.1 a1).bind fun y17 =>
(if (!y17.2) = true then
some (((0 : Int), (0 : Int)), (8 : Int))
else
some (y17.1, (0 : Int)))
noncomputable def S135 (N : Nat) : Sig := { inn := ⟨[(0, .val true (.leaf rType)), (1, .val false (.leaf (.slice rType))), (2, .val true (.leaf rSignature))], [], [], 0⟩, out := ⟨[(0, .val true (.leaf rType)), (1, .val false (.leaf rInt))], [], [], 0⟩, fn := fun (x : rType.den × (List rType.den) × rSignature.den) => M.expr_nodeType N x.1 x.2.1 x.2.2 }
theorem W135 (N : Nat) : FnOK Tryz.prog 135 (S135 N) := fn_ok (E := ⟨tabs, [(144, S144 N), (145, S145 N), (146, S146 N), (147, S147 N), (148, S148 N), (149, S149 N), (150, S150 N)], (tabcons (W144 N) (tabcons (W145 N) (tabcons (W146 N) (tabcons (W147 N) (tabcons (W148 N) (tabcons (W149 N) (tabcons (W150 N) tabnil))))))), mixed, false, false⟩) (N := N) (a := (.two .nil (.two (.two .nil (.join ⟨[], [], [], 96⟩ (.two .nil (.two .nil (.two .nil (.two .nil (.two .nil (.two .nil (.two .nil (.two .nil (.two .nil (.two .nil (.two .nil (.two .nil (.two .nil (.two .nil (.two .nil (.two .nil (.two .nil (.two .nil (.meet ⟨[(83, .val false (.leaf .bool))], [], [], 384⟩ .nil (.two .nil (.meet ⟨[(94, .val false (.leaf .bool))], [], [], 384⟩ .nil (.two .nil (.meet ⟨[(105, .val false (.leaf .bool))], [], [], 384⟩ .nil .nil))))))))))))))))))))))) .nil)) .nil))) (sg := S135 N) (c := Tryz.f135.body.getD .skip) (rs := Tryz.f135.results.toList) Tryz.func135 (by kernel_rfl) (by kernel_rfl) rfl rfl rfl rfl (fun x => by kernel_rfl)
noncomputable def M.expr_TypeOf (N : Nat) (a0 : List rType.den) (a1 : rSignature.den) : Option (rType.den × Int × Int) :=
(M.expr_structure N a0).bind fun y1 =>
(if (!decide (y1.2.1 = (0 : Int))) = true then
some (((0 : Int), (0 : Int)), y1.1, y1.2.1)
else
Join (J := List rType.den) (R := rType.den × Int × Int) (Loop (S := Int × List rType.den) (X := (List rType.den) ⊕ (rType.den × Int × Int)) (fun s3 =>
(if (decide (s3.1 < (a0.length : Int))) = true then
(idx a0 s3.1).bind fun x4 =>
((if (!decide (x4.2 = (0 : Int))) = true then
(M.expr_UsesN N x4.1).bind fun y6 =>
some (!y6)
else
some false) : Option (Bool)).bind fun j5 =>
(if j5 = true then
some (Sum.inr (Sum.inr (((0 : Int), (0 : Int)), s3.1, (2 : Int))))
else
(M.expr_Arity N x4.1).bind fun y7 =>
(cutA s3.2 (IntKind.i64.wrap ((s3.2.length : Int) - y7)) (s3.2.length : Int)).bind fun l8 =>
(M.expr_nodeType N x4 l8 a1).bind fun y9 =>
(if (!decide (y9.2 = (0 : Int))) = true then
some (Sum.inr (Sum.inr (((0 : Int), (0 : Int)), s3.1, y9.2)))
else
(cutA s3.2 (0 : Int) (IntKind.i64.wrap ((s3.2.length : Int) - y7))).bind fun l10 =>
(appA l10 ([y9.1] : List rType.den)).bind fun l11 =>
some (Sum.inl (IntKind.i64.wrap (s3.1 + (1 : Int)), l11))))
else
some (Sum.inr (Sum.inl s3.2)))) N ((0 : Int), ([] : List rType.den))) fun j2 =>
(idx j2 (0 : Int)).bind fun x12 =>
some (x12, (0 : Int), (0 : Int)))
noncomputable def S122 (N : Nat) : Sig := { inn := ⟨[(0, .val false (.leaf (.slice rType))), (1, .val true (.leaf rSignature))], [], [], 0⟩, out := ⟨[(0, .val true (.leaf rType)), (1, .val false (.leaf rInt)), (2, .val false (.leaf rInt))], [], [], 0⟩, fn := fun (x : (List rType.den) × rSignature.den) => M.expr_TypeOf N x.1 x.2 }
theorem W122 (N : Nat) : FnOK Tryz.prog 122 (S122 N) := fn_ok (E := ⟨tabs, [(132, S132 N), (133, S133 N), (134, S134 N), (135, S135 N)], (tabcons (W132 N) (tabcons (W133 N) (tabcons (W134 N) (tabcons (W135 N) tabnil)))), mixed, false, false⟩) (N := N) (a := (.two .nil (.two .nil (.two .nil (.two .nil (.join ⟨[(10, .val false (.own 256))], [(256, .own 63 rType)], [], 257⟩ (.two .nil (.two (.loop ⟨[(10, .val false (.own 304)), (29, .val false (.leaf rInt))], [(304, .own 63 rType)], [], 305⟩ (.two .nil (.two .nil (.two (.two (.two .nil (.two (.meet ⟨[(42, .val false (.leaf .bool))], [], [], 417⟩ .nil .nil) .nil)) .nil) .nil)))) .nil)) .nil)))))) (sg := S122 N) (c := Tryz.f122.body.getD .skip) (rs := Tryz.f122.results.toList) Tryz.func122 (by kernel_rfl) (by kernel_rfl) rfl rfl rfl rfl (fun x => by kernel_rfl)
noncomputable def M.law_checkType (N : Nat) (a0 : List rType.den) (a1 : rSignature.den) (a2 : rType.den) : Option (Int) :=
(M.expr_TypeOf N a0 a1).bind fun y1 =>
(if (!decide (y1.2.2 = (0 : Int))) = true then
some y1.2.2
else
(if (!(eqR rType y1.1 a2)) = true then
some (8 : Int)
else
some (0 : Int)))
noncomputable def S103 (N : Nat) : Sig := { inn := ⟨[(0, .val false (.leaf (.slice rType))), (1, .val true (.leaf rSignature)), (2, .val true (.leaf rType))], [], [], 0⟩, out := ⟨[(0, .val false (.leaf rInt))], [], [], 0⟩, fn := fun (x : (List rType.den) × rSignature.den × rType.den) => M.law_checkType N x.1 x.2.1 x.2.2 }
theorem W103 (N : Nat) : FnOK Tryz.prog 103 (S103 N) := fn_ok (E := ⟨tabs, [(122, S122 N)], (tabcons (W122 N) tabnil), mixed, false, false⟩) (N := N) (a := .nil) (sg := S103 N) (c := Tryz.f103.body.getD .skip) (rs := Tryz.f103.results.toList) Tryz.func103 (by kernel_rfl) (by kernel_rfl) rfl rfl rfl rfl (fun x => by kernel_rfl)
noncomputable def M.law_checkRule_c1_v1 (N : Nat) (a0 : rRule.den) (a1 : rRule.den) : Option (Bool × rRule.den) :=
some (decide (a0.1 = a1.1), a1)
noncomputable def S101v1 (N : Nat) : Sig := { inn := ⟨[(0, .val true (.leaf rRule)), (1, .ptr 0 [] 0)], [(0, .box 97 (.leaf rRule))], [], 1⟩, out := ⟨[(0, .val false (.leaf .bool))], [(0, .box 97 (.leaf rRule))], [], 2⟩, fn := fun (x : rRule.den × rRule.den) => M.law_checkRule_c1_v1 N x.1 x.2 }
theorem W101v1 (N : Nat) : FnOK Tryz.prog 101 (S101v1 N) := fn_ok (E := ⟨tabs, [], tabnil, mixed, false, false⟩) (N := N) (a := .nil) (sg := S101v1 N) (c := Tryz.f101.body.getD .skip) (rs := Tryz.f101.results.toList) Tryz.func101 (by kernel_rfl) (by kernel_rfl) rfl rfl rfl rfl (fun x => by kernel_rfl)
noncomputable def M.slices_IndexFunc_guerdon_api_Rule_guerdon_api_Rule_v1 (N : Nat) (a0 : List rRule.den) (a1 : rRule.den) : Option (Int × rRule.den) :=
Loop (S := Int × rRule.den) (X := Int × rRule.den) (fun s1 =>
(if (decide (s1.1 < (a0.length : Int))) = true then
(idx a0 s1.1).bind fun x2 =>
(M.law_checkRule_c1_v1 N x2 s1.2).bind fun y3 =>
(if y3.1 = true then
some (Sum.inr (s1.1, y3.2))
else
some (Sum.inl (IntKind.i64.wrap (s1.1 + (1 : Int)), y3.2)))
else
some (Sum.inr ((-1 : Int), s1.2)))) N ((0 : Int), a1)
noncomputable def S120v1 (N : Nat) : Sig := { inn := ⟨[(0, .val false (.leaf (.slice rRule))), (1, .fn 101 [(0, [], 0)])], [(0, .box 97 (.leaf rRule))], [], 1⟩, out := ⟨[(0, .val false (.leaf rInt))], [(0, .box 97 (.leaf rRule))], [], 2⟩, fn := fun (x : (List rRule.den) × rRule.den) => M.slices_IndexFunc_guerdon_api_Rule_guerdon_api_Rule_v1 N x.1 x.2 }
theorem W120v1 (N : Nat) : FnOK Tryz.prog 120 (S120v1 N) := fn_ok (E := ⟨tabs, [(101, S101v1 N)], (tabcons (W101v1 N) tabnil), mixed, false, false⟩) (N := N) (a := (.two .nil (.two (.two .nil (.two (.loop ⟨[(8, .val false (.leaf rInt))], [(0, .box 97 (.leaf rRule))], [], 66⟩ .nil) .nil)) .nil))) (sg := S120v1 N) (c := Tryz.f120.body.getD .skip) (rs := Tryz.f120.results.toList) Tryz.func120 (by kernel_rfl) (by kernel_rfl) rfl rfl rfl rfl (fun x => by kernel_rfl)
noncomputable def M.slices_ContainsFunc_guerdon_api_Rule_guerdon_api_Rule_v1 (N : Nat) (a0 : List rRule.den) (a1 : rRule.den) : Option (Bool × rRule.den) :=
(M.slices_IndexFunc_guerdon_api_Rule_guerdon_api_Rule_v1 N a0 a1).bind fun y1 =>
some (decide ((0 : Int) ≤ y1.1), y1.2)
noncomputable def S100v1 (N : Nat) : Sig := { inn := ⟨[(0, .val false (.leaf (.slice rRule))), (1, .fn 101 [(0, [], 0)])], [(0, .box 97 (.leaf rRule))], [], 1⟩, out := ⟨[(0, .val false (.leaf .bool))], [(0, .box 97 (.leaf rRule))], [], 2⟩, fn := fun (x : (List rRule.den) × rRule.den) => M.slices_ContainsFunc_guerdon_api_Rule_guerdon_api_Rule_v1 N x.1 x.2 }
theorem W100v1 (N : Nat) : FnOK Tryz.prog 100 (S100v1 N) := fn_ok (E := ⟨tabs, [(120, S120v1 N)], (tabcons (W120v1 N) tabnil), mixed, false, false⟩) (N := N) (a := .nil) (sg := S100v1 N) (c := Tryz.f100.body.getD .skip) (rs := Tryz.f100.results.toList) Tryz.func100 (by kernel_rfl) (by kernel_rfl) rfl rfl rfl rfl (fun x => by kernel_rfl)
noncomputable def M.law_checkRule (N : Nat) (a0 : rScope.den) (a1 : Int) (a2 : rSignature.den) : Option (Int) :=
(idx a0.2.2.2.2 a1).bind fun x1 =>
((cutA a0.2.2.2.2 (0 : Int) a1).bind fun l3 =>
Loop (S := Int × Int) (X := Int) (fun s4 =>
(if (decide (s4.2 < (l3.length : Int))) = true then
((idx l3 s4.2).bind fun x6 =>
(if (decide (x6.2.1 = x1.2.1)) = true then
some (IntKind.i64.wrap (s4.1 + (1 : Int)))
else
some s4.1) : Option (Int)).bind fun j5 =>
some (Sum.inl (j5, IntKind.i64.wrap (s4.2 + (1 : Int))))
else
some (Sum.inr s4.1))) N ((0 : Int), (0 : Int)) : Option (Int)).bind fun j2 =>
(M.lexer_IsIdentifier N x1.1).bind fun y7 =>
(if (!y7) = true then
some (2 : Int)
else
(cutA a0.2.2.2.2 (0 : Int) a1).bind fun l8 =>
(M.slices_ContainsFunc_guerdon_api_Rule_guerdon_api_Rule_v1 N l8 x1).bind fun y9 =>
(if y9.1 = true then
some (7 : Int)
else
((if (decide (y9.2.2.1 < (0 : Int))) = true then
some true
else
some (decide ((a0.2.2.2.1.length : Int) ≤ y9.2.2.1))) : Option (Bool)).bind fun j10 =>
(if j10 = true then
some (6 : Int)
else
((if (!decide (y9.2.2.2.1 = (-1 : Int))) = true then
(if (decide (y9.2.2.2.1 < (0 : Int))) = true then
some true
else
(if (decide (a1 ≤ y9.2.2.2.1)) = true then
some true
else
(idx a0.2.2.2.2 y9.2.2.2.1).bind fun x12 =>
some (!decide (x12.2.1 = y9.2.2.1))))
else
some false) : Option (Bool)).bind fun j11 =>
(if j11 = true then
some (9 : Int)
else
((if (decide (y9.2.2.2.2.1 < (0 : Int))) = true then
some true
else
some (decide ((9 : Int) < y9.2.2.2.2.1))) : Option (Bool)).bind fun j13 =>
(if j13 = true then
some (3 : Int)
else
((if (decide (y9.2.2.2.2.2.1.1 < (0 : Int))) = true then
some true
else
(if (decide (y9.2.2.2.2.2.1.2 ≤ y9.2.2.2.2.2.1.1)) = true then
some true
else
some (decide ((109573 : Int) < y9.2.2.2.2.2.1.2)))) : Option (Bool)).bind fun j14 =>
(if j14 = true then
some (3 : Int)
else
(if (decide ((8 : Int) ≤ j2)) = true then
some (4 : Int)
else
(M.law_validSource N y9.2.2.2.2.2.2.2.2).bind fun y15 =>
(if (!y15) = true then
some (2 : Int)
else
Join (J := Unit) (R := Int) ((if (decide ((0 : Int) < (y9.2.2.2.2.2.2.1.length : Int))) = true then
(M.law_checkType N y9.2.2.2.2.2.2.1 a2 ((1 : Int), (0 : Int))).bind fun y17 =>
(if (!decide (y17 = (0 : Int))) = true then
some (Sum.inr y17)
else
some (Sum.inl ()))
else
some (Sum.inl ()))) fun j16 =>
(idx a0.2.2.2.1 y9.2.2.1).bind fun x18 =>
(M.law_checkType N y9.2.2.2.2.2.2.2.1 a2 x18.2).bind fun y19 =>
some y19))))))))
noncomputable def S82 (N : Nat) : Sig := { inn := ⟨[(0, .val true (.leaf rScope)), (1, .val false (.leaf rInt)), (2, .val true (.leaf rSignature))], [], [], 0⟩, out := ⟨[(0, .val false (.leaf rInt))], [], [], 0⟩, fn := fun (x : rScope.den × Int × rSignature.den) => M.law_checkRule N x.1 x.2.1 x.2.2 }
theorem W82 (N : Nat) : FnOK Tryz.prog 82 (S82 N) := fn_ok (E := ⟨tabs, [(59, S59 N), (100, S100v1 N), (102, S102 N), (103, S103 N)], (tabcons (W59 N) (tabcons (W100v1 N) (tabcons (W102 N) (tabcons (W103 N) tabnil)))), mixed, false, false⟩) (N := N) (a := (.two .nil (.two .nil (.two .nil (.meet ⟨[(8, .val false (.leaf rInt))], [], [], 176⟩ (.two .nil (.two (.loop ⟨[(8, .val false (.leaf rInt)), (22, .val false (.leaf rInt))], [], [], 272⟩ (.two .nil (.two .nil (.two (.meet ⟨[(8, .val false (.leaf rInt))], [], [], 288⟩ .nil .nil) .nil)))) .nil)) (.two (.two (.two .nil (.two .nil (.two .nil (.two .nil (.meet ⟨[(46, .val false (.leaf .bool))], [], [], 368⟩ .nil (.two .nil (.meet ⟨[(58, .val false (.leaf .bool))], [], [], 368⟩ .nil (.two .nil (.meet ⟨[(85, .val false (.leaf .bool))], [], [], 368⟩ .nil (.two .nil (.meet ⟨[(94, .val false (.leaf .bool))], [], [], 368⟩ .nil .nil))))))))))) .nil) (.join ⟨[], [], [], 496⟩ .nil .nil))))))) (sg := S82 N) (c := Tryz.f82.body.getD .skip) (rs := Tryz.f82.results.toList) Tryz.func82 (by kernel_rfl) (by kernel_rfl) rfl rfl rfl rfl (fun x => by kernel_rfl)
noncomputable def M.slices_Index_int_int (N : Nat) (a0 : List Int) (a1 : Int) : Option (Int) :=
Loop (S := Int) (X := Int) (fun s1 =>
(if (decide (s1 < (a0.length : Int))) = true then
(idx a0 s1).bind fun x2 =>
(if (decide (a1 = x2)) = true then
some (Sum.inr s1)
else
some (Sum.inl (IntKind.i64.wrap (s1 + (1 : Int)))))
else
some (Sum.inr (-1 : Int)))) N (0 : Int)
noncomputable def S104 (N : Nat) : Sig := { inn := ⟨[(0, .val false (.leaf (.slice rInt))), (1, .val false (.leaf rInt))], [], [], 0⟩, out := ⟨[(0, .val false (.leaf rInt))], [], [], 0⟩, fn := fun (x : (List Int) × Int) => M.slices_Index_int_int N x.1 x.2 }
theorem W104 (N : Nat) : FnOK Tryz.prog 104 (S104 N) := fn_ok (E := ⟨tabs, [], tabnil, mixed, false, false⟩) (N := N) (a := (.two .nil (.two (.two .nil (.two (.loop ⟨[(8, .val false (.leaf rInt))], [], [], 64⟩ .nil) .nil)) .nil))) (sg := S104 N) (c := Tryz.f104.body.getD .skip) (rs := Tryz.f104.results.toList) Tryz.func104 (by kernel_rfl) (by kernel_rfl) rfl rfl rfl rfl (fun x => by kernel_rfl)
noncomputable def M.slices_Contains_int_int (N : Nat) (a0 : List Int) (a1 : Int) : Option (Bool) :=
(M.slices_Index_int_int N a0 a1).bind fun y1 =>
some (decide ((0 : Int) ≤ y1))
noncomputable def S83 (N : Nat) : Sig := { inn := ⟨[(0, .val false (.leaf (.slice rInt))), (1, .val false (.leaf rInt))], [], [], 0⟩, out := ⟨[(0, .val false (.leaf .bool))], [], [], 0⟩, fn := fun (x : (List Int) × Int) => M.slices_Contains_int_int N x.1 x.2 }
theorem W83 (N : Nat) : FnOK Tryz.prog 83 (S83 N) := fn_ok (E := ⟨tabs, [(104, S104 N)], (tabcons (W104 N) tabnil), mixed, false, false⟩) (N := N) (a := .nil) (sg := S83 N) (c := Tryz.f83.body.getD .skip) (rs := Tryz.f83.results.toList) Tryz.func83 (by kernel_rfl) (by kernel_rfl) rfl rfl rfl rfl (fun x => by kernel_rfl)
noncomputable def M.deps_reached (N : Nat) (a0 : List (List Int)) (a1 : Int) : Option (List Int) :=
(mkL (a0.length : Int) false).bind fun l1 =>
(Loop (S := (List Bool) × List Int) (X := List Bool) (fun s3 =>
(if (decide ((0 : Int) < (s3.2.length : Int))) = true then
(idx s3.2 (0 : Int)).bind fun x4 =>
(cutA s3.2 (1 : Int) (s3.2.length : Int)).bind fun l5 =>
(idx a0 x4).bind fun x6 =>
Loop (S := Int × (List Bool) × List Int) (X := ((List Bool) × List Int) ⊕ (List Bool)) (fun s7 =>
(if (decide (s7.1 < (x6.length : Int))) = true then
((idx x6 s7.1).bind fun x9 =>
(idx s7.2.1 x9).bind fun x10 =>
(if (!x10) = true then
(idx s7.2.1 x9).bind fun x11 =>
(appA s7.2.2 ([x9] : List Int)).bind fun l12 =>
some (setL s7.2.1 x9 true, l12)
else
some (s7.2.1, s7.2.2)) : Option ((List Bool) × List Int)).bind fun j8 =>
some (Sum.inl (IntKind.i64.wrap (s7.1 + (1 : Int)), j8.1, j8.2))
else
some (Sum.inr (Sum.inl (s7.2.1, s7.2.2))))) N ((0 : Int), s3.1, l5)
else
some (Sum.inr s3.1))) N (l1, ([a1] : List Int)) : Option (List Bool)).bind fun j2 =>
Loop (S := Int × List Int) (X := List Int) (fun s13 =>
(if (decide (s13.1 < (j2.length : Int))) = true then
((idx j2 s13.1).bind fun x15 =>
(if x15 = true then
(appA s13.2 ([s13.1] : List Int)).bind fun l16 =>
some l16
else
some s13.2) : Option (List Int)).bind fun j14 =>
some (Sum.inl (IntKind.i64.wrap (s13.1 + (1 : Int)), j14))
else
some (Sum.inr s13.2))) N ((0 : Int), ([] : List Int))
noncomputable def S105 (N : Nat) : Sig := { inn := ⟨[(0, .val false (.leaf (.slice (.slice rInt)))), (1, .val false (.leaf rInt))], [], [], 0⟩, out := ⟨[(0, .val false (.own 0))], [(0, .own 3 rInt)], [], 1⟩, fn := fun (x : (List (List Int)) × Int) => M.deps_reached N x.1 x.2 }
theorem W105 (N : Nat) : FnOK Tryz.prog 105 (S105 N) := fn_ok (E := ⟨tabs, [], tabnil, mixed, false, true⟩) (N := N) (a := (.two .nil (.two .nil (.two .nil (.meet ⟨[], [(48, .own 4 .bool)], [96], 129⟩ (.two (.loop ⟨[(6, .val false (.own 128))], [(48, .own 4 .bool), (128, .own 3 rInt)], [96], 130⟩ (.two .nil (.two (.two .nil (.two .nil (.two .nil (.two (.loop ⟨[(6, .val false (.own 386)), (31, .val false (.leaf rInt))], [(48, .own 4 .bool), (386, .own 3 rInt)], [258], 388⟩ (.two .nil (.two .nil (.two (.meet ⟨[(6, .val false (.own 404))], [(48, .own 4 .bool), (404, .own 3 rInt)], [386], 406⟩ .nil .nil) .nil)))) .nil)))) .nil))) .nil) (.two .nil (.two (.two .nil (.two (.loop ⟨[(10, .val false (.own 193)), (50, .val false (.leaf rInt))], [(193, .own 3 rInt)], [], 194⟩ (.two .nil (.two .nil (.two (.meet ⟨[(10, .val false (.own 210))], [(210, .own 3 rInt)], [193], 211⟩ .nil .nil) .nil)))) .nil)) .nil))))))) (sg := S105 N) (c := Tryz.f105.body.getD .skip) (rs := Tryz.f105.results.toList) Tryz.func105 (by kernel_rfl) (by kernel_rfl) rfl rfl rfl rfl (fun x => by kernel_rfl)
noncomputable def M.slices_Sort_int_int (N : Nat) (a0 : List Int) : Option (List Int) := sortM a0
noncomputable def S137 (N : Nat) : Sig := { inn := ⟨[(0, .val false (.own 0))], [(0, .own 3 rInt)], [], 1⟩, out := ⟨[], [(0, .own 3 rInt)], [], 2⟩, fn := fun (x : List Int) => M.slices_Sort_int_int N x }
theorem W137 (N : Nat) : FnOK Tryz.prog 137 (S137 N) := sort_fn ⟨_, Tryz.func137, by kernel_rfl, by kernel_rfl⟩ Tryz.slices_Sort_int Tryz.slices_Sort_int_none
noncomputable def M.slices_Compact_int_int (N : Nat) (a0 : List Int) : Option (List Int) := compactM a0
noncomputable def S138 (N : Nat) : Sig := { inn := ⟨[(0, .val false (.own 0))], [(0, .own 3 rInt)], [], 1⟩, out := ⟨[(0, .val false (.own 1))], [(1, .own 3 rInt)], [], 2⟩, fn := fun (x : List Int) => M.slices_Compact_int_int N x }
theorem W138 (N : Nat) : FnOK Tryz.prog 138 (S138 N) := compact_fn ⟨_, Tryz.func138, by kernel_rfl, by kernel_rfl⟩ Tryz.slices_Compact_int Tryz.slices_Compact_int_empty
noncomputable def M.expr_distinct_v1 (N : Nat) (a0 : List Int) : Option (List Int) :=
(M.slices_Sort_int_int N a0).bind fun y1 =>
(M.slices_Compact_int_int N y1).bind fun y2 =>
some y2
noncomputable def S151v1 (N : Nat) : Sig := { inn := ⟨[(0, .val false (.own 0))], [(0, .own 3 rInt)], [], 1⟩, out := ⟨[(0, .val false (.own 1))], [(1, .own 3 rInt)], [], 2⟩, fn := fun (x : List Int) => M.expr_distinct_v1 N x }
theorem W151v1 (N : Nat) : FnOK Tryz.prog 151 (S151v1 N) := fn_ok (E := ⟨tabs, [(137, S137 N), (138, S138 N)], (tabcons (W137 N) (tabcons (W138 N) tabnil)), mixed, false, false⟩) (N := N) (a := .nil) (sg := S151v1 N) (c := Tryz.f151.body.getD .skip) (rs := Tryz.f151.results.toList) Tryz.func151 (by kernel_rfl) (by kernel_rfl) rfl rfl rfl rfl (fun x => by kernel_rfl)
noncomputable def M.expr_References (N : Nat) (a0 : List rType.den) : Option ((List Int) × (List Int) × List Int) :=
(Loop (S := Int × (List Int) × (List Int) × List Int) (X := (List Int) × (List Int) × List Int) (fun s2 =>
(if (decide (s2.1 < (a0.length : Int))) = true then
(idx a0 s2.1).bind fun x3 =>
((if (decide (x3.1 = (7 : Int))) = true then
(appA s2.2.1 ([x3.2] : List Int)).bind fun l5 =>
some (l5, s2.2.2.1, s2.2.2.2)
else
(if (decide (x3.1 = (8 : Int))) = true then
(appA s2.2.2.1 ([x3.2] : List Int)).bind fun l6 =>
some (s2.2.1, l6, s2.2.2.2)
else
((if (decide (x3.1 = (36 : Int))) = true then
some (decide (x3.1 = (36 : Int)))
else
(if (decide (x3.1 = (37 : Int))) = true then
some (decide (x3.1 = (37 : Int)))
else
(if (decide (x3.1 = (38 : Int))) = true then
some (decide (x3.1 = (38 : Int)))
else
some (decide (x3.1 = (39 : Int)))))) : Option (Bool)).bind fun j7 =>
(if j7 = true then
(appA s2.2.2.2 ([x3.2] : List Int)).bind fun l8 =>
some (s2.2.1, s2.2.2.1, l8)
else
some (s2.2.1, s2.2.2.1, s2.2.2.2)))) : Option ((List Int) × (List Int) × List Int)).bind fun j4 =>
some (Sum.inl (IntKind.i64.wrap (s2.1 + (1 : Int)), j4.1, j4.2.1, j4.2.2))
else
some (Sum.inr (s2.2.1, s2.2.2.1, s2.2.2.2)))) N ((0 : Int), ([] : List Int), ([] : List Int), ([] : List Int)) : Option ((List Int) × (List Int) × List Int)).bind fun j1 =>
(M.expr_distinct_v1 N j1.1).bind fun y9 =>
(M.expr_distinct_v1 N j1.2.1).bind fun y10 =>
(M.expr_distinct_v1 N j1.2.2).bind fun y11 =>
some (y9, y10, y11)
noncomputable def S136 (N : Nat) : Sig := { inn := ⟨[(0, .val false (.leaf (.slice rType)))], [], [], 0⟩, out := ⟨[(0, .val false (.own 0)), (1, .val false (.own 1)), (2, .val false (.own 2))], [(0, .own 3 rInt), (1, .own 3 rInt), (2, .own 3 rInt)], [], 3⟩, fn := fun (x : List rType.den) => M.expr_References N x }
theorem W136 (N : Nat) : FnOK Tryz.prog 136 (S136 N) := fn_ok (E := ⟨tabs, [(151, S151v1 N)], (tabcons (W151v1 N) tabnil), mixed, false, false⟩) (N := N) (a := (.two .nil (.two .nil (.meet ⟨[(5, .val false (.own 96)), (6, .val false (.own 97)), (7, .val false (.own 98))], [(96, .own 3 rInt), (97, .own 3 rInt), (98, .own 3 rInt)], [], 99⟩ (.two .nil (.two (.loop ⟨[(5, .val false (.own 144)), (6, .val false (.own 145)), (7, .val false (.own 146)), (12, .val false (.leaf rInt))], [(144, .own 3 rInt), (145, .own 3 rInt), (146, .own 3 rInt)], [], 147⟩ (.two .nil (.two .nil (.two (.two (.two .nil (.two .nil (.meet ⟨[(5, .val false (.own 259)), (6, .val false (.own 260)), (7, .val false (.own 261))], [(259, .own 3 rInt), (260, .own 3 rInt), (261, .own 3 rInt)], [144, 145, 146], 262⟩ (.two .nil (.two .nil (.two .nil (.two .nil (.meet ⟨[(32, .val false (.leaf .bool))], [], [], 323⟩ .nil .nil))))) .nil))) .nil) .nil)))) .nil)) .nil)))) (sg := S136 N) (c := Tryz.f136.body.getD .skip) (rs := Tryz.f136.results.toList) Tryz.func136 (by kernel_rfl) (by kernel_rfl) rfl rfl rfl rfl (fun x => by kernel_rfl)
noncomputable def M.deps_definitionsOf (N : Nat) (a0 : rRule.den) (a1 : Int) : Option (List Int) :=
(M.expr_References N a0.2.2.2.2.2.1).bind fun y1 =>
(M.expr_References N a0.2.2.2.2.2.2.1).bind fun y2 =>
(Loop (S := Int × List Int) (X := List Int) (fun s4 =>
(if (decide (s4.1 < (y1.2.1.length : Int))) = true then
((idx y1.2.1 s4.1).bind fun x6 =>
((if (decide ((0 : Int) ≤ x6)) = true then
some (decide (x6 < a1))
else
some false) : Option (Bool)).bind fun j7 =>
(if j7 = true then
(appA s4.2 ([x6] : List Int)).bind fun l8 =>
some l8
else
some s4.2) : Option (List Int)).bind fun j5 =>
some (Sum.inl (IntKind.i64.wrap (s4.1 + (1 : Int)), j5))
else
some (Sum.inr s4.2))) N ((0 : Int), ([] : List Int)) : Option (List Int)).bind fun j3 =>
Loop (S := Int × List Int) (X := List Int) (fun s9 =>
(if (decide (s9.1 < (y2.2.1.length : Int))) = true then
((idx y2.2.1 s9.1).bind fun x11 =>
((if (decide ((0 : Int) ≤ x11)) = true then
some (decide (x11 < a1))
else
some false) : Option (Bool)).bind fun j12 =>
(if j12 = true then
(appA s9.2 ([x11] : List Int)).bind fun l13 =>
some l13
else
some s9.2) : Option (List Int)).bind fun j10 =>
some (Sum.inl (IntKind.i64.wrap (s9.1 + (1 : Int)), j10))
else
some (Sum.inr s9.2))) N ((0 : Int), j3)
noncomputable def S123 (N : Nat) : Sig := { inn := ⟨[(0, .val true (.leaf rRule)), (1, .val false (.leaf rInt))], [], [], 0⟩, out := ⟨[(0, .val false (.own 0))], [(0, .own 3 rInt)], [], 1⟩, fn := fun (x : rRule.den × Int) => M.deps_definitionsOf N x.1 x.2 }
theorem W123 (N : Nat) : FnOK Tryz.prog 123 (S123 N) := fn_ok (E := ⟨tabs, [(136, S136 N)], (tabcons (W136 N) tabnil), mixed, false, false⟩) (N := N) (a := (.two .nil (.two .nil (.two .nil (.two .nil (.meet ⟨[(5, .val false (.own 368))], [(368, .own 3 rInt)], [], 369⟩ (.two .nil (.two (.loop ⟨[(5, .val false (.own 416)), (32, .val false (.leaf rInt))], [(416, .own 3 rInt)], [], 417⟩ (.two .nil (.two .nil (.two (.meet ⟨[(5, .val false (.own 433))], [(433, .own 3 rInt)], [416], 434⟩ (.two .nil (.meet ⟨[(42, .val false (.leaf .bool))], [], [], 481⟩ .nil .nil)) .nil) .nil)))) .nil)) (.two (.two .nil (.two (.loop ⟨[(5, .val false (.own 417)), (50, .val false (.leaf rInt))], [(417, .own 3 rInt)], [368], 418⟩ (.two .nil (.two .nil (.two (.meet ⟨[(5, .val false (.own 434))], [(434, .own 3 rInt)], [417], 435⟩ (.two .nil (.meet ⟨[(60, .val false (.leaf .bool))], [], [], 482⟩ .nil .nil)) .nil) .nil)))) .nil)) .nil))))))) (sg := S123 N) (c := Tryz.f123.body.getD .skip) (rs := Tryz.f123.results.toList) Tryz.func123 (by kernel_rfl) (by kernel_rfl) rfl rfl rfl rfl (fun x => by kernel_rfl)
noncomputable def M.deps_sortedSet_v1 (N : Nat) (a0 : List Int) : Option (List Int) :=
(M.slices_Sort_int_int N a0).bind fun y1 =>
(M.slices_Compact_int_int N y1).bind fun y2 =>
some y2
noncomputable def S124v1 (N : Nat) : Sig := { inn := ⟨[(0, .val false (.own 0))], [(0, .own 3 rInt)], [], 1⟩, out := ⟨[(0, .val false (.own 1))], [(1, .own 3 rInt)], [], 2⟩, fn := fun (x : List Int) => M.deps_sortedSet_v1 N x }
theorem W124v1 (N : Nat) : FnOK Tryz.prog 124 (S124v1 N) := fn_ok (E := ⟨tabs, [(137, S137 N), (138, S138 N)], (tabcons (W137 N) (tabcons (W138 N) tabnil)), mixed, false, false⟩) (N := N) (a := .nil) (sg := S124v1 N) (c := Tryz.f124.body.getD .skip) (rs := Tryz.f124.results.toList) Tryz.func124 (by kernel_rfl) (by kernel_rfl) rfl rfl rfl rfl (fun x => by kernel_rfl)
noncomputable def M.deps_allDirect (N : Nat) (a0 : rScope.den) : Option (List (List Int)) :=
(mkL (a0.2.2.2.1.length : Int) ([] : List Int)).bind fun l1 =>
(Loop (S := Int × List (List Int)) (X := List (List Int)) (fun s3 =>
(if (decide (s3.1 < (a0.2.2.2.2.length : Int))) = true then
((idx a0.2.2.2.2 s3.1).bind fun x5 =>
((if (decide ((0 : Int) ≤ x5.2.1)) = true then
some (decide (x5.2.1 < (s3.2.length : Int)))
else
some false) : Option (Bool)).bind fun j6 =>
(if j6 = true then
(idx s3.2 x5.2.1).bind fun x7 =>
(idx s3.2 x5.2.1).bind fun x8 =>
(M.deps_definitionsOf N x5 (s3.2.length : Int)).bind fun y9 =>
(appA x8 y9).bind fun l10 =>
(idx s3.2 x5.2.1).bind fun x11 =>
(if decide (x5.2.1 = x5.2.1) = true then
(idx s3.2 x5.2.1).bind fun x12 =>
some (modL s3.2 x5.2.1 (fun m13 => l10))
else none)
else
some s3.2) : Option (List (List Int))).bind fun j4 =>
some (Sum.inl (IntKind.i64.wrap (s3.1 + (1 : Int)), j4))
else
some (Sum.inr s3.2))) N ((0 : Int), l1) : Option (List (List Int))).bind fun j2 =>
Loop (S := Int × List (List Int)) (X := List (List Int)) (fun s14 =>
(if (decide (s14.1 < (j2.length : Int))) = true then
(idx s14.2 s14.1).bind fun x15 =>
(idx s14.2 s14.1).bind fun x16 =>
(M.deps_sortedSet_v1 N x16).bind fun y17 =>
(idx s14.2 s14.1).bind fun x18 =>
(if decide (s14.1 = s14.1) = true then
(idx s14.2 s14.1).bind fun x19 =>
some (Sum.inl (IntKind.i64.wrap (s14.1 + (1 : Int)), modL s14.2 s14.1 (fun m20 => y17)))
else none)
else
some (Sum.inr s14.2))) N ((0 : Int), j2)
noncomputable def S106 (N : Nat) : Sig := { inn := ⟨[(0, .val true (.leaf rScope))], [], [], 0⟩, out := ⟨[(0, .val false (.own 0))], [(0, .deep 38 (.sl 3 (.leaf rInt)))], [], 1⟩, fn := fun (x : rScope.den) => M.deps_allDirect N x }
theorem W106 (N : Nat) : FnOK Tryz.prog 106 (S106 N) := fn_ok (E := ⟨tabs, [(123, S123 N), (124, S124v1 N)], (tabcons (W123 N) (tabcons (W124v1 N) tabnil)), mixed, true, false⟩) (N := N) (a := (.two .nil (.two .nil (.meet ⟨[], [(80, .deep 38 (.sl 3 (.leaf rInt)))], [], 113⟩ (.two .nil (.two (.loop ⟨[(15, .val false (.leaf rInt))], [(80, .deep 38 (.sl 3 (.leaf rInt)))], [], 177⟩ (.two .nil (.two .nil (.two (.meet ⟨[], [(80, .deep 38 (.sl 3 (.leaf rInt)))], [], 194⟩ (.two .nil (.meet ⟨[(28, .val false (.leaf .bool))], [], [], 257⟩ .nil .nil)) .nil) .nil)))) .nil)) (.two (.two .nil (.two (.loop ⟨[(46, .val false (.leaf rInt))], [(80, .deep 38 (.sl 3 (.leaf rInt)))], [], 162⟩ .nil) .nil)) .nil))))) (sg := S106 N) (c := Tryz.f106.body.getD .skip) (rs := Tryz.f106.results.toList) Tryz.func106 (by kernel_rfl) (by kernel_rfl) rfl rfl rfl rfl (fun x => by kernel_rfl)
noncomputable def M.deps_Transitive (N : Nat) (a0 : rScope.den) (a1 : Int) : Option (List Int) :=
((if (decide (a1 < (0 : Int))) = true then
some true
else
some (decide ((a0.2.2.2.1.length : Int) ≤ a1))) : Option (Bool)).bind fun j1 =>
(if j1 = true then
some ([] : List Int)
else
(M.deps_allDirect N a0).bind fun y2 =>
(M.deps_reached N y2 a1).bind fun y3 =>
some y3)
noncomputable def S84 (N : Nat) : Sig := { inn := ⟨[(0, .val true (.leaf rScope)), (1, .val false (.leaf rInt))], [], [], 0⟩, out := ⟨[(0, .val false (.own 0))], [(0, .own 3 rInt)], [], 1⟩, fn := fun (x : rScope.den × Int) => M.deps_Transitive N x.1 x.2 }
theorem W84 (N : Nat) : FnOK Tryz.prog 84 (S84 N) := fn_ok (E := ⟨tabs, [(105, S105 N), (106, S106 N)], (tabcons (W105 N) (tabcons (W106 N) tabnil)), mixed, false, false⟩) (N := N) (a := (.two .nil (.two (.meet ⟨[(13, .val false (.leaf .bool))], [], [], 32⟩ .nil .nil) .nil))) (sg := S84 N) (c := Tryz.f84.body.getD .skip) (rs := Tryz.f84.results.toList) Tryz.func84 (by kernel_rfl) (by kernel_rfl) rfl rfl rfl rfl (fun x => by kernel_rfl)
noncomputable def M.law_checkScope_c1_v1 (N : Nat) (a0 : rScope.den) (a1 : rScope.den) : Option (Bool × rScope.den) :=
some (decide (a0.1 = a1.1), a1)
noncomputable def S79v1 (N : Nat) : Sig := { inn := ⟨[(0, .val true (.leaf rScope)), (1, .ptr 0 [] 0)], [(0, .box 70 (.leaf rScope))], [], 1⟩, out := ⟨[(0, .val false (.leaf .bool))], [(0, .box 70 (.leaf rScope))], [], 2⟩, fn := fun (x : rScope.den × rScope.den) => M.law_checkScope_c1_v1 N x.1 x.2 }
theorem W79v1 (N : Nat) : FnOK Tryz.prog 79 (S79v1 N) := fn_ok (E := ⟨tabs, [], tabnil, mixed, false, false⟩) (N := N) (a := .nil) (sg := S79v1 N) (c := Tryz.f79.body.getD .skip) (rs := Tryz.f79.results.toList) Tryz.func79 (by kernel_rfl) (by kernel_rfl) rfl rfl rfl rfl (fun x => by kernel_rfl)
noncomputable def M.slices_IndexFunc_guerdon_api_Scope_guerdon_api_Scope_v1 (N : Nat) (a0 : List rScope.den) (a1 : rScope.den) : Option (Int × rScope.den) :=
Loop (S := Int × rScope.den) (X := Int × rScope.den) (fun s1 =>
(if (decide (s1.1 < (a0.length : Int))) = true then
(idx a0 s1.1).bind fun x2 =>
(M.law_checkScope_c1_v1 N x2 s1.2).bind fun y3 =>
(if y3.1 = true then
some (Sum.inr (s1.1, y3.2))
else
some (Sum.inl (IntKind.i64.wrap (s1.1 + (1 : Int)), y3.2)))
else
some (Sum.inr ((-1 : Int), s1.2)))) N ((0 : Int), a1)
noncomputable def S96v1 (N : Nat) : Sig := { inn := ⟨[(0, .val false (.leaf (.slice rScope))), (1, .fn 79 [(0, [], 0)])], [(0, .box 70 (.leaf rScope))], [], 1⟩, out := ⟨[(0, .val false (.leaf rInt))], [(0, .box 70 (.leaf rScope))], [], 2⟩, fn := fun (x : (List rScope.den) × rScope.den) => M.slices_IndexFunc_guerdon_api_Scope_guerdon_api_Scope_v1 N x.1 x.2 }
theorem W96v1 (N : Nat) : FnOK Tryz.prog 96 (S96v1 N) := fn_ok (E := ⟨tabs, [(79, S79v1 N)], (tabcons (W79v1 N) tabnil), mixed, false, false⟩) (N := N) (a := (.two .nil (.two (.two .nil (.two (.loop ⟨[(8, .val false (.leaf rInt))], [(0, .box 70 (.leaf rScope))], [], 66⟩ .nil) .nil)) .nil))) (sg := S96v1 N) (c := Tryz.f96.body.getD .skip) (rs := Tryz.f96.results.toList) Tryz.func96 (by kernel_rfl) (by kernel_rfl) rfl rfl rfl rfl (fun x => by kernel_rfl)
noncomputable def M.slices_ContainsFunc_guerdon_api_Scope_guerdon_api_Scope_v1 (N : Nat) (a0 : List rScope.den) (a1 : rScope.den) : Option (Bool × rScope.den) :=
(M.slices_IndexFunc_guerdon_api_Scope_guerdon_api_Scope_v1 N a0 a1).bind fun y1 =>
some (decide ((0 : Int) ≤ y1.1), y1.2)
noncomputable def S78v1 (N : Nat) : Sig := { inn := ⟨[(0, .val false (.leaf (.slice rScope))), (1, .fn 79 [(0, [], 0)])], [(0, .box 70 (.leaf rScope))], [], 1⟩, out := ⟨[(0, .val false (.leaf .bool))], [(0, .box 70 (.leaf rScope))], [], 2⟩, fn := fun (x : (List rScope.den) × rScope.den) => M.slices_ContainsFunc_guerdon_api_Scope_guerdon_api_Scope_v1 N x.1 x.2 }
theorem W78v1 (N : Nat) : FnOK Tryz.prog 78 (S78v1 N) := fn_ok (E := ⟨tabs, [(96, S96v1 N)], (tabcons (W96v1 N) tabnil), mixed, false, false⟩) (N := N) (a := .nil) (sg := S78v1 N) (c := Tryz.f78.body.getD .skip) (rs := Tryz.f78.results.toList) Tryz.func78 (by kernel_rfl) (by kernel_rfl) rfl rfl rfl rfl (fun x => by kernel_rfl)
noncomputable def M.law_checkScope (N : Nat) (a0 : rLaw.den) (a1 : Int) : Option (Int × Int) :=
(idx a0.2.2 a1).bind fun x1 =>
(cutA a0.2.2 (0 : Int) a1).bind fun l2 =>
((M.law_hasEnum N a0.1 x1.1).bind fun y4 =>
(if y4 = true then
some (true, x1)
else
(M.law_hasTable N a0.2.1 x1.1).bind fun y5 =>
(if y5 = true then
some (true, x1)
else
(M.slices_ContainsFunc_guerdon_api_Scope_guerdon_api_Scope_v1 N l2 x1).bind fun y6 =>
some (y6.1, y6.2))) : Option (Bool × rScope.den)).bind fun j3 =>
(M.lexer_IsIdentifier N j3.2.1).bind fun y7 =>
(if (!y7) = true then
some ((2 : Int), (0 : Int))
else
(if j3.1 = true then
some ((7 : Int), (0 : Int))
else
((if (!decide (j3.2.2.1 = (-1 : Int))) = true then
(if (decide (j3.2.2.1 < (0 : Int))) = true then
some true
else
(if (decide (a1 ≤ j3.2.2.1)) = true then
some true
else
(idx l2 j3.2.2.1).bind fun x9 =>
some (!decide (x9.2.1 = (-1 : Int)))))
else
some false) : Option (Bool)).bind fun j8 =>
(if j8 = true then
some ((6 : Int), (0 : Int))
else
(if (decide ((12 : Int) < (j3.2.2.2.1.length : Int))) = true then
some ((4 : Int), (112 : Int))
else
(if (decide ((12 : Int) < (j3.2.2.2.2.1.length : Int))) = true then
some ((4 : Int), (212 : Int))
else
Join (J := Unit) (R := Int × Int) (Loop (S := Int) (X := (Unit) ⊕ (Int × Int)) (fun s11 =>
(if (decide (s11 < (j3.2.2.2.1.length : Int))) = true then
(idx j3.2.2.2.1 s11).bind fun x12 =>
(cutA j3.2.2.2.1 (0 : Int) s11).bind fun l13 =>
(M.law_checkField N a0 x12 l13 ([] : List rField.den)).bind fun y14 =>
(if (!decide (y14 = (0 : Int))) = true then
some (Sum.inr (Sum.inr (y14, IntKind.i64.wrap ((100 : Int) + s11))))
else
some (Sum.inl (IntKind.i64.wrap (s11 + (1 : Int)))))
else
some (Sum.inr (Sum.inl ())))) N (0 : Int)) fun j10 =>
Join (J := Unit) (R := Int × Int) (Loop (S := Int) (X := (Unit) ⊕ (Int × Int)) (fun s16 =>
(if (decide (s16 < (j3.2.2.2.2.1.length : Int))) = true then
(idx j3.2.2.2.2.1 s16).bind fun x17 =>
(cutA j3.2.2.2.2.1 (0 : Int) s16).bind fun l18 =>
(M.law_checkField N a0 x17 j3.2.2.2.1 l18).bind fun y19 =>
(if (!decide (y19 = (0 : Int))) = true then
some (Sum.inr (Sum.inr (y19, IntKind.i64.wrap ((200 : Int) + s16))))
else
some (Sum.inl (IntKind.i64.wrap (s16 + (1 : Int)))))
else
some (Sum.inr (Sum.inl ())))) N (0 : Int)) fun j15 =>
(M.law_sharedSignature N a0 a1).bind fun y20 =>
Join (J := Unit) (R := Int × Int) (Loop (S := Int) (X := (Unit) ⊕ (Int × Int)) (fun s22 =>
(if (decide (s22 < (j3.2.2.2.2.2.length : Int))) = true then
(M.law_checkRule N j3.2 s22 (y20.1, (y20.2.1, (y20.2.2.2.1, (y20.2.2.2.2.1, (y20.2.2.2.2.2, y20.2.2.1)))))).bind fun y23 =>
(if (!decide (y23 = (0 : Int))) = true then
some (Sum.inr (Sum.inr (y23, IntKind.i64.wrap ((300 : Int) + s22))))
else
some (Sum.inl (IntKind.i64.wrap (s22 + (1 : Int)))))
else
some (Sum.inr (Sum.inl ())))) N (0 : Int)) fun j21 =>
Loop (S := Int) (X := Int × Int) (fun s24 =>
(if (decide (s24 < (j3.2.2.2.2.1.length : Int))) = true then
(M.deps_Transitive N j3.2 s24).bind fun y25 =>
(M.slices_Contains_int_int N y25 s24).bind fun y26 =>
(if y26 = true then
some (Sum.inr ((9 : Int), IntKind.i64.wrap ((200 : Int) + s24)))
else
some (Sum.inl (IntKind.i64.wrap (s24 + (1 : Int)))))
else
some (Sum.inr ((0 : Int), (0 : Int))))) N (0 : Int))))))
noncomputable def S62 (N : Nat) : Sig := { inn := ⟨[(0, .val true (.leaf rLaw)), (1, .val false (.leaf rInt))], [], [], 0⟩, out := ⟨[(0, .val false (.leaf rInt)), (1, .val false (.leaf rInt))], [], [], 0⟩, fn := fun (x : rLaw.den × Int) => M.law_checkScope N x.1 x.2 }
theorem W62 (N : Nat) : FnOK Tryz.prog 62 (S62 N) := fn_ok (E := ⟨tabs, [(59, S59 N), (60, S60 N), (61, S61 N), (78, S78v1 N), (80, S80 N), (81, S81 N), (82, S82 N), (83, S83 N), (84, S84 N)], (tabcons (W59 N) (tabcons (W60 N) (tabcons (W61 N) (tabcons (W78v1 N) (tabcons (W80 N) (tabcons (W81 N) (tabcons (W82 N) (tabcons (W83 N) (tabcons (W84 N) tabnil))))))))), mixed, false, false⟩) (N := N) (a := (.two .nil (.two .nil (.two .nil (.meet ⟨[(8, .val false (.leaf .bool))], [(128, .box 70 (.leaf rScope))], [], 241⟩ .nil (.two (.two (.two .nil (.two .nil (.two .nil (.two .nil (.meet ⟨[(52, .val false (.leaf .bool))], [], [], 353⟩ .nil .nil))))) .nil) (.join ⟨[], [], [], 513⟩ (.two .nil (.two (.loop ⟨[(89, .val false (.leaf rInt))], [], [], 577⟩ .nil) .nil)) (.join ⟨[], [], [], 513⟩ (.two .nil (.two (.loop ⟨[(110, .val false (.leaf rInt))], [], [], 577⟩ .nil) .nil)) (.two .nil (.join ⟨[], [], [], 593⟩ (.two .nil (.two (.loop ⟨[(136, .val false (.leaf rInt))], [], [], 657⟩ .nil) .nil)) (.two (.two .nil (.two (.loop ⟨[(152, .val false (.leaf rInt))], [], [], 657⟩ .nil) .nil)) .nil))))))))))) (sg := S62 N) (c := Tryz.f62.body.getD .skip) (rs := Tryz.f62.results.toList) Tryz.func62 (by kernel_rfl) (by kernel_rfl) rfl rfl rfl rfl (fun x => by kernel_rfl)
noncomputable def M.law_checkScopes (N : Nat) (a0 : rLaw.den) : Option (rLawError.den) :=
(if (decide ((4 : Int) < (a0.2.2.length : Int))) = true then
some ((4 : Int), ((3 : Int), ((4 : Int), (0 : Int))))
else
Join (J := Unit) (R := rLawError.den) (Loop (S := Int) (X := (Unit) ⊕ (rLawError.den)) (fun s2 =>
(if (decide (s2 < (a0.2.2.length : Int))) = true then
(M.law_checkScope N a0 s2).bind fun y3 =>
(if (!decide (y3.1 = (0 : Int))) = true then
some (Sum.inr (Sum.inr (y3.1, ((3 : Int), (s2, y3.2)))))
else
some (Sum.inl (IntKind.i64.wrap (s2 + (1 : Int)))))
else
some (Sum.inr (Sum.inl ())))) N (0 : Int)) fun j1 =>
some ((0 : Int), ((0 : Int), ((0 : Int), (0 : Int)))))
noncomputable def S49 (N : Nat) : Sig := { inn := ⟨[(0, .val true (.leaf rLaw))], [], [], 0⟩, out := ⟨[(0, .val true (.leaf rLawError))], [], [], 0⟩, fn := fun (x : rLaw.den) => M.law_checkScopes N x }
theorem W49 (N : Nat) : FnOK Tryz.prog 49 (S49 N) := fn_ok (E := ⟨tabs, [(62, S62 N)], (tabcons (W62 N) tabnil), mixed, false, false⟩) (N := N) (a := (.two .nil (.two .nil (.join ⟨[], [], [], 96⟩ (.two .nil (.two (.loop ⟨[(14, .val false (.leaf rInt))], [], [], 160⟩ .nil) .nil)) .nil)))) (sg := S49 N) (c := Tryz.f49.body.getD .skip) (rs := Tryz.f49.results.toList) Tryz.func49 (by kernel_rfl) (by kernel_rfl) rfl rfl rfl rfl (fun x => by kernel_rfl)
noncomputable def M.law_Validate (N : Nat) (a0 : rLaw.den) : Option (rLawError.den) :=
(M.law_checkEnums N a0).bind fun y1 =>
(if (!decide (y1.1 = (0 : Int))) = true then
some y1
else
(M.law_checkTables N a0).bind fun y2 =>
(if (!decide (y2.1 = (0 : Int))) = true then
some y2
else
(M.law_checkScopes N a0).bind fun y3 =>
some y3))
noncomputable def S31 (N : Nat) : Sig := { inn := ⟨[(0, .val true (.leaf rLaw))], [], [], 0⟩, out := ⟨[(0, .val true (.leaf rLawError))], [], [], 0⟩, fn := fun (x : rLaw.den) => M.law_Validate N x }
theorem W31 (N : Nat) : FnOK Tryz.prog 31 (S31 N) := fn_ok (E := ⟨tabs, [(47, S47 N), (48, S48 N), (49, S49 N)], (tabcons (W47 N) (tabcons (W48 N) (tabcons (W49 N) tabnil))), mixed, false, false⟩) (N := N) (a := .nil) (sg := S31 N) (c := Tryz.f31.body.getD .skip) (rs := Tryz.f31.results.toList) Tryz.func31 (by kernel_rfl) (by kernel_rfl) rfl rfl rfl rfl (fun x => by kernel_rfl)
noncomputable def M.household_valuesOn (N : Nat) (a0 : List rFact.den) (a1 : Int) (a2 : Int) (a3 : Int) (a4 : Int) : Option (Bool × List rValue.den) :=
(mkL a2 ((0 : Int), ((0 : Int), (0 : Int)))).bind fun l1 =>
Loop (S := Int × List rValue.den) (X := Bool × List rValue.den) (fun s2 =>
(if (decide (s2.1 < (l1.length : Int))) = true then
(M.facts_AsOf N a0 a1 s2.1 a3 a4).bind fun y3 =>
(if (!y3.2) = true then
some (Sum.inr (false, ([] : List rValue.den)))
else
(idx s2.2 s2.1).bind fun x4 =>
some (Sum.inl (IntKind.i64.wrap (s2.1 + (1 : Int)), setL s2.2 s2.1 y3.1)))
else
some (Sum.inr (true, s2.2)))) N ((0 : Int), l1)
noncomputable def S32 (N : Nat) : Sig := { inn := ⟨[(0, .val false (.leaf (.slice rFact))), (1, .val false (.leaf rInt)), (2, .val false (.leaf rInt)), (3, .val false (.leaf rInt)), (4, .val false (.leaf rInt))], [], [], 0⟩, out := ⟨[(0, .val false (.own 0)), (1, .val false (.leaf .bool))], [(0, .own 51 rValue)], [], 1⟩, fn := fun (x : (List rFact.den) × Int × Int × Int × Int) => M.household_valuesOn N x.1 x.2.1 x.2.2.1 x.2.2.2.1 x.2.2.2.2 }
theorem W32 (N : Nat) : FnOK Tryz.prog 32 (S32 N) := fn_ok (E := ⟨tabs, [(29, S29 N)], (tabcons (W29 N) tabnil), mixed, false, false⟩) (N := N) (a := (.two .nil (.two .nil (.two (.two .nil (.two (.loop ⟨[(20, .val false (.leaf rInt))], [(48, .own 51 rValue)], [], 129⟩ .nil) .nil)) .nil)))) (sg := S32 N) (c := Tryz.f32.body.getD .skip) (rs := Tryz.f32.results.toList) Tryz.func32 (by kernel_rfl) (by kernel_rfl) rfl rfl rfl rfl (fun x => by kernel_rfl)
noncomputable def M.household_CaseOn (N : Nat) (a0 : rLaw.den) (a1 : rHousehold.den) (a2 : Int) (a3 : Int) : Option (Int × Int × (List rValue.den) × List (List rValue.den)) :=
(M.law_Validate N a0).bind fun y1 =>
(if (!(eqR rLawError y1 ((0 : Int), ((0 : Int), ((0 : Int), (0 : Int)))))) = true then
some ((0 : Int), (1 : Int), ([] : List rValue.den), ([] : List (List rValue.den)))
else
(M.household_Validate N a0 a1).bind fun y2 =>
(if (!decide (y2.2 = (0 : Int))) = true then
some ((0 : Int), (1 : Int), ([] : List rValue.den), ([] : List (List rValue.den)))
else
((if (decide (a2 < (0 : Int))) = true then
some true
else
some (decide ((109572 : Int) < a2))) : Option (Bool)).bind fun j3 =>
(if j3 = true then
some ((0 : Int), (3 : Int), ([] : List rValue.den), ([] : List (List rValue.den)))
else
(idx a0.2.2 a1.2.1).bind fun x4 =>
(M.household_valuesOn N a1.2.2.2 (-1 : Int) (x4.2.2.1.length : Int) a2 a3).bind fun y5 =>
(if (!y5.1) = true then
some ((0 : Int), (6 : Int), ([] : List rValue.den), ([] : List (List rValue.den)))
else
(M.household_memberInputs N a0 a1.2.1).bind fun y6 =>
Join (J := Int × (List rValue.den) × List (List rValue.den)) (R := Int × Int × (List rValue.den) × List (List rValue.den)) ((M.household_MembersOn N a1 a2 a3).bind fun y8 =>
Loop (S := Int × Int × (List rValue.den) × List (List rValue.den)) (X := (Int × (List rValue.den) × List (List rValue.den)) ⊕ (Int × Int × (List rValue.den) × List (List rValue.den))) (fun s9 =>
(if (decide (s9.1 < (y8.length : Int))) = true then
(idx y8 s9.1).bind fun x10 =>
(M.household_valuesOn N a1.2.2.2 x10 (y6.1.length : Int) a2 a3).bind fun y11 =>
(if (!y11.1) = true then
some (Sum.inr (Sum.inr ((0 : Int), (6 : Int), ([] : List rValue.den), ([] : List (List rValue.den)))))
else
(appA s9.2.2.2 ([y11.2] : List (List rValue.den))).bind fun l12 =>
some (Sum.inl (IntKind.i64.wrap (s9.1 + (1 : Int)), s9.2.1, s9.2.2.1, l12)))
else
some (Sum.inr (Sum.inl (s9.2.1, s9.2.2.1, s9.2.2.2))))) N ((0 : Int), a2, y5.2, ([] : List (List rValue.den)))) fun j7 =>
some (j7.1, (0 : Int), j7.2.1, j7.2.2)))))
noncomputable def S17 (N : Nat) : Sig := { inn := ⟨[(0, .val true (.leaf rLaw)), (1, .val true (.leaf rHousehold)), (2, .val false (.leaf rInt)), (3, .val false (.leaf rInt))], [], [], 0⟩, out := ⟨[(0, .val true (.pair (.leaf rInt) (.pair (.own 0) (.own 1)))), (1, .val false (.leaf rInt))], [(0, .own 51 rValue), (1, .own 41 (.slice rValue))], [], 2⟩, fn := fun (x : rLaw.den × rHousehold.den × Int × Int) => M.household_CaseOn N x.1 x.2.1 x.2.2.1 x.2.2.2 }
theorem W17 (N : Nat) : FnOK Tryz.prog 17 (S17 N) := fn_ok (E := ⟨tabs, [(12, S12 N), (15, S15 N), (23, S23 N), (31, S31 N), (32, S32 N)], (tabcons (W12 N) (tabcons (W15 N) (tabcons (W23 N) (tabcons (W31 N) (tabcons (W32 N) tabnil))))), mixed, false, false⟩) (N := N) (a := (.two .nil (.two .nil (.two .nil (.two (.meet ⟨[(40, .val false (.leaf .bool))], [], [], 288⟩ .nil .nil) (.two .nil (.two .nil (.two .nil (.two .nil (.two .nil (.join ⟨[], [(320, .box 44 (.pair (.leaf rInt) (.pair (.own 544) (.own 864)))), (544, .own 51 rValue), (864, .own 41 (.slice rValue))], [], 867⟩ (.two .nil (.two (.loop ⟨[(77, .val false (.leaf rInt))], [(320, .box 44 (.pair (.leaf rInt) (.pair (.own 544) (.own 960)))), (544, .own 51 rValue), (960, .own 41 (.slice rValue))], [], 963⟩ .nil) .nil)) .nil))))))))))) (sg := S17 N) (c := Tryz.f17.body.getD .skip) (rs := Tryz.f17.results.toList) Tryz.func17 (by kernel_rfl) (by kernel_rfl) rfl rfl rfl rfl (fun x => by kernel_rfl)
noncomputable def M.same_TinyLaw (N : Nat) (a0 : List rType.den) : Option (List rScope.den) :=
some ([((⟨#[104, 111, 117, 115, 101]⟩ : ByteArray), ((-1 : Int), (([((⟨#[97]⟩ : ByteArray), ((3 : Int), (0 : Int)))] : List rField.den), (([((⟨#[100]⟩ : ByteArray), ((3 : Int), (0 : Int)))] : List rField.den), ([((⟨#[98, 97, 115, 101]⟩ : ByteArray), ((0 : Int), ((-1 : Int), ((0 : Int), (((0 : Int), (109573 : Int)), (([] : List rType.den), (a0, ByteArray.empty)))))))] : List rRule.den)))))] : List rScope.den)
noncomputable def S22 (N : Nat) : Sig := { inn := ⟨[(0, .val false (.leaf (.slice rType)))], [], [], 0⟩, out := ⟨[(0, .val true (.pair .nil (.pair .nil (.own 0))))], [(0, .own 70 rScope)], [], 1⟩, fn := fun (x : List rType.den) => M.same_TinyLaw N x }
theorem W22 (N : Nat) : FnOK Tryz.prog 22 (S22 N) := fn_ok (E := ⟨tabs, [], tabnil, mixed, false, false⟩) (N := N) (a := .nil) (sg := S22 N) (c := Tryz.f22.body.getD .skip) (rs := Tryz.f22.results.toList) Tryz.func22 (by kernel_rfl) (by kernel_rfl) rfl rfl rfl rfl (fun x => by kernel_rfl)
noncomputable def M.law35_awake (N : Nat) : Option (Bool) :=
(M.same_TinyLaw N ([((7 : Int), (0 : Int))] : List rType.den)).bind fun y1 =>
(M.household_Validate N (([] : List rEnum.den), (([] : List rTable.den), y1)) ((1 : Int), ((0 : Int), ((0 : Int), ([((1 : Int), ((-1 : Int), ((0 : Int), (((3 : Int), ((0 : Int), (1000 : Int))), (((0 : Int), (109573 : Int)), (36525 : Int)))))), ((2 : Int), ((-1 : Int), ((0 : Int), (((3 : Int), ((0 : Int), (2000 : Int))), (((36600 : Int), (109573 : Int)), (36700 : Int))))))] : List rFact.den))))).bind fun y2 =>
(M.household_CaseOn N (([] : List rEnum.den), (([] : List rTable.den), y1)) ((1 : Int), ((0 : Int), ((0 : Int), ([((1 : Int), ((-1 : Int), ((0 : Int), (((3 : Int), ((0 : Int), (1000 : Int))), (((0 : Int), (109573 : Int)), (36525 : Int)))))), ((2 : Int), ((-1 : Int), ((0 : Int), (((3 : Int), ((0 : Int), (2000 : Int))), (((36600 : Int), (109573 : Int)), (36700 : Int))))))] : List rFact.den)))) (36650 : Int) (36650 : Int)).bind fun y3 =>
(M.household_CaseOn N (([] : List rEnum.den), (([] : List rTable.den), y1)) ((1 : Int), ((0 : Int), ((0 : Int), ([((1 : Int), ((-1 : Int), ((0 : Int), (((3 : Int), ((0 : Int), (1000 : Int))), (((0 : Int), (109573 : Int)), (36525 : Int)))))), ((2 : Int), ((-1 : Int), ((0 : Int), (((3 : Int), ((0 : Int), (2000 : Int))), (((36600 : Int), (109573 : Int)), (36700 : Int))))))] : List rFact.den)))) (36650 : Int) (36700 : Int)).bind fun y4 =>
(M.household_CaseOn N (([] : List rEnum.den), (([] : List rTable.den), y1)) ((1 : Int), ((0 : Int), ((0 : Int), ([((1 : Int), ((-1 : Int), ((0 : Int), (((3 : Int), ((0 : Int), (1000 : Int))), (((0 : Int), (109573 : Int)), (36525 : Int)))))), ((2 : Int), ((-1 : Int), ((0 : Int), (((3 : Int), ((0 : Int), (2000 : Int))), (((36600 : Int), (109573 : Int)), (36700 : Int))))))] : List rFact.den)))) (36650 : Int) (36500 : Int)).bind fun y5 =>
((if (decide (y2.2 = (0 : Int))) = true then
(if (decide (y3.2.1 = (0 : Int))) = true then
(if (decide ((y3.2.2.1.length : Int) = (1 : Int))) = true then
(idx y3.2.2.1 (0 : Int)).bind fun x7 =>
(if (decide (x7.2.2 = (1000 : Int))) = true then
(if (decide (y4.2.1 = (0 : Int))) = true then
(if (decide ((y4.2.2.1.length : Int) = (1 : Int))) = true then
(idx y4.2.2.1 (0 : Int)).bind fun x8 =>
(if (decide (x8.2.2 = (2000 : Int))) = true then
(if (decide (y5.2.1 = (6 : Int))) = true then
(M.household_MembersOn N ((0 : Int), ((0 : Int), ((2 : Int), ([((0 : Int), ((1 : Int), ((-1 : Int), (((1 : Int), ((0 : Int), (1 : Int))), (((5 : Int), (9 : Int)), (0 : Int))))))] : List rFact.den)))) (5 : Int) (0 : Int)).bind fun y9 =>
(M.same_Ints N y9 ([(1 : Int)] : List Int)).bind fun y10 =>
some y10
else
some false)
else
some false)
else
some false)
else
some false)
else
some false)
else
some false)
else
some false)
else
some false) : Option (Bool)).bind fun j6 =>
some j6
noncomputable def S11 (N : Nat) : Sig := { inn := ⟨[], [], [], 0⟩, out := ⟨[(0, .val false (.leaf .bool))], [], [], 0⟩, fn := fun (x : Unit) => M.law35_awake N }
theorem W11 (N : Nat) : FnOK Tryz.prog 11 (S11 N) := fn_ok (E := ⟨tabs, [(12, S12 N), (14, S14 N), (15, S15 N), (17, S17 N), (22, S22 N)], (tabcons (W12 N) (tabcons (W14 N) (tabcons (W15 N) (tabcons (W17 N) (tabcons (W22 N) tabnil))))), mixed, false, false⟩) (N := N) (a := (.two .nil (.two .nil (.two .nil (.two .nil (.two .nil (.two .nil (.two .nil (.two .nil (.meet ⟨[(0, .val false (.leaf .bool))], [], [], 928⟩ .nil .nil)))))))))) (sg := S11 N) (c := Tryz.f11.body.getD .skip) (rs := Tryz.f11.results.toList) Tryz.func11 (by kernel_rfl) (by kernel_rfl) rfl rfl rfl rfl (fun x => by kernel_rfl)
noncomputable def M.ref35_memberInputs (N : Nat) (a0 : rLaw.den) (a1 : Int) : Option ((List rField.den) × Bool) :=
(idx a0.2.2 a1).bind fun x1 =>
((if (decide (x1.2.1 < (0 : Int))) = true then
some true
else
some (decide ((a0.2.2.length : Int) ≤ x1.2.1))) : Option (Bool)).bind fun j2 =>
(if j2 = true then
some (([] : List rField.den), false)
else
(idx a0.2.2 x1.2.1).bind fun x3 =>
some (x3.2.2.1, true))
noncomputable def S26 (N : Nat) : Sig := { inn := ⟨[(0, .val true (.leaf rLaw)), (1, .val false (.leaf rInt))], [], [], 0⟩, out := ⟨[(0, .val false (.leaf (.slice rField))), (1, .val false (.leaf .bool))], [], [], 0⟩, fn := fun (x : rLaw.den × Int) => M.ref35_memberInputs N x.1 x.2 }
theorem W26 (N : Nat) : FnOK Tryz.prog 26 (S26 N) := fn_ok (E := ⟨tabs, [], tabnil, mixed, false, false⟩) (N := N) (a := (.two .nil (.two .nil (.two (.meet ⟨[(21, .val false (.leaf .bool))], [], [], 160⟩ .nil .nil) .nil)))) (sg := S26 N) (c := Tryz.f26.body.getD .skip) (rs := Tryz.f26.results.toList) Tryz.func26 (by kernel_rfl) (by kernel_rfl) rfl rfl rfl rfl (fun x => by kernel_rfl)
noncomputable def M.ref05_Valid (N : Nat) (a0 : rType.den) : Option (Bool) :=
((if (decide ((0 : Int) ≤ a0.1)) = true then
(if (decide (a0.1 ≤ a0.2)) = true then
some (decide (a0.2 ≤ (109573 : Int)))
else
some false)
else
some false) : Option (Bool)).bind fun j1 =>
some j1
noncomputable def S56 (N : Nat) : Sig := { inn := ⟨[(0, .val true (.leaf rType))], [], [], 0⟩, out := ⟨[(0, .val false (.leaf .bool))], [], [], 0⟩, fn := fun (x : rType.den) => M.ref05_Valid N x }
theorem W56 (N : Nat) : FnOK Tryz.prog 56 (S56 N) := fn_ok (E := ⟨tabs, [], tabnil, mixed, false, false⟩) (N := N) (a := (.two .nil (.meet ⟨[(2, .val false (.leaf .bool))], [], [], 32⟩ .nil .nil))) (sg := S56 N) (c := Tryz.f56.body.getD .skip) (rs := Tryz.f56.results.toList) Tryz.func56 (by kernel_rfl) (by kernel_rfl) rfl rfl rfl rfl (fun x => by kernel_rfl)
noncomputable def M.ref34_nonempty (N : Nat) (a0 : rType.den) : Option (Bool) :=
((M.ref05_Valid N a0).bind fun y2 =>
(if y2 = true then
some (decide (a0.1 < a0.2))
else
some false) : Option (Bool)).bind fun j1 =>
some j1
noncomputable def S53 (N : Nat) : Sig := { inn := ⟨[(0, .val true (.leaf rType))], [], [], 0⟩, out := ⟨[(0, .val false (.leaf .bool))], [], [], 0⟩, fn := fun (x : rType.den) => M.ref34_nonempty N x }
theorem W53 (N : Nat) : FnOK Tryz.prog 53 (S53 N) := fn_ok (E := ⟨tabs, [(56, S56 N)], (tabcons (W56 N) tabnil), mixed, false, false⟩) (N := N) (a := (.two .nil (.meet ⟨[(2, .val false (.leaf .bool))], [], [], 32⟩ .nil .nil))) (sg := S53 N) (c := Tryz.f53.body.getD .skip) (rs := Tryz.f53.results.toList) Tryz.func53 (by kernel_rfl) (by kernel_rfl) rfl rfl rfl rfl (fun x => by kernel_rfl)
noncomputable def M.ref34_fault (N : Nat) (a0 : List rFact.den) (a1 : Int) : Option (Int) :=
(idx a0 a1).bind fun x1 =>
((if (decide (x1.1 < (0 : Int))) = true then
some true
else
(if (decide (x1.2.1 < (-1 : Int))) = true then
some true
else
(if (decide ((7 : Int) < x1.2.1)) = true then
some true
else
(if (decide (x1.2.2.1 < (-1 : Int))) = true then
some true
else
(if (decide ((11 : Int) < x1.2.2.1)) = true then
some true
else
(if (decide (x1.2.1 = (-1 : Int))) = true then
(if (decide (x1.2.2.1 = (-1 : Int))) = true then
some true
else
(M.ref34_nonempty N x1.2.2.2.2.1).bind fun y3 =>
(if (!y3) = true then
some true
else
(if (decide (x1.2.2.2.2.2 < (0 : Int))) = true then
some true
else
some (decide ((109572 : Int) < x1.2.2.2.2.2)))))
else
(M.ref34_nonempty N x1.2.2.2.2.1).bind fun y4 =>
(if (!y4) = true then
some true
else
(if (decide (x1.2.2.2.2.2 < (0 : Int))) = true then
some true
else
some (decide ((109572 : Int) < x1.2.2.2.2.2)))))))))) : Option (Bool)).bind fun j2 =>
(if j2 = true then
some (3 : Int)
else
((if (decide (x1.2.2.2.1.1 < (1 : Int))) = true then
some true
else
(if (decide ((6 : Int) < x1.2.2.2.1.1)) = true then
some true
else
(if (decide (x1.2.2.1 = (-1 : Int))) = true then
some (!decide (x1.2.2.2.1.1 = (1 : Int)))
else
some false))) : Option (Bool)).bind fun j5 =>
(if j5 = true then
some (8 : Int)
else
Loop (S := Int) (X := Int) (fun s6 =>
(if (decide (s6 < a1)) = true then
(idx a0 s6).bind fun x7 =>
(if (decide (x7.1 = x1.1)) = true then
some (Sum.inr (7 : Int))
else
some (Sum.inl (IntKind.i64.wrap (s6 + (1 : Int)))))
else
some (Sum.inr (0 : Int)))) N (0 : Int)))
noncomputable def S41 (N : Nat) : Sig := { inn := ⟨[(0, .val false (.leaf (.slice rFact))), (1, .val false (.leaf rInt))], [], [], 0⟩, out := ⟨[(0, .val false (.leaf rInt))], [], [], 0⟩, fn := fun (x : (List rFact.den) × Int) => M.ref34_fault N x.1 x.2 }
theorem W41 (N : Nat) : FnOK Tryz.prog 41 (S41 N) := fn_ok (E := ⟨tabs, [(53, S53 N)], (tabcons (W53 N) tabnil), mixed, false, false⟩) (N := N) (a := (.two .nil (.two .nil (.two (.meet ⟨[(59, .val false (.leaf .bool))], [], [], 112⟩ .nil .nil) (.two (.meet ⟨[(80, .val false (.leaf .bool))], [], [], 112⟩ .nil .nil) (.two (.two .nil (.two (.loop ⟨[(6, .val false (.leaf rInt))], [], [], 128⟩ .nil) .nil)) .nil)))))) (sg := S41 N) (c := Tryz.f41.body.getD .skip) (rs := Tryz.f41.results.toList) Tryz.func41 (by kernel_rfl) (by kernel_rfl) rfl rfl rfl rfl (fun x => by kernel_rfl)
noncomputable def M.ref34_Validate (N : Nat) (a0 : List rFact.den) : Option (Int × Int) :=
(if (decide ((128 : Int) < (a0.length : Int))) = true then
some ((0 : Int), (4 : Int))
else
Loop (S := Int) (X := Int × Int) (fun s1 =>
(if (decide (s1 < (a0.length : Int))) = true then
(M.ref34_fault N a0 s1).bind fun y2 =>
(if (!decide (y2 = (0 : Int))) = true then
some (Sum.inr (s1, y2))
else
some (Sum.inl (IntKind.i64.wrap (s1 + (1 : Int)))))
else
some (Sum.inr ((0 : Int), (0 : Int))))) N (0 : Int))
noncomputable def S27 (N : Nat) : Sig := { inn := ⟨[(0, .val false (.leaf (.slice rFact)))], [], [], 0⟩, out := ⟨[(0, .val false (.leaf rInt)), (1, .val false (.leaf rInt))], [], [], 0⟩, fn := fun (x : List rFact.den) => M.ref34_Validate N x }
theorem W27 (N : Nat) : FnOK Tryz.prog 27 (S27 N) := fn_ok (E := ⟨tabs, [(41, S41 N)], (tabcons (W41 N) tabnil), mixed, false, false⟩) (N := N) (a := (.two .nil (.two .nil (.two (.two .nil (.two (.loop ⟨[(4, .val false (.leaf rInt))], [], [], 96⟩ .nil) .nil)) .nil)))) (sg := S27 N) (c := Tryz.f27.body.getD .skip) (rs := Tryz.f27.results.toList) Tryz.func27 (by kernel_rfl) (by kernel_rfl) rfl rfl rfl rfl (fun x => by kernel_rfl)
noncomputable def M.ref09_Type (N : Nat) (a0 : rValue.den) : Option (rType.den) :=
some (a0.1, a0.2.1)
noncomputable def S42 (N : Nat) : Sig := { inn := ⟨[(0, .val true (.leaf rValue))], [], [], 0⟩, out := ⟨[(0, .val true (.leaf rType))], [], [], 0⟩, fn := fun (x : rValue.den) => M.ref09_Type N x }
theorem W42 (N : Nat) : FnOK Tryz.prog 42 (S42 N) := fn_ok (E := ⟨tabs, [], tabnil, mixed, false, false⟩) (N := N) (a := .nil) (sg := S42 N) (c := Tryz.f42.body.getD .skip) (rs := Tryz.f42.results.toList) Tryz.func42 (by kernel_rfl) (by kernel_rfl) rfl rfl rfl rfl (fun x => by kernel_rfl)
noncomputable def M.ref09_ValidType (N : Nat) (a0 : rType.den) (a1 : List rEnum.den) : Option (Bool) :=
(if (decide (a0.1 = (6 : Int))) = true then
((if (decide ((0 : Int) ≤ a0.2)) = true then
some (decide (a0.2 < (a1.length : Int)))
else
some false) : Option (Bool)).bind fun j1 =>
some j1
else
((if (decide ((1 : Int) ≤ a0.1)) = true then
(if (decide (a0.1 ≤ (5 : Int))) = true then
some (decide (a0.2 = (0 : Int)))
else
some false)
else
some false) : Option (Bool)).bind fun j2 =>
some j2)
noncomputable def S66 (N : Nat) : Sig := { inn := ⟨[(0, .val true (.leaf rType)), (1, .val false (.leaf (.slice rEnum)))], [], [], 0⟩, out := ⟨[(0, .val false (.leaf .bool))], [], [], 0⟩, fn := fun (x : rType.den × List rEnum.den) => M.ref09_ValidType N x.1 x.2 }
theorem W66 (N : Nat) : FnOK Tryz.prog 66 (S66 N) := fn_ok (E := ⟨tabs, [], tabnil, mixed, false, false⟩) (N := N) (a := (.two .nil (.two (.two .nil (.two (.meet ⟨[(4, .val false (.leaf .bool))], [], [], 80⟩ .nil .nil) .nil)) (.meet ⟨[(4, .val false (.leaf .bool))], [], [], 80⟩ .nil .nil)))) (sg := S66 N) (c := Tryz.f66.body.getD .skip) (rs := Tryz.f66.results.toList) Tryz.func66 (by kernel_rfl) (by kernel_rfl) rfl rfl rfl rfl (fun x => by kernel_rfl)
noncomputable def M.ref09_Bounds (N : Nat) (a0 : rType.den) (a1 : List rEnum.den) : Option (Int × Int) :=
(M.ref09_ValidType N a0 a1).bind fun y1 =>
(if (!y1) = true then
some ((0 : Int), (-1 : Int))
else
(if (decide (a0.1 = (1 : Int))) = true then
some ((0 : Int), (1 : Int))
else
(if (decide (a0.1 = (2 : Int))) = true then
some ((-1000000000000 : Int), (1000000000000 : Int))
else
(if (decide (a0.1 = (3 : Int))) = true then
some ((-1000000000000000 : Int), (1000000000000000 : Int))
else
(if (decide (a0.1 = (4 : Int))) = true then
some ((-1000000000 : Int), (1000000000 : Int))
else
(if (decide (a0.1 = (5 : Int))) = true then
some ((0 : Int), (109572 : Int))
else
(idx a1 a0.2).bind fun x2 =>
some ((0 : Int), IntKind.i64.wrap ((x2.2.length : Int) - (1 : Int)))))))))
noncomputable def S54 (N : Nat) : Sig := { inn := ⟨[(0, .val true (.leaf rType)), (1, .val false (.leaf (.slice rEnum)))], [], [], 0⟩, out := ⟨[(0, .val false (.leaf rInt)), (1, .val false (.leaf rInt))], [], [], 0⟩, fn := fun (x : rType.den × List rEnum.den) => M.ref09_Bounds N x.1 x.2 }
theorem W54 (N : Nat) : FnOK Tryz.prog 54 (S54 N) := fn_ok (E := ⟨tabs, [(66, S66 N)], (tabcons (W66 N) tabnil), mixed, false, false⟩) (N := N) (a := .nil) (sg := S54 N) (c := Tryz.f54.body.getD .skip) (rs := Tryz.f54.results.toList) Tryz.func54 (by kernel_rfl) (by kernel_rfl) rfl rfl rfl rfl (fun x => by kernel_rfl)
noncomputable def M.ref09_In (N : Nat) (a0 : Int) (a1 : rType.den) (a2 : List rEnum.den) : Option (Bool) :=
(M.ref09_Bounds N a1 a2).bind fun y1 =>
((if (decide (y1.1 ≤ a0)) = true then
some (decide (a0 ≤ y1.2))
else
some false) : Option (Bool)).bind fun j2 =>
some j2
noncomputable def S43 (N : Nat) : Sig := { inn := ⟨[(0, .val false (.leaf rInt)), (1, .val true (.leaf rType)), (2, .val false (.leaf (.slice rEnum)))], [], [], 0⟩, out := ⟨[(0, .val false (.leaf .bool))], [], [], 0⟩, fn := fun (x : Int × rType.den × List rEnum.den) => M.ref09_In N x.1 x.2.1 x.2.2 }
theorem W43 (N : Nat) : FnOK Tryz.prog 43 (S43 N) := fn_ok (E := ⟨tabs, [(54, S54 N)], (tabcons (W54 N) tabnil), mixed, false, false⟩) (N := N) (a := (.two .nil (.two .nil (.meet ⟨[(6, .val false (.leaf .bool))], [], [], 160⟩ .nil .nil)))) (sg := S43 N) (c := Tryz.f43.body.getD .skip) (rs := Tryz.f43.results.toList) Tryz.func43 (by kernel_rfl) (by kernel_rfl) rfl rfl rfl rfl (fun x => by kernel_rfl)
noncomputable def M.ref35_factError (N : Nat) (a0 : rLaw.den) (a1 : rHousehold.den) (a2 : rFact.den) : Option (Int) :=
(if (decide (a1.2.2.1 ≤ a2.2.1)) = true then
some (6 : Int)
else
(idx a0.2.2 a1.2.1).bind fun x1 =>
((if (decide ((0 : Int) ≤ a2.2.1)) = true then
(M.ref35_memberInputs N a0 a1.2.1).bind fun y3 =>
some y3.1
else
some x1.2.2.1) : Option (List rField.den)).bind fun j2 =>
Join (J := rType.den) (R := Int) ((if (!decide (a2.2.2.1 = (-1 : Int))) = true then
((if (decide (a2.2.2.1 < (0 : Int))) = true then
some true
else
some (decide ((j2.length : Int) ≤ a2.2.2.1))) : Option (Bool)).bind fun j5 =>
(if j5 = true then
some (Sum.inr (6 : Int))
else
(idx j2 a2.2.2.1).bind fun x6 =>
some (Sum.inl x6.2))
else
some (Sum.inl ((1 : Int), (0 : Int))))) fun j4 =>
(M.ref09_Type N a2.2.2.2.1).bind fun y7 =>
(if (!(eqR rType y7 j4)) = true then
some (8 : Int)
else
(M.ref09_In N a2.2.2.2.1.2.2 j4 a0.1).bind fun y8 =>
(if (!y8) = true then
some (3 : Int)
else
some (0 : Int))))
noncomputable def S28 (N : Nat) : Sig := { inn := ⟨[(0, .val true (.leaf rLaw)), (1, .val true (.leaf rHousehold)), (2, .val true (.leaf rFact))], [], [], 0⟩, out := ⟨[(0, .val false (.leaf rInt))], [], [], 0⟩, fn := fun (x : rLaw.den × rHousehold.den × rFact.den) => M.ref35_factError N x.1 x.2.1 x.2.2 }
theorem W28 (N : Nat) : FnOK Tryz.prog 28 (S28 N) := fn_ok (E := ⟨tabs, [(26, S26 N), (42, S42 N), (43, S43 N)], (tabcons (W26 N) (tabcons (W42 N) (tabcons (W43 N) tabnil))), mixed, false, false⟩) (N := N) (a := (.two .nil (.two .nil (.two .nil (.meet ⟨[(7, .val false (.leaf (.slice rField)))], [], [], 272⟩ .nil (.two .nil (.join ⟨[], [(288, .box 63 (.leaf rType))], [], 321⟩ (.two .nil (.two (.two (.meet ⟨[(44, .val false (.leaf .bool))], [], [], 368⟩ .nil .nil) .nil) .nil)) .nil))))))) (sg := S28 N) (c := Tryz.f28.body.getD .skip) (rs := Tryz.f28.results.toList) Tryz.func28 (by kernel_rfl) (by kernel_rfl) rfl rfl rfl rfl (fun x => by kernel_rfl)
noncomputable def M.ref35_Validate (N : Nat) (a0 : rLaw.den) (a1 : rHousehold.den) : Option (Int × Int) :=
((if (decide (a1.2.1 < (0 : Int))) = true then
some true
else
some (decide ((a0.2.2.length : Int) ≤ a1.2.1))) : Option (Bool)).bind fun j1 =>
(if j1 = true then
some ((-1 : Int), (6 : Int))
else
(M.ref35_memberInputs N a0 a1.2.1).bind fun y2 =>
((if (decide (a1.1 < (0 : Int))) = true then
some true
else
(if (decide (a1.2.2.1 < (0 : Int))) = true then
some true
else
(if (decide ((8 : Int) < a1.2.2.1)) = true then
some true
else
(if (!decide (a1.2.2.1 = (0 : Int))) = true then
some (!y2.2)
else
some false)))) : Option (Bool)).bind fun j3 =>
(if j3 = true then
some ((-1 : Int), (3 : Int))
else
(M.ref34_Validate N a1.2.2.2).bind fun y4 =>
(if (!decide (y4.2 = (0 : Int))) = true then
some (y4.1, y4.2)
else
Loop (S := Int) (X := Int × Int) (fun s5 =>
(if (decide (s5 < (a1.2.2.2.length : Int))) = true then
(idx a1.2.2.2 s5).bind fun x6 =>
(M.ref35_factError N a0 a1 x6).bind fun y7 =>
(if (!decide (y7 = (0 : Int))) = true then
some (Sum.inr (s5, y7))
else
some (Sum.inl (IntKind.i64.wrap (s5 + (1 : Int)))))
else
some (Sum.inr ((0 : Int), (0 : Int))))) N (0 : Int))))
noncomputable def S13 (N : Nat) : Sig := { inn := ⟨[(0, .val true (.leaf rLaw)), (1, .val true (.leaf rHousehold))], [], [], 0⟩, out := ⟨[(0, .val false (.leaf rInt)), (1, .val false (.leaf rInt))], [], [], 0⟩, fn := fun (x : rLaw.den × rHousehold.den) => M.ref35_Validate N x.1 x.2 }
theorem W13 (N : Nat) : FnOK Tryz.prog 13 (S13 N) := fn_ok (E := ⟨tabs, [(26, S26 N), (27, S27 N), (28, S28 N)], (tabcons (W26 N) (tabcons (W27 N) (tabcons (W28 N) tabnil))), mixed, false, false⟩) (N := N) (a := (.two .nil (.two (.meet ⟨[(22, .val false (.leaf .bool))], [], [], 64⟩ .nil .nil) (.two .nil (.two (.meet ⟨[(51, .val false (.leaf .bool))], [], [], 208⟩ .nil .nil) (.two .nil (.two .nil (.two (.two .nil (.two (.loop ⟨[(10, .val false (.leaf rInt))], [], [], 384⟩ .nil) .nil)) .nil)))))))) (sg := S13 N) (c := Tryz.f13.body.getD .skip) (rs := Tryz.f13.results.toList) Tryz.func13 (by kernel_rfl) (by kernel_rfl) rfl rfl rfl rfl (fun x => by kernel_rfl)
noncomputable def M.law35_HouseholdValidate (N : Nat) (a0 : rLaw.den) (a1 : rHousehold.den) : Option (Bool) :=
((M.same_SmallLaw N a0).bind fun y2 =>
(if (!y2) = true then
some true
else
(M.same_SmallHousehold N a1).bind fun y3 =>
some (!y3)) : Option (Bool)).bind fun j1 =>
(if j1 = true then
(M.law35_awake N).bind fun y4 =>
some y4
else
(M.household_Validate N a0 a1).bind fun y5 =>
(M.ref35_Validate N a0 a1).bind fun y6 =>
((if (decide (y5.1 = y6.1)) = true then
(if (decide (y5.2 = y6.2)) = true then
(M.law35_awake N).bind fun y8 =>
some y8
else
some false)
else
some false) : Option (Bool)).bind fun j7 =>
some j7)
noncomputable def S3 (N : Nat) : Sig := { inn := ⟨[(0, .val true (.leaf rLaw)), (1, .val true (.leaf rHousehold))], [], [], 0⟩, out := ⟨[(0, .val false (.leaf .bool))], [], [], 0⟩, fn := fun (x : rLaw.den × rHousehold.den) => M.law35_HouseholdValidate N x.1 x.2 }
theorem W3 (N : Nat) : FnOK Tryz.prog 3 (S3 N) := fn_ok (E := ⟨tabs, [(9, S9 N), (10, S10 N), (11, S11 N), (12, S12 N), (13, S13 N)], (tabcons (W9 N) (tabcons (W10 N) (tabcons (W11 N) (tabcons (W12 N) (tabcons (W13 N) tabnil))))), mixed, false, false⟩) (N := N) (a := (.two .nil (.two (.meet ⟨[(16, .val false (.leaf .bool))], [], [], 48⟩ .nil .nil) (.two .nil (.two .nil (.meet ⟨[(4, .val false (.leaf .bool))], [], [], 304⟩ .nil .nil)))))) (sg := S3 N) (c := Tryz.f3.body.getD .skip) (rs := Tryz.f3.results.toList) Tryz.func3 (by kernel_rfl) (by kernel_rfl) rfl rfl rfl rfl (fun x => by kernel_rfl)
noncomputable def M.ref05_Contains (N : Nat) (a0 : rType.den) (a1 : Int) : Option (Bool) :=
((M.ref05_Valid N a0).bind fun y2 =>
(if y2 = true then
(if (decide (a0.1 ≤ a1)) = true then
some (decide (a1 < a0.2))
else
some false)
else
some false) : Option (Bool)).bind fun j1 =>
some j1
noncomputable def S46 (N : Nat) : Sig := { inn := ⟨[(0, .val true (.leaf rType)), (1, .val false (.leaf rInt))], [], [], 0⟩, out := ⟨[(0, .val false (.leaf .bool))], [], [], 0⟩, fn := fun (x : rType.den × Int) => M.ref05_Contains N x.1 x.2 }
theorem W46 (N : Nat) : FnOK Tryz.prog 46 (S46 N) := fn_ok (E := ⟨tabs, [(56, S56 N)], (tabcons (W56 N) tabnil), mixed, false, false⟩) (N := N) (a := (.two .nil (.meet ⟨[(4, .val false (.leaf .bool))], [], [], 32⟩ .nil .nil))) (sg := S46 N) (c := Tryz.f46.body.getD .skip) (rs := Tryz.f46.results.toList) Tryz.func46 (by kernel_rfl) (by kernel_rfl) rfl rfl rfl rfl (fun x => by kernel_rfl)
noncomputable def M.ref34_AsOf (N : Nat) (a0 : List rFact.den) (a1 : Int) (a2 : Int) (a3 : Int) (a4 : Int) : Option (rValue.den × Bool) :=
(Loop (S := Int × Int) (X := Int) (fun s2 =>
(if (decide (s2.2 < (a0.length : Int))) = true then
((idx a0 s2.2).bind fun x4 =>
((if (!decide (x4.2.1 = a1)) = true then
some true
else
(if (!decide (x4.2.2.1 = a2)) = true then
some true
else
(if (decide (a4 < x4.2.2.2.2.2)) = true then
some true
else
(M.ref05_Contains N x4.2.2.2.2.1 a3).bind fun y6 =>
some (!y6)))) : Option (Bool)).bind fun j5 =>
(if j5 = true then
some s2.1
else
((if (decide (s2.1 < (0 : Int))) = true then
some true
else
(idx a0 s2.1).bind fun x8 =>
(if (decide (x8.2.2.2.2.2 < x4.2.2.2.2.2)) = true then
some true
else
(idx a0 s2.1).bind fun x9 =>
(if (decide (x4.2.2.2.2.2 = x9.2.2.2.2.2)) = true then
(idx a0 s2.1).bind fun x10 =>
some (decide (x10.1 < x4.1))
else
some false))) : Option (Bool)).bind fun j7 =>
(if j7 = true then
some s2.2
else
some s2.1)) : Option (Int)).bind fun j3 =>
some (Sum.inl (j3, IntKind.i64.wrap (s2.2 + (1 : Int))))
else
some (Sum.inr s2.1))) N ((-1 : Int), (0 : Int)) : Option (Int)).bind fun j1 =>
(if (decide (j1 < (0 : Int))) = true then
some (((0 : Int), ((0 : Int), (0 : Int))), false)
else
(idx a0 j1).bind fun x11 =>
some (x11.2.2.2.1, true))
noncomputable def S30 (N : Nat) : Sig := { inn := ⟨[(0, .val false (.leaf (.slice rFact))), (1, .val false (.leaf rInt)), (2, .val false (.leaf rInt)), (3, .val false (.leaf rInt)), (4, .val false (.leaf rInt))], [], [], 0⟩, out := ⟨[(0, .val true (.leaf rValue)), (1, .val false (.leaf .bool))], [], [], 0⟩, fn := fun (x : (List rFact.den) × Int × Int × Int × Int) => M.ref34_AsOf N x.1 x.2.1 x.2.2.1 x.2.2.2.1 x.2.2.2.2 }
theorem W30 (N : Nat) : FnOK Tryz.prog 30 (S30 N) := fn_ok (E := ⟨tabs, [(46, S46 N)], (tabcons (W46 N) tabnil), mixed, false, false⟩) (N := N) (a := (.two .nil (.two .nil (.meet ⟨[(12, .val false (.leaf rInt))], [], [], 48⟩ (.two .nil (.two (.loop ⟨[(12, .val false (.leaf rInt)), (13, .val false (.leaf rInt))], [], [], 64⟩ (.two .nil (.two (.meet ⟨[(12, .val false (.leaf rInt))], [], [], 128⟩ (.two .nil (.two (.meet ⟨[(47, .val false (.leaf .bool))], [], [], 224⟩ .nil .nil) (.meet ⟨[(79, .val false (.leaf .bool))], [], [], 224⟩ .nil .nil))) .nil) .nil))) .nil)) .nil)))) (sg := S30 N) (c := Tryz.f30.body.getD .skip) (rs := Tryz.f30.results.toList) Tryz.func30 (by kernel_rfl) (by kernel_rfl) rfl rfl rfl rfl (fun x => by kernel_rfl)
noncomputable def M.ref35_MembersOn (N : Nat) (a0 : rHousehold.den) (a1 : Int) (a2 : Int) : Option (List Int) :=
Loop (S := Int × List Int) (X := List Int) (fun s1 =>
((if (decide (s1.1 < a0.2.2.1)) = true then
some (decide (s1.1 < (8 : Int)))
else
some false) : Option (Bool)).bind fun j2 =>
(if j2 = true then
((M.ref34_AsOf N a0.2.2.2 s1.1 (-1 : Int) a1 a2).bind fun y4 =>
((if y4.2 = true then
(if (decide (y4.1.1 = (1 : Int))) = true then
some (decide (y4.1.2.2 = (1 : Int)))
else
some false)
else
some false) : Option (Bool)).bind fun j5 =>
(if j5 = true then
(appA s1.2 ([s1.1] : List Int)).bind fun l6 =>
some l6
else
some s1.2) : Option (List Int)).bind fun j3 =>
some (Sum.inl (IntKind.i64.wrap (s1.1 + (1 : Int)), j3))
else
some (Sum.inr s1.2))) N ((0 : Int), ([] : List Int))
noncomputable def S16 (N : Nat) : Sig := { inn := ⟨[(0, .val true (.leaf rHousehold)), (1, .val false (.leaf rInt)), (2, .val false (.leaf rInt))], [], [], 0⟩, out := ⟨[(0, .val false (.own 0))], [(0, .own 3 rInt)], [], 1⟩, fn := fun (x : rHousehold.den × Int × Int) => M.ref35_MembersOn N x.1 x.2.1 x.2.2 }
theorem W16 (N : Nat) : FnOK Tryz.prog 16 (S16 N) := fn_ok (E := ⟨tabs, [(30, S30 N)], (tabcons (W30 N) tabnil), mixed, false, false⟩) (N := N) (a := (.two .nil (.two .nil (.two (.two .nil (.two (.loop ⟨[(7, .val false (.own 64)), (8, .val false (.leaf rInt))], [(64, .own 3 rInt)], [], 65⟩ (.two (.meet ⟨[(18, .val false (.leaf .bool))], [], [], 65⟩ .nil .nil) (.two (.meet ⟨[(7, .val false (.own 65))], [(65, .own 3 rInt)], [64], 66⟩ (.two .nil (.meet ⟨[(40, .val false (.leaf .bool))], [], [], 257⟩ .nil .nil)) .nil) .nil))) .nil)) .nil)))) (sg := S16 N) (c := Tryz.f16.body.getD .skip) (rs := Tryz.f16.results.toList) Tryz.func16 (by kernel_rfl) (by kernel_rfl) rfl rfl rfl rfl (fun x => by kernel_rfl)
noncomputable def M.law35_HouseholdMembers (N : Nat) (a0 : rHousehold.den) (a1 : Int) (a2 : Int) : Option (Bool) :=
(M.same_SmallHousehold N a0).bind fun y1 =>
(if (!y1) = true then
(M.law35_awake N).bind fun y2 =>
some y2
else
((M.household_MembersOn N a0 a1 a2).bind fun y4 =>
(M.ref35_MembersOn N a0 a1 a2).bind fun y5 =>
(M.same_Ints N y4 y5).bind fun y6 =>
(if y6 = true then
(M.law35_awake N).bind fun y7 =>
some y7
else
some false) : Option (Bool)).bind fun j3 =>
some j3)
noncomputable def S4 (N : Nat) : Sig := { inn := ⟨[(0, .val true (.leaf rHousehold)), (1, .val false (.leaf rInt)), (2, .val false (.leaf rInt))], [], [], 0⟩, out := ⟨[(0, .val false (.leaf .bool))], [], [], 0⟩, fn := fun (x : rHousehold.den × Int × Int) => M.law35_HouseholdMembers N x.1 x.2.1 x.2.2 }
theorem W4 (N : Nat) : FnOK Tryz.prog 4 (S4 N) := fn_ok (E := ⟨tabs, [(10, S10 N), (11, S11 N), (14, S14 N), (15, S15 N), (16, S16 N)], (tabcons (W10 N) (tabcons (W11 N) (tabcons (W14 N) (tabcons (W15 N) (tabcons (W16 N) tabnil))))), mixed, false, false⟩) (N := N) (a := (.two .nil (.two .nil (.meet ⟨[(6, .val false (.leaf .bool))], [], [], 80⟩ .nil .nil)))) (sg := S4 N) (c := Tryz.f4.body.getD .skip) (rs := Tryz.f4.results.toList) Tryz.func4 (by kernel_rfl) (by kernel_rfl) rfl rfl rfl rfl (fun x => by kernel_rfl)
noncomputable def M.ref08_lower (N : Nat) (a0 : Int) : Option (Bool) :=
((if (decide ((97 : Int) ≤ a0)) = true then
some (decide (a0 ≤ (122 : Int)))
else
some false) : Option (Bool)).bind fun j1 =>
some j1
noncomputable def S107 (N : Nat) : Sig := { inn := ⟨[(0, .val false (.leaf (.int .u8)))], [], [], 0⟩, out := ⟨[(0, .val false (.leaf .bool))], [], [], 0⟩, fn := fun (x : Int) => M.ref08_lower N x }
theorem W107 (N : Nat) : FnOK Tryz.prog 107 (S107 N) := fn_ok (E := ⟨tabs, [], tabnil, mixed, false, false⟩) (N := N) (a := (.two .nil (.meet ⟨[(2, .val false (.leaf .bool))], [], [], 16⟩ .nil .nil))) (sg := S107 N) (c := Tryz.f107.body.getD .skip) (rs := Tryz.f107.results.toList) Tryz.func107 (by kernel_rfl) (by kernel_rfl) rfl rfl rfl rfl (fun x => by kernel_rfl)
noncomputable def M.ref08_digit (N : Nat) (a0 : Int) : Option (Bool) :=
((if (decide ((48 : Int) ≤ a0)) = true then
some (decide (a0 ≤ (57 : Int)))
else
some false) : Option (Bool)).bind fun j1 =>
some j1
noncomputable def S125 (N : Nat) : Sig := { inn := ⟨[(0, .val false (.leaf (.int .u8)))], [], [], 0⟩, out := ⟨[(0, .val false (.leaf .bool))], [], [], 0⟩, fn := fun (x : Int) => M.ref08_digit N x }
theorem W125 (N : Nat) : FnOK Tryz.prog 125 (S125 N) := fn_ok (E := ⟨tabs, [], tabnil, mixed, false, false⟩) (N := N) (a := (.two .nil (.meet ⟨[(2, .val false (.leaf .bool))], [], [], 16⟩ .nil .nil))) (sg := S125 N) (c := Tryz.f125.body.getD .skip) (rs := Tryz.f125.results.toList) Tryz.func125 (by kernel_rfl) (by kernel_rfl) rfl rfl rfl rfl (fun x => by kernel_rfl)
noncomputable def M.ref08_word (N : Nat) (a0 : Int) : Option (Bool) :=
((M.ref08_lower N a0).bind fun y2 =>
(if y2 = true then
some true
else
(M.ref08_digit N a0).bind fun y3 =>
(if y3 = true then
some true
else
some (decide (a0 = (95 : Int))))) : Option (Bool)).bind fun j1 =>
some j1
noncomputable def S108 (N : Nat) : Sig := { inn := ⟨[(0, .val false (.leaf (.int .u8)))], [], [], 0⟩, out := ⟨[(0, .val false (.leaf .bool))], [], [], 0⟩, fn := fun (x : Int) => M.ref08_word N x }
theorem W108 (N : Nat) : FnOK Tryz.prog 108 (S108 N) := fn_ok (E := ⟨tabs, [(107, S107 N), (125, S125 N)], (tabcons (W107 N) (tabcons (W125 N) tabnil)), mixed, false, false⟩) (N := N) (a := (.two .nil (.meet ⟨[(2, .val false (.leaf .bool))], [], [], 16⟩ .nil .nil))) (sg := S108 N) (c := Tryz.f108.body.getD .skip) (rs := Tryz.f108.results.toList) Tryz.func108 (by kernel_rfl) (by kernel_rfl) rfl rfl rfl rfl (fun x => by kernel_rfl)
noncomputable def M.ref08_Reserved (N : Nat) : Option (List ByteArray) :=
some ([(⟨#[105, 102]⟩ : ByteArray), (⟨#[116, 104, 101, 110]⟩ : ByteArray), (⟨#[101, 108, 115, 101]⟩ : ByteArray), (⟨#[111, 114]⟩ : ByteArray), (⟨#[97, 110, 100]⟩ : ByteArray), (⟨#[110, 111, 116]⟩ : ByteArray), (⟨#[116, 114, 117, 101]⟩ : ByteArray), (⟨#[102, 97, 108, 115, 101]⟩ : ByteArray), (⟨#[116, 111, 100, 97, 121]⟩ : ByteArray), (⟨#[115, 104, 97, 114, 101]⟩ : ByteArray), (⟨#[100, 105, 118]⟩ : ByteArray), (⟨#[114, 111, 117, 110, 100]⟩ : ByteArray), (⟨#[109, 105, 110]⟩ : ByteArray), (⟨#[109, 97, 120]⟩ : ByteArray), (⟨#[112, 108, 117, 115]⟩ : ByteArray), (⟨#[109, 111, 110, 116, 104, 115]⟩ : ByteArray), (⟨#[100, 97, 121, 115]⟩ : ByteArray), (⟨#[121, 101, 97, 114, 115]⟩ : ByteArray), (⟨#[121, 101, 97, 114]⟩ : ByteArray), (⟨#[109, 111, 110, 116, 104]⟩ : ByteArray), (⟨#[116, 97, 98]⟩ : ByteArray), (⟨#[98, 97, 110, 100]⟩ : ByteArray), (⟨#[99, 111, 117, 110, 116]⟩ : ByteArray), (⟨#[115, 117, 109]⟩ : ByteArray), (⟨#[97, 108, 108]⟩ : ByteArray), (⟨#[97, 110, 121]⟩ : ByteArray), (⟨#[109, 111, 115, 116]⟩ : ByteArray), (⟨#[101, 110, 117, 109]⟩ : ByteArray), (⟨#[116, 97, 98, 108, 101]⟩ : ByteArray), (⟨#[114, 111, 119]⟩ : ByteArray), (⟨#[115, 99, 111, 112, 101]⟩ : ByteArray), (⟨#[109, 101, 109, 98, 101, 114, 115]⟩ : ByteArray), (⟨#[105, 110, 112, 117, 116]⟩ : ByteArray), (⟨#[100, 101, 102]⟩ : ByteArray), (⟨#[114, 117, 108, 101]⟩ : ByteArray), (⟨#[111, 102]⟩ : ByteArray), (⟨#[111, 118, 101, 114]⟩ : ByteArray), (⟨#[112, 114, 105, 111]⟩ : ByteArray), (⟨#[102, 114, 111, 109]⟩ : ByteArray), (⟨#[116, 111]⟩ : ByteArray), (⟨#[101, 110, 100]⟩ : ByteArray), (⟨#[119, 104, 101, 110]⟩ : ByteArray), (⟨#[105, 115]⟩ : ByteArray), (⟨#[115, 114, 99]⟩ : ByteArray), (⟨#[98, 111, 111, 108]⟩ : ByteArray), (⟨#[105, 110, 116]⟩ : ByteArray), (⟨#[109, 111, 110, 101, 121]⟩ : ByteArray), (⟨#[114, 97, 116, 101]⟩ : ByteArray), (⟨#[100, 97, 116, 101]⟩ : ByteArray), (⟨#[100, 111, 119, 110]⟩ : ByteArray), (⟨#[117, 112]⟩ : ByteArray), (⟨#[122, 101, 114, 111]⟩ : ByteArray), (⟨#[97, 119, 97, 121]⟩ : ByteArray), (⟨#[104, 97, 108, 102]⟩ : ByteArray), (⟨#[101, 118, 101, 110]⟩ : ByteArray)] : List ByteArray)
noncomputable def S109 (N : Nat) : Sig := { inn := ⟨[], [], [], 0⟩, out := ⟨[(0, .val false (.own 0))], [(0, .own 9 .str)], [], 1⟩, fn := fun (x : Unit) => M.ref08_Reserved N }
theorem W109 (N : Nat) : FnOK Tryz.prog 109 (S109 N) := fn_ok (E := ⟨tabs, [], tabnil, mixed, false, false⟩) (N := N) (a := .nil) (sg := S109 N) (c := Tryz.f109.body.getD .skip) (rs := Tryz.f109.results.toList) Tryz.func109 (by kernel_rfl) (by kernel_rfl) rfl rfl rfl rfl (fun x => by kernel_rfl)
noncomputable def M.ref08_IsIdentifier (N : Nat) (a0 : ByteArray) : Option (Bool) :=
((if (decide ((a0.size : Int) = (0 : Int))) = true then
some true
else
(if (decide ((16 : Int) < (a0.size : Int))) = true then
some true
else
(byteA a0 (0 : Int)).bind fun x2 =>
(M.ref08_lower N x2).bind fun y3 =>
some (!y3))) : Option (Bool)).bind fun j1 =>
(if j1 = true then
some false
else
Join (J := Unit) (R := Bool) (Loop (S := Int) (X := (Unit) ⊕ (Bool)) (fun s5 =>
(if (decide (s5 < (a0.size : Int))) = true then
(byteA a0 s5).bind fun x6 =>
(M.ref08_word N x6).bind fun y7 =>
(if (!y7) = true then
some (Sum.inr (Sum.inr false))
else
some (Sum.inl (IntKind.i64.wrap (s5 + (1 : Int)))))
else
some (Sum.inr (Sum.inl ())))) N (0 : Int)) fun j4 =>
(M.ref08_Reserved N).bind fun y8 =>
Loop (S := Int) (X := Bool) (fun s9 =>
(if (decide (s9 < (y8.length : Int))) = true then
(idx y8 s9).bind fun x10 =>
(if (decide (x10 = a0)) = true then
some (Sum.inr false)
else
some (Sum.inl (IntKind.i64.wrap (s9 + (1 : Int)))))
else
some (Sum.inr true))) N (0 : Int))
noncomputable def S85 (N : Nat) : Sig := { inn := ⟨[(0, .val false (.leaf .str))], [], [], 0⟩, out := ⟨[(0, .val false (.leaf .bool))], [], [], 0⟩, fn := fun (x : ByteArray) => M.ref08_IsIdentifier N x }
theorem W85 (N : Nat) : FnOK Tryz.prog 85 (S85 N) := fn_ok (E := ⟨tabs, [(107, S107 N), (108, S108 N), (109, S109 N)], (tabcons (W107 N) (tabcons (W108 N) (tabcons (W109 N) tabnil))), mixed, false, false⟩) (N := N) (a := (.two .nil (.two (.meet ⟨[(19, .val false (.leaf .bool))], [], [], 16⟩ .nil .nil) (.join ⟨[], [], [], 16⟩ (.two .nil (.two (.loop ⟨[(3, .val false (.leaf rInt))], [], [], 32⟩ .nil) .nil)) (.two .nil (.two (.two .nil (.two (.loop ⟨[(5, .val false (.leaf rInt))], [], [], 64⟩ .nil) .nil)) .nil)))))) (sg := S85 N) (c := Tryz.f85.body.getD .skip) (rs := Tryz.f85.results.toList) Tryz.func85 (by kernel_rfl) (by kernel_rfl) rfl rfl rfl rfl (fun x => by kernel_rfl)
noncomputable def M.ref17_nameTaken (N : Nat) (a0 : rLaw.den) (a1 : Int) (a2 : Int) (a3 : ByteArray) : Option (Bool) :=
Join (J := Unit) (R := Bool) (Loop (S := Int) (X := (Unit) ⊕ (Bool)) (fun s2 =>
(if (decide (s2 < (a0.1.length : Int))) = true then
((if (decide ((1 : Int) < a1)) = true then
(idx a0.1 s2).bind fun x4 =>
some (decide (x4.1 = a3))
else
(if (decide (s2 < a2)) = true then
(idx a0.1 s2).bind fun x5 =>
some (decide (x5.1 = a3))
else
some false)) : Option (Bool)).bind fun j3 =>
(if j3 = true then
some (Sum.inr (Sum.inr true))
else
some (Sum.inl (IntKind.i64.wrap (s2 + (1 : Int)))))
else
some (Sum.inr (Sum.inl ())))) N (0 : Int)) fun j1 =>
Join (J := Unit) (R := Bool) (Loop (S := Int) (X := (Unit) ⊕ (Bool)) (fun s7 =>
(if (decide (s7 < (a0.2.1.length : Int))) = true then
((if (decide ((2 : Int) < a1)) = true then
(idx a0.2.1 s7).bind fun x9 =>
some (decide (x9.1 = a3))
else
(if (decide (a1 = (2 : Int))) = true then
(if (decide (s7 < a2)) = true then
(idx a0.2.1 s7).bind fun x10 =>
some (decide (x10.1 = a3))
else
some false)
else
some false)) : Option (Bool)).bind fun j8 =>
(if j8 = true then
some (Sum.inr (Sum.inr true))
else
some (Sum.inl (IntKind.i64.wrap (s7 + (1 : Int)))))
else
some (Sum.inr (Sum.inl ())))) N (0 : Int)) fun j6 =>
Loop (S := Int) (X := Bool) (fun s11 =>
(if (decide (s11 < (a0.2.2.length : Int))) = true then
((if (decide (a1 = (3 : Int))) = true then
(if (decide (s11 < a2)) = true then
(idx a0.2.2 s11).bind fun x13 =>
some (decide (x13.1 = a3))
else
some false)
else
some false) : Option (Bool)).bind fun j12 =>
(if j12 = true then
some (Sum.inr true)
else
some (Sum.inl (IntKind.i64.wrap (s11 + (1 : Int)))))
else
some (Sum.inr false))) N (0 : Int)
noncomputable def S86 (N : Nat) : Sig := { inn := ⟨[(0, .val true (.leaf rLaw)), (1, .val false (.leaf rInt)), (2, .val false (.leaf rInt)), (3, .val false (.leaf .str))], [], [], 0⟩, out := ⟨[(0, .val false (.leaf .bool))], [], [], 0⟩, fn := fun (x : rLaw.den × Int × Int × ByteArray) => M.ref17_nameTaken N x.1 x.2.1 x.2.2.1 x.2.2.2 }
theorem W86 (N : Nat) : FnOK Tryz.prog 86 (S86 N) := fn_ok (E := ⟨tabs, [], tabnil, mixed, false, false⟩) (N := N) (a := (.two .nil (.join ⟨[], [], [], 32⟩ (.two .nil (.two (.loop ⟨[(9, .val false (.leaf rInt))], [], [], 48⟩ (.two .nil (.two (.two (.meet ⟨[(35, .val false (.leaf .bool))], [], [], 128⟩ .nil .nil) .nil) .nil))) .nil)) (.join ⟨[], [], [], 32⟩ (.two .nil (.two (.loop ⟨[(10, .val false (.leaf rInt))], [], [], 48⟩ (.two .nil (.two (.two (.meet ⟨[(63, .val false (.leaf .bool))], [], [], 128⟩ .nil .nil) .nil) .nil))) .nil)) (.two (.two .nil (.two (.loop ⟨[(11, .val false (.leaf rInt))], [], [], 48⟩ (.two .nil (.two (.two (.meet ⟨[(87, .val false (.leaf .bool))], [], [], 128⟩ .nil .nil) .nil) .nil))) .nil)) .nil))))) (sg := S86 N) (c := Tryz.f86.body.getD .skip) (rs := Tryz.f86.results.toList) Tryz.func86 (by kernel_rfl) (by kernel_rfl) rfl rfl rfl rfl (fun x => by kernel_rfl)
noncomputable def M.ref17_enumError (N : Nat) (a0 : rLaw.den) (a1 : Int) : Option (rLawError.den) :=
(idx a0.1 a1).bind fun x1 =>
(M.ref08_IsIdentifier N x1.1).bind fun y2 =>
(if (!y2) = true then
some ((2 : Int), ((1 : Int), (a1, (0 : Int))))
else
(M.ref17_nameTaken N a0 (1 : Int) a1 x1.1).bind fun y3 =>
(if y3 = true then
some ((7 : Int), ((1 : Int), (a1, (0 : Int))))
else
(if (decide ((x1.2.length : Int) = (0 : Int))) = true then
some ((5 : Int), ((1 : Int), (a1, (0 : Int))))
else
(if (decide ((16 : Int) < (x1.2.length : Int))) = true then
some ((4 : Int), ((1 : Int), (a1, (116 : Int))))
else
Join (J := rLawError.den) (R := rLawError.den) (Loop (S := Int × rLawError.den) (X := (rLawError.den) ⊕ (rLawError.den)) (fun s5 =>
(if (decide (s5.1 < (x1.2.length : Int))) = true then
Join (J := rLawError.den) (R := (Int × rLawError.den) ⊕ ((rLawError.den) ⊕ (rLawError.den))) ((idx x1.2 s5.1).bind fun x7 =>
(M.ref08_IsIdentifier N x7).bind fun y8 =>
(if (!y8) = true then
some (Sum.inr (Sum.inr (Sum.inr ((2 : Int), (s5.2.2.1, (s5.2.2.2.1, IntKind.i64.wrap ((100 : Int) + s5.1)))))))
else
Loop (S := Int) (X := (rLawError.den) ⊕ ((Int × rLawError.den) ⊕ ((rLawError.den) ⊕ (rLawError.den)))) (fun s9 =>
(if (decide (s9 < s5.1)) = true then
(idx x1.2 s9).bind fun x10 =>
(idx x1.2 s5.1).bind fun x11 =>
(if (decide (x10 = x11)) = true then
some (Sum.inr (Sum.inr (Sum.inr (Sum.inr ((7 : Int), (s5.2.2.1, (s5.2.2.2.1, IntKind.i64.wrap ((100 : Int) + s5.1))))))))
else
some (Sum.inl (IntKind.i64.wrap (s9 + (1 : Int)))))
else
some (Sum.inr (Sum.inl (s5.2.1, (s5.2.2.1, (s5.2.2.2.1, IntKind.i64.wrap ((100 : Int) + s5.1)))))))) N (0 : Int))) fun j6 =>
some (Sum.inl (IntKind.i64.wrap (s5.1 + (1 : Int)), j6))
else
some (Sum.inr (Sum.inl s5.2)))) N ((0 : Int), ((0 : Int), ((1 : Int), (a1, (0 : Int)))))) fun j4 =>
some ((0 : Int), ((0 : Int), ((0 : Int), (0 : Int))))))))
noncomputable def S63 (N : Nat) : Sig := { inn := ⟨[(0, .val true (.leaf rLaw)), (1, .val false (.leaf rInt))], [], [], 0⟩, out := ⟨[(0, .val true (.leaf rLawError))], [], [], 0⟩, fn := fun (x : rLaw.den × Int) => M.ref17_enumError N x.1 x.2 }
theorem W63 (N : Nat) : FnOK Tryz.prog 63 (S63 N) := fn_ok (E := ⟨tabs, [(85, S85 N), (86, S86 N)], (tabcons (W85 N) (tabcons (W86 N) tabnil)), mixed, false, false⟩) (N := N) (a := (.two .nil (.two .nil (.two .nil (.two .nil (.two .nil (.two .nil (.two .nil (.join ⟨[], [(176, .box 87 (.leaf rLawError))], [], 481⟩ (.two .nil (.two (.loop ⟨[(7, .val false (.leaf rInt))], [(176, .box 87 (.leaf rLawError))], [], 497⟩ (.two .nil (.join ⟨[], [(176, .box 87 (.leaf rLawError))], [], 578⟩ (.two (.two .nil (.two .nil (.two .nil (.two (.loop ⟨[(8, .val false (.leaf rInt))], [], [], 769⟩ .nil) .nil)))) .nil) .nil))) .nil)) .nil))))))))) (sg := S63 N) (c := Tryz.f63.body.getD .skip) (rs := Tryz.f63.results.toList) Tryz.func63 (by kernel_rfl) (by kernel_rfl) rfl rfl rfl rfl (fun x => by kernel_rfl)
noncomputable def M.ref12_wrong (N : Nat) (a0 : rRow.den) (a1 : rTable.den) (a2 : List rEnum.den) : Option (Bool) :=
((M.ref05_Valid N a0.1).bind fun y2 =>
(if (!y2) = true then
some true
else
(if (decide (a0.1.1 = a0.1.2)) = true then
some true
else
some (decide (a0.2.2.1 ≤ a0.2.1)))) : Option (Bool)).bind fun j1 =>
(if j1 = true then
some true
else
((M.ref09_In N a0.2.1 a1.2.1 a2).bind fun y4 =>
(if (!y4) = true then
some true
else
(M.ref09_In N (IntKind.i64.wrap (a0.2.2.1 - (1 : Int))) a1.2.1 a2).bind fun y5 =>
(if (!y5) = true then
some true
else
(M.ref09_In N a0.2.2.2 a1.2.2.1 a2).bind fun y6 =>
some (!y6))) : Option (Bool)).bind fun j3 =>
some j3)
noncomputable def S110 (N : Nat) : Sig := { inn := ⟨[(0, .val true (.leaf rRow)), (1, .val true (.leaf rTable)), (2, .val false (.leaf (.slice rEnum)))], [], [], 0⟩, out := ⟨[(0, .val false (.leaf .bool))], [], [], 0⟩, fn := fun (x : rRow.den × rTable.den × List rEnum.den) => M.ref12_wrong N x.1 x.2.1 x.2.2 }
theorem W110 (N : Nat) : FnOK Tryz.prog 110 (S110 N) := fn_ok (E := ⟨tabs, [(43, S43 N), (56, S56 N)], (tabcons (W43 N) (tabcons (W56 N) tabnil)), mixed, false, false⟩) (N := N) (a := (.two .nil (.two (.meet ⟨[(26, .val false (.leaf .bool))], [], [], 48⟩ .nil .nil) (.meet ⟨[(6, .val false (.leaf .bool))], [], [], 48⟩ .nil .nil)))) (sg := S110 N) (c := Tryz.f110.body.getD .skip) (rs := Tryz.f110.results.toList) Tryz.func110 (by kernel_rfl) (by kernel_rfl) rfl rfl rfl rfl (fun x => by kernel_rfl)
noncomputable def M.ref05_Intersect (N : Nat) (a0 : rType.den) (a1 : rType.den) : Option (rType.den × Bool) :=
((M.ref05_Valid N a0).bind fun y2 =>
(if (!y2) = true then
some true
else
(M.ref05_Valid N a1).bind fun y3 =>
some (!y3)) : Option (Bool)).bind fun j1 =>
(if j1 = true then
some (((0 : Int), (0 : Int)), false)
else
(if (decide ((if a1.2 < a0.2 then a1.2 else a0.2) ≤ (if a0.1 < a1.1 then a1.1 else a0.1))) = true then
some (((0 : Int), (0 : Int)), false)
else
some ((if a0.1 < a1.1 then a1.1 else a0.1, if a1.2 < a0.2 then a1.2 else a0.2), true)))
noncomputable def S126 (N : Nat) : Sig := { inn := ⟨[(0, .val true (.leaf rType)), (1, .val true (.leaf rType))], [], [], 0⟩, out := ⟨[(0, .val true (.leaf rType)), (1, .val false (.leaf .bool))], [], [], 0⟩, fn := fun (x : rType.den × rType.den) => M.ref05_Intersect N x.1 x.2 }
theorem W126 (N : Nat) : FnOK Tryz.prog 126 (S126 N) := fn_ok (E := ⟨tabs, [(56, S56 N)], (tabcons (W56 N) tabnil), mixed, false, false⟩) (N := N) (a := (.two .nil (.two (.meet ⟨[(14, .val false (.leaf .bool))], [], [], 64⟩ .nil .nil) .nil))) (sg := S126 N) (c := Tryz.f126.body.getD .skip) (rs := Tryz.f126.results.toList) Tryz.func126 (by kernel_rfl) (by kernel_rfl) rfl rfl rfl rfl (fun x => by kernel_rfl)
noncomputable def M.ref12_conflict (N : Nat) (a0 : rRow.den) (a1 : rRow.den) : Option (Bool) :=
(M.ref05_Intersect N a0.1 a1.1).bind fun y1 =>
((if y1.2 = true then
some (decide ((if a0.2.1 < a1.2.1 then a1.2.1 else a0.2.1) < (if a1.2.2.1 < a0.2.2.1 then a1.2.2.1 else a0.2.2.1)))
else
some false) : Option (Bool)).bind fun j2 =>
some j2
noncomputable def S111 (N : Nat) : Sig := { inn := ⟨[(0, .val true (.leaf rRow)), (1, .val true (.leaf rRow))], [], [], 0⟩, out := ⟨[(0, .val false (.leaf .bool))], [], [], 0⟩, fn := fun (x : rRow.den × rRow.den) => M.ref12_conflict N x.1 x.2 }
theorem W111 (N : Nat) : FnOK Tryz.prog 111 (S111 N) := fn_ok (E := ⟨tabs, [(126, S126 N)], (tabcons (W126 N) tabnil), mixed, false, false⟩) (N := N) (a := (.two .nil (.two .nil (.meet ⟨[(4, .val false (.leaf .bool))], [], [], 224⟩ .nil .nil)))) (sg := S111 N) (c := Tryz.f111.body.getD .skip) (rs := Tryz.f111.results.toList) Tryz.func111 (by kernel_rfl) (by kernel_rfl) rfl rfl rfl rfl (fun x => by kernel_rfl)
noncomputable def M.ref12_Validate (N : Nat) (a0 : rTable.den) (a1 : List rEnum.den) : Option (Int × Int) :=
(if (decide ((64 : Int) < (a0.2.2.2.length : Int))) = true then
some ((64 : Int), (4 : Int))
else
((M.ref09_ValidType N a0.2.1 a1).bind fun y2 =>
(if (!y2) = true then
some true
else
(M.ref09_ValidType N a0.2.2.1 a1).bind fun y3 =>
some (!y3)) : Option (Bool)).bind fun j1 =>
(if j1 = true then
some ((-1 : Int), (8 : Int))
else
Loop (S := Int) (X := Int × Int) (fun s4 =>
(if (decide (s4 < (a0.2.2.2.length : Int))) = true then
Join (J := Unit) (R := (Int) ⊕ (Int × Int)) ((idx a0.2.2.2 s4).bind fun x6 =>
(M.ref12_wrong N x6 a0 a1).bind fun y7 =>
(if y7 = true then
some (Sum.inr (Sum.inr (s4, (3 : Int))))
else
Loop (S := Int) (X := (Unit) ⊕ ((Int) ⊕ (Int × Int))) (fun s8 =>
(if (decide (s8 < s4)) = true then
(idx a0.2.2.2 s8).bind fun x9 =>
(idx a0.2.2.2 s4).bind fun x10 =>
(M.ref12_conflict N x9 x10).bind fun y11 =>
(if y11 = true then
some (Sum.inr (Sum.inr (Sum.inr (s4, (11 : Int)))))
else
some (Sum.inl (IntKind.i64.wrap (s8 + (1 : Int)))))
else
some (Sum.inr (Sum.inl ())))) N (0 : Int))) fun j5 =>
some (Sum.inl (IntKind.i64.wrap (s4 + (1 : Int))))
else
some (Sum.inr ((0 : Int), (0 : Int))))) N (0 : Int)))
noncomputable def S87 (N : Nat) : Sig := { inn := ⟨[(0, .val true (.leaf rTable)), (1, .val false (.leaf (.slice rEnum)))], [], [], 0⟩, out := ⟨[(0, .val false (.leaf rInt)), (1, .val false (.leaf rInt))], [], [], 0⟩, fn := fun (x : rTable.den × List rEnum.den) => M.ref12_Validate N x.1 x.2 }
theorem W87 (N : Nat) : FnOK Tryz.prog 87 (S87 N) := fn_ok (E := ⟨tabs, [(66, S66 N), (110, S110 N), (111, S111 N)], (tabcons (W66 N) (tabcons (W110 N) (tabcons (W111 N) tabnil))), mixed, false, false⟩) (N := N) (a := (.two .nil (.two .nil (.two (.meet ⟨[(23, .val false (.leaf .bool))], [], [], 112⟩ .nil .nil) (.two (.two .nil (.two (.loop ⟨[(6, .val false (.leaf rInt))], [], [], 128⟩ (.two .nil (.join ⟨[], [], [], 208⟩ (.two (.two .nil (.two .nil (.two (.loop ⟨[(7, .val false (.leaf rInt))], [], [], 352⟩ .nil) .nil))) .nil) .nil))) .nil)) .nil))))) (sg := S87 N) (c := Tryz.f87.body.getD .skip) (rs := Tryz.f87.results.toList) Tryz.func87 (by kernel_rfl) (by kernel_rfl) rfl rfl rfl rfl (fun x => by kernel_rfl)
noncomputable def M.ref17_tableError (N : Nat) (a0 : rLaw.den) (a1 : Int) : Option (rLawError.den) :=
(idx a0.2.1 a1).bind fun x1 =>
(M.ref08_IsIdentifier N x1.1).bind fun y2 =>
(if (!y2) = true then
some ((2 : Int), ((2 : Int), (a1, (0 : Int))))
else
(M.ref17_nameTaken N a0 (2 : Int) a1 x1.1).bind fun y3 =>
(if y3 = true then
some ((7 : Int), ((2 : Int), (a1, (0 : Int))))
else
(M.ref12_Validate N x1 a0.1).bind fun y4 =>
(if (decide (y4.2 = (0 : Int))) = true then
some ((0 : Int), ((0 : Int), ((0 : Int), (0 : Int))))
else
((if (decide ((0 : Int) ≤ y4.1)) = true then
some (y4.2, ((2 : Int), (a1, IntKind.i64.wrap ((100 : Int) + y4.1))))
else
some (y4.2, ((2 : Int), (a1, (0 : Int))))) : Option (rLawError.den)).bind fun j5 =>
some j5)))
noncomputable def S64 (N : Nat) : Sig := { inn := ⟨[(0, .val true (.leaf rLaw)), (1, .val false (.leaf rInt))], [], [], 0⟩, out := ⟨[(0, .val true (.leaf rLawError))], [], [], 0⟩, fn := fun (x : rLaw.den × Int) => M.ref17_tableError N x.1 x.2 }
theorem W64 (N : Nat) : FnOK Tryz.prog 64 (S64 N) := fn_ok (E := ⟨tabs, [(85, S85 N), (86, S86 N), (87, S87 N)], (tabcons (W85 N) (tabcons (W86 N) (tabcons (W87 N) tabnil))), mixed, false, false⟩) (N := N) (a := (.two .nil (.two .nil (.two .nil (.two .nil (.two .nil (.two .nil (.two .nil (.two .nil (.meet ⟨[], [(176, .box 87 (.leaf rLawError))], [], 577⟩ .nil .nil)))))))))) (sg := S64 N) (c := Tryz.f64.body.getD .skip) (rs := Tryz.f64.results.toList) Tryz.func64 (by kernel_rfl) (by kernel_rfl) rfl rfl rfl rfl (fun x => by kernel_rfl)
noncomputable def M.ref17_hasField (N : Nat) (a0 : List rField.den) (a1 : Int) (a2 : ByteArray) : Option (Bool) :=
Loop (S := Int) (X := Bool) (fun s1 =>
((if (decide (s1 < a1)) = true then
some (decide (s1 < (a0.length : Int)))
else
some false) : Option (Bool)).bind fun j2 =>
(if j2 = true then
(idx a0 s1).bind fun x3 =>
(if (decide (x3.1 = a2)) = true then
some (Sum.inr true)
else
some (Sum.inl (IntKind.i64.wrap (s1 + (1 : Int)))))
else
some (Sum.inr false))) N (0 : Int)
noncomputable def S112 (N : Nat) : Sig := { inn := ⟨[(0, .val false (.leaf (.slice rField))), (1, .val false (.leaf rInt)), (2, .val false (.leaf .str))], [], [], 0⟩, out := ⟨[(0, .val false (.leaf .bool))], [], [], 0⟩, fn := fun (x : (List rField.den) × Int × ByteArray) => M.ref17_hasField N x.1 x.2.1 x.2.2 }
theorem W112 (N : Nat) : FnOK Tryz.prog 112 (S112 N) := fn_ok (E := ⟨tabs, [], tabnil, mixed, false, false⟩) (N := N) (a := (.two .nil (.two (.two .nil (.two (.loop ⟨[(7, .val false (.leaf rInt))], [], [], 32⟩ (.two (.meet ⟨[(16, .val false (.leaf .bool))], [], [], 32⟩ .nil .nil) .nil)) .nil)) .nil))) (sg := S112 N) (c := Tryz.f112.body.getD .skip) (rs := Tryz.f112.results.toList) Tryz.func112 (by kernel_rfl) (by kernel_rfl) rfl rfl rfl rfl (fun x => by kernel_rfl)
noncomputable def M.ref17_fieldError (N : Nat) (a0 : rLaw.den) (a1 : Int) : Option (rLawError.den) :=
(idx a0.2.2 a1).bind fun x1 =>
Join (J := Unit) (R := rLawError.den) (Loop (S := Int) (X := (Unit) ⊕ (rLawError.den)) (fun s3 =>
(if (decide (s3 < (x1.2.2.1.length : Int))) = true then
((idx x1.2.2.1 s3).bind fun x5 =>
(M.ref08_IsIdentifier N x5.1).bind fun y6 =>
(if (!y6) = true then
some ((2 : Int), ((3 : Int), (a1, IntKind.i64.wrap ((100 : Int) + s3))))
else
(idx x1.2.2.1 s3).bind fun x7 =>
(M.ref17_hasField N x1.2.2.1 s3 x7.1).bind fun y8 =>
(if y8 = true then
some ((7 : Int), ((3 : Int), (a1, IntKind.i64.wrap ((100 : Int) + s3))))
else
(idx x1.2.2.1 s3).bind fun x9 =>
(M.ref09_ValidType N x9.2 a0.1).bind fun y10 =>
(if (!y10) = true then
some ((8 : Int), ((3 : Int), (a1, IntKind.i64.wrap ((100 : Int) + s3))))
else
some ((0 : Int), ((3 : Int), (a1, IntKind.i64.wrap ((100 : Int) + s3))))))) : Option (rLawError.den)).bind fun j4 =>
(if (!decide (j4.1 = (0 : Int))) = true then
some (Sum.inr (Sum.inr j4))
else
some (Sum.inl (IntKind.i64.wrap (s3 + (1 : Int)))))
else
some (Sum.inr (Sum.inl ())))) N (0 : Int)) fun j2 =>
Join (J := Unit) (R := rLawError.den) (Loop (S := Int) (X := (Unit) ⊕ (rLawError.den)) (fun s12 =>
(if (decide (s12 < (x1.2.2.2.1.length : Int))) = true then
((idx x1.2.2.2.1 s12).bind fun x14 =>
(M.ref08_IsIdentifier N x14.1).bind fun y15 =>
(if (!y15) = true then
some ((2 : Int), ((3 : Int), (a1, IntKind.i64.wrap ((200 : Int) + s12))))
else
((idx x1.2.2.2.1 s12).bind fun x17 =>
(M.ref17_hasField N x1.2.2.1 (x1.2.2.1.length : Int) x17.1).bind fun y18 =>
(if y18 = true then
some true
else
(idx x1.2.2.2.1 s12).bind fun x19 =>
(M.ref17_hasField N x1.2.2.2.1 s12 x19.1).bind fun y20 =>
some y20) : Option (Bool)).bind fun j16 =>
(if j16 = true then
some ((7 : Int), ((3 : Int), (a1, IntKind.i64.wrap ((200 : Int) + s12))))
else
(idx x1.2.2.2.1 s12).bind fun x21 =>
(M.ref09_ValidType N x21.2 a0.1).bind fun y22 =>
(if (!y22) = true then
some ((8 : Int), ((3 : Int), (a1, IntKind.i64.wrap ((200 : Int) + s12))))
else
some ((0 : Int), ((3 : Int), (a1, IntKind.i64.wrap ((200 : Int) + s12))))))) : Option (rLawError.den)).bind fun j13 =>
(if (!decide (j13.1 = (0 : Int))) = true then
some (Sum.inr (Sum.inr j13))
else
some (Sum.inl (IntKind.i64.wrap (s12 + (1 : Int)))))
else
some (Sum.inr (Sum.inl ())))) N (0 : Int)) fun j11 =>
some ((0 : Int), ((0 : Int), ((0 : Int), (0 : Int))))
noncomputable def S88 (N : Nat) : Sig := { inn := ⟨[(0, .val true (.leaf rLaw)), (1, .val false (.leaf rInt))], [], [], 0⟩, out := ⟨[(0, .val true (.leaf rLawError))], [], [], 0⟩, fn := fun (x : rLaw.den × Int) => M.ref17_fieldError N x.1 x.2 }
theorem W88 (N : Nat) : FnOK Tryz.prog 88 (S88 N) := fn_ok (E := ⟨tabs, [(66, S66 N), (85, S85 N), (112, S112 N)], (tabcons (W66 N) (tabcons (W85 N) (tabcons (W112 N) tabnil))), mixed, false, false⟩) (N := N) (a := (.two .nil (.two .nil (.join ⟨[], [], [], 144⟩ (.two .nil (.two (.loop ⟨[(6, .val false (.leaf rInt))], [], [], 160⟩ (.two .nil (.two (.two (.two .nil (.meet ⟨[], [(304, .box 87 (.leaf rLawError))], [], 337⟩ .nil .nil)) .nil) .nil))) .nil)) (.join ⟨[], [], [], 144⟩ (.two .nil (.two (.loop ⟨[(8, .val false (.leaf rInt))], [], [], 160⟩ (.two .nil (.two (.two (.two .nil (.meet ⟨[], [(304, .box 87 (.leaf rLawError))], [], 337⟩ (.two .nil (.two .nil (.meet ⟨[(104, .val false (.leaf .bool))], [], [], 464⟩ .nil .nil))) .nil)) .nil) .nil))) .nil)) .nil))))) (sg := S88 N) (c := Tryz.f88.body.getD .skip) (rs := Tryz.f88.results.toList) Tryz.func88 (by kernel_rfl) (by kernel_rfl) rfl rfl rfl rfl (fun x => by kernel_rfl)
noncomputable def M.ref17_plainText (N : Nat) (a0 : ByteArray) : Option (Bool) :=
Loop (S := Int) (X := Bool) (fun s1 =>
(if (decide (s1 < (a0.size : Int))) = true then
((byteA a0 s1).bind fun x3 =>
(if (decide (x3 < (32 : Int))) = true then
some true
else
(byteA a0 s1).bind fun x4 =>
(if (decide ((126 : Int) < x4)) = true then
some true
else
(byteA a0 s1).bind fun x5 =>
some (decide (x5 = (34 : Int))))) : Option (Bool)).bind fun j2 =>
(if j2 = true then
some (Sum.inr false)
else
some (Sum.inl (IntKind.i64.wrap (s1 + (1 : Int)))))
else
some (Sum.inr (decide ((a0.size : Int) ≤ (64 : Int)))))) N (0 : Int)
noncomputable def S113 (N : Nat) : Sig := { inn := ⟨[(0, .val false (.leaf .str))], [], [], 0⟩, out := ⟨[(0, .val false (.leaf .bool))], [], [], 0⟩, fn := fun (x : ByteArray) => M.ref17_plainText N x }
theorem W113 (N : Nat) : FnOK Tryz.prog 113 (S113 N) := fn_ok (E := ⟨tabs, [], tabnil, mixed, false, false⟩) (N := N) (a := (.two .nil (.two (.two .nil (.two (.loop ⟨[(3, .val false (.leaf rInt))], [], [], 32⟩ (.two .nil (.two (.two (.meet ⟨[(25, .val false (.leaf .bool))], [], [], 96⟩ .nil .nil) .nil) .nil))) .nil)) .nil))) (sg := S113 N) (c := Tryz.f113.body.getD .skip) (rs := Tryz.f113.results.toList) Tryz.func113 (by kernel_rfl) (by kernel_rfl) rfl rfl rfl rfl (fun x => by kernel_rfl)
noncomputable def M.ref17_fieldTypes (N : Nat) (a0 : List rField.den) : Option (List rType.den) :=
Loop (S := Int × List rType.den) (X := List rType.den) (fun s1 =>
(if (decide (s1.1 < (a0.length : Int))) = true then
(idx a0 s1.1).bind fun x2 =>
(appA s1.2 ([x2.2] : List rType.den)).bind fun l3 =>
some (Sum.inl (IntKind.i64.wrap (s1.1 + (1 : Int)), l3))
else
some (Sum.inr s1.2))) N ((0 : Int), ([] : List rType.den))
noncomputable def S127 (N : Nat) : Sig := { inn := ⟨[(0, .val false (.leaf (.slice rField)))], [], [], 0⟩, out := ⟨[(0, .val false (.own 0))], [(0, .own 63 rType)], [], 1⟩, fn := fun (x : List rField.den) => M.ref17_fieldTypes N x }
theorem W127 (N : Nat) : FnOK Tryz.prog 127 (S127 N) := fn_ok (E := ⟨tabs, [], tabnil, mixed, false, false⟩) (N := N) (a := (.two .nil (.two .nil (.two (.two .nil (.two (.loop ⟨[(3, .val false (.own 48)), (4, .val false (.leaf rInt))], [(48, .own 63 rType)], [], 49⟩ .nil) .nil)) .nil)))) (sg := S127 N) (c := Tryz.f127.body.getD .skip) (rs := Tryz.f127.results.toList) Tryz.func127 (by kernel_rfl) (by kernel_rfl) rfl rfl rfl rfl (fun x => by kernel_rfl)
noncomputable def M.ref17_Signature (N : Nat) (a0 : rLaw.den) (a1 : Int) : Option ((List rEnum.den) × (List rTable.den) × Bool × (List rType.den) × (List rType.den) × List rType.den) :=
((if (decide (a1 < (0 : Int))) = true then
some true
else
some (decide ((a0.2.2.length : Int) ≤ a1))) : Option (Bool)).bind fun j1 =>
(if j1 = true then
some (([] : List rEnum.den), ([] : List rTable.den), false, ([] : List rType.den), ([] : List rType.den), ([] : List rType.den))
else
(idx a0.2.2 a1).bind fun x2 =>
(M.ref17_fieldTypes N x2.2.2.1).bind fun y3 =>
(M.ref17_fieldTypes N x2.2.2.2.1).bind fun y4 =>
(((if (decide ((0 : Int) ≤ x2.2.1)) = true then
some (decide (x2.2.1 < (a0.2.2.length : Int)))
else
some false) : Option (Bool)).bind fun j6 =>
(if j6 = true then
(idx a0.2.2 x2.2.1).bind fun x7 =>
(M.ref17_fieldTypes N x7.2.2.2.1).bind fun y8 =>
some (y3, y4, a0.1, a0.2.1, true, y8)
else
some (y3, y4, a0.1, a0.2.1, false, ([] : List rType.den))) : Option ((List rType.den) × (List rType.den) × (List rEnum.den) × (List rTable.den) × Bool × List rType.den)).bind fun j5 =>
some (j5.2.2.1, j5.2.2.2.1, j5.2.2.2.2.1, j5.1, j5.2.1, j5.2.2.2.2.2))
noncomputable def S114 (N : Nat) : Sig := { inn := ⟨[(0, .val true (.leaf rLaw)), (1, .val false (.leaf rInt))], [], [], 0⟩, out := ⟨[(0, .val true (.pair (.leaf (.slice rEnum)) (.pair (.leaf (.slice rTable)) (.pair (.own 0) (.pair (.own 1) (.pair (.own 2) (.leaf .bool)))))))], [(0, .own 63 rType), (1, .own 63 rType), (2, .own 63 rType)], [], 3⟩, fn := fun (x : rLaw.den × Int) => M.ref17_Signature N x.1 x.2 }
theorem W114 (N : Nat) : FnOK Tryz.prog 114 (S114 N) := fn_ok (E := ⟨tabs, [(127, S127 N)], (tabcons (W127 N) tabnil), mixed, false, false⟩) (N := N) (a := (.two .nil (.two (.meet ⟨[(15, .val false (.leaf .bool))], [], [], 32⟩ .nil .nil) (.two .nil (.two .nil (.meet ⟨[], [(240, .own 63 rType), (288, .own 63 rType), (320, .box 133 (.pair (.leaf (.slice rEnum)) (.pair (.leaf (.slice rTable)) (.pair (.own 240) (.pair (.own 288) (.pair (.own 352) (.leaf .bool))))))), (352, .own 63 rType)], [], 356⟩ (.meet ⟨[(43, .val false (.leaf .bool))], [], [], 352⟩ .nil .nil) .nil)))))) (sg := S114 N) (c := Tryz.f114.body.getD .skip) (rs := Tryz.f114.results.toList) Tryz.func114 (by kernel_rfl) (by kernel_rfl) rfl rfl rfl rfl (fun x => by kernel_rfl)
noncomputable def M.ref10_Arity (N : Nat) (a0 : Int) : Option (Int) :=
((if (decide ((1 : Int) ≤ a0)) = true then
(if (decide (a0 ≤ (9 : Int))) = true then
some true
else
(if (decide ((35 : Int) ≤ a0)) = true then
some (decide (a0 ≤ (39 : Int)))
else
some false))
else
(if (decide ((35 : Int) ≤ a0)) = true then
some (decide (a0 ≤ (39 : Int)))
else
some false)) : Option (Bool)).bind fun j1 =>
(if j1 = true then
some (0 : Int)
else
((if (decide (a0 = (10 : Int))) = true then
some (decide (a0 = (10 : Int)))
else
(if (decide (a0 = (25 : Int))) = true then
some (decide (a0 = (25 : Int)))
else
(if (decide (a0 = (31 : Int))) = true then
some (decide (a0 = (31 : Int)))
else
(if (decide (a0 = (32 : Int))) = true then
some (decide (a0 = (32 : Int)))
else
(if (decide (a0 = (33 : Int))) = true then
some (decide (a0 = (33 : Int)))
else
some (decide (a0 = (34 : Int)))))))) : Option (Bool)).bind fun j2 =>
(if j2 = true then
some (1 : Int)
else
(if (decide (a0 = (26 : Int))) = true then
some (3 : Int)
else
((if (decide ((11 : Int) ≤ a0)) = true then
some (decide (a0 ≤ (30 : Int)))
else
some false) : Option (Bool)).bind fun j3 =>
(if j3 = true then
some (2 : Int)
else
some (-1 : Int)))))
noncomputable def S140 (N : Nat) : Sig := { inn := ⟨[(0, .val false (.leaf rInt))], [], [], 0⟩, out := ⟨[(0, .val false (.leaf rInt))], [], [], 0⟩, fn := fun (x : Int) => M.ref10_Arity N x }
theorem W140 (N : Nat) : FnOK Tryz.prog 140 (S140 N) := fn_ok (E := ⟨tabs, [], tabnil, mixed, false, false⟩) (N := N) (a := (.two .nil (.two (.meet ⟨[(16, .val false (.leaf .bool))], [], [], 16⟩ .nil .nil) (.two (.two .nil (.two (.meet ⟨[(18, .val false (.leaf .bool))], [], [], 32⟩ .nil .nil) .nil)) (.two (.meet ⟨[(32, .val false (.leaf .bool))], [], [], 64⟩ .nil .nil) .nil))))) (sg := S140 N) (c := Tryz.f140.body.getD .skip) (rs := Tryz.f140.results.toList) Tryz.func140 (by kernel_rfl) (by kernel_rfl) rfl rfl rfl rfl (fun x => by kernel_rfl)
noncomputable def M.ref10_structure (N : Nat) (a0 : List rType.den) : Option (Int × Int × List Int) :=
(if (decide ((48 : Int) < (a0.length : Int))) = true then
some ((0 : Int), (4 : Int), ([] : List Int))
else
(if (decide ((a0.length : Int) = (0 : Int))) = true then
some ((0 : Int), (5 : Int), ([] : List Int))
else
Join (J := (List Int) × List Int) (R := Int × Int × List Int) (Loop (S := Int × (List Int) × List Int) (X := ((List Int) × List Int) ⊕ (Int × Int × List Int)) (fun s2 =>
(if (decide (s2.1 < (a0.length : Int))) = true then
(idx a0 s2.1).bind fun x3 =>
(M.ref10_Arity N x3.1).bind fun y4 =>
(if (decide (y4 < (0 : Int))) = true then
some (Sum.inr (Sum.inr (s2.1, (2 : Int), ([] : List Int))))
else
(if (decide ((s2.2.2.length : Int) < y4)) = true then
some (Sum.inr (Sum.inr (s2.1, (5 : Int), ([] : List Int))))
else
((if (decide ((0 : Int) < y4)) = true then
(idx s2.2.2 (IntKind.i64.wrap ((s2.2.2.length : Int) - y4))).bind fun x6 =>
(cutA s2.2.2 (0 : Int) (IntKind.i64.wrap ((s2.2.2.length : Int) - y4))).bind fun l7 =>
some (x6, l7)
else
some (s2.1, s2.2.2)) : Option (Int × List Int)).bind fun j5 =>
(appA j5.2 ([j5.1] : List Int)).bind fun l8 =>
(appA s2.2.1 ([j5.1] : List Int)).bind fun l9 =>
(if (decide ((12 : Int) < (l8.length : Int))) = true then
some (Sum.inr (Sum.inr (s2.1, (16 : Int), ([] : List Int))))
else
some (Sum.inl (IntKind.i64.wrap (s2.1 + (1 : Int)), l9, l8)))))
else
some (Sum.inr (Sum.inl (s2.2.1, s2.2.2))))) N ((0 : Int), ([] : List Int), ([] : List Int))) fun j1 =>
(if (decide ((1 : Int) < (j1.2.length : Int))) = true then
some ((a0.length : Int), (4 : Int), ([] : List Int))
else
some ((0 : Int), (0 : Int), j1.1))))
noncomputable def S139 (N : Nat) : Sig := { inn := ⟨[(0, .val false (.leaf (.slice rType)))], [], [], 0⟩, out := ⟨[(0, .val false (.own 0)), (1, .val false (.leaf rInt)), (2, .val false (.leaf rInt))], [(0, .own 3 rInt)], [], 1⟩, fn := fun (x : List rType.den) => M.ref10_structure N x }
theorem W139 (N : Nat) : FnOK Tryz.prog 139 (S139 N) := fn_ok (E := ⟨tabs, [(140, S140 N)], (tabcons (W140 N) tabnil), mixed, false, false⟩) (N := N) (a := (.two .nil (.two .nil (.two .nil (.two .nil (.join ⟨[(5, .val false (.own 176)), (6, .val false (.own 177))], [(176, .own 3 rInt), (177, .own 3 rInt)], [], 178⟩ (.two .nil (.two (.loop ⟨[(5, .val false (.own 192)), (6, .val false (.own 193)), (7, .val false (.leaf rInt))], [(192, .own 3 rInt), (193, .own 3 rInt)], [], 194⟩ (.two .nil (.two (.two (.two .nil (.two .nil (.two .nil (.two .nil (.meet ⟨[(6, .val false (.own 498)), (9, .val false (.leaf rInt))], [(498, .own 3 rInt)], [193], 499⟩ .nil .nil))))) .nil) .nil))) .nil)) .nil)))))) (sg := S139 N) (c := Tryz.f139.body.getD .skip) (rs := Tryz.f139.results.toList) Tryz.func139 (by kernel_rfl) (by kernel_rfl) rfl rfl rfl rfl (fun x => by kernel_rfl)
noncomputable def M.ref10_meaning (N : Nat) (a0 : Int) : Option (Bool) :=
((if (decide ((1 : Int) ≤ a0)) = true then
(if (decide (a0 ≤ (8 : Int))) = true then
some true
else
(if (decide ((36 : Int) ≤ a0)) = true then
some (decide (a0 ≤ (39 : Int)))
else
some false))
else
(if (decide ((36 : Int) ≤ a0)) = true then
some (decide (a0 ≤ (39 : Int)))
else
some false)) : Option (Bool)).bind fun j1 =>
(if j1 = true then
some true
else
((if (decide (a0 = (14 : Int))) = true then
some true
else
(if (decide (a0 = (15 : Int))) = true then
some true
else
(if (decide (a0 = (16 : Int))) = true then
some true
else
(if (decide (a0 = (33 : Int))) = true then
some true
else
some (decide (a0 = (34 : Int))))))) : Option (Bool)).bind fun j2 =>
some j2)
noncomputable def S154 (N : Nat) : Sig := { inn := ⟨[(0, .val false (.leaf rInt))], [], [], 0⟩, out := ⟨[(0, .val false (.leaf .bool))], [], [], 0⟩, fn := fun (x : Int) => M.ref10_meaning N x }
theorem W154 (N : Nat) : FnOK Tryz.prog 154 (S154 N) := fn_ok (E := ⟨tabs, [], tabnil, mixed, false, false⟩) (N := N) (a := (.two .nil (.two (.meet ⟨[(16, .val false (.leaf .bool))], [], [], 16⟩ .nil .nil) (.meet ⟨[(2, .val false (.leaf .bool))], [], [], 16⟩ .nil .nil)))) (sg := S154 N) (c := Tryz.f154.body.getD .skip) (rs := Tryz.f154.results.toList) Tryz.func154 (by kernel_rfl) (by kernel_rfl) rfl rfl rfl rfl (fun x => by kernel_rfl)
noncomputable def M.ref10_kind (N : Nat) (a0 : Int) : Option (rType.den) :=
some (a0, (0 : Int))
noncomputable def S177 (N : Nat) : Sig := { inn := ⟨[(0, .val false (.leaf rInt))], [], [], 0⟩, out := ⟨[(0, .val true (.leaf rType))], [], [], 0⟩, fn := fun (x : Int) => M.ref10_kind N x }
theorem W177 (N : Nat) : FnOK Tryz.prog 177 (S177 N) := fn_ok (E := ⟨tabs, [], tabnil, mixed, false, false⟩) (N := N) (a := .nil) (sg := S177 N) (c := Tryz.f177.body.getD .skip) (rs := Tryz.f177.results.toList) Tryz.func177 (by kernel_rfl) (by kernel_rfl) rfl rfl rfl rfl (fun x => by kernel_rfl)
noncomputable def M.ref10_ranged (N : Nat) (a0 : rType.den) (a1 : rSignature.den) : Option (Bool) :=
((if (decide (a0.1 = (1 : Int))) = true then
some (decide (a0.1 = (1 : Int)))
else
(if (decide (a0.1 = (2 : Int))) = true then
some (decide (a0.1 = (2 : Int)))
else
(if (decide (a0.1 = (3 : Int))) = true then
some (decide (a0.1 = (3 : Int)))
else
(if (decide (a0.1 = (4 : Int))) = true then
some (decide (a0.1 = (4 : Int)))
else
some (decide (a0.1 = (5 : Int))))))) : Option (Bool)).bind fun j1 =>
(if j1 = true then
(M.ref10_kind N a0.1).bind fun y2 =>
(M.ref09_Bounds N y2 a1.1).bind fun y3 =>
((if (decide (y3.1 ≤ a0.2)) = true then
some (decide (a0.2 ≤ y3.2))
else
some false) : Option (Bool)).bind fun j4 =>
some j4
else
((if (decide (a0.1 = (14 : Int))) = true then
some (decide (a0.1 = (14 : Int)))
else
(if (decide (a0.1 = (15 : Int))) = true then
some (decide (a0.1 = (15 : Int)))
else
some (decide (a0.1 = (16 : Int))))) : Option (Bool)).bind fun j5 =>
(if j5 = true then
((if (decide ((0 : Int) ≤ a0.2)) = true then
some (decide (a0.2 ≤ (5 : Int)))
else
some false) : Option (Bool)).bind fun j6 =>
some j6
else
(if (decide (a0.1 = (34 : Int))) = true then
((if (decide ((0 : Int) ≤ a0.2)) = true then
some (decide ((Int.tmod a0.2 (8 : Int)) ≤ (5 : Int)))
else
some false) : Option (Bool)).bind fun j7 =>
some j7
else
(if (decide (a0.1 = (6 : Int))) = true then
some (decide ((0 : Int) ≤ a0.2))
else
some true))))
noncomputable def S155 (N : Nat) : Sig := { inn := ⟨[(0, .val true (.leaf rType)), (1, .val true (.leaf rSignature))], [], [], 0⟩, out := ⟨[(0, .val false (.leaf .bool))], [], [], 0⟩, fn := fun (x : rType.den × rSignature.den) => M.ref10_ranged N x.1 x.2 }
theorem W155 (N : Nat) : FnOK Tryz.prog 155 (S155 N) := fn_ok (E := ⟨tabs, [(54, S54 N), (177, S177 N)], (tabcons (W54 N) (tabcons (W177 N) tabnil)), mixed, false, false⟩) (N := N) (a := (.two .nil (.two (.two .nil (.two (.meet ⟨[(9, .val false (.leaf .bool))], [], [], 80⟩ .nil (.two (.two .nil (.meet ⟨[(4, .val false (.leaf .bool))], [], [], 256⟩ .nil .nil)) (.meet ⟨[(34, .val false (.leaf .bool))], [], [], 80⟩ .nil (.two (.meet ⟨[(4, .val false (.leaf .bool))], [], [], 80⟩ .nil .nil) (.two .nil (.two (.meet ⟨[(4, .val false (.leaf .bool))], [], [], 112⟩ .nil .nil) .nil)))))) .nil)) .nil))) (sg := S155 N) (c := Tryz.f155.body.getD .skip) (rs := Tryz.f155.results.toList) Tryz.func155 (by kernel_rfl) (by kernel_rfl) rfl rfl rfl rfl (fun x => by kernel_rfl)
noncomputable def M.ref10_found (N : Nat) (a0 : rType.den) (a1 : rSignature.den) : Option (Bool) :=
(if (decide (a0.1 = (6 : Int))) = true then
((if (decide ((IntKind.i64.wrap (Int.tdiv a0.2 (16 : Int))) < (a1.1.length : Int))) = true then
(idx a1.1 (IntKind.i64.wrap (Int.tdiv a0.2 (16 : Int)))).bind fun x2 =>
some (decide ((Int.tmod a0.2 (16 : Int)) < (x2.2.length : Int)))
else
some false) : Option (Bool)).bind fun j1 =>
some j1
else
(if (decide (a0.1 = (7 : Int))) = true then
((if (decide ((0 : Int) ≤ a0.2)) = true then
some (decide (a0.2 < (a1.2.2.1.length : Int)))
else
some false) : Option (Bool)).bind fun j3 =>
some j3
else
(if (decide (a0.1 = (8 : Int))) = true then
((if (decide ((0 : Int) ≤ a0.2)) = true then
some (decide (a0.2 < (a1.2.2.2.1.length : Int)))
else
some false) : Option (Bool)).bind fun j4 =>
some j4
else
(if (decide (a0.1 = (33 : Int))) = true then
((if (decide ((0 : Int) ≤ a0.2)) = true then
some (decide (a0.2 < (a1.2.1.length : Int)))
else
some false) : Option (Bool)).bind fun j5 =>
some j5
else
(if (decide (a0.1 = (34 : Int))) = true then
some (decide ((IntKind.i64.wrap (Int.tdiv a0.2 (8 : Int))) < (a1.2.1.length : Int)))
else
(if (decide (a0.1 = (35 : Int))) = true then
some a1.2.2.2.2.2
else
((if (decide (a0.1 = (36 : Int))) = true then
some (decide (a0.1 = (36 : Int)))
else
(if (decide (a0.1 = (37 : Int))) = true then
some (decide (a0.1 = (37 : Int)))
else
(if (decide (a0.1 = (38 : Int))) = true then
some (decide (a0.1 = (38 : Int)))
else
some (decide (a0.1 = (39 : Int)))))) : Option (Bool)).bind fun j6 =>
(if j6 = true then
((if a1.2.2.2.2.2 = true then
(if (decide ((0 : Int) ≤ a0.2)) = true then
some (decide (a0.2 < (a1.2.2.2.2.1.length : Int)))
else
some false)
else
some false) : Option (Bool)).bind fun j7 =>
some j7
else
some true)))))))
noncomputable def S156 (N : Nat) : Sig := { inn := ⟨[(0, .val true (.leaf rType)), (1, .val true (.leaf rSignature))], [], [], 0⟩, out := ⟨[(0, .val false (.leaf .bool))], [], [], 0⟩, fn := fun (x : rType.den × rSignature.den) => M.ref10_found N x.1 x.2 }
theorem W156 (N : Nat) : FnOK Tryz.prog 156 (S156 N) := fn_ok (E := ⟨tabs, [], tabnil, mixed, false, false⟩) (N := N) (a := (.two .nil (.two (.two .nil (.two (.two .nil (.two (.meet ⟨[(4, .val false (.leaf .bool))], [], [], 112⟩ .nil .nil) (.two .nil (.two (.meet ⟨[(4, .val false (.leaf .bool))], [], [], 144⟩ .nil .nil) (.two .nil (.two (.meet ⟨[(4, .val false (.leaf .bool))], [], [], 176⟩ .nil .nil) (.two .nil (.two (.meet ⟨[(4, .val false (.leaf .bool))], [], [], 208⟩ .nil .nil) (.two .nil (.two .nil (.two .nil (.two .nil (.meet ⟨[(83, .val false (.leaf .bool))], [], [], 272⟩ .nil (.two (.meet ⟨[(4, .val false (.leaf .bool))], [], [], 272⟩ .nil .nil) .nil)))))))))))))) .nil)) .nil))) (sg := S156 N) (c := Tryz.f156.body.getD .skip) (rs := Tryz.f156.results.toList) Tryz.func156 (by kernel_rfl) (by kernel_rfl) rfl rfl rfl rfl (fun x => by kernel_rfl)
noncomputable def M.ref10_number (N : Nat) (a0 : Int) : Option (Bool) :=
((if (decide (a0 = (2 : Int))) = true then
some true
else
(if (decide (a0 = (3 : Int))) = true then
some true
else
some (decide (a0 = (4 : Int))))) : Option (Bool)).bind fun j1 =>
some j1
noncomputable def S179 (N : Nat) : Sig := { inn := ⟨[(0, .val false (.leaf rInt))], [], [], 0⟩, out := ⟨[(0, .val false (.leaf .bool))], [], [], 0⟩, fn := fun (x : Int) => M.ref10_number N x }
theorem W179 (N : Nat) : FnOK Tryz.prog 179 (S179 N) := fn_ok (E := ⟨tabs, [], tabnil, mixed, false, false⟩) (N := N) (a := (.two .nil (.meet ⟨[(2, .val false (.leaf .bool))], [], [], 16⟩ .nil .nil))) (sg := S179 N) (c := Tryz.f179.body.getD .skip) (rs := Tryz.f179.results.toList) Tryz.func179 (by kernel_rfl) (by kernel_rfl) rfl rfl rfl rfl (fun x => by kernel_rfl)
noncomputable def M.ref10_ordered (N : Nat) (a0 : Int) : Option (Bool) :=
((M.ref10_number N a0).bind fun y2 =>
(if y2 = true then
some true
else
some (decide (a0 = (5 : Int)))) : Option (Bool)).bind fun j1 =>
some j1
noncomputable def S178 (N : Nat) : Sig := { inn := ⟨[(0, .val false (.leaf rInt))], [], [], 0⟩, out := ⟨[(0, .val false (.leaf .bool))], [], [], 0⟩, fn := fun (x : Int) => M.ref10_ordered N x }
theorem W178 (N : Nat) : FnOK Tryz.prog 178 (S178 N) := fn_ok (E := ⟨tabs, [(179, S179 N)], (tabcons (W179 N) tabnil), mixed, false, false⟩) (N := N) (a := (.two .nil (.meet ⟨[(2, .val false (.leaf .bool))], [], [], 16⟩ .nil .nil))) (sg := S178 N) (c := Tryz.f178.body.getD .skip) (rs := Tryz.f178.results.toList) Tryz.func178 (by kernel_rfl) (by kernel_rfl) rfl rfl rfl rfl (fun x => by kernel_rfl)
noncomputable def M.ref10_leaf (N : Nat) (a0 : rType.den) (a1 : rSignature.den) : Option (rType.den × Bool) :=
((if (decide (a0.1 = (6 : Int))) = true then
some ((6 : Int), IntKind.i64.wrap (Int.tdiv a0.2 (16 : Int)))
else
(if (decide (a0.1 = (7 : Int))) = true then
(idx a1.2.2.1 a0.2).bind fun x2 =>
some x2
else
(if (decide (a0.1 = (8 : Int))) = true then
(idx a1.2.2.2.1 a0.2).bind fun x3 =>
some x3
else
(if (decide (a0.1 = (9 : Int))) = true then
(M.ref10_kind N (5 : Int)).bind fun y4 =>
some y4
else
(if (decide (a0.1 = (35 : Int))) = true then
(M.ref10_kind N (2 : Int)).bind fun y5 =>
some y5
else
((if (decide (a0.1 = (36 : Int))) = true then
some (decide (a0.1 = (36 : Int)))
else
(if (decide (a0.1 = (37 : Int))) = true then
some (decide (a0.1 = (37 : Int)))
else
(if (decide (a0.1 = (38 : Int))) = true then
some (decide (a0.1 = (38 : Int)))
else
some (decide (a0.1 = (39 : Int)))))) : Option (Bool)).bind fun j6 =>
(if j6 = true then
(idx a1.2.2.2.2.1 a0.2).bind fun x7 =>
some x7
else
(M.ref10_kind N a0.1).bind fun y8 =>
some y8)))))) : Option (rType.den)).bind fun j1 =>
(M.ref09_ValidType N j1 a1.1).bind fun y9 =>
((if (decide (a0.1 = (36 : Int))) = true then
(if y9 = true then
(if (decide (j1.1 = (2 : Int))) = true then
some true
else
some (decide (j1.1 = (3 : Int))))
else
some false)
else
((if (decide (a0.1 = (37 : Int))) = true then
some (decide (a0.1 = (37 : Int)))
else
some (decide (a0.1 = (38 : Int)))) : Option (Bool)).bind fun j11 =>
(if j11 = true then
(if y9 = true then
some (decide (j1.1 = (1 : Int)))
else
some false)
else
(if (decide (a0.1 = (39 : Int))) = true then
(if y9 = true then
(M.ref10_ordered N j1.1).bind fun y12 =>
some y12
else
some false)
else
some y9))) : Option (Bool)).bind fun j10 =>
some (j1, j10)
noncomputable def S157 (N : Nat) : Sig := { inn := ⟨[(0, .val true (.leaf rType)), (1, .val true (.leaf rSignature))], [], [], 0⟩, out := ⟨[(0, .val true (.leaf rType)), (1, .val false (.leaf .bool))], [], [], 0⟩, fn := fun (x : rType.den × rSignature.den) => M.ref10_leaf N x.1 x.2 }
theorem W157 (N : Nat) : FnOK Tryz.prog 157 (S157 N) := fn_ok (E := ⟨tabs, [(66, S66 N), (177, S177 N), (178, S178 N)], (tabcons (W66 N) (tabcons (W177 N) (tabcons (W178 N) tabnil))), mixed, false, false⟩) (N := N) (a := (.two .nil (.two .nil (.two (.two .nil (.meet ⟨[], [(80, .box 63 (.leaf rType))], [], 145⟩ (.two .nil (.two .nil (.two .nil (.two .nil (.two .nil (.two .nil (.two .nil (.two .nil (.two .nil (.two .nil (.meet ⟨[(42, .val false (.leaf .bool))], [], [], 304⟩ .nil .nil))))))))))) .nil)) (.two .nil (.two (.two .nil (.meet ⟨[(7, .val false (.leaf .bool))], [], [], 257⟩ (.two .nil (.two .nil (.meet ⟨[(72, .val false (.leaf .bool))], [], [], 289⟩ .nil .nil))) .nil)) .nil)))))) (sg := S157 N) (c := Tryz.f157.body.getD .skip) (rs := Tryz.f157.results.toList) Tryz.func157 (by kernel_rfl) (by kernel_rfl) rfl rfl rfl rfl (fun x => by kernel_rfl)
noncomputable def M.ref10_single (N : Nat) (a0 : rType.den) (a1 : rType.den) (a2 : rSignature.den) : Option (rType.den × Bool) :=
(if (decide (a0.1 = (10 : Int))) = true then
(M.ref10_number N a1.1).bind fun y1 =>
some (a1, y1)
else
(if (decide (a0.1 = (25 : Int))) = true then
some (a1, decide (a1.1 = (1 : Int)))
else
((if (decide (a0.1 = (31 : Int))) = true then
some (decide (a0.1 = (31 : Int)))
else
some (decide (a0.1 = (32 : Int)))) : Option (Bool)).bind fun j2 =>
(if j2 = true then
(M.ref10_kind N (2 : Int)).bind fun y3 =>
some (y3, decide (a1.1 = (5 : Int)))
else
(if (decide (a0.1 = (33 : Int))) = true then
(idx a2.2.1 a0.2).bind fun x4 =>
((M.ref09_ValidType N x4.2.1 a2.1).bind fun y6 =>
(if y6 = true then
(M.ref09_ValidType N x4.2.2.1 a2.1).bind fun y7 =>
(if y7 = true then
some ((eqR rType a1 x4.2.1), x4.2.2.1)
else
some (false, x4.2.2.1))
else
some (false, x4.2.2.1)) : Option (Bool × rType.den)).bind fun j5 =>
some (j5.2, j5.1)
else
(idx a2.2.1 (IntKind.i64.wrap (Int.tdiv a0.2 (8 : Int)))).bind fun x8 =>
((if (decide (a1.1 = (3 : Int))) = true then
(M.ref10_kind N (3 : Int)).bind fun y10 =>
(if (eqR rType x8.2.1 y10) = true then
(M.ref10_kind N (4 : Int)).bind fun y11 =>
some ((eqR rType x8.2.2.1 y11), a1)
else
some (false, a1))
else
some (false, a1)) : Option (Bool × rType.den)).bind fun j9 =>
some (j9.2, j9.1)))))
noncomputable def S158 (N : Nat) : Sig := { inn := ⟨[(0, .val true (.leaf rType)), (1, .val true (.leaf rType)), (2, .val true (.leaf rSignature))], [], [], 0⟩, out := ⟨[(0, .val true (.leaf rType)), (1, .val false (.leaf .bool))], [], [], 0⟩, fn := fun (x : rType.den × rType.den × rSignature.den) => M.ref10_single N x.1 x.2.1 x.2.2 }
theorem W158 (N : Nat) : FnOK Tryz.prog 158 (S158 N) := fn_ok (E := ⟨tabs, [(66, S66 N), (177, S177 N), (179, S179 N)], (tabcons (W66 N) (tabcons (W177 N) (tabcons (W179 N) tabnil))), mixed, false, false⟩) (N := N) (a := (.two .nil (.two (.two .nil (.two (.two .nil (.two .nil (.two .nil (.two .nil (.meet ⟨[(24, .val false (.leaf .bool))], [], [], 176⟩ .nil (.two .nil (.two .nil (.two (.two .nil (.meet ⟨[(7, .val false (.leaf .bool))], [(48, .box 63 (.leaf rType))], [], 337⟩ .nil .nil)) .nil)))))))) .nil)) (.two .nil (.meet ⟨[(7, .val false (.leaf .bool))], [(48, .box 63 (.leaf rType))], [], 353⟩ .nil .nil))))) (sg := S158 N) (c := Tryz.f158.body.getD .skip) (rs := Tryz.f158.results.toList) Tryz.func158 (by kernel_rfl) (by kernel_rfl) rfl rfl rfl rfl (fun x => by kernel_rfl)
noncomputable def M.ref10_scaled (N : Nat) (a0 : Int) (a1 : Int) (a2 : Int) : Option (rType.den × Bool) :=
(if (decide (a0 = (13 : Int))) = true then
((M.ref10_kind N a1).bind fun y2 =>
(if (decide (a2 = (2 : Int))) = true then
(if (decide (a1 = (2 : Int))) = true then
some (true, y2)
else
some (decide (a1 = (3 : Int)), y2))
else
some (false, y2)) : Option (Bool × rType.den)).bind fun j1 =>
some (j1.2, j1.1)
else
(if (decide (a0 = (14 : Int))) = true then
((M.ref10_kind N a1).bind fun y4 =>
(if (decide (a2 = (4 : Int))) = true then
(if (decide (a1 = (3 : Int))) = true then
some (true, y4)
else
some (decide (a1 = (4 : Int)), y4))
else
some (false, y4)) : Option (Bool × rType.den)).bind fun j3 =>
some (j3.2, j3.1)
else
((if (decide (a1 = (3 : Int))) = true then
some (decide (a2 = (3 : Int)))
else
some false) : Option (Bool)).bind fun j5 =>
(if j5 = true then
(M.ref10_kind N (4 : Int)).bind fun y6 =>
some (y6, true)
else
((M.ref10_kind N a1).bind fun y8 =>
(if (decide (a2 = (2 : Int))) = true then
(if (decide (a1 = (2 : Int))) = true then
some (true, y8)
else
some (decide (a1 = (3 : Int)), y8))
else
some (false, y8)) : Option (Bool × rType.den)).bind fun j7 =>
some (j7.2, j7.1))))
noncomputable def S180 (N : Nat) : Sig := { inn := ⟨[(0, .val false (.leaf rInt)), (1, .val false (.leaf rInt)), (2, .val false (.leaf rInt))], [], [], 0⟩, out := ⟨[(0, .val true (.leaf rType)), (1, .val false (.leaf .bool))], [], [], 0⟩, fn := fun (x : Int × Int × Int) => M.ref10_scaled N x.1 x.2.1 x.2.2 }
theorem W180 (N : Nat) : FnOK Tryz.prog 180 (S180 N) := fn_ok (E := ⟨tabs, [(177, S177 N)], (tabcons (W177 N) tabnil), mixed, false, false⟩) (N := N) (a := (.two .nil (.two (.two .nil (.two (.two .nil (.two (.meet ⟨[(7, .val false (.leaf .bool))], [(0, .box 63 (.leaf rType))], [], 81⟩ .nil .nil) (.two .nil (.two (.meet ⟨[(7, .val false (.leaf .bool))], [(0, .box 63 (.leaf rType))], [], 113⟩ .nil .nil) .nil)))) .nil)) (.two (.meet ⟨[(42, .val false (.leaf .bool))], [], [], 112⟩ .nil .nil) (.meet ⟨[(7, .val false (.leaf .bool))], [(0, .box 63 (.leaf rType))], [], 113⟩ .nil .nil))))) (sg := S180 N) (c := Tryz.f180.body.getD .skip) (rs := Tryz.f180.results.toList) Tryz.func180 (by kernel_rfl) (by kernel_rfl) rfl rfl rfl rfl (fun x => by kernel_rfl)
noncomputable def M.ref10_double (N : Nat) (a0 : Int) (a1 : rType.den) (a2 : rType.den) : Option (rType.den × Bool) :=
((if (decide (a0 = (11 : Int))) = true then
some (decide (a0 = (11 : Int)))
else
some (decide (a0 = (12 : Int)))) : Option (Bool)).bind fun j1 =>
(if j1 = true then
((if (eqR rType a1 a2) = true then
(M.ref10_number N a1.1).bind fun y3 =>
some (y3, a1)
else
some (false, a1)) : Option (Bool × rType.den)).bind fun j2 =>
some (j2.2, j2.1)
else
((if (decide (a0 = (13 : Int))) = true then
some (decide (a0 = (13 : Int)))
else
(if (decide (a0 = (14 : Int))) = true then
some (decide (a0 = (14 : Int)))
else
some (decide (a0 = (15 : Int))))) : Option (Bool)).bind fun j4 =>
(if j4 = true then
(M.ref10_scaled N a0 a1.1 a2.1).bind fun y5 =>
some (y5.1, y5.2)
else
(if (decide (a0 = (16 : Int))) = true then
((if (decide (a1.1 = (3 : Int))) = true then
some (decide (a2.1 = (3 : Int)), a1)
else
some (false, a1)) : Option (Bool × rType.den)).bind fun j6 =>
some (j6.2, j6.1)
else
((if (decide (a0 = (17 : Int))) = true then
some (decide (a0 = (17 : Int)))
else
some (decide (a0 = (18 : Int)))) : Option (Bool)).bind fun j7 =>
(if j7 = true then
((if (eqR rType a1 a2) = true then
(M.ref10_ordered N a1.1).bind fun y9 =>
some (y9, a1)
else
some (false, a1)) : Option (Bool × rType.den)).bind fun j8 =>
some (j8.2, j8.1)
else
((if (decide (a0 = (19 : Int))) = true then
some (decide (a0 = (19 : Int)))
else
some (decide (a0 = (20 : Int)))) : Option (Bool)).bind fun j10 =>
(if j10 = true then
(M.ref10_kind N (1 : Int)).bind fun y11 =>
some (y11, (eqR rType a1 a2))
else
((if (decide (a0 = (21 : Int))) = true then
some (decide (a0 = (21 : Int)))
else
some (decide (a0 = (22 : Int)))) : Option (Bool)).bind fun j12 =>
(if j12 = true then
((M.ref10_kind N (1 : Int)).bind fun y14 =>
(if (eqR rType a1 a2) = true then
(M.ref10_ordered N a1.1).bind fun y15 =>
some (y15, y14)
else
some (false, y14)) : Option (Bool × rType.den)).bind fun j13 =>
some (j13.2, j13.1)
else
((if (decide (a0 = (23 : Int))) = true then
some (decide (a0 = (23 : Int)))
else
some (decide (a0 = (24 : Int)))) : Option (Bool)).bind fun j16 =>
(if j16 = true then
((if (decide (a1.1 = (1 : Int))) = true then
some (decide (a2.1 = (1 : Int)), a1)
else
some (false, a1)) : Option (Bool × rType.den)).bind fun j17 =>
some (j17.2, j17.1)
else
((if (decide (a0 = (27 : Int))) = true then
some (decide (a0 = (27 : Int)))
else
some (decide (a0 = (28 : Int)))) : Option (Bool)).bind fun j18 =>
(if j18 = true then
((if (decide (a1.1 = (5 : Int))) = true then
some (decide (a2.1 = (2 : Int)), a1)
else
some (false, a1)) : Option (Bool × rType.den)).bind fun j19 =>
some (j19.2, j19.1)
else
((M.ref10_kind N (2 : Int)).bind fun y21 =>
(if (decide (a1.1 = (5 : Int))) = true then
some (decide (a2.1 = (5 : Int)), y21)
else
some (false, y21)) : Option (Bool × rType.den)).bind fun j20 =>
some (j20.2, j20.1)))))))))
noncomputable def S159 (N : Nat) : Sig := { inn := ⟨[(0, .val false (.leaf rInt)), (1, .val true (.leaf rType)), (2, .val true (.leaf rType))], [], [], 0⟩, out := ⟨[(0, .val true (.leaf rType)), (1, .val false (.leaf .bool))], [], [], 0⟩, fn := fun (x : Int × rType.den × rType.den) => M.ref10_double N x.1 x.2.1 x.2.2 }
theorem W159 (N : Nat) : FnOK Tryz.prog 159 (S159 N) := fn_ok (E := ⟨tabs, [(177, S177 N), (178, S178 N), (179, S179 N), (180, S180 N)], (tabcons (W177 N) (tabcons (W178 N) (tabcons (W179 N) (tabcons (W180 N) tabnil)))), mixed, false, false⟩) (N := N) (a := (.two .nil (.two (.two .nil (.two (.meet ⟨[(9, .val false (.leaf .bool))], [], [], 80⟩ .nil (.two (.meet ⟨[(7, .val false (.leaf .bool))], [(32, .box 63 (.leaf rType))], [], 81⟩ .nil .nil) (.meet ⟨[(21, .val false (.leaf .bool))], [], [], 80⟩ .nil (.two .nil (.two .nil (.two (.meet ⟨[(7, .val false (.leaf .bool))], [(32, .box 63 (.leaf rType))], [], 113⟩ .nil .nil) (.meet ⟨[(44, .val false (.leaf .bool))], [], [], 112⟩ .nil (.two (.meet ⟨[(7, .val false (.leaf .bool))], [(32, .box 63 (.leaf rType))], [], 113⟩ .nil .nil) (.meet ⟨[(56, .val false (.leaf .bool))], [], [], 112⟩ .nil (.two .nil (.meet ⟨[(63, .val false (.leaf .bool))], [], [], 112⟩ .nil (.two (.meet ⟨[(7, .val false (.leaf .bool))], [(32, .box 63 (.leaf rType))], [], 113⟩ .nil .nil) (.meet ⟨[(75, .val false (.leaf .bool))], [], [], 112⟩ .nil (.two (.meet ⟨[(7, .val false (.leaf .bool))], [(32, .box 63 (.leaf rType))], [], 113⟩ .nil .nil) (.meet ⟨[(87, .val false (.leaf .bool))], [], [], 112⟩ .nil (.two (.meet ⟨[(7, .val false (.leaf .bool))], [(32, .box 63 (.leaf rType))], [], 113⟩ .nil .nil) .nil)))))))))))))))) .nil)) (.meet ⟨[(7, .val false (.leaf .bool))], [(32, .box 63 (.leaf rType))], [], 113⟩ .nil .nil)))) (sg := S159 N) (c := Tryz.f159.body.getD .skip) (rs := Tryz.f159.results.toList) Tryz.func159 (by kernel_rfl) (by kernel_rfl) rfl rfl rfl rfl (fun x => by kernel_rfl)
noncomputable def M.ref10_Result (N : Nat) (a0 : rType.den) (a1 : List rType.den) (a2 : rSignature.den) : Option (rType.den × Int) :=
((if (!decide (a0.2 = (0 : Int))) = true then
(M.ref10_meaning N a0.1).bind fun y2 =>
some (!y2)
else
some false) : Option (Bool)).bind fun j1 =>
(if j1 = true then
some (((0 : Int), (0 : Int)), (2 : Int))
else
(M.ref10_ranged N a0 a2).bind fun y3 =>
(if (!y3) = true then
some (((0 : Int), (0 : Int)), (3 : Int))
else
(M.ref10_found N a0 a2).bind fun y4 =>
(if (!y4) = true then
some (((0 : Int), (0 : Int)), (6 : Int))
else
((if (decide ((a1.length : Int) = (0 : Int))) = true then
(M.ref10_leaf N a0 a2).bind fun y6 =>
some (y6.2, y6.1)
else
(if (decide ((a1.length : Int) = (1 : Int))) = true then
(idx a1 (0 : Int)).bind fun x7 =>
(M.ref10_single N a0 x7 a2).bind fun y8 =>
some (y8.2, y8.1)
else
(if (decide ((a1.length : Int) = (2 : Int))) = true then
(idx a1 (0 : Int)).bind fun x9 =>
(idx a1 (1 : Int)).bind fun x10 =>
(M.ref10_double N a0.1 x9 x10).bind fun y11 =>
some (y11.2, y11.1)
else
(idx a1 (1 : Int)).bind fun x12 =>
(idx a1 (0 : Int)).bind fun x13 =>
(if (decide (x13.1 = (1 : Int))) = true then
(idx a1 (1 : Int)).bind fun x14 =>
(idx a1 (2 : Int)).bind fun x15 =>
some ((eqR rType x14 x15), x12)
else
some (false, x12))))) : Option (Bool × rType.den)).bind fun j5 =>
(if (!j5.1) = true then
some (((0 : Int), (0 : Int)), (8 : Int))
else
some (j5.2, (0 : Int))))))
noncomputable def S141 (N : Nat) : Sig := { inn := ⟨[(0, .val true (.leaf rType)), (1, .val false (.leaf (.slice rType))), (2, .val true (.leaf rSignature))], [], [], 0⟩, out := ⟨[(0, .val true (.leaf rType)), (1, .val false (.leaf rInt))], [], [], 0⟩, fn := fun (x : rType.den × (List rType.den) × rSignature.den) => M.ref10_Result N x.1 x.2.1 x.2.2 }
theorem W141 (N : Nat) : FnOK Tryz.prog 141 (S141 N) := fn_ok (E := ⟨tabs, [(154, S154 N), (155, S155 N), (156, S156 N), (157, S157 N), (158, S158 N), (159, S159 N)], (tabcons (W154 N) (tabcons (W155 N) (tabcons (W156 N) (tabcons (W157 N) (tabcons (W158 N) (tabcons (W159 N) tabnil)))))), mixed, false, false⟩) (N := N) (a := (.two .nil (.two (.meet ⟨[(18, .val false (.leaf .bool))], [], [], 64⟩ .nil .nil) (.two .nil (.two .nil (.two .nil (.two .nil (.two (.two .nil (.meet ⟨[(9, .val false (.leaf .bool))], [(208, .box 63 (.leaf rType))], [], 289⟩ .nil .nil)) .nil)))))))) (sg := S141 N) (c := Tryz.f141.body.getD .skip) (rs := Tryz.f141.results.toList) Tryz.func141 (by kernel_rfl) (by kernel_rfl) rfl rfl rfl rfl (fun x => by kernel_rfl)
noncomputable def M.ref10_TypeOf (N : Nat) (a0 : List rType.den) (a1 : rSignature.den) : Option (rType.den × Int × Int) :=
(M.ref10_structure N a0).bind fun y1 =>
(if (!decide (y1.2.1 = (0 : Int))) = true then
some (((0 : Int), (0 : Int)), y1.1, y1.2.1)
else
Join (J := List rType.den) (R := rType.den × Int × Int) (Loop (S := Int × List rType.den) (X := (List rType.den) ⊕ (rType.den × Int × Int)) (fun s3 =>
(if (decide (s3.1 < (a0.length : Int))) = true then
(idx a0 s3.1).bind fun x4 =>
(M.ref10_Arity N x4.1).bind fun y5 =>
(idx a0 s3.1).bind fun x6 =>
(cutA s3.2 (IntKind.i64.wrap ((s3.2.length : Int) - y5)) (s3.2.length : Int)).bind fun l7 =>
(M.ref10_Result N x6 l7 a1).bind fun y8 =>
(if (!decide (y8.2 = (0 : Int))) = true then
some (Sum.inr (Sum.inr (((0 : Int), (0 : Int)), s3.1, y8.2)))
else
(cutA s3.2 (0 : Int) (IntKind.i64.wrap ((s3.2.length : Int) - y5))).bind fun l9 =>
(appA l9 ([y8.1] : List rType.den)).bind fun l10 =>
some (Sum.inl (IntKind.i64.wrap (s3.1 + (1 : Int)), l10)))
else
some (Sum.inr (Sum.inl s3.2)))) N ((0 : Int), ([] : List rType.den))) fun j2 =>
(idx j2 (0 : Int)).bind fun x11 =>
some (x11, (0 : Int), (0 : Int)))
noncomputable def S128 (N : Nat) : Sig := { inn := ⟨[(0, .val false (.leaf (.slice rType))), (1, .val true (.leaf rSignature))], [], [], 0⟩, out := ⟨[(0, .val true (.leaf rType)), (1, .val false (.leaf rInt)), (2, .val false (.leaf rInt))], [], [], 0⟩, fn := fun (x : (List rType.den) × rSignature.den) => M.ref10_TypeOf N x.1 x.2 }
theorem W128 (N : Nat) : FnOK Tryz.prog 128 (S128 N) := fn_ok (E := ⟨tabs, [(139, S139 N), (140, S140 N), (141, S141 N)], (tabcons (W139 N) (tabcons (W140 N) (tabcons (W141 N) tabnil))), mixed, false, false⟩) (N := N) (a := (.two .nil (.two .nil (.two .nil (.two .nil (.join ⟨[(10, .val false (.own 256))], [(256, .own 63 rType)], [], 257⟩ (.two .nil (.two (.loop ⟨[(10, .val false (.own 272)), (11, .val false (.leaf rInt))], [(272, .own 63 rType)], [], 273⟩ .nil) .nil)) .nil)))))) (sg := S128 N) (c := Tryz.f128.body.getD .skip) (rs := Tryz.f128.results.toList) Tryz.func128 (by kernel_rfl) (by kernel_rfl) rfl rfl rfl rfl (fun x => by kernel_rfl)
noncomputable def M.ref17_exprError (N : Nat) (a0 : List rType.den) (a1 : rSignature.den) (a2 : rType.den) : Option (Int) :=
(M.ref10_TypeOf N a0 a1).bind fun y1 =>
(if (!decide (y1.2.2 = (0 : Int))) = true then
some y1.2.2
else
(if (!(eqR rType y1.1 a2)) = true then
some (8 : Int)
else
some (0 : Int)))
noncomputable def S115 (N : Nat) : Sig := { inn := ⟨[(0, .val false (.leaf (.slice rType))), (1, .val true (.leaf rSignature)), (2, .val true (.leaf rType))], [], [], 0⟩, out := ⟨[(0, .val false (.leaf rInt))], [], [], 0⟩, fn := fun (x : (List rType.den) × rSignature.den × rType.den) => M.ref17_exprError N x.1 x.2.1 x.2.2 }
theorem W115 (N : Nat) : FnOK Tryz.prog 115 (S115 N) := fn_ok (E := ⟨tabs, [(128, S128 N)], (tabcons (W128 N) tabnil), mixed, false, false⟩) (N := N) (a := .nil) (sg := S115 N) (c := Tryz.f115.body.getD .skip) (rs := Tryz.f115.results.toList) Tryz.func115 (by kernel_rfl) (by kernel_rfl) rfl rfl rfl rfl (fun x => by kernel_rfl)
noncomputable def M.ref17_ruleError (N : Nat) (a0 : rLaw.den) (a1 : Int) (a2 : Int) : Option (Int) :=
(idx a0.2.2 a1).bind fun x1 =>
(idx x1.2.2.2.2 a2).bind fun x2 =>
(M.ref08_IsIdentifier N x2.1).bind fun y3 =>
(if (!y3) = true then
some (2 : Int)
else
Join (J := Int) (R := Int) (Loop (S := Int × Int) (X := (Int) ⊕ (Int)) (fun s5 =>
(if (decide (s5.2 < a2)) = true then
Join (J := Int) (R := (Int × Int) ⊕ ((Int) ⊕ (Int))) ((idx x1.2.2.2.2 s5.2).bind fun x7 =>
(if (decide (x7.1 = x2.1)) = true then
some (Sum.inr (Sum.inr (Sum.inr (7 : Int))))
else
(idx x1.2.2.2.2 s5.2).bind fun x8 =>
(if (decide (x8.2.1 = x2.2.1)) = true then
some (Sum.inl (IntKind.i64.wrap (s5.1 + (1 : Int))))
else
some (Sum.inl s5.1)))) fun j6 =>
some (Sum.inl (j6, IntKind.i64.wrap (s5.2 + (1 : Int))))
else
some (Sum.inr (Sum.inl s5.1)))) N ((0 : Int), (0 : Int))) fun j4 =>
((if (decide (x2.2.1 < (0 : Int))) = true then
some true
else
some (decide ((x1.2.2.2.1.length : Int) ≤ x2.2.1))) : Option (Bool)).bind fun j9 =>
(if j9 = true then
some (6 : Int)
else
((if (!decide (x2.2.2.1 = (-1 : Int))) = true then
(if (decide (x2.2.2.1 < (0 : Int))) = true then
some true
else
(if (decide (a2 ≤ x2.2.2.1)) = true then
some true
else
(idx x1.2.2.2.2 x2.2.2.1).bind fun x11 =>
some (!decide (x11.2.1 = x2.2.1))))
else
some false) : Option (Bool)).bind fun j10 =>
(if j10 = true then
some (9 : Int)
else
((if (decide (x2.2.2.2.1 < (0 : Int))) = true then
some true
else
(if (decide ((9 : Int) < x2.2.2.2.1)) = true then
some true
else
(M.ref05_Valid N x2.2.2.2.2.1).bind fun y13 =>
(if (!y13) = true then
some true
else
some (decide (x2.2.2.2.2.1.1 = x2.2.2.2.2.1.2))))) : Option (Bool)).bind fun j12 =>
(if j12 = true then
some (3 : Int)
else
(if (decide ((8 : Int) ≤ j4)) = true then
some (4 : Int)
else
(M.ref17_plainText N x2.2.2.2.2.2.2.2).bind fun y14 =>
(if (!y14) = true then
some (2 : Int)
else
(M.ref17_Signature N a0 a1).bind fun y15 =>
Join (J := Unit) (R := Int) ((if (decide ((0 : Int) < (x2.2.2.2.2.2.1.length : Int))) = true then
(M.ref17_exprError N x2.2.2.2.2.2.1 (y15.1, (y15.2.1, (y15.2.2.2.1, (y15.2.2.2.2.1, (y15.2.2.2.2.2, y15.2.2.1))))) ((1 : Int), (0 : Int))).bind fun y17 =>
(if (!decide (y17 = (0 : Int))) = true then
some (Sum.inr y17)
else
some (Sum.inl ()))
else
some (Sum.inl ()))) fun j16 =>
(idx x1.2.2.2.1 x2.2.1).bind fun x18 =>
(M.ref17_exprError N x2.2.2.2.2.2.2.1 (y15.1, (y15.2.1, (y15.2.2.2.1, (y15.2.2.2.2.1, (y15.2.2.2.2.2, y15.2.2.1))))) x18.2).bind fun y19 =>
some y19))))))
noncomputable def S89 (N : Nat) : Sig := { inn := ⟨[(0, .val true (.leaf rLaw)), (1, .val false (.leaf rInt)), (2, .val false (.leaf rInt))], [], [], 0⟩, out := ⟨[(0, .val false (.leaf rInt))], [], [], 0⟩, fn := fun (x : rLaw.den × Int × Int) => M.ref17_ruleError N x.1 x.2.1 x.2.2 }
theorem W89 (N : Nat) : FnOK Tryz.prog 89 (S89 N) := fn_ok (E := ⟨tabs, [(56, S56 N), (85, S85 N), (113, S113 N), (114, S114 N), (115, S115 N)], (tabcons (W56 N) (tabcons (W85 N) (tabcons (W113 N) (tabcons (W114 N) (tabcons (W115 N) tabnil))))), mixed, false, false⟩) (N := N) (a := (.two .nil (.two .nil (.two .nil (.two .nil (.two .nil (.join ⟨[(9, .val false (.leaf rInt))], [], [], 336⟩ (.two .nil (.two (.loop ⟨[(9, .val false (.leaf rInt)), (10, .val false (.leaf rInt))], [], [], 352⟩ (.two .nil (.two (.join ⟨[(9, .val false (.leaf rInt))], [], [], 400⟩ .nil .nil) .nil))) .nil)) (.two (.meet ⟨[(62, .val false (.leaf .bool))], [], [], 336⟩ .nil .nil) (.two (.meet ⟨[(88, .val false (.leaf .bool))], [], [], 336⟩ .nil .nil) (.two (.meet ⟨[(111, .val false (.leaf .bool))], [], [], 336⟩ .nil .nil) (.two .nil (.two .nil (.two .nil (.join ⟨[], [], [], 512⟩ .nil .nil)))))))))))))) (sg := S89 N) (c := Tryz.f89.body.getD .skip) (rs := Tryz.f89.results.toList) Tryz.func89 (by kernel_rfl) (by kernel_rfl) rfl rfl rfl rfl (fun x => by kernel_rfl)
end Go.Proofs.YtdpikadpkgkhkaaGreat
