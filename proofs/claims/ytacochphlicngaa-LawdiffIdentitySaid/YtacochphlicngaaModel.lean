/- Written by rx.py: models and walks. -/
import Derived.Test.YtacochphlicngaaJump
import Derived.Test.YtacochphlicngaaProg
namespace Go.Proofs.Ytacochphlicngaa
open Go Go.RowKit
set_option maxRecDepth 100000
set_option linter.unusedVariables false

@[reducible] def rType : Row := .pair rInt rInt
@[reducible] def rField : Row := .pair .str rType
@[reducible] def rRule : Row := .pair .str (.pair rInt (.pair rInt (.pair rInt (.pair rType (.pair (.slice rType) (.pair (.slice rType) .str))))))
@[reducible] def rScope : Row := .pair .str (.pair rInt (.pair (.slice rField) (.pair (.slice rField) (.slice rRule))))
@[reducible] def rEnum : Row := .pair .str (.slice .str)
@[reducible] def rRow : Row := .pair rType (.pair rInt rType)
@[reducible] def rTable : Row := .pair .str (.pair rType (.pair rType (.slice rRow)))
@[reducible] def rLaw : Row := .pair (.slice rEnum) (.pair (.slice rTable) (.slice rScope))
@[reducible] def rChange : Row := .pair .str (.pair .str rInt)
@[reducible] def rlawdiff_scopeIndex : Row := .pair rScope (.map .str false rInt)
@[reducible] def rlawdiff_properties : Row := .pair .str (.pair .str (.pair rInt (.pair rType .str)))
@[reducible] def rLawError : Row := .pair rInt (.pair rInt rType)
@[reducible] def rSignature : Row := .pair (.slice rEnum) (.pair (.slice rTable) (.pair (.slice rType) (.pair (.slice rType) (.pair (.slice rType) .bool))))
theorem Ti3 : TI Try.prog 3 rInt := TI.mk (k := 1) (by kernel_rfl) rfl
theorem Ti4 : TI Try.prog 4 .bool := TI.mk (k := 1) (by kernel_rfl) rfl
theorem Ti9 : TI Try.prog 9 .str := TI.mk (k := 1) (by kernel_rfl) rfl
theorem Ti22 : TI Try.prog 22 (.slice rEnum) := TI.mk (k := 1) (by kernel_rfl) rfl
theorem Ti23 : TI Try.prog 23 (.slice rTable) := TI.mk (k := 1) (by kernel_rfl) rfl
theorem Ti24 : TI Try.prog 24 (.slice rScope) := TI.mk (k := 1) (by kernel_rfl) rfl
theorem Ti26 : TI Try.prog 26 rLaw := TI.mk (k := 3) (by kernel_rfl) rfl
theorem Ti33 : TI Try.prog 33 (.slice rField) := TI.mk (k := 1) (by kernel_rfl) rfl
theorem Ti34 : TI Try.prog 34 (.slice rRule) := TI.mk (k := 1) (by kernel_rfl) rfl
theorem Ti36 : TI Try.prog 36 rScope := TI.mk (k := 5) (by kernel_rfl) rfl
theorem Ti38 : TI Try.prog 38 rType := TI.mk (k := 2) (by kernel_rfl) rfl
theorem Ti39 : TI Try.prog 39 (.slice rType) := TI.mk (k := 1) (by kernel_rfl) rfl
theorem Ti41 : TI Try.prog 41 rRule := TI.mk (k := 9) (by kernel_rfl) rfl
theorem Ti46 : TI Try.prog 46 rChange := TI.mk (k := 3) (by kernel_rfl) rfl
theorem Ti49 : TI Try.prog 49 (.slice .str) := TI.mk (k := 1) (by kernel_rfl) rfl
theorem Ti51 : TI Try.prog 51 rEnum := TI.mk (k := 2) (by kernel_rfl) rfl
theorem Ti53 : TI Try.prog 53 rType := TI.mk (k := 2) (by kernel_rfl) rfl
theorem Ti54 : TI Try.prog 54 (.slice rRow) := TI.mk (k := 1) (by kernel_rfl) rfl
theorem Ti56 : TI Try.prog 56 rTable := TI.mk (k := 6) (by kernel_rfl) rfl
theorem Ti60 : TI Try.prog 60 rType := TI.mk (k := 2) (by kernel_rfl) rfl
theorem Ti75 : TI Try.prog 75 rInt := TI.mk (k := 1) (by kernel_rfl) rfl
theorem Ti77 : TI Try.prog 77 rLawError := TI.mk (k := 4) (by kernel_rfl) rfl
theorem Ti82 : TI Try.prog 82 rField := TI.mk (k := 3) (by kernel_rfl) rfl
theorem Ti83 : TI Try.prog 83 (.map .str false rInt) := TI.mk (k := 1) (by kernel_rfl) rfl
theorem Ti85 : TI Try.prog 85 rlawdiff_scopeIndex := TI.mk (k := 6) (by kernel_rfl) rfl
theorem Ti89 : TI Try.prog 89 rlawdiff_properties := TI.mk (k := 6) (by kernel_rfl) rfl
theorem Ti95 : TI Try.prog 95 rRow := TI.mk (k := 5) (by kernel_rfl) rfl
theorem Ti111 : TI Try.prog 111 (.slice rType) := TI.mk (k := 1) (by kernel_rfl) rfl
theorem Ti113 : TI Try.prog 113 rSignature := TI.mk (k := 6) (by kernel_rfl) rfl
theorem Eq9 : EqOK Try.prog 9 .str 1 := eqT_str Try.underlying9
theorem Eq3 : EqOK Try.prog 3 rInt 1 := eqT_int Try.underlying3
theorem Eq46 : EqOK Try.prog 46 rChange 2 := eqT_struct Try.underlying46 (by kernel_rfl) (eqF_cons rfl rfl Try.underlying9 (by simp [aggD]) Ti9 Eq9 (eqF_cons rfl rfl Try.underlying9 (by simp [aggD]) Ti9 Eq9 (eqF_last rfl rfl Try.underlying3 (by simp [aggD]) Ti3 Eq3)))
theorem Eq60 : EqOK Try.prog 60 rType 2 := eqT_struct Try.underlying60 (by kernel_rfl) (eqF_cons rfl rfl Try.underlying3 (by simp [aggD]) Ti3 Eq3 (eqF_last rfl rfl Try.underlying3 (by simp [aggD]) Ti3 Eq3))
theorem Eq38 : EqOK Try.prog 38 rType 2 := eqT_struct Try.underlying38 (by kernel_rfl) (eqF_cons rfl rfl Try.underlying3 (by simp [aggD]) Ti3 Eq3 (eqF_last rfl rfl Try.underlying3 (by simp [aggD]) Ti3 Eq3))
theorem Eq9_2 : EqOK Try.prog 9 .str 2 := Eq9.lift 1
theorem Eq3_2 : EqOK Try.prog 3 rInt 2 := Eq3.lift 1
theorem Eq89 : EqOK Try.prog 89 rlawdiff_properties 3 := eqT_struct Try.underlying89 (by kernel_rfl) (eqF_cons rfl rfl Try.underlying9 (by simp [aggD]) Ti9 Eq9_2 (eqF_cons rfl rfl Try.underlying9 (by simp [aggD]) Ti9 Eq9_2 (eqF_cons rfl rfl Try.underlying3 (by simp [aggD]) Ti3 Eq3_2 (eqF_cons rfl rfl Try.underlying38 (by intro h; cases h) Ti38 Eq38 (eqF_last rfl rfl Try.underlying9 (by simp [aggD]) Ti9 Eq9_2)))))
theorem Eq95 : EqOK Try.prog 95 rRow 3 := eqT_struct Try.underlying95 (by kernel_rfl) (eqF_cons rfl rfl Try.underlying38 (by intro h; cases h) Ti38 Eq38 (eqF_cons rfl rfl Try.underlying3 (by simp [aggD]) Ti3 Eq3_2 (eqF_cons rfl rfl Try.underlying3 (by simp [aggD]) Ti3 Eq3_2 (eqF_last rfl rfl Try.underlying3 (by simp [aggD]) Ti3 Eq3_2))))
theorem Eq53 : EqOK Try.prog 53 rType 2 := eqT_struct Try.underlying53 (by kernel_rfl) (eqF_cons rfl rfl Try.underlying3 (by simp [aggD]) Ti3 Eq3 (eqF_last rfl rfl Try.underlying3 (by simp [aggD]) Ti3 Eq3))
theorem Eq82 : EqOK Try.prog 82 rField 3 := eqT_struct Try.underlying82 (by kernel_rfl) (eqF_cons rfl rfl Try.underlying9 (by simp [aggD]) Ti9 Eq9_2 (eqF_last rfl rfl Try.underlying53 (by intro h; cases h) Ti53 Eq53))
theorem tu : ∀ p ∈ ([(3, .int .i64), (4, .bool), (5, .int .u8), (9, .str), (22, .slice 51), (23, .slice 56), (24, .slice 36), (26, .struct [(22, 0), (23, 1), (24, 2)]), (30, .slice 46), (33, .slice 82), (34, .slice 41), (36, .struct [(9, 0), (3, 1), (33, 2), (33, 3), (34, 4)]), (38, .struct [(3, 0), (3, 1)]), (39, .slice 60), (41, .struct [(9, 0), (3, 1), (3, 2), (3, 3), (38, 4), (39, 6), (39, 7), (9, 8)]), (46, .struct [(9, 0), (9, 1), (3, 2)]), (49, .slice 9), (51, .struct [(9, 0), (49, 1)]), (53, .struct [(3, 0), (3, 1)]), (54, .slice 95), (56, .struct [(9, 0), (53, 1), (53, 3), (54, 5)]), (60, .struct [(3, 0), (3, 1)]), (62, .map 9 85), (67, .other), (69, .other), (71, .other), (75, .int .i64), (77, .struct [(75, 0), (3, 1), (3, 2), (3, 3)]), (82, .struct [(9, 0), (53, 1)]), (83, .map 9 3), (85, .struct [(36, 0), (83, 5)]), (89, .struct [(9, 0), (9, 1), (3, 2), (38, 3), (9, 5)]), (95, .struct [(38, 0), (3, 2), (3, 3), (3, 4)]), (102, .slice 3), (111, .slice 53), (113, .struct [(22, 0), (23, 1), (111, 2), (111, 3), (111, 4), (4, 5)])] : List (Nat × TyK)), TyKOK Try.prog p.1 p.2 := by
  simp only [List.forall_mem_cons]
  exact ⟨Try.underlying3, Try.underlying4, Try.underlying5, Try.underlying9, Try.underlying22, Try.underlying23, Try.underlying24, ⟨_, Try.underlying26, rfl⟩, Try.underlying30, Try.underlying33, Try.underlying34, ⟨_, Try.underlying36, rfl⟩, ⟨_, Try.underlying38, rfl⟩, Try.underlying39, ⟨_, Try.underlying41, rfl⟩, ⟨_, Try.underlying46, rfl⟩, Try.underlying49, ⟨_, Try.underlying51, rfl⟩, ⟨_, Try.underlying53, rfl⟩, Try.underlying54, ⟨_, Try.underlying56, rfl⟩, ⟨_, Try.underlying60, rfl⟩, Try.underlying62, ⟨_, Try.underlying67, rfl⟩, ⟨_, Try.underlying69, rfl⟩, ⟨_, Try.underlying71, rfl⟩, Try.underlying75, ⟨_, Try.underlying77, rfl⟩, ⟨_, Try.underlying82, rfl⟩, Try.underlying83, ⟨_, Try.underlying85, rfl⟩, ⟨_, Try.underlying89, rfl⟩, ⟨_, Try.underlying95, rfl⟩, Try.underlying102, Try.underlying111, ⟨_, Try.underlying113, rfl⟩,  fun _ h => absurd h (by simp)⟩
theorem tr : ∀ p ∈ ([(3, rInt), (4, .bool), (9, .str), (22, (.slice rEnum)), (23, (.slice rTable)), (24, (.slice rScope)), (26, rLaw), (33, (.slice rField)), (34, (.slice rRule)), (36, rScope), (38, rType), (39, (.slice rType)), (41, rRule), (46, rChange), (49, (.slice .str)), (51, rEnum), (53, rType), (54, (.slice rRow)), (56, rTable), (60, rType), (75, rInt), (77, rLawError), (82, rField), (83, (.map .str false rInt)), (85, rlawdiff_scopeIndex), (89, rlawdiff_properties), (95, rRow), (111, (.slice rType)), (113, rSignature)] : List (Nat × Row)), TI Try.prog p.1 p.2 := by
  simp only [List.forall_mem_cons]
  exact ⟨Ti3, Ti4, Ti9, Ti22, Ti23, Ti24, Ti26, Ti33, Ti34, Ti36, Ti38, Ti39, Ti41, Ti46, Ti49, Ti51, Ti53, Ti54, Ti56, Ti60, Ti75, Ti77, Ti82, Ti83, Ti85, Ti89, Ti95, Ti111, Ti113,  fun _ h => absurd h (by simp)⟩
theorem te : ∀ p ∈ ([(38, rType), (46, rChange), (53, rType), (60, rType), (82, rField), (89, rlawdiff_properties), (95, rRow)] : List (Nat × Row)), ∃ K d, EqOK Try.prog p.1 p.2 K ∧ d + K = 10000 ∧ Try.prog.eqGuardType Try.prog.depth p.1 = false ∧ (Try.prog.underlying p.1).any aggD = true := by
  simp only [List.forall_mem_cons]
  exact ⟨⟨2, 9998, Eq38, rfl, by kernel_rfl, by kernel_rfl⟩, ⟨2, 9998, Eq46, rfl, by kernel_rfl, by kernel_rfl⟩, ⟨2, 9998, Eq53, rfl, by kernel_rfl, by kernel_rfl⟩, ⟨2, 9998, Eq60, rfl, by kernel_rfl, by kernel_rfl⟩, ⟨3, 9997, Eq82, rfl, by kernel_rfl, by kernel_rfl⟩, ⟨3, 9997, Eq89, rfl, by kernel_rfl, by kernel_rfl⟩, ⟨3, 9997, Eq95, rfl, by kernel_rfl, by kernel_rfl⟩,  fun _ h => absurd h (by simp)⟩
theorem tz : ∀ p ∈ ([(3, (false, rInt)), (85, (true, rlawdiff_scopeIndex))] : List (Nat × (Bool × Row))), ZeroOK Try.prog p.1 p.2.1 p.2.2 := by
  simp only [List.forall_mem_cons]
  exact ⟨⟨_, by kernel_rfl, rfl⟩, ⟨_, by kernel_rfl, rfl⟩,  fun _ h => absurd h (by simp)⟩
def tabs : Tabs Try.prog := ⟨_, _, _, _, forall_find tu, forall_find tr, forall_find te, fun t a r h => forall_find (Q := fun t p => ZeroOK Try.prog t p.1 p.2) tz t (a, r) h⟩
theorem mixed : Try.prog.follows .mixedOrders = true := by kernel_rfl
noncomputable def M.same_smallScope (N : Nat) (a0 : rScope.den) : Option (Bool) :=
((if (decide ((80 : Int) < (a0.1.size : Int))) = true then
some true
else
(if (decide ((14 : Int) < (a0.2.2.1.length : Int))) = true then
some true
else
(if (decide ((14 : Int) < (a0.2.2.2.1.length : Int))) = true then
some true
else
some (decide ((60 : Int) < (a0.2.2.2.2.length : Int)))))) : Option (Bool)).bind fun j1 =>
(if j1 = true then
some false
else
Join (J := Unit) (R := Bool) (Loop (S := Int) (X := (Unit) ⊕ (Bool)) (fun s3 =>
(if (decide (s3 < (a0.2.2.1.length : Int))) = true then
(idx a0.2.2.1 s3).bind fun x4 =>
(if (decide ((80 : Int) < (x4.1.size : Int))) = true then
some (Sum.inr (Sum.inr false))
else
some (Sum.inl (IntKind.i64.wrap (s3 + (1 : Int)))))
else
some (Sum.inr (Sum.inl ())))) N (0 : Int)) fun j2 =>
Join (J := Unit) (R := Bool) (Loop (S := Int) (X := (Unit) ⊕ (Bool)) (fun s6 =>
(if (decide (s6 < (a0.2.2.2.1.length : Int))) = true then
(idx a0.2.2.2.1 s6).bind fun x7 =>
(if (decide ((80 : Int) < (x7.1.size : Int))) = true then
some (Sum.inr (Sum.inr false))
else
some (Sum.inl (IntKind.i64.wrap (s6 + (1 : Int)))))
else
some (Sum.inr (Sum.inl ())))) N (0 : Int)) fun j5 =>
Loop (S := Int) (X := Bool) (fun s8 =>
(if (decide (s8 < (a0.2.2.2.2.length : Int))) = true then
(idx a0.2.2.2.2 s8).bind fun x9 =>
((if (decide ((80 : Int) < (x9.1.size : Int))) = true then
some true
else
(if (decide ((80 : Int) < (x9.2.2.2.2.2.2.2.size : Int))) = true then
some true
else
(if (decide ((50 : Int) < (x9.2.2.2.2.2.1.length : Int))) = true then
some true
else
some (decide ((50 : Int) < (x9.2.2.2.2.2.2.1.length : Int)))))) : Option (Bool)).bind fun j10 =>
(if j10 = true then
some (Sum.inr false)
else
some (Sum.inl (IntKind.i64.wrap (s8 + (1 : Int)))))
else
some (Sum.inr true))) N (0 : Int))
noncomputable def S19 (N : Nat) : Sig := { inn := ⟨[(0, .val true (.leaf rScope))], [], [], 0⟩, out := ⟨[(0, .val false (.leaf .bool))], [], [], 0⟩, fn := fun (x : rScope.den) => M.same_smallScope N x }
theorem W19 (N : Nat) : FnOK Try.prog 19 (S19 N) := fn_ok (E := ⟨tabs, [], tabnil, mixed, false⟩) (N := N) (a := (.two .nil (.two (.meet ⟨[(28, .val false (.leaf .bool))], [], [], 32⟩ .nil .nil) (.join ⟨[], [], [], 32⟩ (.two .nil (.two (.loop ⟨[(3, .val false (.leaf rInt))], [], [], 48⟩ .nil) .nil)) (.join ⟨[], [], [], 32⟩ (.two .nil (.two (.loop ⟨[(4, .val false (.leaf rInt))], [], [], 48⟩ .nil) .nil)) (.two (.two .nil (.two (.loop ⟨[(5, .val false (.leaf rInt))], [], [], 48⟩ (.two .nil (.two (.two (.two .nil (.meet ⟨[(92, .val false (.leaf .bool))], [], [], 240⟩ .nil .nil)) .nil) .nil))) .nil)) .nil)))))) (sg := S19 N) (c := Try.f19.body.getD .skip) (rs := Try.f19.results.toList) Try.func19 (by kernel_rfl) (by kernel_rfl) rfl rfl rfl rfl (fun x => by kernel_rfl)
noncomputable def M.same_SmallLaw (N : Nat) (a0 : rLaw.den) : Option (Bool) :=
((if (decide ((9 : Int) < (a0.1.length : Int))) = true then
some true
else
(if (decide ((9 : Int) < (a0.2.1.length : Int))) = true then
some true
else
some (decide ((5 : Int) < (a0.2.2.length : Int))))) : Option (Bool)).bind fun j1 =>
(if j1 = true then
some false
else
Join (J := Unit) (R := Bool) (Loop (S := Int) (X := (Unit) ⊕ (Bool)) (fun s3 =>
(if (decide (s3 < (a0.1.length : Int))) = true then
Join (J := Unit) (R := (Int) ⊕ ((Unit) ⊕ (Bool))) (((idx a0.1 s3).bind fun x6 =>
(if (decide ((80 : Int) < (x6.1.size : Int))) = true then
some true
else
(idx a0.1 s3).bind fun x7 =>
some (decide ((20 : Int) < (x7.2.length : Int)))) : Option (Bool)).bind fun j5 =>
(if j5 = true then
some (Sum.inr (Sum.inr (Sum.inr false)))
else
Loop (S := Int) (X := (Unit) ⊕ ((Int) ⊕ ((Unit) ⊕ (Bool)))) (fun s8 =>
(idx a0.1 s3).bind fun x9 =>
(if (decide (s8 < (x9.2.length : Int))) = true then
(idx a0.1 s3).bind fun x10 =>
(idx x10.2 s8).bind fun x11 =>
(if (decide ((80 : Int) < (x11.size : Int))) = true then
some (Sum.inr (Sum.inr (Sum.inr (Sum.inr false))))
else
some (Sum.inl (IntKind.i64.wrap (s8 + (1 : Int)))))
else
some (Sum.inr (Sum.inl ())))) N (0 : Int))) fun j4 =>
some (Sum.inl (IntKind.i64.wrap (s3 + (1 : Int))))
else
some (Sum.inr (Sum.inl ())))) N (0 : Int)) fun j2 =>
Join (J := Unit) (R := Bool) (Loop (S := Int × Int) (X := (Unit) ⊕ (Bool)) (fun s13 =>
(if (decide (s13.2 < (a0.2.1.length : Int))) = true then
(idx a0.2.1 s13.2).bind fun x14 =>
((idx a0.2.1 s13.2).bind fun x16 =>
(if (decide ((80 : Int) < (x16.1.size : Int))) = true then
some true
else
some (decide ((150 : Int) < (IntKind.i64.wrap (s13.1 + (x14.2.2.2.length : Int)))))) : Option (Bool)).bind fun j15 =>
(if j15 = true then
some (Sum.inr (Sum.inr false))
else
some (Sum.inl (IntKind.i64.wrap (s13.1 + (x14.2.2.2.length : Int)), IntKind.i64.wrap (s13.2 + (1 : Int)))))
else
some (Sum.inr (Sum.inl ())))) N ((0 : Int), (0 : Int))) fun j12 =>
Loop (S := Int × Int) (X := Bool) (fun s17 =>
(if (decide (s17.2 < (a0.2.2.length : Int))) = true then
(idx a0.2.2 s17.2).bind fun x18 =>
((if (decide ((60 : Int) < (IntKind.i64.wrap (s17.1 + (x18.2.2.2.2.length : Int))))) = true then
some true
else
(idx a0.2.2 s17.2).bind fun x20 =>
(M.same_smallScope N x20).bind fun y21 =>
some (!y21)) : Option (Bool)).bind fun j19 =>
(if j19 = true then
some (Sum.inr false)
else
some (Sum.inl (IntKind.i64.wrap (s17.1 + (x18.2.2.2.2.length : Int)), IntKind.i64.wrap (s17.2 + (1 : Int)))))
else
some (Sum.inr true))) N ((0 : Int), (0 : Int)))
noncomputable def S8 (N : Nat) : Sig := { inn := ⟨[(0, .val true (.leaf rLaw))], [], [], 0⟩, out := ⟨[(0, .val false (.leaf .bool))], [], [], 0⟩, fn := fun (x : rLaw.den) => M.same_SmallLaw N x }
theorem W8 (N : Nat) : FnOK Try.prog 8 (S8 N) := fn_ok (E := ⟨tabs, [(19, S19 N)], (tabcons (W19 N) tabnil), mixed, false⟩) (N := N) (a := (.two .nil (.two (.meet ⟨[(24, .val false (.leaf .bool))], [], [], 32⟩ .nil .nil) (.two .nil (.two .nil (.join ⟨[], [], [], 64⟩ (.two .nil (.two (.loop ⟨[(5, .val false (.leaf rInt))], [], [], 80⟩ (.two .nil (.join ⟨[], [], [], 160⟩ (.two (.two (.meet ⟨[(49, .val false (.leaf .bool))], [], [], 160⟩ .nil .nil) (.two .nil (.two (.loop ⟨[(6, .val false (.leaf rInt))], [], [], 176⟩ .nil) .nil))) .nil) .nil))) .nil)) (.join ⟨[], [], [], 64⟩ (.two .nil (.two (.loop ⟨[(3, .val false (.leaf rInt)), (7, .val false (.leaf rInt))], [], [], 80⟩ (.two .nil (.two (.two (.two .nil (.meet ⟨[(99, .val false (.leaf .bool))], [], [], 320⟩ .nil .nil)) .nil) .nil))) .nil)) (.two (.two .nil (.two (.loop ⟨[(4, .val false (.leaf rInt)), (8, .val false (.leaf rInt))], [], [], 80⟩ (.two .nil (.two (.two (.two .nil (.meet ⟨[(126, .val false (.leaf .bool))], [], [], 320⟩ .nil .nil)) .nil) .nil))) .nil)) .nil)))))))) (sg := S8 N) (c := Try.f8.body.getD .skip) (rs := Try.f8.results.toList) Try.func8 (by kernel_rfl) (by kernel_rfl) rfl rfl rfl rfl (fun x => by kernel_rfl)
noncomputable def M.same_Changes (N : Nat) (a0 : List rChange.den) (a1 : List rChange.den) : Option (Bool) :=
(if (!decide ((a0.length : Int) = (a1.length : Int))) = true then
some false
else
Loop (S := Int) (X := Bool) (fun s1 =>
((if (decide (s1 < (a0.length : Int))) = true then
some (decide (s1 < (a1.length : Int)))
else
some false) : Option (Bool)).bind fun j2 =>
(if j2 = true then
(idx a0 s1).bind fun x3 =>
(idx a1 s1).bind fun x4 =>
(if (!(eqR rChange x3 x4)) = true then
some (Sum.inr false)
else
some (Sum.inl (IntKind.i64.wrap (s1 + (1 : Int)))))
else
some (Sum.inr true))) N (0 : Int))
noncomputable def S10 (N : Nat) : Sig := { inn := ⟨[(0, .val false (.leaf (.slice rChange))), (1, .val false (.leaf (.slice rChange)))], [], [], 0⟩, out := ⟨[(0, .val false (.leaf .bool))], [], [], 0⟩, fn := fun (x : (List rChange.den) × List rChange.den) => M.same_Changes N x.1 x.2 }
theorem W10 (N : Nat) : FnOK Try.prog 10 (S10 N) := fn_ok (E := ⟨tabs, [], tabnil, mixed, false⟩) (N := N) (a := (.two .nil (.two .nil (.two (.two .nil (.two (.loop ⟨[(5, .val false (.leaf rInt))], [], [], 112⟩ (.two (.meet ⟨[(20, .val false (.leaf .bool))], [], [], 112⟩ .nil .nil) .nil)) .nil)) .nil)))) (sg := S10 N) (c := Try.f10.body.getD .skip) (rs := Try.f10.results.toList) Try.func10 (by kernel_rfl) (by kernel_rfl) rfl rfl rfl rfl (fun x => by kernel_rfl)
noncomputable def M.lawdiff_newIndex (N : Nat) (a0 : rLaw.den) : Option (List (ByteArray × rlawdiff_scopeIndex.den)) :=
Loop (S := Int × List (ByteArray × rlawdiff_scopeIndex.den)) (X := List (ByteArray × rlawdiff_scopeIndex.den)) (fun s1 =>
(if (decide (s1.1 < (a0.2.2.length : Int))) = true then
(((idx a0.2.2 s1.1).bind fun x4 =>
(if ((lookA .str s1.2 x4.1).isSome) = true then
some s1.2
else
(Loop (S := Int × List (ByteArray × Int)) (X := List (ByteArray × Int)) (fun s6 =>
(if (decide (s6.1 < (x4.2.2.2.2.length : Int))) = true then
((idx x4.2.2.2.2 s6.1).bind fun x8 =>
(if (!((lookA .str s6.2 x8.1).isSome)) = true then
some (putA .str s6.2 x8.1 s6.1)
else
some s6.2) : Option (List (ByteArray × Int))).bind fun j7 =>
some (Sum.inl (IntKind.i64.wrap (s6.1 + (1 : Int)), j7))
else
some (Sum.inr s6.2))) N ((0 : Int), ([] : List (ByteArray × Int))) : Option (List (ByteArray × Int))).bind fun j5 =>
some (putA .str s1.2 x4.1 (x4, j5))) : Option (List (ByteArray × rlawdiff_scopeIndex.den))).bind fun j3 =>
some j3 : Option (List (ByteArray × rlawdiff_scopeIndex.den))).bind fun j2 =>
some (Sum.inl (IntKind.i64.wrap (s1.1 + (1 : Int)), j2))
else
some (Sum.inr s1.2))) N ((0 : Int), ([] : List (ByteArray × rlawdiff_scopeIndex.den)))
noncomputable def S21 (N : Nat) : Sig := { inn := ⟨[(0, .val true (.leaf rLaw))], [], [], 0⟩, out := ⟨[(0, .val false (.own 0))], [(0, .map 62 .str true rlawdiff_scopeIndex)], [], 1⟩, fn := fun (x : rLaw.den) => M.lawdiff_newIndex N x }
theorem W21 (N : Nat) : FnOK Try.prog 21 (S21 N) := fn_ok (E := ⟨tabs, [], tabnil, mixed, false⟩) (N := N) (a := (.two .nil (.two .nil (.two (.two .nil (.two (.loop ⟨[(17, .val false (.leaf rInt))], [(32, .map 62 .str true rlawdiff_scopeIndex)], [], 129⟩ (.two .nil (.two .nil (.meet ⟨[], [(32, .map 62 .str true rlawdiff_scopeIndex)], [], 146⟩ (.meet ⟨[], [(32, .map 62 .str true rlawdiff_scopeIndex)], [], 146⟩ (.two .nil (.two .nil (.two .nil (.meet ⟨[], [(385, .map 83 .str false rInt)], [], 418⟩ (.two .nil (.two (.loop ⟨[(33, .val false (.leaf rInt))], [(385, .map 83 .str false rInt)], [], 482⟩ (.two .nil (.two .nil (.two (.meet ⟨[], [(385, .map 83 .str false rInt)], [], 499⟩ .nil .nil) .nil)))) .nil)) .nil)))) .nil) .nil)))) .nil)) .nil)))) (sg := S21 N) (c := Try.f21.body.getD .skip) (rs := Try.f21.results.toList) Try.func21 (by kernel_rfl) (by kernel_rfl) rfl rfl rfl rfl (fun x => by kernel_rfl)
noncomputable def M.lawdiff_index_counterpart (N : Nat) (a0 : List (ByteArray × rlawdiff_scopeIndex.den)) (a1 : ByteArray) (a2 : ByteArray) : Option (ByteArray × Int × (List rField.den) × (List rField.den) × (List rRule.den) × Int × Bool) :=
(if (!((lookA .str a0 a1).isSome)) = true then
some (ByteArray.empty, (0 : Int), ([] : List rField.den), ([] : List rField.den), ([] : List rRule.den), (0 : Int), false)
else
(if (!((lookA .str (((lookA .str a0 a1).getD ((ByteArray.empty, ((0 : Int), (([] : List rField.den), (([] : List rField.den), ([] : List rRule.den))))), ([] : List (ByteArray × Int)))).2) a2).isSome)) = true then
some (ByteArray.empty, (0 : Int), ([] : List rField.den), ([] : List rField.den), ([] : List rRule.den), (0 : Int), false)
else
some ((((lookA .str a0 a1).getD ((ByteArray.empty, ((0 : Int), (([] : List rField.den), (([] : List rField.den), ([] : List rRule.den))))), ([] : List (ByteArray × Int)))).1).1, ((((lookA .str a0 a1).getD ((ByteArray.empty, ((0 : Int), (([] : List rField.den), (([] : List rField.den), ([] : List rRule.den))))), ([] : List (ByteArray × Int)))).1).2).1, (((((lookA .str a0 a1).getD ((ByteArray.empty, ((0 : Int), (([] : List rField.den), (([] : List rField.den), ([] : List rRule.den))))), ([] : List (ByteArray × Int)))).1).2).2).1, ((((((lookA .str a0 a1).getD ((ByteArray.empty, ((0 : Int), (([] : List rField.den), (([] : List rField.den), ([] : List rRule.den))))), ([] : List (ByteArray × Int)))).1).2).2).2).1, ((((((lookA .str a0 a1).getD ((ByteArray.empty, ((0 : Int), (([] : List rField.den), (([] : List rField.den), ([] : List rRule.den))))), ([] : List (ByteArray × Int)))).1).2).2).2).2, (lookA .str (((lookA .str a0 a1).getD ((ByteArray.empty, ((0 : Int), (([] : List rField.den), (([] : List rField.den), ([] : List rRule.den))))), ([] : List (ByteArray × Int)))).2) a2).getD (0 : Int), true)))
noncomputable def S22 (N : Nat) : Sig := { inn := ⟨[(0, .val false (.leaf (.map .str true rlawdiff_scopeIndex))), (1, .val false (.leaf .str)), (2, .val false (.leaf .str))], [], [], 0⟩, out := ⟨[(0, .val true (.pair (.leaf .str) (.pair (.leaf rInt) (.pair (.leaf (.slice rField)) (.pair (.leaf (.slice rField)) (.leaf (.slice rRule))))))), (1, .val false (.leaf rInt)), (2, .val false (.leaf .bool))], [], [], 0⟩, fn := fun (x : (List (ByteArray × rlawdiff_scopeIndex.den)) × ByteArray × ByteArray) => M.lawdiff_index_counterpart N x.1 x.2.1 x.2.2 }
theorem W22 (N : Nat) : FnOK Try.prog 22 (S22 N) := fn_ok (E := ⟨tabs, [], tabnil, mixed, false⟩) (N := N) (a := .nil) (sg := S22 N) (c := Try.f22.body.getD .skip) (rs := Try.f22.results.toList) Try.func22 (by kernel_rfl) (by kernel_rfl) rfl rfl rfl rfl (fun x => by kernel_rfl)
noncomputable def M.lawdiff_propertiesOf (N : Nat) (a0 : rScope.den) (a1 : rRule.den) : Option (rlawdiff_properties.den) :=
(((if (decide ((0 : Int) ≤ a1.2.1)) = true then
some (decide (a1.2.1 < (a0.2.2.2.1.length : Int)))
else
some false) : Option (Bool)).bind fun j2 =>
(if j2 = true then
(idx a0.2.2.2.1 a1.2.1).bind fun x3 =>
some (x3.1, (ByteArray.empty, (a1.2.2.2.1, (a1.2.2.2.2.1, a1.2.2.2.2.2.2.2))))
else
some (ByteArray.empty, (ByteArray.empty, (a1.2.2.2.1, (a1.2.2.2.2.1, a1.2.2.2.2.2.2.2))))) : Option (rlawdiff_properties.den)).bind fun j1 =>
(((if (decide ((0 : Int) ≤ a1.2.2.1)) = true then
some (decide (a1.2.2.1 < (a0.2.2.2.2.length : Int)))
else
some false) : Option (Bool)).bind fun j5 =>
(if j5 = true then
(idx a0.2.2.2.2 a1.2.2.1).bind fun x6 =>
some (j1.1, (x6.1, j1.2.2))
else
some j1) : Option (rlawdiff_properties.den)).bind fun j4 =>
some j4
noncomputable def S37 (N : Nat) : Sig := { inn := ⟨[(0, .val true (.leaf rScope)), (1, .val true (.leaf rRule))], [], [], 0⟩, out := ⟨[(0, .val true (.leaf rlawdiff_properties))], [], [], 0⟩, fn := fun (x : rScope.den × rRule.den) => M.lawdiff_propertiesOf N x.1 x.2 }
theorem W37 (N : Nat) : FnOK Try.prog 37 (S37 N) := fn_ok (E := ⟨tabs, [], tabnil, mixed, false⟩) (N := N) (a := (.two .nil (.two .nil (.meet ⟨[], [(160, .box 89 (.leaf rlawdiff_properties))], [], 193⟩ (.meet ⟨[(23, .val false (.leaf .bool))], [], [], 192⟩ .nil .nil) (.meet ⟨[], [(160, .box 89 (.leaf rlawdiff_properties))], [], 194⟩ (.meet ⟨[(42, .val false (.leaf .bool))], [], [], 193⟩ .nil .nil) .nil))))) (sg := S37 N) (c := Try.f37.body.getD .skip) (rs := Try.f37.results.toList) Try.func37 (by kernel_rfl) (by kernel_rfl) rfl rfl rfl rfl (fun x => by kernel_rfl)
noncomputable def M.slices_Equal_guerdon_api_Node_guerdon_api_Node (N : Nat) (a0 : List rType.den) (a1 : List rType.den) : Option (Bool) :=
(if (!decide ((a0.length : Int) = (a1.length : Int))) = true then
some false
else
Loop (S := Int) (X := Bool) (fun s1 =>
(if (decide (s1 < (a0.length : Int))) = true then
(idx a0 s1).bind fun x2 =>
(idx a1 s1).bind fun x3 =>
(if (!(eqR rType x2 x3)) = true then
some (Sum.inr false)
else
some (Sum.inl (IntKind.i64.wrap (s1 + (1 : Int)))))
else
some (Sum.inr true))) N (0 : Int))
noncomputable def S38 (N : Nat) : Sig := { inn := ⟨[(0, .val false (.leaf (.slice rType))), (1, .val false (.leaf (.slice rType)))], [], [], 0⟩, out := ⟨[(0, .val false (.leaf .bool))], [], [], 0⟩, fn := fun (x : (List rType.den) × List rType.den) => M.slices_Equal_guerdon_api_Node_guerdon_api_Node N x.1 x.2 }
theorem W38 (N : Nat) : FnOK Try.prog 38 (S38 N) := fn_ok (E := ⟨tabs, [], tabnil, mixed, false⟩) (N := N) (a := (.two .nil (.two .nil (.two (.two .nil (.two (.loop ⟨[(13, .val false (.leaf rInt))], [], [], 144⟩ .nil) .nil)) .nil)))) (sg := S38 N) (c := Try.f38.body.getD .skip) (rs := Try.f38.results.toList) Try.func38 (by kernel_rfl) (by kernel_rfl) rfl rfl rfl rfl (fun x => by kernel_rfl)
noncomputable def M.lawdiff_sameRule (N : Nat) (a0 : rScope.den) (a1 : Int) (a2 : rScope.den) (a3 : Int) : Option (Bool) :=
(idx a0.2.2.2.2 a1).bind fun x1 =>
(idx a2.2.2.2.2 a3).bind fun x2 =>
((M.lawdiff_propertiesOf N a0 x1).bind fun y4 =>
(M.lawdiff_propertiesOf N a2 x2).bind fun y5 =>
(if (eqR rlawdiff_properties y4 y5) = true then
(M.slices_Equal_guerdon_api_Node_guerdon_api_Node N x1.2.2.2.2.2.1 x2.2.2.2.2.2.1).bind fun y6 =>
(if y6 = true then
(M.slices_Equal_guerdon_api_Node_guerdon_api_Node N x1.2.2.2.2.2.2.1 x2.2.2.2.2.2.2.1).bind fun y7 =>
some y7
else
some false)
else
some false) : Option (Bool)).bind fun j3 =>
some j3
noncomputable def S23 (N : Nat) : Sig := { inn := ⟨[(0, .val true (.leaf rScope)), (1, .val false (.leaf rInt)), (2, .val true (.leaf rScope)), (3, .val false (.leaf rInt))], [], [], 0⟩, out := ⟨[(0, .val false (.leaf .bool))], [], [], 0⟩, fn := fun (x : rScope.den × Int × rScope.den × Int) => M.lawdiff_sameRule N x.1 x.2.1 x.2.2.1 x.2.2.2 }
theorem W23 (N : Nat) : FnOK Try.prog 23 (S23 N) := fn_ok (E := ⟨tabs, [(37, S37 N), (38, S38 N)], (tabcons (W37 N) (tabcons (W38 N) tabnil)), mixed, false⟩) (N := N) (a := (.two .nil (.two .nil (.meet ⟨[(8, .val false (.leaf .bool))], [], [], 272⟩ .nil .nil)))) (sg := S23 N) (c := Try.f23.body.getD .skip) (rs := Try.f23.results.toList) Try.func23 (by kernel_rfl) (by kernel_rfl) rfl rfl rfl rfl (fun x => by kernel_rfl)
noncomputable def M.lawdiff_ChangedRules (N : Nat) (a0 : rLaw.den) (a1 : rLaw.den) : Option (List rChange.den) :=
(M.lawdiff_newIndex N a0).bind fun y1 =>
(M.lawdiff_newIndex N a1).bind fun y2 =>
(Loop (S := (List (ByteArray × rlawdiff_scopeIndex.den)) × Int × List rChange.den) (X := List rChange.den) (fun s4 =>
(if (decide (s4.2.1 < (a0.2.2.length : Int))) = true then
((idx a0.2.2 s4.2.1).bind fun x6 =>
Loop (S := Int × List rChange.den) (X := List rChange.den) (fun s7 =>
(if (decide (s7.1 < (x6.2.2.2.2.length : Int))) = true then
((idx x6.2.2.2.2 s7.1).bind fun x9 =>
(M.lawdiff_index_counterpart N s4.1 x6.1 x9.1).bind fun y10 =>
(if (!y10.2.2.2.2.2.2) = true then
(appA s7.2 ([(x6.1, (x9.1, (1 : Int)))] : List rChange.den)).bind fun l11 =>
some l11
else
(M.lawdiff_sameRule N x6 s7.1 (y10.1, (y10.2.1, (y10.2.2.1, (y10.2.2.2.1, y10.2.2.2.2.1)))) y10.2.2.2.2.2.1).bind fun y12 =>
(if (!y12) = true then
(appA s7.2 ([(x6.1, (x9.1, (3 : Int)))] : List rChange.den)).bind fun l13 =>
some l13
else
some s7.2)) : Option (List rChange.den)).bind fun j8 =>
some (Sum.inl (IntKind.i64.wrap (s7.1 + (1 : Int)), j8))
else
some (Sum.inr s7.2))) N ((0 : Int), s4.2.2) : Option (List rChange.den)).bind fun j5 =>
some (Sum.inl (s4.1, IntKind.i64.wrap (s4.2.1 + (1 : Int)), j5))
else
some (Sum.inr s4.2.2))) N (y2, (0 : Int), ([] : List rChange.den)) : Option (List rChange.den)).bind fun j3 =>
Loop (S := (List (ByteArray × rlawdiff_scopeIndex.den)) × Int × List rChange.den) (X := List rChange.den) (fun s14 =>
(if (decide (s14.2.1 < (a1.2.2.length : Int))) = true then
((idx a1.2.2 s14.2.1).bind fun x16 =>
Loop (S := Int × List rChange.den) (X := List rChange.den) (fun s17 =>
(if (decide (s17.1 < (x16.2.2.2.2.length : Int))) = true then
((idx x16.2.2.2.2 s17.1).bind fun x19 =>
(M.lawdiff_index_counterpart N s14.1 x16.1 x19.1).bind fun y20 =>
(if (!y20.2.2.2.2.2.2) = true then
(appA s17.2 ([(x16.1, (x19.1, (2 : Int)))] : List rChange.den)).bind fun l21 =>
some l21
else
some s17.2) : Option (List rChange.den)).bind fun j18 =>
some (Sum.inl (IntKind.i64.wrap (s17.1 + (1 : Int)), j18))
else
some (Sum.inr s17.2))) N ((0 : Int), s14.2.2) : Option (List rChange.den)).bind fun j15 =>
some (Sum.inl (s14.1, IntKind.i64.wrap (s14.2.1 + (1 : Int)), j15))
else
some (Sum.inr s14.2.2))) N (y1, (0 : Int), j3)
noncomputable def S11 (N : Nat) : Sig := { inn := ⟨[(0, .val true (.leaf rLaw)), (1, .val true (.leaf rLaw))], [], [], 0⟩, out := ⟨[(0, .val false (.own 0))], [(0, .own 46 rChange)], [], 1⟩, fn := fun (x : rLaw.den × rLaw.den) => M.lawdiff_ChangedRules N x.1 x.2 }
theorem W11 (N : Nat) : FnOK Try.prog 11 (S11 N) := fn_ok (E := ⟨tabs, [(21, S21 N), (22, S22 N), (23, S23 N)], (tabcons (W21 N) (tabcons (W22 N) (tabcons (W23 N) tabnil))), mixed, false⟩) (N := N) (a := (.two .nil (.two .nil (.two .nil (.meet ⟨[(7, .val false (.own 160))], [(160, .own 46 rChange)], [96], 161⟩ (.two .nil (.two (.loop ⟨[(6, .val false (.leaf (.map .str true rlawdiff_scopeIndex))), (7, .val false (.own 224)), (29, .val false (.leaf rInt))], [(224, .own 46 rChange)], [96], 225⟩ (.two .nil (.two .nil (.meet ⟨[(7, .val false (.own 241))], [(241, .own 46 rChange)], [224], 242⟩ (.two (.two .nil (.two .nil (.two (.loop ⟨[(7, .val false (.own 369)), (36, .val false (.leaf rInt))], [(369, .own 46 rChange)], [224], 370⟩ (.two .nil (.two .nil (.two (.meet ⟨[(7, .val false (.own 386))], [(386, .own 46 rChange)], [369], 387⟩ .nil .nil) .nil)))) .nil))) .nil) .nil)))) .nil)) (.two (.two .nil (.two (.loop ⟨[(5, .val false (.leaf (.map .str true rlawdiff_scopeIndex))), (7, .val false (.own 225)), (80, .val false (.leaf rInt))], [(225, .own 46 rChange)], [64, 160], 226⟩ (.two .nil (.two .nil (.meet ⟨[(7, .val false (.own 242))], [(242, .own 46 rChange)], [225], 243⟩ (.two (.two .nil (.two .nil (.two (.loop ⟨[(7, .val false (.own 370)), (87, .val false (.leaf rInt))], [(370, .own 46 rChange)], [225], 371⟩ (.two .nil (.two .nil (.two (.meet ⟨[(7, .val false (.own 387))], [(387, .own 46 rChange)], [370], 388⟩ .nil .nil) .nil)))) .nil))) .nil) .nil)))) .nil)) .nil)))))) (sg := S11 N) (c := Try.f11.body.getD .skip) (rs := Try.f11.results.toList) Try.func11 (by kernel_rfl) (by kernel_rfl) rfl rfl rfl rfl (fun x => by kernel_rfl)
noncomputable def M.slices_Equal_string_string (N : Nat) (a0 : List ByteArray) (a1 : List ByteArray) : Option (Bool) :=
(if (!decide ((a0.length : Int) = (a1.length : Int))) = true then
some false
else
Loop (S := Int) (X := Bool) (fun s1 =>
(if (decide (s1 < (a0.length : Int))) = true then
(idx a0 s1).bind fun x2 =>
(idx a1 s1).bind fun x3 =>
(if (!decide (x2 = x3)) = true then
some (Sum.inr false)
else
some (Sum.inl (IntKind.i64.wrap (s1 + (1 : Int)))))
else
some (Sum.inr true))) N (0 : Int))
noncomputable def S41 (N : Nat) : Sig := { inn := ⟨[(0, .val false (.leaf (.slice .str))), (1, .val false (.leaf (.slice .str)))], [], [], 0⟩, out := ⟨[(0, .val false (.leaf .bool))], [], [], 0⟩, fn := fun (x : (List ByteArray) × List ByteArray) => M.slices_Equal_string_string N x.1 x.2 }
theorem W41 (N : Nat) : FnOK Try.prog 41 (S41 N) := fn_ok (E := ⟨tabs, [], tabnil, mixed, false⟩) (N := N) (a := (.two .nil (.two .nil (.two (.two .nil (.two (.loop ⟨[(13, .val false (.leaf rInt))], [], [], 144⟩ .nil) .nil)) .nil)))) (sg := S41 N) (c := Try.f41.body.getD .skip) (rs := Try.f41.results.toList) Try.func41 (by kernel_rfl) (by kernel_rfl) rfl rfl rfl rfl (fun x => by kernel_rfl)
noncomputable def M.lawdiff_sameEnum (N : Nat) (a0 : rEnum.den) (a1 : rEnum.den) : Option (Bool) :=
((if (decide (a0.1 = a1.1)) = true then
(M.slices_Equal_string_string N a0.2 a1.2).bind fun y2 =>
some y2
else
some false) : Option (Bool)).bind fun j1 =>
some j1
noncomputable def S26 (N : Nat) : Sig := { inn := ⟨[(0, .val true (.leaf rEnum)), (1, .val true (.leaf rEnum))], [], [], 0⟩, out := ⟨[(0, .val false (.leaf .bool))], [], [], 0⟩, fn := fun (x : rEnum.den × rEnum.den) => M.lawdiff_sameEnum N x.1 x.2 }
theorem W26 (N : Nat) : FnOK Try.prog 26 (S26 N) := fn_ok (E := ⟨tabs, [(41, S41 N)], (tabcons (W41 N) tabnil), mixed, false⟩) (N := N) (a := (.two .nil (.meet ⟨[(4, .val false (.leaf .bool))], [], [], 48⟩ .nil .nil))) (sg := S26 N) (c := Try.f26.body.getD .skip) (rs := Try.f26.results.toList) Try.func26 (by kernel_rfl) (by kernel_rfl) rfl rfl rfl rfl (fun x => by kernel_rfl)
noncomputable def M.slices_Equal_guerdon_api_Row_guerdon_api_Row (N : Nat) (a0 : List rRow.den) (a1 : List rRow.den) : Option (Bool) :=
(if (!decide ((a0.length : Int) = (a1.length : Int))) = true then
some false
else
Loop (S := Int) (X := Bool) (fun s1 =>
(if (decide (s1 < (a0.length : Int))) = true then
(idx a0 s1).bind fun x2 =>
(idx a1 s1).bind fun x3 =>
(if (!(eqR rRow x2 x3)) = true then
some (Sum.inr false)
else
some (Sum.inl (IntKind.i64.wrap (s1 + (1 : Int)))))
else
some (Sum.inr true))) N (0 : Int))
noncomputable def S42 (N : Nat) : Sig := { inn := ⟨[(0, .val false (.leaf (.slice rRow))), (1, .val false (.leaf (.slice rRow)))], [], [], 0⟩, out := ⟨[(0, .val false (.leaf .bool))], [], [], 0⟩, fn := fun (x : (List rRow.den) × List rRow.den) => M.slices_Equal_guerdon_api_Row_guerdon_api_Row N x.1 x.2 }
theorem W42 (N : Nat) : FnOK Try.prog 42 (S42 N) := fn_ok (E := ⟨tabs, [], tabnil, mixed, false⟩) (N := N) (a := (.two .nil (.two .nil (.two (.two .nil (.two (.loop ⟨[(13, .val false (.leaf rInt))], [], [], 144⟩ .nil) .nil)) .nil)))) (sg := S42 N) (c := Try.f42.body.getD .skip) (rs := Try.f42.results.toList) Try.func42 (by kernel_rfl) (by kernel_rfl) rfl rfl rfl rfl (fun x => by kernel_rfl)
noncomputable def M.lawdiff_sameTable (N : Nat) (a0 : rTable.den) (a1 : rTable.den) : Option (Bool) :=
((if (decide (a0.1 = a1.1)) = true then
(if (eqR rType a0.2.1 a1.2.1) = true then
(if (eqR rType a0.2.2.1 a1.2.2.1) = true then
(M.slices_Equal_guerdon_api_Row_guerdon_api_Row N a0.2.2.2 a1.2.2.2).bind fun y2 =>
some y2
else
some false)
else
some false)
else
some false) : Option (Bool)).bind fun j1 =>
some j1
noncomputable def S28 (N : Nat) : Sig := { inn := ⟨[(0, .val true (.leaf rTable)), (1, .val true (.leaf rTable))], [], [], 0⟩, out := ⟨[(0, .val false (.leaf .bool))], [], [], 0⟩, fn := fun (x : rTable.den × rTable.den) => M.lawdiff_sameTable N x.1 x.2 }
theorem W28 (N : Nat) : FnOK Try.prog 28 (S28 N) := fn_ok (E := ⟨tabs, [(42, S42 N)], (tabcons (W42 N) tabnil), mixed, false⟩) (N := N) (a := (.two .nil (.meet ⟨[(4, .val false (.leaf .bool))], [], [], 48⟩ .nil .nil))) (sg := S28 N) (c := Try.f28.body.getD .skip) (rs := Try.f28.results.toList) Try.func28 (by kernel_rfl) (by kernel_rfl) rfl rfl rfl rfl (fun x => by kernel_rfl)
noncomputable def M.slices_Equal_guerdon_api_Field_guerdon_api_Field (N : Nat) (a0 : List rField.den) (a1 : List rField.den) : Option (Bool) :=
(if (!decide ((a0.length : Int) = (a1.length : Int))) = true then
some false
else
Loop (S := Int) (X := Bool) (fun s1 =>
(if (decide (s1 < (a0.length : Int))) = true then
(idx a0 s1).bind fun x2 =>
(idx a1 s1).bind fun x3 =>
(if (!(eqR rField x2 x3)) = true then
some (Sum.inr false)
else
some (Sum.inl (IntKind.i64.wrap (s1 + (1 : Int)))))
else
some (Sum.inr true))) N (0 : Int))
noncomputable def S43 (N : Nat) : Sig := { inn := ⟨[(0, .val false (.leaf (.slice rField))), (1, .val false (.leaf (.slice rField)))], [], [], 0⟩, out := ⟨[(0, .val false (.leaf .bool))], [], [], 0⟩, fn := fun (x : (List rField.den) × List rField.den) => M.slices_Equal_guerdon_api_Field_guerdon_api_Field N x.1 x.2 }
theorem W43 (N : Nat) : FnOK Try.prog 43 (S43 N) := fn_ok (E := ⟨tabs, [], tabnil, mixed, false⟩) (N := N) (a := (.two .nil (.two .nil (.two (.two .nil (.two (.loop ⟨[(13, .val false (.leaf rInt))], [], [], 144⟩ .nil) .nil)) .nil)))) (sg := S43 N) (c := Try.f43.body.getD .skip) (rs := Try.f43.results.toList) Try.func43 (by kernel_rfl) (by kernel_rfl) rfl rfl rfl rfl (fun x => by kernel_rfl)
noncomputable def M.lawdiff_sameScope (N : Nat) (a0 : rScope.den) (a1 : rScope.den) : Option (Bool) :=
((if (decide (a0.1 = a1.1)) = true then
(if (decide (a0.2.1 = a1.2.1)) = true then
(M.slices_Equal_guerdon_api_Field_guerdon_api_Field N a0.2.2.1 a1.2.2.1).bind fun y2 =>
(if y2 = true then
(M.slices_Equal_guerdon_api_Field_guerdon_api_Field N a0.2.2.2.1 a1.2.2.2.1).bind fun y3 =>
some y3
else
some false)
else
some false)
else
some false) : Option (Bool)).bind fun j1 =>
some j1
noncomputable def S30 (N : Nat) : Sig := { inn := ⟨[(0, .val true (.leaf rScope)), (1, .val true (.leaf rScope))], [], [], 0⟩, out := ⟨[(0, .val false (.leaf .bool))], [], [], 0⟩, fn := fun (x : rScope.den × rScope.den) => M.lawdiff_sameScope N x.1 x.2 }
theorem W30 (N : Nat) : FnOK Try.prog 30 (S30 N) := fn_ok (E := ⟨tabs, [(43, S43 N)], (tabcons (W43 N) tabnil), mixed, false⟩) (N := N) (a := (.two .nil (.meet ⟨[(4, .val false (.leaf .bool))], [], [], 48⟩ .nil .nil))) (sg := S30 N) (c := Try.f30.body.getD .skip) (rs := Try.f30.results.toList) Try.func30 (by kernel_rfl) (by kernel_rfl) rfl rfl rfl rfl (fun x => by kernel_rfl)
noncomputable def M.slices_EqualFunc_guerdon_api_Enum_guerdon_api_Enum_guerdon_api_Enum_guerdon_api_Enum_v1 (N : Nat) (a0 : List rEnum.den) (a1 : List rEnum.den) : Option (Bool) :=
(if (!decide ((a0.length : Int) = (a1.length : Int))) = true then
some false
else
Loop (S := Int) (X := Bool) (fun s1 =>
(if (decide (s1 < (a0.length : Int))) = true then
(idx a0 s1).bind fun x2 =>
(idx a1 s1).bind fun x3 =>
(M.lawdiff_sameEnum N x2 x3).bind fun y4 =>
(if (!y4) = true then
some (Sum.inr false)
else
some (Sum.inl (IntKind.i64.wrap (s1 + (1 : Int)))))
else
some (Sum.inr true))) N (0 : Int))
noncomputable def S25v1 (N : Nat) : Sig := { inn := ⟨[(0, .val false (.leaf (.slice rEnum))), (1, .val false (.leaf (.slice rEnum))), (2, .fn 26 [])], [], [], 0⟩, out := ⟨[(0, .val false (.leaf .bool))], [], [], 0⟩, fn := fun (x : (List rEnum.den) × List rEnum.den) => M.slices_EqualFunc_guerdon_api_Enum_guerdon_api_Enum_guerdon_api_Enum_guerdon_api_Enum_v1 N x.1 x.2 }
theorem W25v1 (N : Nat) : FnOK Try.prog 25 (S25v1 N) := fn_ok (E := ⟨tabs, [(26, S26 N)], (tabcons (W26 N) tabnil), mixed, false⟩) (N := N) (a := (.two .nil (.two .nil (.two (.two .nil (.two (.loop ⟨[(17, .val false (.leaf rInt))], [], [], 144⟩ .nil) .nil)) .nil)))) (sg := S25v1 N) (c := Try.f25.body.getD .skip) (rs := Try.f25.results.toList) Try.func25 (by kernel_rfl) (by kernel_rfl) rfl rfl rfl rfl (fun x => by kernel_rfl)
noncomputable def M.slices_EqualFunc_guerdon_api_Table_guerdon_api_Table_guerdon_api_Table_guerdon_api_Table_v1 (N : Nat) (a0 : List rTable.den) (a1 : List rTable.den) : Option (Bool) :=
(if (!decide ((a0.length : Int) = (a1.length : Int))) = true then
some false
else
Loop (S := Int) (X := Bool) (fun s1 =>
(if (decide (s1 < (a0.length : Int))) = true then
(idx a0 s1).bind fun x2 =>
(idx a1 s1).bind fun x3 =>
(M.lawdiff_sameTable N x2 x3).bind fun y4 =>
(if (!y4) = true then
some (Sum.inr false)
else
some (Sum.inl (IntKind.i64.wrap (s1 + (1 : Int)))))
else
some (Sum.inr true))) N (0 : Int))
noncomputable def S27v1 (N : Nat) : Sig := { inn := ⟨[(0, .val false (.leaf (.slice rTable))), (1, .val false (.leaf (.slice rTable))), (2, .fn 28 [])], [], [], 0⟩, out := ⟨[(0, .val false (.leaf .bool))], [], [], 0⟩, fn := fun (x : (List rTable.den) × List rTable.den) => M.slices_EqualFunc_guerdon_api_Table_guerdon_api_Table_guerdon_api_Table_guerdon_api_Table_v1 N x.1 x.2 }
theorem W27v1 (N : Nat) : FnOK Try.prog 27 (S27v1 N) := fn_ok (E := ⟨tabs, [(28, S28 N)], (tabcons (W28 N) tabnil), mixed, false⟩) (N := N) (a := (.two .nil (.two .nil (.two (.two .nil (.two (.loop ⟨[(17, .val false (.leaf rInt))], [], [], 144⟩ .nil) .nil)) .nil)))) (sg := S27v1 N) (c := Try.f27.body.getD .skip) (rs := Try.f27.results.toList) Try.func27 (by kernel_rfl) (by kernel_rfl) rfl rfl rfl rfl (fun x => by kernel_rfl)
noncomputable def M.slices_EqualFunc_guerdon_api_Scope_guerdon_api_Scope_guerdon_api_Scope_guerdon_api_Scope_v1 (N : Nat) (a0 : List rScope.den) (a1 : List rScope.den) : Option (Bool) :=
(if (!decide ((a0.length : Int) = (a1.length : Int))) = true then
some false
else
Loop (S := Int) (X := Bool) (fun s1 =>
(if (decide (s1 < (a0.length : Int))) = true then
(idx a0 s1).bind fun x2 =>
(idx a1 s1).bind fun x3 =>
(M.lawdiff_sameScope N x2 x3).bind fun y4 =>
(if (!y4) = true then
some (Sum.inr false)
else
some (Sum.inl (IntKind.i64.wrap (s1 + (1 : Int)))))
else
some (Sum.inr true))) N (0 : Int))
noncomputable def S29v1 (N : Nat) : Sig := { inn := ⟨[(0, .val false (.leaf (.slice rScope))), (1, .val false (.leaf (.slice rScope))), (2, .fn 30 [])], [], [], 0⟩, out := ⟨[(0, .val false (.leaf .bool))], [], [], 0⟩, fn := fun (x : (List rScope.den) × List rScope.den) => M.slices_EqualFunc_guerdon_api_Scope_guerdon_api_Scope_guerdon_api_Scope_guerdon_api_Scope_v1 N x.1 x.2 }
theorem W29v1 (N : Nat) : FnOK Try.prog 29 (S29v1 N) := fn_ok (E := ⟨tabs, [(30, S30 N)], (tabcons (W30 N) tabnil), mixed, false⟩) (N := N) (a := (.two .nil (.two .nil (.two (.two .nil (.two (.loop ⟨[(17, .val false (.leaf rInt))], [], [], 144⟩ .nil) .nil)) .nil)))) (sg := S29v1 N) (c := Try.f29.body.getD .skip) (rs := Try.f29.results.toList) Try.func29 (by kernel_rfl) (by kernel_rfl) rfl rfl rfl rfl (fun x => by kernel_rfl)
noncomputable def M.lawdiff_SameInterface (N : Nat) (a0 : rLaw.den) (a1 : rLaw.den) : Option (Bool) :=
((M.slices_EqualFunc_guerdon_api_Enum_guerdon_api_Enum_guerdon_api_Enum_guerdon_api_Enum_v1 N a0.1 a1.1).bind fun y2 =>
(if y2 = true then
(M.slices_EqualFunc_guerdon_api_Table_guerdon_api_Table_guerdon_api_Table_guerdon_api_Table_v1 N a0.2.1 a1.2.1).bind fun y3 =>
(if y3 = true then
(M.slices_EqualFunc_guerdon_api_Scope_guerdon_api_Scope_guerdon_api_Scope_guerdon_api_Scope_v1 N a0.2.2 a1.2.2).bind fun y4 =>
some y4
else
some false)
else
some false) : Option (Bool)).bind fun j1 =>
some j1
noncomputable def S13 (N : Nat) : Sig := { inn := ⟨[(0, .val true (.leaf rLaw)), (1, .val true (.leaf rLaw))], [], [], 0⟩, out := ⟨[(0, .val false (.leaf .bool))], [], [], 0⟩, fn := fun (x : rLaw.den × rLaw.den) => M.lawdiff_SameInterface N x.1 x.2 }
theorem W13 (N : Nat) : FnOK Try.prog 13 (S13 N) := fn_ok (E := ⟨tabs, [(25, S25v1 N), (27, S27v1 N), (29, S29v1 N)], (tabcons (W25v1 N) (tabcons (W27v1 N) (tabcons (W29v1 N) tabnil))), mixed, false⟩) (N := N) (a := (.two .nil (.meet ⟨[(4, .val false (.leaf .bool))], [], [], 48⟩ .nil .nil))) (sg := S13 N) (c := Try.f13.body.getD .skip) (rs := Try.f13.results.toList) Try.func13 (by kernel_rfl) (by kernel_rfl) rfl rfl rfl rfl (fun x => by kernel_rfl)
noncomputable def M.same_TinyLaw (N : Nat) (a0 : List rType.den) : Option (List rScope.den) :=
some ([((⟨#[104, 111, 117, 115, 101]⟩ : ByteArray), ((-1 : Int), (([((⟨#[97]⟩ : ByteArray), ((3 : Int), (0 : Int)))] : List rField.den), (([((⟨#[100]⟩ : ByteArray), ((3 : Int), (0 : Int)))] : List rField.den), ([((⟨#[98, 97, 115, 101]⟩ : ByteArray), ((0 : Int), ((-1 : Int), ((0 : Int), (((0 : Int), (109573 : Int)), (([] : List rType.den), (a0, ByteArray.empty)))))))] : List rRule.den)))))] : List rScope.den)
noncomputable def S20 (N : Nat) : Sig := { inn := ⟨[(0, .val false (.leaf (.slice rType)))], [], [], 0⟩, out := ⟨[(0, .val true (.pair .nil (.pair .nil (.own 0))))], [(0, .own 36 rScope)], [], 1⟩, fn := fun (x : List rType.den) => M.same_TinyLaw N x }
theorem W20 (N : Nat) : FnOK Try.prog 20 (S20 N) := fn_ok (E := ⟨tabs, [], tabnil, mixed, false⟩) (N := N) (a := .nil) (sg := S20 N) (c := Try.f20.body.getD .skip) (rs := Try.f20.results.toList) Try.func20 (by kernel_rfl) (by kernel_rfl) rfl rfl rfl rfl (fun x => by kernel_rfl)
noncomputable def M.same_TinyLaw_v1 (N : Nat) (a0 : List rType.den) : Option (List rScope.den) :=
some ([((⟨#[104, 111, 117, 115, 101]⟩ : ByteArray), ((-1 : Int), (([((⟨#[97]⟩ : ByteArray), ((3 : Int), (0 : Int)))] : List rField.den), (([((⟨#[100]⟩ : ByteArray), ((3 : Int), (0 : Int)))] : List rField.den), ([((⟨#[98, 97, 115, 101]⟩ : ByteArray), ((0 : Int), ((-1 : Int), ((0 : Int), (((0 : Int), (109573 : Int)), (([] : List rType.den), (a0, ByteArray.empty)))))))] : List rRule.den)))))] : List rScope.den)
noncomputable def S20v1 (N : Nat) : Sig := { inn := ⟨[(0, .val false (.leaf (.slice rType)))], [], [], 0⟩, out := ⟨[(0, .val true (.pair .nil (.pair .nil (.own 0))))], [(0, .deep 36 (.pair (.leaf .str) (.pair (.leaf rInt) (.pair (.sl 82 (.leaf rField)) (.pair (.sl 82 (.leaf rField)) (.sl 41 (.leaf rRule)))))))], [], 1⟩, fn := fun (x : List rType.den) => M.same_TinyLaw_v1 N x }
theorem W20v1 (N : Nat) : FnOK Try.prog 20 (S20v1 N) := fn_ok (E := ⟨tabs, [], tabnil, mixed, true⟩) (N := N) (a := .nil) (sg := S20v1 N) (c := Try.f20.body.getD .skip) (rs := Try.f20.results.toList) Try.func20 (by kernel_rfl) (by kernel_rfl) rfl rfl rfl rfl (fun x => by kernel_rfl)
noncomputable def M.law51_awake (N : Nat) : Option (Bool) :=
(M.same_TinyLaw_v1 N ([((7 : Int), (0 : Int))] : List rType.den)).bind fun y1 =>
(M.same_TinyLaw_v1 N ([((7 : Int), (0 : Int))] : List rType.den)).bind fun y2 =>
(idx y2 (0 : Int)).bind fun x3 =>
(idx y2 (0 : Int)).bind fun x4 =>
(idx x4.2.2.2.2 (0 : Int)).bind fun x5 =>
(idx y2 (0 : Int)).bind fun x6 =>
(if decide ((0 : Int) = (0 : Int)) = true then
(idx y2 (0 : Int)).bind fun x7 =>
(appA (setL x4.2.2.2.2 (0 : Int) (x5.1, (x5.2.1, (x5.2.2.1, ((1 : Int), x5.2.2.2.2))))) ([((⟨#[101, 120, 116, 114, 97]⟩ : ByteArray), ((0 : Int), ((0 : Int), ((0 : Int), (((0 : Int), (0 : Int)), (([] : List rType.den), (([] : List rType.den), ByteArray.empty)))))))] : List rRule.den)).bind fun l8 =>
(idx y2 (0 : Int)).bind fun x9 =>
(if decide ((0 : Int) = (0 : Int)) = true then
(idx y2 (0 : Int)).bind fun x10 =>
(M.lawdiff_ChangedRules N (([] : List rEnum.den), (([] : List rTable.den), y1)) (([] : List rEnum.den), (([] : List rTable.den), modL y2 (0 : Int) (fun m11 => (m11.1, (m11.2.1, (m11.2.2.1, (m11.2.2.2.1, l8)))))))).bind fun y12 =>
(M.same_TinyLaw_v1 N ([((7 : Int), (0 : Int))] : List rType.den)).bind fun y13 =>
(idx y13 (0 : Int)).bind fun x14 =>
(idx y13 (0 : Int)).bind fun x15 =>
((M.same_Changes N y12 ([((⟨#[104, 111, 117, 115, 101]⟩ : ByteArray), ((⟨#[98, 97, 115, 101]⟩ : ByteArray), (3 : Int))), ((⟨#[104, 111, 117, 115, 101]⟩ : ByteArray), ((⟨#[101, 120, 116, 114, 97]⟩ : ByteArray), (2 : Int)))] : List rChange.den)).bind fun y17 =>
(if y17 = true then
(M.lawdiff_SameInterface N (([] : List rEnum.den), (([] : List rTable.den), y1)) (([] : List rEnum.den), (([] : List rTable.den), modL y2 (0 : Int) (fun m11 => (m11.1, (m11.2.1, (m11.2.2.1, (m11.2.2.2.1, l8)))))))).bind fun y18 =>
(if y18 = true then
(M.lawdiff_SameInterface N (([] : List rEnum.den), (([] : List rTable.den), y1)) (([] : List rEnum.den), (([] : List rTable.den), setL y13 (0 : Int) ((⟨#[104, 111, 109, 101]⟩ : ByteArray), x15.2)))).bind fun y19 =>
(if (!y19) = true then
(M.lawdiff_ChangedRules N (([] : List rEnum.den), (([] : List rTable.den), y1)) (([] : List rEnum.den), (([] : List rTable.den), setL y13 (0 : Int) ((⟨#[104, 111, 109, 101]⟩ : ByteArray), x15.2)))).bind fun y20 =>
some (decide ((y20.length : Int) = (2 : Int)))
else
some false)
else
some false)
else
some false) : Option (Bool)).bind fun j16 =>
some j16
else none)
else none)
noncomputable def S9 (N : Nat) : Sig := { inn := ⟨[], [], [], 0⟩, out := ⟨[(0, .val false (.leaf .bool))], [], [], 0⟩, fn := fun (x : Unit) => M.law51_awake N }
theorem W9 (N : Nat) : FnOK Try.prog 9 (S9 N) := fn_ok (E := ⟨tabs, [(10, S10 N), (11, S11 N), (13, S13 N), (20, S20v1 N)], (tabcons (W10 N) (tabcons (W11 N) (tabcons (W13 N) (tabcons (W20v1 N) tabnil)))), mixed, true⟩) (N := N) (a := (.two .nil (.two .nil (.two .nil (.two .nil (.two .nil (.two .nil (.two .nil (.two .nil (.meet ⟨[(0, .val false (.leaf .bool))], [], [], 752⟩ .nil .nil)))))))))) (sg := S9 N) (c := Try.f9.body.getD .skip) (rs := Try.f9.results.toList) Try.func9 (by kernel_rfl) (by kernel_rfl) rfl rfl rfl rfl (fun x => by kernel_rfl)
noncomputable def M.ref51_scopeOf (N : Nat) (a0 : rLaw.den) (a1 : ByteArray) : Option (Int) :=
Loop (S := Int) (X := Int) (fun s1 =>
(if (decide (s1 < (a0.2.2.length : Int))) = true then
(idx a0.2.2 s1).bind fun x2 =>
(if (decide (x2.1 = a1)) = true then
some (Sum.inr s1)
else
some (Sum.inl (IntKind.i64.wrap (s1 + (1 : Int)))))
else
some (Sum.inr (-1 : Int)))) N (0 : Int)
noncomputable def S35 (N : Nat) : Sig := { inn := ⟨[(0, .val true (.leaf rLaw)), (1, .val false (.leaf .str))], [], [], 0⟩, out := ⟨[(0, .val false (.leaf rInt))], [], [], 0⟩, fn := fun (x : rLaw.den × ByteArray) => M.ref51_scopeOf N x.1 x.2 }
theorem W35 (N : Nat) : FnOK Try.prog 35 (S35 N) := fn_ok (E := ⟨tabs, [], tabnil, mixed, false⟩) (N := N) (a := (.two .nil (.two (.two .nil (.two (.loop ⟨[(5, .val false (.leaf rInt))], [], [], 48⟩ .nil) .nil)) .nil))) (sg := S35 N) (c := Try.f35.body.getD .skip) (rs := Try.f35.results.toList) Try.func35 (by kernel_rfl) (by kernel_rfl) rfl rfl rfl rfl (fun x => by kernel_rfl)
noncomputable def M.ref51_ruleOf (N : Nat) (a0 : rScope.den) (a1 : ByteArray) : Option (Int) :=
Loop (S := Int) (X := Int) (fun s1 =>
(if (decide (s1 < (a0.2.2.2.2.length : Int))) = true then
(idx a0.2.2.2.2 s1).bind fun x2 =>
(if (decide (x2.1 = a1)) = true then
some (Sum.inr s1)
else
some (Sum.inl (IntKind.i64.wrap (s1 + (1 : Int)))))
else
some (Sum.inr (-1 : Int)))) N (0 : Int)
noncomputable def S36 (N : Nat) : Sig := { inn := ⟨[(0, .val true (.leaf rScope)), (1, .val false (.leaf .str))], [], [], 0⟩, out := ⟨[(0, .val false (.leaf rInt))], [], [], 0⟩, fn := fun (x : rScope.den × ByteArray) => M.ref51_ruleOf N x.1 x.2 }
theorem W36 (N : Nat) : FnOK Try.prog 36 (S36 N) := fn_ok (E := ⟨tabs, [], tabnil, mixed, false⟩) (N := N) (a := (.two .nil (.two (.two .nil (.two (.loop ⟨[(5, .val false (.leaf rInt))], [], [], 48⟩ .nil) .nil)) .nil))) (sg := S36 N) (c := Try.f36.body.getD .skip) (rs := Try.f36.results.toList) Try.func36 (by kernel_rfl) (by kernel_rfl) rfl rfl rfl rfl (fun x => by kernel_rfl)
noncomputable def M.ref51_Counterpart (N : Nat) (a0 : rLaw.den) (a1 : ByteArray) (a2 : ByteArray) : Option (ByteArray × Int × (List rField.den) × (List rField.den) × (List rRule.den) × Int × Bool) :=
(M.ref51_scopeOf N a0 a1).bind fun y1 =>
(if (decide (y1 < (0 : Int))) = true then
some (ByteArray.empty, (0 : Int), ([] : List rField.den), ([] : List rField.den), ([] : List rRule.den), (0 : Int), false)
else
(idx a0.2.2 y1).bind fun x2 =>
(M.ref51_ruleOf N x2 a2).bind fun y3 =>
(if (decide (y3 < (0 : Int))) = true then
some (ByteArray.empty, (0 : Int), ([] : List rField.den), ([] : List rField.den), ([] : List rRule.den), (0 : Int), false)
else
(idx a0.2.2 y1).bind fun x4 =>
some (x4.1, x4.2.1, x4.2.2.1, x4.2.2.2.1, x4.2.2.2.2, y3, true)))
noncomputable def S16 (N : Nat) : Sig := { inn := ⟨[(0, .val true (.leaf rLaw)), (1, .val false (.leaf .str)), (2, .val false (.leaf .str))], [], [], 0⟩, out := ⟨[(0, .val true (.pair (.leaf .str) (.pair (.leaf rInt) (.pair (.leaf (.slice rField)) (.pair (.leaf (.slice rField)) (.leaf (.slice rRule))))))), (1, .val false (.leaf rInt)), (2, .val false (.leaf .bool))], [], [], 0⟩, fn := fun (x : rLaw.den × ByteArray × ByteArray) => M.ref51_Counterpart N x.1 x.2.1 x.2.2 }
theorem W16 (N : Nat) : FnOK Try.prog 16 (S16 N) := fn_ok (E := ⟨tabs, [(35, S35 N), (36, S36 N)], (tabcons (W35 N) (tabcons (W36 N) tabnil)), mixed, false⟩) (N := N) (a := .nil) (sg := S16 N) (c := Try.f16.body.getD .skip) (rs := Try.f16.results.toList) Try.func16 (by kernel_rfl) (by kernel_rfl) rfl rfl rfl rfl (fun x => by kernel_rfl)
noncomputable def M.same_Nodes (N : Nat) (a0 : List rType.den) (a1 : List rType.den) : Option (Bool) :=
(if (!decide ((a0.length : Int) = (a1.length : Int))) = true then
some false
else
Loop (S := Int) (X := Bool) (fun s1 =>
((if (decide (s1 < (a0.length : Int))) = true then
some (decide (s1 < (a1.length : Int)))
else
some false) : Option (Bool)).bind fun j2 =>
(if j2 = true then
(idx a0 s1).bind fun x3 =>
(idx a1 s1).bind fun x4 =>
(if (!(eqR rType x3 x4)) = true then
some (Sum.inr false)
else
some (Sum.inl (IntKind.i64.wrap (s1 + (1 : Int)))))
else
some (Sum.inr true))) N (0 : Int))
noncomputable def S17 (N : Nat) : Sig := { inn := ⟨[(0, .val false (.leaf (.slice rType))), (1, .val false (.leaf (.slice rType)))], [], [], 0⟩, out := ⟨[(0, .val false (.leaf .bool))], [], [], 0⟩, fn := fun (x : (List rType.den) × List rType.den) => M.same_Nodes N x.1 x.2 }
theorem W17 (N : Nat) : FnOK Try.prog 17 (S17 N) := fn_ok (E := ⟨tabs, [], tabnil, mixed, false⟩) (N := N) (a := (.two .nil (.two .nil (.two (.two .nil (.two (.loop ⟨[(5, .val false (.leaf rInt))], [], [], 112⟩ (.two (.meet ⟨[(20, .val false (.leaf .bool))], [], [], 112⟩ .nil .nil) .nil)) .nil)) .nil)))) (sg := S17 N) (c := Try.f17.body.getD .skip) (rs := Try.f17.results.toList) Try.func17 (by kernel_rfl) (by kernel_rfl) rfl rfl rfl rfl (fun x => by kernel_rfl)
noncomputable def M.ref51_defName (N : Nat) (a0 : rScope.den) (a1 : Int) : Option (ByteArray) :=
((if (decide (a1 < (0 : Int))) = true then
some true
else
some (decide ((a0.2.2.2.1.length : Int) ≤ a1))) : Option (Bool)).bind fun j1 =>
(if j1 = true then
some (⟨#[]⟩ : ByteArray)
else
(idx a0.2.2.2.1 a1).bind fun x2 =>
some x2.1)
noncomputable def S39 (N : Nat) : Sig := { inn := ⟨[(0, .val true (.leaf rScope)), (1, .val false (.leaf rInt))], [], [], 0⟩, out := ⟨[(0, .val false (.leaf .str))], [], [], 0⟩, fn := fun (x : rScope.den × Int) => M.ref51_defName N x.1 x.2 }
theorem W39 (N : Nat) : FnOK Try.prog 39 (S39 N) := fn_ok (E := ⟨tabs, [], tabnil, mixed, false⟩) (N := N) (a := (.two .nil (.two (.meet ⟨[(13, .val false (.leaf .bool))], [], [], 32⟩ .nil .nil) .nil))) (sg := S39 N) (c := Try.f39.body.getD .skip) (rs := Try.f39.results.toList) Try.func39 (by kernel_rfl) (by kernel_rfl) rfl rfl rfl rfl (fun x => by kernel_rfl)
noncomputable def M.ref51_parentName (N : Nat) (a0 : rScope.den) (a1 : Int) : Option (ByteArray) :=
((if (decide (a1 < (0 : Int))) = true then
some true
else
some (decide ((a0.2.2.2.2.length : Int) ≤ a1))) : Option (Bool)).bind fun j1 =>
(if j1 = true then
some (⟨#[]⟩ : ByteArray)
else
(idx a0.2.2.2.2 a1).bind fun x2 =>
some x2.1)
noncomputable def S40 (N : Nat) : Sig := { inn := ⟨[(0, .val true (.leaf rScope)), (1, .val false (.leaf rInt))], [], [], 0⟩, out := ⟨[(0, .val false (.leaf .str))], [], [], 0⟩, fn := fun (x : rScope.den × Int) => M.ref51_parentName N x.1 x.2 }
theorem W40 (N : Nat) : FnOK Try.prog 40 (S40 N) := fn_ok (E := ⟨tabs, [], tabnil, mixed, false⟩) (N := N) (a := (.two .nil (.two (.meet ⟨[(13, .val false (.leaf .bool))], [], [], 32⟩ .nil .nil) .nil))) (sg := S40 N) (c := Try.f40.body.getD .skip) (rs := Try.f40.results.toList) Try.func40 (by kernel_rfl) (by kernel_rfl) rfl rfl rfl rfl (fun x => by kernel_rfl)
noncomputable def M.ref51_equal (N : Nat) (a0 : rScope.den) (a1 : Int) (a2 : rScope.den) (a3 : Int) : Option (Bool) :=
(idx a0.2.2.2.2 a1).bind fun x1 =>
(idx a2.2.2.2.2 a3).bind fun x2 =>
((M.ref51_defName N a0 x1.2.1).bind fun y4 =>
(M.ref51_defName N a2 x2.2.1).bind fun y5 =>
(if (decide (y4 = y5)) = true then
(M.ref51_parentName N a0 x1.2.2.1).bind fun y6 =>
(M.ref51_parentName N a2 x2.2.2.1).bind fun y7 =>
(if (decide (y6 = y7)) = true then
(if (decide (x1.2.2.2.1 = x2.2.2.2.1)) = true then
(if (eqR rType x1.2.2.2.2.1 x2.2.2.2.2.1) = true then
(M.same_Nodes N x1.2.2.2.2.2.1 x2.2.2.2.2.2.1).bind fun y8 =>
(if y8 = true then
(M.same_Nodes N x1.2.2.2.2.2.2.1 x2.2.2.2.2.2.2.1).bind fun y9 =>
(if y9 = true then
some (decide (x1.2.2.2.2.2.2.2 = x2.2.2.2.2.2.2.2))
else
some false)
else
some false)
else
some false)
else
some false)
else
some false)
else
some false) : Option (Bool)).bind fun j3 =>
some j3
noncomputable def S24 (N : Nat) : Sig := { inn := ⟨[(0, .val true (.leaf rScope)), (1, .val false (.leaf rInt)), (2, .val true (.leaf rScope)), (3, .val false (.leaf rInt))], [], [], 0⟩, out := ⟨[(0, .val false (.leaf .bool))], [], [], 0⟩, fn := fun (x : rScope.den × Int × rScope.den × Int) => M.ref51_equal N x.1 x.2.1 x.2.2.1 x.2.2.2 }
theorem W24 (N : Nat) : FnOK Try.prog 24 (S24 N) := fn_ok (E := ⟨tabs, [(17, S17 N), (39, S39 N), (40, S40 N)], (tabcons (W17 N) (tabcons (W39 N) (tabcons (W40 N) tabnil))), mixed, false⟩) (N := N) (a := (.two .nil (.two .nil (.meet ⟨[(8, .val false (.leaf .bool))], [], [], 272⟩ .nil .nil)))) (sg := S24 N) (c := Try.f24.body.getD .skip) (rs := Try.f24.results.toList) Try.func24 (by kernel_rfl) (by kernel_rfl) rfl rfl rfl rfl (fun x => by kernel_rfl)
noncomputable def M.ref51_ChangedRules (N : Nat) (a0 : rLaw.den) (a1 : rLaw.den) : Option (List rChange.den) :=
(Loop (S := Int × List rChange.den) (X := List rChange.den) (fun s2 =>
(if (decide (s2.1 < (a0.2.2.length : Int))) = true then
((idx a0.2.2 s2.1).bind fun x4 =>
Loop (S := Int × List rChange.den) (X := List rChange.den) (fun s5 =>
(if (decide (s5.1 < (x4.2.2.2.2.length : Int))) = true then
((idx x4.2.2.2.2 s5.1).bind fun x7 =>
(M.ref51_Counterpart N a1 x4.1 x7.1).bind fun y8 =>
(if (!y8.2.2.2.2.2.2) = true then
(idx x4.2.2.2.2 s5.1).bind fun x9 =>
(appA s5.2 ([(x4.1, (x9.1, (1 : Int)))] : List rChange.den)).bind fun l10 =>
some l10
else
(M.ref51_equal N x4 s5.1 (y8.1, (y8.2.1, (y8.2.2.1, (y8.2.2.2.1, y8.2.2.2.2.1)))) y8.2.2.2.2.2.1).bind fun y11 =>
(if (!y11) = true then
(idx x4.2.2.2.2 s5.1).bind fun x12 =>
(appA s5.2 ([(x4.1, (x12.1, (3 : Int)))] : List rChange.den)).bind fun l13 =>
some l13
else
some s5.2)) : Option (List rChange.den)).bind fun j6 =>
some (Sum.inl (IntKind.i64.wrap (s5.1 + (1 : Int)), j6))
else
some (Sum.inr s5.2))) N ((0 : Int), s2.2) : Option (List rChange.den)).bind fun j3 =>
some (Sum.inl (IntKind.i64.wrap (s2.1 + (1 : Int)), j3))
else
some (Sum.inr s2.2))) N ((0 : Int), ([] : List rChange.den)) : Option (List rChange.den)).bind fun j1 =>
Loop (S := Int × List rChange.den) (X := List rChange.den) (fun s14 =>
(if (decide (s14.1 < (a1.2.2.length : Int))) = true then
((idx a1.2.2 s14.1).bind fun x16 =>
Loop (S := Int × List rChange.den) (X := List rChange.den) (fun s17 =>
(if (decide (s17.1 < (x16.2.2.2.2.length : Int))) = true then
((idx x16.2.2.2.2 s17.1).bind fun x19 =>
(M.ref51_Counterpart N a0 x16.1 x19.1).bind fun y20 =>
(if (!y20.2.2.2.2.2.2) = true then
(idx x16.2.2.2.2 s17.1).bind fun x21 =>
(appA s17.2 ([(x16.1, (x21.1, (2 : Int)))] : List rChange.den)).bind fun l22 =>
some l22
else
some s17.2) : Option (List rChange.den)).bind fun j18 =>
some (Sum.inl (IntKind.i64.wrap (s17.1 + (1 : Int)), j18))
else
some (Sum.inr s17.2))) N ((0 : Int), s14.2) : Option (List rChange.den)).bind fun j15 =>
some (Sum.inl (IntKind.i64.wrap (s14.1 + (1 : Int)), j15))
else
some (Sum.inr s14.2))) N ((0 : Int), j1)
noncomputable def S12 (N : Nat) : Sig := { inn := ⟨[(0, .val true (.leaf rLaw)), (1, .val true (.leaf rLaw))], [], [], 0⟩, out := ⟨[(0, .val false (.own 0))], [(0, .own 46 rChange)], [], 1⟩, fn := fun (x : rLaw.den × rLaw.den) => M.ref51_ChangedRules N x.1 x.2 }
theorem W12 (N : Nat) : FnOK Try.prog 12 (S12 N) := fn_ok (E := ⟨tabs, [(16, S16 N), (24, S24 N)], (tabcons (W16 N) (tabcons (W24 N) tabnil)), mixed, false⟩) (N := N) (a := (.two .nil (.two .nil (.meet ⟨[(5, .val false (.own 64))], [(64, .own 46 rChange)], [], 65⟩ (.two .nil (.two (.loop ⟨[(5, .val false (.own 80)), (6, .val false (.leaf rInt))], [(80, .own 46 rChange)], [], 81⟩ (.two .nil (.meet ⟨[(5, .val false (.own 161))], [(161, .own 46 rChange)], [80], 162⟩ (.two (.two .nil (.two .nil (.two (.loop ⟨[(5, .val false (.own 289)), (8, .val false (.leaf rInt))], [(289, .own 46 rChange)], [80], 290⟩ (.two .nil (.two (.meet ⟨[(5, .val false (.own 370))], [(370, .own 46 rChange)], [289], 371⟩ .nil .nil) .nil))) .nil))) .nil) .nil))) .nil)) (.two (.two .nil (.two (.loop ⟨[(5, .val false (.own 81)), (12, .val false (.leaf rInt))], [(81, .own 46 rChange)], [64], 82⟩ (.two .nil (.meet ⟨[(5, .val false (.own 162))], [(162, .own 46 rChange)], [81], 163⟩ (.two (.two .nil (.two .nil (.two (.loop ⟨[(5, .val false (.own 290)), (14, .val false (.leaf rInt))], [(290, .own 46 rChange)], [81], 291⟩ (.two .nil (.two (.meet ⟨[(5, .val false (.own 371))], [(371, .own 46 rChange)], [290], 372⟩ .nil .nil) .nil))) .nil))) .nil) .nil))) .nil)) .nil))))) (sg := S12 N) (c := Try.f12.body.getD .skip) (rs := Try.f12.results.toList) Try.func12 (by kernel_rfl) (by kernel_rfl) rfl rfl rfl rfl (fun x => by kernel_rfl)
noncomputable def M.law51_LawdiffRules (N : Nat) (a0 : rLaw.den) (a1 : rLaw.den) : Option (Bool) :=
((M.same_SmallLaw N a0).bind fun y2 =>
(if (!y2) = true then
some true
else
(M.same_SmallLaw N a1).bind fun y3 =>
some (!y3)) : Option (Bool)).bind fun j1 =>
(if j1 = true then
(M.law51_awake N).bind fun y4 =>
some y4
else
((M.lawdiff_ChangedRules N a0 a1).bind fun y6 =>
(M.ref51_ChangedRules N a0 a1).bind fun y7 =>
(M.same_Changes N y6 y7).bind fun y8 =>
(if y8 = true then
(M.law51_awake N).bind fun y9 =>
some y9
else
some false) : Option (Bool)).bind fun j5 =>
some j5)
noncomputable def S3 (N : Nat) : Sig := { inn := ⟨[(0, .val true (.leaf rLaw)), (1, .val true (.leaf rLaw))], [], [], 0⟩, out := ⟨[(0, .val false (.leaf .bool))], [], [], 0⟩, fn := fun (x : rLaw.den × rLaw.den) => M.law51_LawdiffRules N x.1 x.2 }
theorem W3 (N : Nat) : FnOK Try.prog 3 (S3 N) := fn_ok (E := ⟨tabs, [(8, S8 N), (9, S9 N), (10, S10 N), (11, S11 N), (12, S12 N)], (tabcons (W8 N) (tabcons (W9 N) (tabcons (W10 N) (tabcons (W11 N) (tabcons (W12 N) tabnil))))), mixed, false⟩) (N := N) (a := (.two .nil (.two (.meet ⟨[(12, .val false (.leaf .bool))], [], [], 48⟩ .nil .nil) (.meet ⟨[(4, .val false (.leaf .bool))], [], [], 48⟩ .nil .nil)))) (sg := S3 N) (c := Try.f3.body.getD .skip) (rs := Try.f3.results.toList) Try.func3 (by kernel_rfl) (by kernel_rfl) rfl rfl rfl rfl (fun x => by kernel_rfl)
noncomputable def M.same_Strings (N : Nat) (a0 : List ByteArray) (a1 : List ByteArray) : Option (Bool) :=
(if (!decide ((a0.length : Int) = (a1.length : Int))) = true then
some false
else
Loop (S := Int) (X := Bool) (fun s1 =>
((if (decide (s1 < (a0.length : Int))) = true then
some (decide (s1 < (a1.length : Int)))
else
some false) : Option (Bool)).bind fun j2 =>
(if j2 = true then
(idx a0 s1).bind fun x3 =>
(idx a1 s1).bind fun x4 =>
(if (!decide (x3 = x4)) = true then
some (Sum.inr false)
else
some (Sum.inl (IntKind.i64.wrap (s1 + (1 : Int)))))
else
some (Sum.inr true))) N (0 : Int))
noncomputable def S49 (N : Nat) : Sig := { inn := ⟨[(0, .val false (.leaf (.slice .str))), (1, .val false (.leaf (.slice .str)))], [], [], 0⟩, out := ⟨[(0, .val false (.leaf .bool))], [], [], 0⟩, fn := fun (x : (List ByteArray) × List ByteArray) => M.same_Strings N x.1 x.2 }
theorem W49 (N : Nat) : FnOK Try.prog 49 (S49 N) := fn_ok (E := ⟨tabs, [], tabnil, mixed, false⟩) (N := N) (a := (.two .nil (.two .nil (.two (.two .nil (.two (.loop ⟨[(5, .val false (.leaf rInt))], [], [], 112⟩ (.two (.meet ⟨[(20, .val false (.leaf .bool))], [], [], 112⟩ .nil .nil) .nil)) .nil)) .nil)))) (sg := S49 N) (c := Try.f49.body.getD .skip) (rs := Try.f49.results.toList) Try.func49 (by kernel_rfl) (by kernel_rfl) rfl rfl rfl rfl (fun x => by kernel_rfl)
noncomputable def M.same_Enum (N : Nat) (a0 : rEnum.den) (a1 : rEnum.den) : Option (Bool) :=
((if (decide (a0.1 = a1.1)) = true then
(M.same_Strings N a0.2 a1.2).bind fun y2 =>
some y2
else
some false) : Option (Bool)).bind fun j1 =>
some j1
noncomputable def S44 (N : Nat) : Sig := { inn := ⟨[(0, .val true (.leaf rEnum)), (1, .val true (.leaf rEnum))], [], [], 0⟩, out := ⟨[(0, .val false (.leaf .bool))], [], [], 0⟩, fn := fun (x : rEnum.den × rEnum.den) => M.same_Enum N x.1 x.2 }
theorem W44 (N : Nat) : FnOK Try.prog 44 (S44 N) := fn_ok (E := ⟨tabs, [(49, S49 N)], (tabcons (W49 N) tabnil), mixed, false⟩) (N := N) (a := (.two .nil (.meet ⟨[(4, .val false (.leaf .bool))], [], [], 48⟩ .nil .nil))) (sg := S44 N) (c := Try.f44.body.getD .skip) (rs := Try.f44.results.toList) Try.func44 (by kernel_rfl) (by kernel_rfl) rfl rfl rfl rfl (fun x => by kernel_rfl)
noncomputable def M.same_Enums (N : Nat) (a0 : List rEnum.den) (a1 : List rEnum.den) : Option (Bool) :=
(if (!decide ((a0.length : Int) = (a1.length : Int))) = true then
some false
else
Loop (S := Int) (X := Bool) (fun s1 =>
((if (decide (s1 < (a0.length : Int))) = true then
some (decide (s1 < (a1.length : Int)))
else
some false) : Option (Bool)).bind fun j2 =>
(if j2 = true then
(idx a0 s1).bind fun x3 =>
(idx a1 s1).bind fun x4 =>
(M.same_Enum N x3 x4).bind fun y5 =>
(if (!y5) = true then
some (Sum.inr false)
else
some (Sum.inl (IntKind.i64.wrap (s1 + (1 : Int)))))
else
some (Sum.inr true))) N (0 : Int))
noncomputable def S31 (N : Nat) : Sig := { inn := ⟨[(0, .val false (.leaf (.slice rEnum))), (1, .val false (.leaf (.slice rEnum)))], [], [], 0⟩, out := ⟨[(0, .val false (.leaf .bool))], [], [], 0⟩, fn := fun (x : (List rEnum.den) × List rEnum.den) => M.same_Enums N x.1 x.2 }
theorem W31 (N : Nat) : FnOK Try.prog 31 (S31 N) := fn_ok (E := ⟨tabs, [(44, S44 N)], (tabcons (W44 N) tabnil), mixed, false⟩) (N := N) (a := (.two .nil (.two .nil (.two (.two .nil (.two (.loop ⟨[(5, .val false (.leaf rInt))], [], [], 112⟩ (.two (.meet ⟨[(20, .val false (.leaf .bool))], [], [], 112⟩ .nil .nil) .nil)) .nil)) .nil)))) (sg := S31 N) (c := Try.f31.body.getD .skip) (rs := Try.f31.results.toList) Try.func31 (by kernel_rfl) (by kernel_rfl) rfl rfl rfl rfl (fun x => by kernel_rfl)
noncomputable def M.same_Rows (N : Nat) (a0 : List rRow.den) (a1 : List rRow.den) : Option (Bool) :=
(if (!decide ((a0.length : Int) = (a1.length : Int))) = true then
some false
else
Loop (S := Int) (X := Bool) (fun s1 =>
((if (decide (s1 < (a0.length : Int))) = true then
some (decide (s1 < (a1.length : Int)))
else
some false) : Option (Bool)).bind fun j2 =>
(if j2 = true then
(idx a0 s1).bind fun x3 =>
(idx a1 s1).bind fun x4 =>
(if (!(eqR rRow x3 x4)) = true then
some (Sum.inr false)
else
some (Sum.inl (IntKind.i64.wrap (s1 + (1 : Int)))))
else
some (Sum.inr true))) N (0 : Int))
noncomputable def S50 (N : Nat) : Sig := { inn := ⟨[(0, .val false (.leaf (.slice rRow))), (1, .val false (.leaf (.slice rRow)))], [], [], 0⟩, out := ⟨[(0, .val false (.leaf .bool))], [], [], 0⟩, fn := fun (x : (List rRow.den) × List rRow.den) => M.same_Rows N x.1 x.2 }
theorem W50 (N : Nat) : FnOK Try.prog 50 (S50 N) := fn_ok (E := ⟨tabs, [], tabnil, mixed, false⟩) (N := N) (a := (.two .nil (.two .nil (.two (.two .nil (.two (.loop ⟨[(5, .val false (.leaf rInt))], [], [], 112⟩ (.two (.meet ⟨[(20, .val false (.leaf .bool))], [], [], 112⟩ .nil .nil) .nil)) .nil)) .nil)))) (sg := S50 N) (c := Try.f50.body.getD .skip) (rs := Try.f50.results.toList) Try.func50 (by kernel_rfl) (by kernel_rfl) rfl rfl rfl rfl (fun x => by kernel_rfl)
noncomputable def M.same_Table (N : Nat) (a0 : rTable.den) (a1 : rTable.den) : Option (Bool) :=
((if (decide (a0.1 = a1.1)) = true then
(if (eqR rType a0.2.1 a1.2.1) = true then
(if (eqR rType a0.2.2.1 a1.2.2.1) = true then
(M.same_Rows N a0.2.2.2 a1.2.2.2).bind fun y2 =>
some y2
else
some false)
else
some false)
else
some false) : Option (Bool)).bind fun j1 =>
some j1
noncomputable def S45 (N : Nat) : Sig := { inn := ⟨[(0, .val true (.leaf rTable)), (1, .val true (.leaf rTable))], [], [], 0⟩, out := ⟨[(0, .val false (.leaf .bool))], [], [], 0⟩, fn := fun (x : rTable.den × rTable.den) => M.same_Table N x.1 x.2 }
theorem W45 (N : Nat) : FnOK Try.prog 45 (S45 N) := fn_ok (E := ⟨tabs, [(50, S50 N)], (tabcons (W50 N) tabnil), mixed, false⟩) (N := N) (a := (.two .nil (.meet ⟨[(4, .val false (.leaf .bool))], [], [], 48⟩ .nil .nil))) (sg := S45 N) (c := Try.f45.body.getD .skip) (rs := Try.f45.results.toList) Try.func45 (by kernel_rfl) (by kernel_rfl) rfl rfl rfl rfl (fun x => by kernel_rfl)
noncomputable def M.same_Tables (N : Nat) (a0 : List rTable.den) (a1 : List rTable.den) : Option (Bool) :=
(if (!decide ((a0.length : Int) = (a1.length : Int))) = true then
some false
else
Loop (S := Int) (X := Bool) (fun s1 =>
((if (decide (s1 < (a0.length : Int))) = true then
some (decide (s1 < (a1.length : Int)))
else
some false) : Option (Bool)).bind fun j2 =>
(if j2 = true then
(idx a0 s1).bind fun x3 =>
(idx a1 s1).bind fun x4 =>
(M.same_Table N x3 x4).bind fun y5 =>
(if (!y5) = true then
some (Sum.inr false)
else
some (Sum.inl (IntKind.i64.wrap (s1 + (1 : Int)))))
else
some (Sum.inr true))) N (0 : Int))
noncomputable def S32 (N : Nat) : Sig := { inn := ⟨[(0, .val false (.leaf (.slice rTable))), (1, .val false (.leaf (.slice rTable)))], [], [], 0⟩, out := ⟨[(0, .val false (.leaf .bool))], [], [], 0⟩, fn := fun (x : (List rTable.den) × List rTable.den) => M.same_Tables N x.1 x.2 }
theorem W32 (N : Nat) : FnOK Try.prog 32 (S32 N) := fn_ok (E := ⟨tabs, [(45, S45 N)], (tabcons (W45 N) tabnil), mixed, false⟩) (N := N) (a := (.two .nil (.two .nil (.two (.two .nil (.two (.loop ⟨[(5, .val false (.leaf rInt))], [], [], 112⟩ (.two (.meet ⟨[(20, .val false (.leaf .bool))], [], [], 112⟩ .nil .nil) .nil)) .nil)) .nil)))) (sg := S32 N) (c := Try.f32.body.getD .skip) (rs := Try.f32.results.toList) Try.func32 (by kernel_rfl) (by kernel_rfl) rfl rfl rfl rfl (fun x => by kernel_rfl)
noncomputable def M.same_Fields (N : Nat) (a0 : List rField.den) (a1 : List rField.den) : Option (Bool) :=
(if (!decide ((a0.length : Int) = (a1.length : Int))) = true then
some false
else
Loop (S := Int) (X := Bool) (fun s1 =>
((if (decide (s1 < (a0.length : Int))) = true then
some (decide (s1 < (a1.length : Int)))
else
some false) : Option (Bool)).bind fun j2 =>
(if j2 = true then
(idx a0 s1).bind fun x3 =>
(idx a1 s1).bind fun x4 =>
(if (!(eqR rField x3 x4)) = true then
some (Sum.inr false)
else
some (Sum.inl (IntKind.i64.wrap (s1 + (1 : Int)))))
else
some (Sum.inr true))) N (0 : Int))
noncomputable def S33 (N : Nat) : Sig := { inn := ⟨[(0, .val false (.leaf (.slice rField))), (1, .val false (.leaf (.slice rField)))], [], [], 0⟩, out := ⟨[(0, .val false (.leaf .bool))], [], [], 0⟩, fn := fun (x : (List rField.den) × List rField.den) => M.same_Fields N x.1 x.2 }
theorem W33 (N : Nat) : FnOK Try.prog 33 (S33 N) := fn_ok (E := ⟨tabs, [], tabnil, mixed, false⟩) (N := N) (a := (.two .nil (.two .nil (.two (.two .nil (.two (.loop ⟨[(5, .val false (.leaf rInt))], [], [], 112⟩ (.two (.meet ⟨[(20, .val false (.leaf .bool))], [], [], 112⟩ .nil .nil) .nil)) .nil)) .nil)))) (sg := S33 N) (c := Try.f33.body.getD .skip) (rs := Try.f33.results.toList) Try.func33 (by kernel_rfl) (by kernel_rfl) rfl rfl rfl rfl (fun x => by kernel_rfl)
noncomputable def M.ref51_SameInterface (N : Nat) (a0 : rLaw.den) (a1 : rLaw.den) : Option (Bool) :=
((M.same_Enums N a0.1 a1.1).bind fun y2 =>
(if (!y2) = true then
some true
else
(M.same_Tables N a0.2.1 a1.2.1).bind fun y3 =>
(if (!y3) = true then
some true
else
some (!decide ((a0.2.2.length : Int) = (a1.2.2.length : Int))))) : Option (Bool)).bind fun j1 =>
(if j1 = true then
some false
else
Loop (S := Int) (X := Bool) (fun s4 =>
(if (decide (s4 < (a0.2.2.length : Int))) = true then
(idx a0.2.2 s4).bind fun x5 =>
(idx a1.2.2 s4).bind fun x6 =>
((if (!decide (x5.1 = x6.1)) = true then
some true
else
(if (!decide (x5.2.1 = x6.2.1)) = true then
some true
else
(M.same_Fields N x5.2.2.1 x6.2.2.1).bind fun y8 =>
(if (!y8) = true then
some true
else
(M.same_Fields N x5.2.2.2.1 x6.2.2.2.1).bind fun y9 =>
some (!y9)))) : Option (Bool)).bind fun j7 =>
(if j7 = true then
some (Sum.inr false)
else
some (Sum.inl (IntKind.i64.wrap (s4 + (1 : Int)))))
else
some (Sum.inr true))) N (0 : Int))
noncomputable def S14 (N : Nat) : Sig := { inn := ⟨[(0, .val true (.leaf rLaw)), (1, .val true (.leaf rLaw))], [], [], 0⟩, out := ⟨[(0, .val false (.leaf .bool))], [], [], 0⟩, fn := fun (x : rLaw.den × rLaw.den) => M.ref51_SameInterface N x.1 x.2 }
theorem W14 (N : Nat) : FnOK Try.prog 14 (S14 N) := fn_ok (E := ⟨tabs, [(31, S31 N), (32, S32 N), (33, S33 N)], (tabcons (W31 N) (tabcons (W32 N) (tabcons (W33 N) tabnil))), mixed, false⟩) (N := N) (a := (.two .nil (.two (.meet ⟨[(30, .val false (.leaf .bool))], [], [], 48⟩ .nil .nil) (.two (.two .nil (.two (.loop ⟨[(5, .val false (.leaf rInt))], [], [], 64⟩ (.two .nil (.two (.two (.two .nil (.meet ⟨[(75, .val false (.leaf .bool))], [], [], 368⟩ .nil .nil)) .nil) .nil))) .nil)) .nil)))) (sg := S14 N) (c := Try.f14.body.getD .skip) (rs := Try.f14.results.toList) Try.func14 (by kernel_rfl) (by kernel_rfl) rfl rfl rfl rfl (fun x => by kernel_rfl)
noncomputable def M.law51_LawdiffInterface (N : Nat) (a0 : rLaw.den) (a1 : rLaw.den) : Option (Bool) :=
((M.same_SmallLaw N a0).bind fun y2 =>
(if (!y2) = true then
some true
else
(M.same_SmallLaw N a1).bind fun y3 =>
some (!y3)) : Option (Bool)).bind fun j1 =>
(if j1 = true then
(M.law51_awake N).bind fun y4 =>
some y4
else
((M.lawdiff_SameInterface N a0 a1).bind fun y6 =>
(M.ref51_SameInterface N a0 a1).bind fun y7 =>
(if (decide (y6 = y7)) = true then
(M.lawdiff_SameInterface N a1 a0).bind fun y8 =>
(M.lawdiff_SameInterface N a0 a1).bind fun y9 =>
(if (decide (y8 = y9)) = true then
(M.lawdiff_SameInterface N a0 a0).bind fun y10 =>
(if y10 = true then
(M.law51_awake N).bind fun y11 =>
some y11
else
some false)
else
some false)
else
some false) : Option (Bool)).bind fun j5 =>
some j5)
noncomputable def S4 (N : Nat) : Sig := { inn := ⟨[(0, .val true (.leaf rLaw)), (1, .val true (.leaf rLaw))], [], [], 0⟩, out := ⟨[(0, .val false (.leaf .bool))], [], [], 0⟩, fn := fun (x : rLaw.den × rLaw.den) => M.law51_LawdiffInterface N x.1 x.2 }
theorem W4 (N : Nat) : FnOK Try.prog 4 (S4 N) := fn_ok (E := ⟨tabs, [(8, S8 N), (9, S9 N), (13, S13 N), (14, S14 N)], (tabcons (W8 N) (tabcons (W9 N) (tabcons (W13 N) (tabcons (W14 N) tabnil)))), mixed, false⟩) (N := N) (a := (.two .nil (.two (.meet ⟨[(12, .val false (.leaf .bool))], [], [], 48⟩ .nil .nil) (.meet ⟨[(4, .val false (.leaf .bool))], [], [], 48⟩ .nil .nil)))) (sg := S4 N) (c := Try.f4.body.getD .skip) (rs := Try.f4.results.toList) Try.func4 (by kernel_rfl) (by kernel_rfl) rfl rfl rfl rfl (fun x => by kernel_rfl)
noncomputable def M.ref08_lower (N : Nat) (a0 : Int) : Option (Bool) :=
((if (decide ((97 : Int) ≤ a0)) = true then
some (decide (a0 ≤ (122 : Int)))
else
some false) : Option (Bool)).bind fun j1 =>
some j1
noncomputable def S57 (N : Nat) : Sig := { inn := ⟨[(0, .val false (.leaf (.int .u8)))], [], [], 0⟩, out := ⟨[(0, .val false (.leaf .bool))], [], [], 0⟩, fn := fun (x : Int) => M.ref08_lower N x }
theorem W57 (N : Nat) : FnOK Try.prog 57 (S57 N) := fn_ok (E := ⟨tabs, [], tabnil, mixed, false⟩) (N := N) (a := (.two .nil (.meet ⟨[(2, .val false (.leaf .bool))], [], [], 16⟩ .nil .nil))) (sg := S57 N) (c := Try.f57.body.getD .skip) (rs := Try.f57.results.toList) Try.func57 (by kernel_rfl) (by kernel_rfl) rfl rfl rfl rfl (fun x => by kernel_rfl)
noncomputable def M.ref08_digit (N : Nat) (a0 : Int) : Option (Bool) :=
((if (decide ((48 : Int) ≤ a0)) = true then
some (decide (a0 ≤ (57 : Int)))
else
some false) : Option (Bool)).bind fun j1 =>
some j1
noncomputable def S70 (N : Nat) : Sig := { inn := ⟨[(0, .val false (.leaf (.int .u8)))], [], [], 0⟩, out := ⟨[(0, .val false (.leaf .bool))], [], [], 0⟩, fn := fun (x : Int) => M.ref08_digit N x }
theorem W70 (N : Nat) : FnOK Try.prog 70 (S70 N) := fn_ok (E := ⟨tabs, [], tabnil, mixed, false⟩) (N := N) (a := (.two .nil (.meet ⟨[(2, .val false (.leaf .bool))], [], [], 16⟩ .nil .nil))) (sg := S70 N) (c := Try.f70.body.getD .skip) (rs := Try.f70.results.toList) Try.func70 (by kernel_rfl) (by kernel_rfl) rfl rfl rfl rfl (fun x => by kernel_rfl)
noncomputable def M.ref08_word (N : Nat) (a0 : Int) : Option (Bool) :=
((M.ref08_lower N a0).bind fun y2 =>
(if y2 = true then
some true
else
(M.ref08_digit N a0).bind fun y3 =>
(if y3 = true then
some true
else
some (decide (a0 = (95 : Int))))) : Option (Bool)).bind fun j1 =>
some j1
noncomputable def S58 (N : Nat) : Sig := { inn := ⟨[(0, .val false (.leaf (.int .u8)))], [], [], 0⟩, out := ⟨[(0, .val false (.leaf .bool))], [], [], 0⟩, fn := fun (x : Int) => M.ref08_word N x }
theorem W58 (N : Nat) : FnOK Try.prog 58 (S58 N) := fn_ok (E := ⟨tabs, [(57, S57 N), (70, S70 N)], (tabcons (W57 N) (tabcons (W70 N) tabnil)), mixed, false⟩) (N := N) (a := (.two .nil (.meet ⟨[(2, .val false (.leaf .bool))], [], [], 16⟩ .nil .nil))) (sg := S58 N) (c := Try.f58.body.getD .skip) (rs := Try.f58.results.toList) Try.func58 (by kernel_rfl) (by kernel_rfl) rfl rfl rfl rfl (fun x => by kernel_rfl)
noncomputable def M.ref08_Reserved (N : Nat) : Option (List ByteArray) :=
some ([(⟨#[105, 102]⟩ : ByteArray), (⟨#[116, 104, 101, 110]⟩ : ByteArray), (⟨#[101, 108, 115, 101]⟩ : ByteArray), (⟨#[111, 114]⟩ : ByteArray), (⟨#[97, 110, 100]⟩ : ByteArray), (⟨#[110, 111, 116]⟩ : ByteArray), (⟨#[116, 114, 117, 101]⟩ : ByteArray), (⟨#[102, 97, 108, 115, 101]⟩ : ByteArray), (⟨#[116, 111, 100, 97, 121]⟩ : ByteArray), (⟨#[115, 104, 97, 114, 101]⟩ : ByteArray), (⟨#[100, 105, 118]⟩ : ByteArray), (⟨#[114, 111, 117, 110, 100]⟩ : ByteArray), (⟨#[109, 105, 110]⟩ : ByteArray), (⟨#[109, 97, 120]⟩ : ByteArray), (⟨#[112, 108, 117, 115]⟩ : ByteArray), (⟨#[109, 111, 110, 116, 104, 115]⟩ : ByteArray), (⟨#[100, 97, 121, 115]⟩ : ByteArray), (⟨#[121, 101, 97, 114, 115]⟩ : ByteArray), (⟨#[121, 101, 97, 114]⟩ : ByteArray), (⟨#[109, 111, 110, 116, 104]⟩ : ByteArray), (⟨#[116, 97, 98]⟩ : ByteArray), (⟨#[98, 97, 110, 100]⟩ : ByteArray), (⟨#[99, 111, 117, 110, 116]⟩ : ByteArray), (⟨#[115, 117, 109]⟩ : ByteArray), (⟨#[97, 108, 108]⟩ : ByteArray), (⟨#[97, 110, 121]⟩ : ByteArray), (⟨#[109, 111, 115, 116]⟩ : ByteArray), (⟨#[101, 110, 117, 109]⟩ : ByteArray), (⟨#[116, 97, 98, 108, 101]⟩ : ByteArray), (⟨#[114, 111, 119]⟩ : ByteArray), (⟨#[115, 99, 111, 112, 101]⟩ : ByteArray), (⟨#[109, 101, 109, 98, 101, 114, 115]⟩ : ByteArray), (⟨#[105, 110, 112, 117, 116]⟩ : ByteArray), (⟨#[100, 101, 102]⟩ : ByteArray), (⟨#[114, 117, 108, 101]⟩ : ByteArray), (⟨#[111, 102]⟩ : ByteArray), (⟨#[111, 118, 101, 114]⟩ : ByteArray), (⟨#[112, 114, 105, 111]⟩ : ByteArray), (⟨#[102, 114, 111, 109]⟩ : ByteArray), (⟨#[116, 111]⟩ : ByteArray), (⟨#[101, 110, 100]⟩ : ByteArray), (⟨#[119, 104, 101, 110]⟩ : ByteArray), (⟨#[105, 115]⟩ : ByteArray), (⟨#[115, 114, 99]⟩ : ByteArray), (⟨#[98, 111, 111, 108]⟩ : ByteArray), (⟨#[105, 110, 116]⟩ : ByteArray), (⟨#[109, 111, 110, 101, 121]⟩ : ByteArray), (⟨#[114, 97, 116, 101]⟩ : ByteArray), (⟨#[100, 97, 116, 101]⟩ : ByteArray), (⟨#[100, 111, 119, 110]⟩ : ByteArray), (⟨#[117, 112]⟩ : ByteArray), (⟨#[122, 101, 114, 111]⟩ : ByteArray), (⟨#[97, 119, 97, 121]⟩ : ByteArray), (⟨#[104, 97, 108, 102]⟩ : ByteArray), (⟨#[101, 118, 101, 110]⟩ : ByteArray)] : List ByteArray)
noncomputable def S59 (N : Nat) : Sig := { inn := ⟨[], [], [], 0⟩, out := ⟨[(0, .val false (.own 0))], [(0, .own 9 .str)], [], 1⟩, fn := fun (x : Unit) => M.ref08_Reserved N }
theorem W59 (N : Nat) : FnOK Try.prog 59 (S59 N) := fn_ok (E := ⟨tabs, [], tabnil, mixed, false⟩) (N := N) (a := .nil) (sg := S59 N) (c := Try.f59.body.getD .skip) (rs := Try.f59.results.toList) Try.func59 (by kernel_rfl) (by kernel_rfl) rfl rfl rfl rfl (fun x => by kernel_rfl)
noncomputable def M.ref08_IsIdentifier (N : Nat) (a0 : ByteArray) : Option (Bool) :=
((if (decide ((a0.size : Int) = (0 : Int))) = true then
some true
else
(if (decide ((16 : Int) < (a0.size : Int))) = true then
some true
else
(byteA a0 (0 : Int)).bind fun x2 =>
(M.ref08_lower N x2).bind fun y3 =>
some (!y3))) : Option (Bool)).bind fun j1 =>
(if j1 = true then
some false
else
Join (J := Unit) (R := Bool) (Loop (S := Int) (X := (Unit) ⊕ (Bool)) (fun s5 =>
(if (decide (s5 < (a0.size : Int))) = true then
(byteA a0 s5).bind fun x6 =>
(M.ref08_word N x6).bind fun y7 =>
(if (!y7) = true then
some (Sum.inr (Sum.inr false))
else
some (Sum.inl (IntKind.i64.wrap (s5 + (1 : Int)))))
else
some (Sum.inr (Sum.inl ())))) N (0 : Int)) fun j4 =>
(M.ref08_Reserved N).bind fun y8 =>
Loop (S := Int) (X := Bool) (fun s9 =>
(if (decide (s9 < (y8.length : Int))) = true then
(idx y8 s9).bind fun x10 =>
(if (decide (x10 = a0)) = true then
some (Sum.inr false)
else
some (Sum.inl (IntKind.i64.wrap (s9 + (1 : Int)))))
else
some (Sum.inr true))) N (0 : Int))
noncomputable def S51 (N : Nat) : Sig := { inn := ⟨[(0, .val false (.leaf .str))], [], [], 0⟩, out := ⟨[(0, .val false (.leaf .bool))], [], [], 0⟩, fn := fun (x : ByteArray) => M.ref08_IsIdentifier N x }
theorem W51 (N : Nat) : FnOK Try.prog 51 (S51 N) := fn_ok (E := ⟨tabs, [(57, S57 N), (58, S58 N), (59, S59 N)], (tabcons (W57 N) (tabcons (W58 N) (tabcons (W59 N) tabnil))), mixed, false⟩) (N := N) (a := (.two .nil (.two (.meet ⟨[(19, .val false (.leaf .bool))], [], [], 16⟩ .nil .nil) (.join ⟨[], [], [], 16⟩ (.two .nil (.two (.loop ⟨[(3, .val false (.leaf rInt))], [], [], 32⟩ .nil) .nil)) (.two .nil (.two (.two .nil (.two (.loop ⟨[(5, .val false (.leaf rInt))], [], [], 64⟩ .nil) .nil)) .nil)))))) (sg := S51 N) (c := Try.f51.body.getD .skip) (rs := Try.f51.results.toList) Try.func51 (by kernel_rfl) (by kernel_rfl) rfl rfl rfl rfl (fun x => by kernel_rfl)
noncomputable def M.ref17_nameTaken (N : Nat) (a0 : rLaw.den) (a1 : Int) (a2 : Int) (a3 : ByteArray) : Option (Bool) :=
Join (J := Unit) (R := Bool) (Loop (S := Int) (X := (Unit) ⊕ (Bool)) (fun s2 =>
(if (decide (s2 < (a0.1.length : Int))) = true then
((if (decide ((1 : Int) < a1)) = true then
(idx a0.1 s2).bind fun x4 =>
some (decide (x4.1 = a3))
else
(if (decide (s2 < a2)) = true then
(idx a0.1 s2).bind fun x5 =>
some (decide (x5.1 = a3))
else
some false)) : Option (Bool)).bind fun j3 =>
(if j3 = true then
some (Sum.inr (Sum.inr true))
else
some (Sum.inl (IntKind.i64.wrap (s2 + (1 : Int)))))
else
some (Sum.inr (Sum.inl ())))) N (0 : Int)) fun j1 =>
Join (J := Unit) (R := Bool) (Loop (S := Int) (X := (Unit) ⊕ (Bool)) (fun s7 =>
(if (decide (s7 < (a0.2.1.length : Int))) = true then
((if (decide ((2 : Int) < a1)) = true then
(idx a0.2.1 s7).bind fun x9 =>
some (decide (x9.1 = a3))
else
(if (decide (a1 = (2 : Int))) = true then
(if (decide (s7 < a2)) = true then
(idx a0.2.1 s7).bind fun x10 =>
some (decide (x10.1 = a3))
else
some false)
else
some false)) : Option (Bool)).bind fun j8 =>
(if j8 = true then
some (Sum.inr (Sum.inr true))
else
some (Sum.inl (IntKind.i64.wrap (s7 + (1 : Int)))))
else
some (Sum.inr (Sum.inl ())))) N (0 : Int)) fun j6 =>
Loop (S := Int) (X := Bool) (fun s11 =>
(if (decide (s11 < (a0.2.2.length : Int))) = true then
((if (decide (a1 = (3 : Int))) = true then
(if (decide (s11 < a2)) = true then
(idx a0.2.2 s11).bind fun x13 =>
some (decide (x13.1 = a3))
else
some false)
else
some false) : Option (Bool)).bind fun j12 =>
(if j12 = true then
some (Sum.inr true)
else
some (Sum.inl (IntKind.i64.wrap (s11 + (1 : Int)))))
else
some (Sum.inr false))) N (0 : Int)
noncomputable def S52 (N : Nat) : Sig := { inn := ⟨[(0, .val true (.leaf rLaw)), (1, .val false (.leaf rInt)), (2, .val false (.leaf rInt)), (3, .val false (.leaf .str))], [], [], 0⟩, out := ⟨[(0, .val false (.leaf .bool))], [], [], 0⟩, fn := fun (x : rLaw.den × Int × Int × ByteArray) => M.ref17_nameTaken N x.1 x.2.1 x.2.2.1 x.2.2.2 }
theorem W52 (N : Nat) : FnOK Try.prog 52 (S52 N) := fn_ok (E := ⟨tabs, [], tabnil, mixed, false⟩) (N := N) (a := (.two .nil (.join ⟨[], [], [], 32⟩ (.two .nil (.two (.loop ⟨[(9, .val false (.leaf rInt))], [], [], 48⟩ (.two .nil (.two (.two (.meet ⟨[(35, .val false (.leaf .bool))], [], [], 128⟩ .nil .nil) .nil) .nil))) .nil)) (.join ⟨[], [], [], 32⟩ (.two .nil (.two (.loop ⟨[(10, .val false (.leaf rInt))], [], [], 48⟩ (.two .nil (.two (.two (.meet ⟨[(63, .val false (.leaf .bool))], [], [], 128⟩ .nil .nil) .nil) .nil))) .nil)) (.two (.two .nil (.two (.loop ⟨[(11, .val false (.leaf rInt))], [], [], 48⟩ (.two .nil (.two (.two (.meet ⟨[(87, .val false (.leaf .bool))], [], [], 128⟩ .nil .nil) .nil) .nil))) .nil)) .nil))))) (sg := S52 N) (c := Try.f52.body.getD .skip) (rs := Try.f52.results.toList) Try.func52 (by kernel_rfl) (by kernel_rfl) rfl rfl rfl rfl (fun x => by kernel_rfl)
noncomputable def M.ref17_enumError (N : Nat) (a0 : rLaw.den) (a1 : Int) : Option (rLawError.den) :=
(idx a0.1 a1).bind fun x1 =>
(M.ref08_IsIdentifier N x1.1).bind fun y2 =>
(if (!y2) = true then
some ((2 : Int), ((1 : Int), (a1, (0 : Int))))
else
(M.ref17_nameTaken N a0 (1 : Int) a1 x1.1).bind fun y3 =>
(if y3 = true then
some ((7 : Int), ((1 : Int), (a1, (0 : Int))))
else
(if (decide ((x1.2.length : Int) = (0 : Int))) = true then
some ((5 : Int), ((1 : Int), (a1, (0 : Int))))
else
(if (decide ((16 : Int) < (x1.2.length : Int))) = true then
some ((4 : Int), ((1 : Int), (a1, (116 : Int))))
else
Join (J := rLawError.den) (R := rLawError.den) (Loop (S := Int × rLawError.den) (X := (rLawError.den) ⊕ (rLawError.den)) (fun s5 =>
(if (decide (s5.1 < (x1.2.length : Int))) = true then
Join (J := rLawError.den) (R := (Int × rLawError.den) ⊕ ((rLawError.den) ⊕ (rLawError.den))) ((idx x1.2 s5.1).bind fun x7 =>
(M.ref08_IsIdentifier N x7).bind fun y8 =>
(if (!y8) = true then
some (Sum.inr (Sum.inr (Sum.inr ((2 : Int), (s5.2.2.1, (s5.2.2.2.1, IntKind.i64.wrap ((100 : Int) + s5.1)))))))
else
Loop (S := Int) (X := (rLawError.den) ⊕ ((Int × rLawError.den) ⊕ ((rLawError.den) ⊕ (rLawError.den)))) (fun s9 =>
(if (decide (s9 < s5.1)) = true then
(idx x1.2 s9).bind fun x10 =>
(idx x1.2 s5.1).bind fun x11 =>
(if (decide (x10 = x11)) = true then
some (Sum.inr (Sum.inr (Sum.inr (Sum.inr ((7 : Int), (s5.2.2.1, (s5.2.2.2.1, IntKind.i64.wrap ((100 : Int) + s5.1))))))))
else
some (Sum.inl (IntKind.i64.wrap (s9 + (1 : Int)))))
else
some (Sum.inr (Sum.inl (s5.2.1, (s5.2.2.1, (s5.2.2.2.1, IntKind.i64.wrap ((100 : Int) + s5.1)))))))) N (0 : Int))) fun j6 =>
some (Sum.inl (IntKind.i64.wrap (s5.1 + (1 : Int)), j6))
else
some (Sum.inr (Sum.inl s5.2)))) N ((0 : Int), ((0 : Int), ((1 : Int), (a1, (0 : Int)))))) fun j4 =>
some ((0 : Int), ((0 : Int), ((0 : Int), (0 : Int))))))))
noncomputable def S46 (N : Nat) : Sig := { inn := ⟨[(0, .val true (.leaf rLaw)), (1, .val false (.leaf rInt))], [], [], 0⟩, out := ⟨[(0, .val true (.leaf rLawError))], [], [], 0⟩, fn := fun (x : rLaw.den × Int) => M.ref17_enumError N x.1 x.2 }
theorem W46 (N : Nat) : FnOK Try.prog 46 (S46 N) := fn_ok (E := ⟨tabs, [(51, S51 N), (52, S52 N)], (tabcons (W51 N) (tabcons (W52 N) tabnil)), mixed, false⟩) (N := N) (a := (.two .nil (.two .nil (.two .nil (.two .nil (.two .nil (.two .nil (.two .nil (.join ⟨[], [(176, .box 77 (.leaf rLawError))], [], 481⟩ (.two .nil (.two (.loop ⟨[(7, .val false (.leaf rInt))], [(176, .box 77 (.leaf rLawError))], [], 497⟩ (.two .nil (.join ⟨[], [(176, .box 77 (.leaf rLawError))], [], 578⟩ (.two (.two .nil (.two .nil (.two .nil (.two (.loop ⟨[(8, .val false (.leaf rInt))], [], [], 769⟩ .nil) .nil)))) .nil) .nil))) .nil)) .nil))))))))) (sg := S46 N) (c := Try.f46.body.getD .skip) (rs := Try.f46.results.toList) Try.func46 (by kernel_rfl) (by kernel_rfl) rfl rfl rfl rfl (fun x => by kernel_rfl)
noncomputable def M.ref09_ValidType (N : Nat) (a0 : rType.den) (a1 : List rEnum.den) : Option (Bool) :=
(if (decide (a0.1 = (6 : Int))) = true then
((if (decide ((0 : Int) ≤ a0.2)) = true then
some (decide (a0.2 < (a1.length : Int)))
else
some false) : Option (Bool)).bind fun j1 =>
some j1
else
((if (decide ((1 : Int) ≤ a0.1)) = true then
(if (decide (a0.1 ≤ (5 : Int))) = true then
some (decide (a0.2 = (0 : Int)))
else
some false)
else
some false) : Option (Bool)).bind fun j2 =>
some j2)
noncomputable def S60 (N : Nat) : Sig := { inn := ⟨[(0, .val true (.leaf rType)), (1, .val false (.leaf (.slice rEnum)))], [], [], 0⟩, out := ⟨[(0, .val false (.leaf .bool))], [], [], 0⟩, fn := fun (x : rType.den × List rEnum.den) => M.ref09_ValidType N x.1 x.2 }
theorem W60 (N : Nat) : FnOK Try.prog 60 (S60 N) := fn_ok (E := ⟨tabs, [], tabnil, mixed, false⟩) (N := N) (a := (.two .nil (.two (.two .nil (.two (.meet ⟨[(4, .val false (.leaf .bool))], [], [], 80⟩ .nil .nil) .nil)) (.meet ⟨[(4, .val false (.leaf .bool))], [], [], 80⟩ .nil .nil)))) (sg := S60 N) (c := Try.f60.body.getD .skip) (rs := Try.f60.results.toList) Try.func60 (by kernel_rfl) (by kernel_rfl) rfl rfl rfl rfl (fun x => by kernel_rfl)
noncomputable def M.ref05_Valid (N : Nat) (a0 : rType.den) : Option (Bool) :=
((if (decide ((0 : Int) ≤ a0.1)) = true then
(if (decide (a0.1 ≤ a0.2)) = true then
some (decide (a0.2 ≤ (109573 : Int)))
else
some false)
else
some false) : Option (Bool)).bind fun j1 =>
some j1
noncomputable def S64 (N : Nat) : Sig := { inn := ⟨[(0, .val true (.leaf rType))], [], [], 0⟩, out := ⟨[(0, .val false (.leaf .bool))], [], [], 0⟩, fn := fun (x : rType.den) => M.ref05_Valid N x }
theorem W64 (N : Nat) : FnOK Try.prog 64 (S64 N) := fn_ok (E := ⟨tabs, [], tabnil, mixed, false⟩) (N := N) (a := (.two .nil (.meet ⟨[(2, .val false (.leaf .bool))], [], [], 32⟩ .nil .nil))) (sg := S64 N) (c := Try.f64.body.getD .skip) (rs := Try.f64.results.toList) Try.func64 (by kernel_rfl) (by kernel_rfl) rfl rfl rfl rfl (fun x => by kernel_rfl)
noncomputable def M.ref09_Bounds (N : Nat) (a0 : rType.den) (a1 : List rEnum.den) : Option (Int × Int) :=
(M.ref09_ValidType N a0 a1).bind fun y1 =>
(if (!y1) = true then
some ((0 : Int), (-1 : Int))
else
(if (decide (a0.1 = (1 : Int))) = true then
some ((0 : Int), (1 : Int))
else
(if (decide (a0.1 = (2 : Int))) = true then
some ((-1000000000000 : Int), (1000000000000 : Int))
else
(if (decide (a0.1 = (3 : Int))) = true then
some ((-1000000000000000 : Int), (1000000000000000 : Int))
else
(if (decide (a0.1 = (4 : Int))) = true then
some ((-1000000000 : Int), (1000000000 : Int))
else
(if (decide (a0.1 = (5 : Int))) = true then
some ((0 : Int), (109572 : Int))
else
(idx a1 a0.2).bind fun x2 =>
some ((0 : Int), IntKind.i64.wrap ((x2.2.length : Int) - (1 : Int)))))))))
noncomputable def S77 (N : Nat) : Sig := { inn := ⟨[(0, .val true (.leaf rType)), (1, .val false (.leaf (.slice rEnum)))], [], [], 0⟩, out := ⟨[(0, .val false (.leaf rInt)), (1, .val false (.leaf rInt))], [], [], 0⟩, fn := fun (x : rType.den × List rEnum.den) => M.ref09_Bounds N x.1 x.2 }
theorem W77 (N : Nat) : FnOK Try.prog 77 (S77 N) := fn_ok (E := ⟨tabs, [(60, S60 N)], (tabcons (W60 N) tabnil), mixed, false⟩) (N := N) (a := .nil) (sg := S77 N) (c := Try.f77.body.getD .skip) (rs := Try.f77.results.toList) Try.func77 (by kernel_rfl) (by kernel_rfl) rfl rfl rfl rfl (fun x => by kernel_rfl)
noncomputable def M.ref09_In (N : Nat) (a0 : Int) (a1 : rType.den) (a2 : List rEnum.den) : Option (Bool) :=
(M.ref09_Bounds N a1 a2).bind fun y1 =>
((if (decide (y1.1 ≤ a0)) = true then
some (decide (a0 ≤ y1.2))
else
some false) : Option (Bool)).bind fun j2 =>
some j2
noncomputable def S71 (N : Nat) : Sig := { inn := ⟨[(0, .val false (.leaf rInt)), (1, .val true (.leaf rType)), (2, .val false (.leaf (.slice rEnum)))], [], [], 0⟩, out := ⟨[(0, .val false (.leaf .bool))], [], [], 0⟩, fn := fun (x : Int × rType.den × List rEnum.den) => M.ref09_In N x.1 x.2.1 x.2.2 }
theorem W71 (N : Nat) : FnOK Try.prog 71 (S71 N) := fn_ok (E := ⟨tabs, [(77, S77 N)], (tabcons (W77 N) tabnil), mixed, false⟩) (N := N) (a := (.two .nil (.two .nil (.meet ⟨[(6, .val false (.leaf .bool))], [], [], 160⟩ .nil .nil)))) (sg := S71 N) (c := Try.f71.body.getD .skip) (rs := Try.f71.results.toList) Try.func71 (by kernel_rfl) (by kernel_rfl) rfl rfl rfl rfl (fun x => by kernel_rfl)
noncomputable def M.ref12_wrong (N : Nat) (a0 : rRow.den) (a1 : rTable.den) (a2 : List rEnum.den) : Option (Bool) :=
((M.ref05_Valid N a0.1).bind fun y2 =>
(if (!y2) = true then
some true
else
(if (decide (a0.1.1 = a0.1.2)) = true then
some true
else
some (decide (a0.2.2.1 ≤ a0.2.1)))) : Option (Bool)).bind fun j1 =>
(if j1 = true then
some true
else
((M.ref09_In N a0.2.1 a1.2.1 a2).bind fun y4 =>
(if (!y4) = true then
some true
else
(M.ref09_In N (IntKind.i64.wrap (a0.2.2.1 - (1 : Int))) a1.2.1 a2).bind fun y5 =>
(if (!y5) = true then
some true
else
(M.ref09_In N a0.2.2.2 a1.2.2.1 a2).bind fun y6 =>
some (!y6))) : Option (Bool)).bind fun j3 =>
some j3)
noncomputable def S61 (N : Nat) : Sig := { inn := ⟨[(0, .val true (.leaf rRow)), (1, .val true (.leaf rTable)), (2, .val false (.leaf (.slice rEnum)))], [], [], 0⟩, out := ⟨[(0, .val false (.leaf .bool))], [], [], 0⟩, fn := fun (x : rRow.den × rTable.den × List rEnum.den) => M.ref12_wrong N x.1 x.2.1 x.2.2 }
theorem W61 (N : Nat) : FnOK Try.prog 61 (S61 N) := fn_ok (E := ⟨tabs, [(64, S64 N), (71, S71 N)], (tabcons (W64 N) (tabcons (W71 N) tabnil)), mixed, false⟩) (N := N) (a := (.two .nil (.two (.meet ⟨[(26, .val false (.leaf .bool))], [], [], 48⟩ .nil .nil) (.meet ⟨[(6, .val false (.leaf .bool))], [], [], 48⟩ .nil .nil)))) (sg := S61 N) (c := Try.f61.body.getD .skip) (rs := Try.f61.results.toList) Try.func61 (by kernel_rfl) (by kernel_rfl) rfl rfl rfl rfl (fun x => by kernel_rfl)
noncomputable def M.ref05_Intersect (N : Nat) (a0 : rType.den) (a1 : rType.den) : Option (rType.den × Bool) :=
((M.ref05_Valid N a0).bind fun y2 =>
(if (!y2) = true then
some true
else
(M.ref05_Valid N a1).bind fun y3 =>
some (!y3)) : Option (Bool)).bind fun j1 =>
(if j1 = true then
some (((0 : Int), (0 : Int)), false)
else
(if (decide ((if a1.2 < a0.2 then a1.2 else a0.2) ≤ (if a0.1 < a1.1 then a1.1 else a0.1))) = true then
some (((0 : Int), (0 : Int)), false)
else
some ((if a0.1 < a1.1 then a1.1 else a0.1, if a1.2 < a0.2 then a1.2 else a0.2), true)))
noncomputable def S72 (N : Nat) : Sig := { inn := ⟨[(0, .val true (.leaf rType)), (1, .val true (.leaf rType))], [], [], 0⟩, out := ⟨[(0, .val true (.leaf rType)), (1, .val false (.leaf .bool))], [], [], 0⟩, fn := fun (x : rType.den × rType.den) => M.ref05_Intersect N x.1 x.2 }
theorem W72 (N : Nat) : FnOK Try.prog 72 (S72 N) := fn_ok (E := ⟨tabs, [(64, S64 N)], (tabcons (W64 N) tabnil), mixed, false⟩) (N := N) (a := (.two .nil (.two (.meet ⟨[(14, .val false (.leaf .bool))], [], [], 64⟩ .nil .nil) .nil))) (sg := S72 N) (c := Try.f72.body.getD .skip) (rs := Try.f72.results.toList) Try.func72 (by kernel_rfl) (by kernel_rfl) rfl rfl rfl rfl (fun x => by kernel_rfl)
noncomputable def M.ref12_conflict (N : Nat) (a0 : rRow.den) (a1 : rRow.den) : Option (Bool) :=
(M.ref05_Intersect N a0.1 a1.1).bind fun y1 =>
((if y1.2 = true then
some (decide ((if a0.2.1 < a1.2.1 then a1.2.1 else a0.2.1) < (if a1.2.2.1 < a0.2.2.1 then a1.2.2.1 else a0.2.2.1)))
else
some false) : Option (Bool)).bind fun j2 =>
some j2
noncomputable def S62 (N : Nat) : Sig := { inn := ⟨[(0, .val true (.leaf rRow)), (1, .val true (.leaf rRow))], [], [], 0⟩, out := ⟨[(0, .val false (.leaf .bool))], [], [], 0⟩, fn := fun (x : rRow.den × rRow.den) => M.ref12_conflict N x.1 x.2 }
theorem W62 (N : Nat) : FnOK Try.prog 62 (S62 N) := fn_ok (E := ⟨tabs, [(72, S72 N)], (tabcons (W72 N) tabnil), mixed, false⟩) (N := N) (a := (.two .nil (.two .nil (.meet ⟨[(4, .val false (.leaf .bool))], [], [], 224⟩ .nil .nil)))) (sg := S62 N) (c := Try.f62.body.getD .skip) (rs := Try.f62.results.toList) Try.func62 (by kernel_rfl) (by kernel_rfl) rfl rfl rfl rfl (fun x => by kernel_rfl)
noncomputable def M.ref12_Validate (N : Nat) (a0 : rTable.den) (a1 : List rEnum.den) : Option (Int × Int) :=
(if (decide ((64 : Int) < (a0.2.2.2.length : Int))) = true then
some ((64 : Int), (4 : Int))
else
((M.ref09_ValidType N a0.2.1 a1).bind fun y2 =>
(if (!y2) = true then
some true
else
(M.ref09_ValidType N a0.2.2.1 a1).bind fun y3 =>
some (!y3)) : Option (Bool)).bind fun j1 =>
(if j1 = true then
some ((-1 : Int), (8 : Int))
else
Loop (S := Int) (X := Int × Int) (fun s4 =>
(if (decide (s4 < (a0.2.2.2.length : Int))) = true then
Join (J := Unit) (R := (Int) ⊕ (Int × Int)) ((idx a0.2.2.2 s4).bind fun x6 =>
(M.ref12_wrong N x6 a0 a1).bind fun y7 =>
(if y7 = true then
some (Sum.inr (Sum.inr (s4, (3 : Int))))
else
Loop (S := Int) (X := (Unit) ⊕ ((Int) ⊕ (Int × Int))) (fun s8 =>
(if (decide (s8 < s4)) = true then
(idx a0.2.2.2 s8).bind fun x9 =>
(idx a0.2.2.2 s4).bind fun x10 =>
(M.ref12_conflict N x9 x10).bind fun y11 =>
(if y11 = true then
some (Sum.inr (Sum.inr (Sum.inr (s4, (11 : Int)))))
else
some (Sum.inl (IntKind.i64.wrap (s8 + (1 : Int)))))
else
some (Sum.inr (Sum.inl ())))) N (0 : Int))) fun j5 =>
some (Sum.inl (IntKind.i64.wrap (s4 + (1 : Int))))
else
some (Sum.inr ((0 : Int), (0 : Int))))) N (0 : Int)))
noncomputable def S53 (N : Nat) : Sig := { inn := ⟨[(0, .val true (.leaf rTable)), (1, .val false (.leaf (.slice rEnum)))], [], [], 0⟩, out := ⟨[(0, .val false (.leaf rInt)), (1, .val false (.leaf rInt))], [], [], 0⟩, fn := fun (x : rTable.den × List rEnum.den) => M.ref12_Validate N x.1 x.2 }
theorem W53 (N : Nat) : FnOK Try.prog 53 (S53 N) := fn_ok (E := ⟨tabs, [(60, S60 N), (61, S61 N), (62, S62 N)], (tabcons (W60 N) (tabcons (W61 N) (tabcons (W62 N) tabnil))), mixed, false⟩) (N := N) (a := (.two .nil (.two .nil (.two (.meet ⟨[(23, .val false (.leaf .bool))], [], [], 112⟩ .nil .nil) (.two (.two .nil (.two (.loop ⟨[(6, .val false (.leaf rInt))], [], [], 128⟩ (.two .nil (.join ⟨[], [], [], 208⟩ (.two (.two .nil (.two .nil (.two (.loop ⟨[(7, .val false (.leaf rInt))], [], [], 352⟩ .nil) .nil))) .nil) .nil))) .nil)) .nil))))) (sg := S53 N) (c := Try.f53.body.getD .skip) (rs := Try.f53.results.toList) Try.func53 (by kernel_rfl) (by kernel_rfl) rfl rfl rfl rfl (fun x => by kernel_rfl)
noncomputable def M.ref17_tableError (N : Nat) (a0 : rLaw.den) (a1 : Int) : Option (rLawError.den) :=
(idx a0.2.1 a1).bind fun x1 =>
(M.ref08_IsIdentifier N x1.1).bind fun y2 =>
(if (!y2) = true then
some ((2 : Int), ((2 : Int), (a1, (0 : Int))))
else
(M.ref17_nameTaken N a0 (2 : Int) a1 x1.1).bind fun y3 =>
(if y3 = true then
some ((7 : Int), ((2 : Int), (a1, (0 : Int))))
else
(M.ref12_Validate N x1 a0.1).bind fun y4 =>
(if (decide (y4.2 = (0 : Int))) = true then
some ((0 : Int), ((0 : Int), ((0 : Int), (0 : Int))))
else
((if (decide ((0 : Int) ≤ y4.1)) = true then
some (y4.2, ((2 : Int), (a1, IntKind.i64.wrap ((100 : Int) + y4.1))))
else
some (y4.2, ((2 : Int), (a1, (0 : Int))))) : Option (rLawError.den)).bind fun j5 =>
some j5)))
noncomputable def S47 (N : Nat) : Sig := { inn := ⟨[(0, .val true (.leaf rLaw)), (1, .val false (.leaf rInt))], [], [], 0⟩, out := ⟨[(0, .val true (.leaf rLawError))], [], [], 0⟩, fn := fun (x : rLaw.den × Int) => M.ref17_tableError N x.1 x.2 }
theorem W47 (N : Nat) : FnOK Try.prog 47 (S47 N) := fn_ok (E := ⟨tabs, [(51, S51 N), (52, S52 N), (53, S53 N)], (tabcons (W51 N) (tabcons (W52 N) (tabcons (W53 N) tabnil))), mixed, false⟩) (N := N) (a := (.two .nil (.two .nil (.two .nil (.two .nil (.two .nil (.two .nil (.two .nil (.two .nil (.meet ⟨[], [(176, .box 77 (.leaf rLawError))], [], 577⟩ .nil .nil)))))))))) (sg := S47 N) (c := Try.f47.body.getD .skip) (rs := Try.f47.results.toList) Try.func47 (by kernel_rfl) (by kernel_rfl) rfl rfl rfl rfl (fun x => by kernel_rfl)
noncomputable def M.ref17_hasField (N : Nat) (a0 : List rField.den) (a1 : Int) (a2 : ByteArray) : Option (Bool) :=
Loop (S := Int) (X := Bool) (fun s1 =>
((if (decide (s1 < a1)) = true then
some (decide (s1 < (a0.length : Int)))
else
some false) : Option (Bool)).bind fun j2 =>
(if j2 = true then
(idx a0 s1).bind fun x3 =>
(if (decide (x3.1 = a2)) = true then
some (Sum.inr true)
else
some (Sum.inl (IntKind.i64.wrap (s1 + (1 : Int)))))
else
some (Sum.inr false))) N (0 : Int)
noncomputable def S63 (N : Nat) : Sig := { inn := ⟨[(0, .val false (.leaf (.slice rField))), (1, .val false (.leaf rInt)), (2, .val false (.leaf .str))], [], [], 0⟩, out := ⟨[(0, .val false (.leaf .bool))], [], [], 0⟩, fn := fun (x : (List rField.den) × Int × ByteArray) => M.ref17_hasField N x.1 x.2.1 x.2.2 }
theorem W63 (N : Nat) : FnOK Try.prog 63 (S63 N) := fn_ok (E := ⟨tabs, [], tabnil, mixed, false⟩) (N := N) (a := (.two .nil (.two (.two .nil (.two (.loop ⟨[(7, .val false (.leaf rInt))], [], [], 32⟩ (.two (.meet ⟨[(16, .val false (.leaf .bool))], [], [], 32⟩ .nil .nil) .nil)) .nil)) .nil))) (sg := S63 N) (c := Try.f63.body.getD .skip) (rs := Try.f63.results.toList) Try.func63 (by kernel_rfl) (by kernel_rfl) rfl rfl rfl rfl (fun x => by kernel_rfl)
noncomputable def M.ref17_fieldError (N : Nat) (a0 : rLaw.den) (a1 : Int) : Option (rLawError.den) :=
(idx a0.2.2 a1).bind fun x1 =>
Join (J := Unit) (R := rLawError.den) (Loop (S := Int) (X := (Unit) ⊕ (rLawError.den)) (fun s3 =>
(if (decide (s3 < (x1.2.2.1.length : Int))) = true then
((idx x1.2.2.1 s3).bind fun x5 =>
(M.ref08_IsIdentifier N x5.1).bind fun y6 =>
(if (!y6) = true then
some ((2 : Int), ((3 : Int), (a1, IntKind.i64.wrap ((100 : Int) + s3))))
else
(idx x1.2.2.1 s3).bind fun x7 =>
(M.ref17_hasField N x1.2.2.1 s3 x7.1).bind fun y8 =>
(if y8 = true then
some ((7 : Int), ((3 : Int), (a1, IntKind.i64.wrap ((100 : Int) + s3))))
else
(idx x1.2.2.1 s3).bind fun x9 =>
(M.ref09_ValidType N x9.2 a0.1).bind fun y10 =>
(if (!y10) = true then
some ((8 : Int), ((3 : Int), (a1, IntKind.i64.wrap ((100 : Int) + s3))))
else
some ((0 : Int), ((3 : Int), (a1, IntKind.i64.wrap ((100 : Int) + s3))))))) : Option (rLawError.den)).bind fun j4 =>
(if (!decide (j4.1 = (0 : Int))) = true then
some (Sum.inr (Sum.inr j4))
else
some (Sum.inl (IntKind.i64.wrap (s3 + (1 : Int)))))
else
some (Sum.inr (Sum.inl ())))) N (0 : Int)) fun j2 =>
Join (J := Unit) (R := rLawError.den) (Loop (S := Int) (X := (Unit) ⊕ (rLawError.den)) (fun s12 =>
(if (decide (s12 < (x1.2.2.2.1.length : Int))) = true then
((idx x1.2.2.2.1 s12).bind fun x14 =>
(M.ref08_IsIdentifier N x14.1).bind fun y15 =>
(if (!y15) = true then
some ((2 : Int), ((3 : Int), (a1, IntKind.i64.wrap ((200 : Int) + s12))))
else
((idx x1.2.2.2.1 s12).bind fun x17 =>
(M.ref17_hasField N x1.2.2.1 (x1.2.2.1.length : Int) x17.1).bind fun y18 =>
(if y18 = true then
some true
else
(idx x1.2.2.2.1 s12).bind fun x19 =>
(M.ref17_hasField N x1.2.2.2.1 s12 x19.1).bind fun y20 =>
some y20) : Option (Bool)).bind fun j16 =>
(if j16 = true then
some ((7 : Int), ((3 : Int), (a1, IntKind.i64.wrap ((200 : Int) + s12))))
else
(idx x1.2.2.2.1 s12).bind fun x21 =>
(M.ref09_ValidType N x21.2 a0.1).bind fun y22 =>
(if (!y22) = true then
some ((8 : Int), ((3 : Int), (a1, IntKind.i64.wrap ((200 : Int) + s12))))
else
some ((0 : Int), ((3 : Int), (a1, IntKind.i64.wrap ((200 : Int) + s12))))))) : Option (rLawError.den)).bind fun j13 =>
(if (!decide (j13.1 = (0 : Int))) = true then
some (Sum.inr (Sum.inr j13))
else
some (Sum.inl (IntKind.i64.wrap (s12 + (1 : Int)))))
else
some (Sum.inr (Sum.inl ())))) N (0 : Int)) fun j11 =>
some ((0 : Int), ((0 : Int), ((0 : Int), (0 : Int))))
noncomputable def S54 (N : Nat) : Sig := { inn := ⟨[(0, .val true (.leaf rLaw)), (1, .val false (.leaf rInt))], [], [], 0⟩, out := ⟨[(0, .val true (.leaf rLawError))], [], [], 0⟩, fn := fun (x : rLaw.den × Int) => M.ref17_fieldError N x.1 x.2 }
theorem W54 (N : Nat) : FnOK Try.prog 54 (S54 N) := fn_ok (E := ⟨tabs, [(51, S51 N), (60, S60 N), (63, S63 N)], (tabcons (W51 N) (tabcons (W60 N) (tabcons (W63 N) tabnil))), mixed, false⟩) (N := N) (a := (.two .nil (.two .nil (.join ⟨[], [], [], 144⟩ (.two .nil (.two (.loop ⟨[(6, .val false (.leaf rInt))], [], [], 160⟩ (.two .nil (.two (.two (.two .nil (.meet ⟨[], [(304, .box 77 (.leaf rLawError))], [], 337⟩ .nil .nil)) .nil) .nil))) .nil)) (.join ⟨[], [], [], 144⟩ (.two .nil (.two (.loop ⟨[(8, .val false (.leaf rInt))], [], [], 160⟩ (.two .nil (.two (.two (.two .nil (.meet ⟨[], [(304, .box 77 (.leaf rLawError))], [], 337⟩ (.two .nil (.two .nil (.meet ⟨[(104, .val false (.leaf .bool))], [], [], 464⟩ .nil .nil))) .nil)) .nil) .nil))) .nil)) .nil))))) (sg := S54 N) (c := Try.f54.body.getD .skip) (rs := Try.f54.results.toList) Try.func54 (by kernel_rfl) (by kernel_rfl) rfl rfl rfl rfl (fun x => by kernel_rfl)
noncomputable def M.ref17_plainText (N : Nat) (a0 : ByteArray) : Option (Bool) :=
Loop (S := Int) (X := Bool) (fun s1 =>
(if (decide (s1 < (a0.size : Int))) = true then
((byteA a0 s1).bind fun x3 =>
(if (decide (x3 < (32 : Int))) = true then
some true
else
(byteA a0 s1).bind fun x4 =>
(if (decide ((126 : Int) < x4)) = true then
some true
else
(byteA a0 s1).bind fun x5 =>
some (decide (x5 = (34 : Int))))) : Option (Bool)).bind fun j2 =>
(if j2 = true then
some (Sum.inr false)
else
some (Sum.inl (IntKind.i64.wrap (s1 + (1 : Int)))))
else
some (Sum.inr (decide ((a0.size : Int) ≤ (64 : Int)))))) N (0 : Int)
noncomputable def S65 (N : Nat) : Sig := { inn := ⟨[(0, .val false (.leaf .str))], [], [], 0⟩, out := ⟨[(0, .val false (.leaf .bool))], [], [], 0⟩, fn := fun (x : ByteArray) => M.ref17_plainText N x }
theorem W65 (N : Nat) : FnOK Try.prog 65 (S65 N) := fn_ok (E := ⟨tabs, [], tabnil, mixed, false⟩) (N := N) (a := (.two .nil (.two (.two .nil (.two (.loop ⟨[(3, .val false (.leaf rInt))], [], [], 32⟩ (.two .nil (.two (.two (.meet ⟨[(25, .val false (.leaf .bool))], [], [], 96⟩ .nil .nil) .nil) .nil))) .nil)) .nil))) (sg := S65 N) (c := Try.f65.body.getD .skip) (rs := Try.f65.results.toList) Try.func65 (by kernel_rfl) (by kernel_rfl) rfl rfl rfl rfl (fun x => by kernel_rfl)
noncomputable def M.ref17_fieldTypes (N : Nat) (a0 : List rField.den) : Option (List rType.den) :=
Loop (S := Int × List rType.den) (X := List rType.den) (fun s1 =>
(if (decide (s1.1 < (a0.length : Int))) = true then
(idx a0 s1.1).bind fun x2 =>
(appA s1.2 ([x2.2] : List rType.den)).bind fun l3 =>
some (Sum.inl (IntKind.i64.wrap (s1.1 + (1 : Int)), l3))
else
some (Sum.inr s1.2))) N ((0 : Int), ([] : List rType.den))
noncomputable def S73 (N : Nat) : Sig := { inn := ⟨[(0, .val false (.leaf (.slice rField)))], [], [], 0⟩, out := ⟨[(0, .val false (.own 0))], [(0, .own 53 rType)], [], 1⟩, fn := fun (x : List rField.den) => M.ref17_fieldTypes N x }
theorem W73 (N : Nat) : FnOK Try.prog 73 (S73 N) := fn_ok (E := ⟨tabs, [], tabnil, mixed, false⟩) (N := N) (a := (.two .nil (.two .nil (.two (.two .nil (.two (.loop ⟨[(3, .val false (.own 48)), (4, .val false (.leaf rInt))], [(48, .own 53 rType)], [], 49⟩ .nil) .nil)) .nil)))) (sg := S73 N) (c := Try.f73.body.getD .skip) (rs := Try.f73.results.toList) Try.func73 (by kernel_rfl) (by kernel_rfl) rfl rfl rfl rfl (fun x => by kernel_rfl)
noncomputable def M.ref17_Signature (N : Nat) (a0 : rLaw.den) (a1 : Int) : Option ((List rEnum.den) × (List rTable.den) × Bool × (List rType.den) × (List rType.den) × List rType.den) :=
((if (decide (a1 < (0 : Int))) = true then
some true
else
some (decide ((a0.2.2.length : Int) ≤ a1))) : Option (Bool)).bind fun j1 =>
(if j1 = true then
some (([] : List rEnum.den), ([] : List rTable.den), false, ([] : List rType.den), ([] : List rType.den), ([] : List rType.den))
else
(idx a0.2.2 a1).bind fun x2 =>
(M.ref17_fieldTypes N x2.2.2.1).bind fun y3 =>
(M.ref17_fieldTypes N x2.2.2.2.1).bind fun y4 =>
(((if (decide ((0 : Int) ≤ x2.2.1)) = true then
some (decide (x2.2.1 < (a0.2.2.length : Int)))
else
some false) : Option (Bool)).bind fun j6 =>
(if j6 = true then
(idx a0.2.2 x2.2.1).bind fun x7 =>
(M.ref17_fieldTypes N x7.2.2.2.1).bind fun y8 =>
some (y3, y4, a0.1, a0.2.1, true, y8)
else
some (y3, y4, a0.1, a0.2.1, false, ([] : List rType.den))) : Option ((List rType.den) × (List rType.den) × (List rEnum.den) × (List rTable.den) × Bool × List rType.den)).bind fun j5 =>
some (j5.2.2.1, j5.2.2.2.1, j5.2.2.2.2.1, j5.1, j5.2.1, j5.2.2.2.2.2))
noncomputable def S66 (N : Nat) : Sig := { inn := ⟨[(0, .val true (.leaf rLaw)), (1, .val false (.leaf rInt))], [], [], 0⟩, out := ⟨[(0, .val true (.pair (.leaf (.slice rEnum)) (.pair (.leaf (.slice rTable)) (.pair (.own 0) (.pair (.own 1) (.pair (.own 2) (.leaf .bool)))))))], [(0, .own 53 rType), (1, .own 53 rType), (2, .own 53 rType)], [], 3⟩, fn := fun (x : rLaw.den × Int) => M.ref17_Signature N x.1 x.2 }
theorem W66 (N : Nat) : FnOK Try.prog 66 (S66 N) := fn_ok (E := ⟨tabs, [(73, S73 N)], (tabcons (W73 N) tabnil), mixed, false⟩) (N := N) (a := (.two .nil (.two (.meet ⟨[(15, .val false (.leaf .bool))], [], [], 32⟩ .nil .nil) (.two .nil (.two .nil (.meet ⟨[], [(240, .own 53 rType), (288, .own 53 rType), (320, .box 113 (.pair (.leaf (.slice rEnum)) (.pair (.leaf (.slice rTable)) (.pair (.own 240) (.pair (.own 288) (.pair (.own 352) (.leaf .bool))))))), (352, .own 53 rType)], [], 356⟩ (.meet ⟨[(43, .val false (.leaf .bool))], [], [], 352⟩ .nil .nil) .nil)))))) (sg := S66 N) (c := Try.f66.body.getD .skip) (rs := Try.f66.results.toList) Try.func66 (by kernel_rfl) (by kernel_rfl) rfl rfl rfl rfl (fun x => by kernel_rfl)
noncomputable def M.ref10_Arity (N : Nat) (a0 : Int) : Option (Int) :=
((if (decide ((1 : Int) ≤ a0)) = true then
(if (decide (a0 ≤ (9 : Int))) = true then
some true
else
(if (decide ((35 : Int) ≤ a0)) = true then
some (decide (a0 ≤ (39 : Int)))
else
some false))
else
(if (decide ((35 : Int) ≤ a0)) = true then
some (decide (a0 ≤ (39 : Int)))
else
some false)) : Option (Bool)).bind fun j1 =>
(if j1 = true then
some (0 : Int)
else
((if (decide (a0 = (10 : Int))) = true then
some (decide (a0 = (10 : Int)))
else
(if (decide (a0 = (25 : Int))) = true then
some (decide (a0 = (25 : Int)))
else
(if (decide (a0 = (31 : Int))) = true then
some (decide (a0 = (31 : Int)))
else
(if (decide (a0 = (32 : Int))) = true then
some (decide (a0 = (32 : Int)))
else
(if (decide (a0 = (33 : Int))) = true then
some (decide (a0 = (33 : Int)))
else
some (decide (a0 = (34 : Int)))))))) : Option (Bool)).bind fun j2 =>
(if j2 = true then
some (1 : Int)
else
(if (decide (a0 = (26 : Int))) = true then
some (3 : Int)
else
((if (decide ((11 : Int) ≤ a0)) = true then
some (decide (a0 ≤ (30 : Int)))
else
some false) : Option (Bool)).bind fun j3 =>
(if j3 = true then
some (2 : Int)
else
some (-1 : Int)))))
noncomputable def S79 (N : Nat) : Sig := { inn := ⟨[(0, .val false (.leaf rInt))], [], [], 0⟩, out := ⟨[(0, .val false (.leaf rInt))], [], [], 0⟩, fn := fun (x : Int) => M.ref10_Arity N x }
theorem W79 (N : Nat) : FnOK Try.prog 79 (S79 N) := fn_ok (E := ⟨tabs, [], tabnil, mixed, false⟩) (N := N) (a := (.two .nil (.two (.meet ⟨[(16, .val false (.leaf .bool))], [], [], 16⟩ .nil .nil) (.two (.two .nil (.two (.meet ⟨[(18, .val false (.leaf .bool))], [], [], 32⟩ .nil .nil) .nil)) (.two (.meet ⟨[(32, .val false (.leaf .bool))], [], [], 64⟩ .nil .nil) .nil))))) (sg := S79 N) (c := Try.f79.body.getD .skip) (rs := Try.f79.results.toList) Try.func79 (by kernel_rfl) (by kernel_rfl) rfl rfl rfl rfl (fun x => by kernel_rfl)
noncomputable def M.ref10_structure (N : Nat) (a0 : List rType.den) : Option (Int × Int × List Int) :=
(if (decide ((48 : Int) < (a0.length : Int))) = true then
some ((0 : Int), (4 : Int), ([] : List Int))
else
(if (decide ((a0.length : Int) = (0 : Int))) = true then
some ((0 : Int), (5 : Int), ([] : List Int))
else
Join (J := (List Int) × List Int) (R := Int × Int × List Int) (Loop (S := Int × (List Int) × List Int) (X := ((List Int) × List Int) ⊕ (Int × Int × List Int)) (fun s2 =>
(if (decide (s2.1 < (a0.length : Int))) = true then
(idx a0 s2.1).bind fun x3 =>
(M.ref10_Arity N x3.1).bind fun y4 =>
(if (decide (y4 < (0 : Int))) = true then
some (Sum.inr (Sum.inr (s2.1, (2 : Int), ([] : List Int))))
else
(if (decide ((s2.2.2.length : Int) < y4)) = true then
some (Sum.inr (Sum.inr (s2.1, (5 : Int), ([] : List Int))))
else
((if (decide ((0 : Int) < y4)) = true then
(idx s2.2.2 (IntKind.i64.wrap ((s2.2.2.length : Int) - y4))).bind fun x6 =>
(cutA s2.2.2 (0 : Int) (IntKind.i64.wrap ((s2.2.2.length : Int) - y4))).bind fun l7 =>
some (x6, l7)
else
some (s2.1, s2.2.2)) : Option (Int × List Int)).bind fun j5 =>
(appA j5.2 ([j5.1] : List Int)).bind fun l8 =>
(appA s2.2.1 ([j5.1] : List Int)).bind fun l9 =>
(if (decide ((12 : Int) < (l8.length : Int))) = true then
some (Sum.inr (Sum.inr (s2.1, (16 : Int), ([] : List Int))))
else
some (Sum.inl (IntKind.i64.wrap (s2.1 + (1 : Int)), l9, l8)))))
else
some (Sum.inr (Sum.inl (s2.2.1, s2.2.2))))) N ((0 : Int), ([] : List Int), ([] : List Int))) fun j1 =>
(if (decide ((1 : Int) < (j1.2.length : Int))) = true then
some ((a0.length : Int), (4 : Int), ([] : List Int))
else
some ((0 : Int), (0 : Int), j1.1))))
noncomputable def S78 (N : Nat) : Sig := { inn := ⟨[(0, .val false (.leaf (.slice rType)))], [], [], 0⟩, out := ⟨[(0, .val false (.own 0)), (1, .val false (.leaf rInt)), (2, .val false (.leaf rInt))], [(0, .own 3 rInt)], [], 1⟩, fn := fun (x : List rType.den) => M.ref10_structure N x }
theorem W78 (N : Nat) : FnOK Try.prog 78 (S78 N) := fn_ok (E := ⟨tabs, [(79, S79 N)], (tabcons (W79 N) tabnil), mixed, false⟩) (N := N) (a := (.two .nil (.two .nil (.two .nil (.two .nil (.join ⟨[(5, .val false (.own 176)), (6, .val false (.own 177))], [(176, .own 3 rInt), (177, .own 3 rInt)], [], 178⟩ (.two .nil (.two (.loop ⟨[(5, .val false (.own 192)), (6, .val false (.own 193)), (7, .val false (.leaf rInt))], [(192, .own 3 rInt), (193, .own 3 rInt)], [], 194⟩ (.two .nil (.two (.two (.two .nil (.two .nil (.two .nil (.two .nil (.meet ⟨[(6, .val false (.own 498)), (9, .val false (.leaf rInt))], [(498, .own 3 rInt)], [193], 499⟩ .nil .nil))))) .nil) .nil))) .nil)) .nil)))))) (sg := S78 N) (c := Try.f78.body.getD .skip) (rs := Try.f78.results.toList) Try.func78 (by kernel_rfl) (by kernel_rfl) rfl rfl rfl rfl (fun x => by kernel_rfl)
noncomputable def M.ref10_meaning (N : Nat) (a0 : Int) : Option (Bool) :=
((if (decide ((1 : Int) ≤ a0)) = true then
(if (decide (a0 ≤ (8 : Int))) = true then
some true
else
(if (decide ((36 : Int) ≤ a0)) = true then
some (decide (a0 ≤ (39 : Int)))
else
some false))
else
(if (decide ((36 : Int) ≤ a0)) = true then
some (decide (a0 ≤ (39 : Int)))
else
some false)) : Option (Bool)).bind fun j1 =>
(if j1 = true then
some true
else
((if (decide (a0 = (14 : Int))) = true then
some true
else
(if (decide (a0 = (15 : Int))) = true then
some true
else
(if (decide (a0 = (16 : Int))) = true then
some true
else
(if (decide (a0 = (33 : Int))) = true then
some true
else
some (decide (a0 = (34 : Int))))))) : Option (Bool)).bind fun j2 =>
some j2)
noncomputable def S82 (N : Nat) : Sig := { inn := ⟨[(0, .val false (.leaf rInt))], [], [], 0⟩, out := ⟨[(0, .val false (.leaf .bool))], [], [], 0⟩, fn := fun (x : Int) => M.ref10_meaning N x }
theorem W82 (N : Nat) : FnOK Try.prog 82 (S82 N) := fn_ok (E := ⟨tabs, [], tabnil, mixed, false⟩) (N := N) (a := (.two .nil (.two (.meet ⟨[(16, .val false (.leaf .bool))], [], [], 16⟩ .nil .nil) (.meet ⟨[(2, .val false (.leaf .bool))], [], [], 16⟩ .nil .nil)))) (sg := S82 N) (c := Try.f82.body.getD .skip) (rs := Try.f82.results.toList) Try.func82 (by kernel_rfl) (by kernel_rfl) rfl rfl rfl rfl (fun x => by kernel_rfl)
noncomputable def M.ref10_kind (N : Nat) (a0 : Int) : Option (rType.den) :=
some (a0, (0 : Int))
noncomputable def S88 (N : Nat) : Sig := { inn := ⟨[(0, .val false (.leaf rInt))], [], [], 0⟩, out := ⟨[(0, .val true (.leaf rType))], [], [], 0⟩, fn := fun (x : Int) => M.ref10_kind N x }
theorem W88 (N : Nat) : FnOK Try.prog 88 (S88 N) := fn_ok (E := ⟨tabs, [], tabnil, mixed, false⟩) (N := N) (a := .nil) (sg := S88 N) (c := Try.f88.body.getD .skip) (rs := Try.f88.results.toList) Try.func88 (by kernel_rfl) (by kernel_rfl) rfl rfl rfl rfl (fun x => by kernel_rfl)
noncomputable def M.ref10_ranged (N : Nat) (a0 : rType.den) (a1 : rSignature.den) : Option (Bool) :=
((if (decide (a0.1 = (1 : Int))) = true then
some (decide (a0.1 = (1 : Int)))
else
(if (decide (a0.1 = (2 : Int))) = true then
some (decide (a0.1 = (2 : Int)))
else
(if (decide (a0.1 = (3 : Int))) = true then
some (decide (a0.1 = (3 : Int)))
else
(if (decide (a0.1 = (4 : Int))) = true then
some (decide (a0.1 = (4 : Int)))
else
some (decide (a0.1 = (5 : Int))))))) : Option (Bool)).bind fun j1 =>
(if j1 = true then
(M.ref10_kind N a0.1).bind fun y2 =>
(M.ref09_Bounds N y2 a1.1).bind fun y3 =>
((if (decide (y3.1 ≤ a0.2)) = true then
some (decide (a0.2 ≤ y3.2))
else
some false) : Option (Bool)).bind fun j4 =>
some j4
else
((if (decide (a0.1 = (14 : Int))) = true then
some (decide (a0.1 = (14 : Int)))
else
(if (decide (a0.1 = (15 : Int))) = true then
some (decide (a0.1 = (15 : Int)))
else
some (decide (a0.1 = (16 : Int))))) : Option (Bool)).bind fun j5 =>
(if j5 = true then
((if (decide ((0 : Int) ≤ a0.2)) = true then
some (decide (a0.2 ≤ (5 : Int)))
else
some false) : Option (Bool)).bind fun j6 =>
some j6
else
(if (decide (a0.1 = (34 : Int))) = true then
((if (decide ((0 : Int) ≤ a0.2)) = true then
some (decide ((Int.tmod a0.2 (8 : Int)) ≤ (5 : Int)))
else
some false) : Option (Bool)).bind fun j7 =>
some j7
else
(if (decide (a0.1 = (6 : Int))) = true then
some (decide ((0 : Int) ≤ a0.2))
else
some true))))
noncomputable def S83 (N : Nat) : Sig := { inn := ⟨[(0, .val true (.leaf rType)), (1, .val true (.leaf rSignature))], [], [], 0⟩, out := ⟨[(0, .val false (.leaf .bool))], [], [], 0⟩, fn := fun (x : rType.den × rSignature.den) => M.ref10_ranged N x.1 x.2 }
theorem W83 (N : Nat) : FnOK Try.prog 83 (S83 N) := fn_ok (E := ⟨tabs, [(77, S77 N), (88, S88 N)], (tabcons (W77 N) (tabcons (W88 N) tabnil)), mixed, false⟩) (N := N) (a := (.two .nil (.two (.two .nil (.two (.meet ⟨[(9, .val false (.leaf .bool))], [], [], 80⟩ .nil (.two (.two .nil (.meet ⟨[(4, .val false (.leaf .bool))], [], [], 256⟩ .nil .nil)) (.meet ⟨[(34, .val false (.leaf .bool))], [], [], 80⟩ .nil (.two (.meet ⟨[(4, .val false (.leaf .bool))], [], [], 80⟩ .nil .nil) (.two .nil (.two (.meet ⟨[(4, .val false (.leaf .bool))], [], [], 112⟩ .nil .nil) .nil)))))) .nil)) .nil))) (sg := S83 N) (c := Try.f83.body.getD .skip) (rs := Try.f83.results.toList) Try.func83 (by kernel_rfl) (by kernel_rfl) rfl rfl rfl rfl (fun x => by kernel_rfl)
noncomputable def M.ref10_found (N : Nat) (a0 : rType.den) (a1 : rSignature.den) : Option (Bool) :=
(if (decide (a0.1 = (6 : Int))) = true then
((if (decide ((IntKind.i64.wrap (Int.tdiv a0.2 (16 : Int))) < (a1.1.length : Int))) = true then
(idx a1.1 (IntKind.i64.wrap (Int.tdiv a0.2 (16 : Int)))).bind fun x2 =>
some (decide ((Int.tmod a0.2 (16 : Int)) < (x2.2.length : Int)))
else
some false) : Option (Bool)).bind fun j1 =>
some j1
else
(if (decide (a0.1 = (7 : Int))) = true then
((if (decide ((0 : Int) ≤ a0.2)) = true then
some (decide (a0.2 < (a1.2.2.1.length : Int)))
else
some false) : Option (Bool)).bind fun j3 =>
some j3
else
(if (decide (a0.1 = (8 : Int))) = true then
((if (decide ((0 : Int) ≤ a0.2)) = true then
some (decide (a0.2 < (a1.2.2.2.1.length : Int)))
else
some false) : Option (Bool)).bind fun j4 =>
some j4
else
(if (decide (a0.1 = (33 : Int))) = true then
((if (decide ((0 : Int) ≤ a0.2)) = true then
some (decide (a0.2 < (a1.2.1.length : Int)))
else
some false) : Option (Bool)).bind fun j5 =>
some j5
else
(if (decide (a0.1 = (34 : Int))) = true then
some (decide ((IntKind.i64.wrap (Int.tdiv a0.2 (8 : Int))) < (a1.2.1.length : Int)))
else
(if (decide (a0.1 = (35 : Int))) = true then
some a1.2.2.2.2.2
else
((if (decide (a0.1 = (36 : Int))) = true then
some (decide (a0.1 = (36 : Int)))
else
(if (decide (a0.1 = (37 : Int))) = true then
some (decide (a0.1 = (37 : Int)))
else
(if (decide (a0.1 = (38 : Int))) = true then
some (decide (a0.1 = (38 : Int)))
else
some (decide (a0.1 = (39 : Int)))))) : Option (Bool)).bind fun j6 =>
(if j6 = true then
((if a1.2.2.2.2.2 = true then
(if (decide ((0 : Int) ≤ a0.2)) = true then
some (decide (a0.2 < (a1.2.2.2.2.1.length : Int)))
else
some false)
else
some false) : Option (Bool)).bind fun j7 =>
some j7
else
some true)))))))
noncomputable def S84 (N : Nat) : Sig := { inn := ⟨[(0, .val true (.leaf rType)), (1, .val true (.leaf rSignature))], [], [], 0⟩, out := ⟨[(0, .val false (.leaf .bool))], [], [], 0⟩, fn := fun (x : rType.den × rSignature.den) => M.ref10_found N x.1 x.2 }
theorem W84 (N : Nat) : FnOK Try.prog 84 (S84 N) := fn_ok (E := ⟨tabs, [], tabnil, mixed, false⟩) (N := N) (a := (.two .nil (.two (.two .nil (.two (.two .nil (.two (.meet ⟨[(4, .val false (.leaf .bool))], [], [], 112⟩ .nil .nil) (.two .nil (.two (.meet ⟨[(4, .val false (.leaf .bool))], [], [], 144⟩ .nil .nil) (.two .nil (.two (.meet ⟨[(4, .val false (.leaf .bool))], [], [], 176⟩ .nil .nil) (.two .nil (.two (.meet ⟨[(4, .val false (.leaf .bool))], [], [], 208⟩ .nil .nil) (.two .nil (.two .nil (.two .nil (.two .nil (.meet ⟨[(83, .val false (.leaf .bool))], [], [], 272⟩ .nil (.two (.meet ⟨[(4, .val false (.leaf .bool))], [], [], 272⟩ .nil .nil) .nil)))))))))))))) .nil)) .nil))) (sg := S84 N) (c := Try.f84.body.getD .skip) (rs := Try.f84.results.toList) Try.func84 (by kernel_rfl) (by kernel_rfl) rfl rfl rfl rfl (fun x => by kernel_rfl)
noncomputable def M.ref10_number (N : Nat) (a0 : Int) : Option (Bool) :=
((if (decide (a0 = (2 : Int))) = true then
some true
else
(if (decide (a0 = (3 : Int))) = true then
some true
else
some (decide (a0 = (4 : Int))))) : Option (Bool)).bind fun j1 =>
some j1
noncomputable def S90 (N : Nat) : Sig := { inn := ⟨[(0, .val false (.leaf rInt))], [], [], 0⟩, out := ⟨[(0, .val false (.leaf .bool))], [], [], 0⟩, fn := fun (x : Int) => M.ref10_number N x }
theorem W90 (N : Nat) : FnOK Try.prog 90 (S90 N) := fn_ok (E := ⟨tabs, [], tabnil, mixed, false⟩) (N := N) (a := (.two .nil (.meet ⟨[(2, .val false (.leaf .bool))], [], [], 16⟩ .nil .nil))) (sg := S90 N) (c := Try.f90.body.getD .skip) (rs := Try.f90.results.toList) Try.func90 (by kernel_rfl) (by kernel_rfl) rfl rfl rfl rfl (fun x => by kernel_rfl)
noncomputable def M.ref10_ordered (N : Nat) (a0 : Int) : Option (Bool) :=
((M.ref10_number N a0).bind fun y2 =>
(if y2 = true then
some true
else
some (decide (a0 = (5 : Int)))) : Option (Bool)).bind fun j1 =>
some j1
noncomputable def S89 (N : Nat) : Sig := { inn := ⟨[(0, .val false (.leaf rInt))], [], [], 0⟩, out := ⟨[(0, .val false (.leaf .bool))], [], [], 0⟩, fn := fun (x : Int) => M.ref10_ordered N x }
theorem W89 (N : Nat) : FnOK Try.prog 89 (S89 N) := fn_ok (E := ⟨tabs, [(90, S90 N)], (tabcons (W90 N) tabnil), mixed, false⟩) (N := N) (a := (.two .nil (.meet ⟨[(2, .val false (.leaf .bool))], [], [], 16⟩ .nil .nil))) (sg := S89 N) (c := Try.f89.body.getD .skip) (rs := Try.f89.results.toList) Try.func89 (by kernel_rfl) (by kernel_rfl) rfl rfl rfl rfl (fun x => by kernel_rfl)
noncomputable def M.ref10_leaf (N : Nat) (a0 : rType.den) (a1 : rSignature.den) : Option (rType.den × Bool) :=
((if (decide (a0.1 = (6 : Int))) = true then
some ((6 : Int), IntKind.i64.wrap (Int.tdiv a0.2 (16 : Int)))
else
(if (decide (a0.1 = (7 : Int))) = true then
(idx a1.2.2.1 a0.2).bind fun x2 =>
some x2
else
(if (decide (a0.1 = (8 : Int))) = true then
(idx a1.2.2.2.1 a0.2).bind fun x3 =>
some x3
else
(if (decide (a0.1 = (9 : Int))) = true then
(M.ref10_kind N (5 : Int)).bind fun y4 =>
some y4
else
(if (decide (a0.1 = (35 : Int))) = true then
(M.ref10_kind N (2 : Int)).bind fun y5 =>
some y5
else
((if (decide (a0.1 = (36 : Int))) = true then
some (decide (a0.1 = (36 : Int)))
else
(if (decide (a0.1 = (37 : Int))) = true then
some (decide (a0.1 = (37 : Int)))
else
(if (decide (a0.1 = (38 : Int))) = true then
some (decide (a0.1 = (38 : Int)))
else
some (decide (a0.1 = (39 : Int)))))) : Option (Bool)).bind fun j6 =>
(if j6 = true then
(idx a1.2.2.2.2.1 a0.2).bind fun x7 =>
some x7
else
(M.ref10_kind N a0.1).bind fun y8 =>
some y8)))))) : Option (rType.den)).bind fun j1 =>
(M.ref09_ValidType N j1 a1.1).bind fun y9 =>
((if (decide (a0.1 = (36 : Int))) = true then
(if y9 = true then
(if (decide (j1.1 = (2 : Int))) = true then
some true
else
some (decide (j1.1 = (3 : Int))))
else
some false)
else
((if (decide (a0.1 = (37 : Int))) = true then
some (decide (a0.1 = (37 : Int)))
else
some (decide (a0.1 = (38 : Int)))) : Option (Bool)).bind fun j11 =>
(if j11 = true then
(if y9 = true then
some (decide (j1.1 = (1 : Int)))
else
some false)
else
(if (decide (a0.1 = (39 : Int))) = true then
(if y9 = true then
(M.ref10_ordered N j1.1).bind fun y12 =>
some y12
else
some false)
else
some y9))) : Option (Bool)).bind fun j10 =>
some (j1, j10)
noncomputable def S85 (N : Nat) : Sig := { inn := ⟨[(0, .val true (.leaf rType)), (1, .val true (.leaf rSignature))], [], [], 0⟩, out := ⟨[(0, .val true (.leaf rType)), (1, .val false (.leaf .bool))], [], [], 0⟩, fn := fun (x : rType.den × rSignature.den) => M.ref10_leaf N x.1 x.2 }
theorem W85 (N : Nat) : FnOK Try.prog 85 (S85 N) := fn_ok (E := ⟨tabs, [(60, S60 N), (88, S88 N), (89, S89 N)], (tabcons (W60 N) (tabcons (W88 N) (tabcons (W89 N) tabnil))), mixed, false⟩) (N := N) (a := (.two .nil (.two .nil (.two (.two .nil (.meet ⟨[], [(80, .box 53 (.leaf rType))], [], 145⟩ (.two .nil (.two .nil (.two .nil (.two .nil (.two .nil (.two .nil (.two .nil (.two .nil (.two .nil (.two .nil (.meet ⟨[(42, .val false (.leaf .bool))], [], [], 304⟩ .nil .nil))))))))))) .nil)) (.two .nil (.two (.two .nil (.meet ⟨[(7, .val false (.leaf .bool))], [], [], 257⟩ (.two .nil (.two .nil (.meet ⟨[(72, .val false (.leaf .bool))], [], [], 289⟩ .nil .nil))) .nil)) .nil)))))) (sg := S85 N) (c := Try.f85.body.getD .skip) (rs := Try.f85.results.toList) Try.func85 (by kernel_rfl) (by kernel_rfl) rfl rfl rfl rfl (fun x => by kernel_rfl)
noncomputable def M.ref10_single (N : Nat) (a0 : rType.den) (a1 : rType.den) (a2 : rSignature.den) : Option (rType.den × Bool) :=
(if (decide (a0.1 = (10 : Int))) = true then
(M.ref10_number N a1.1).bind fun y1 =>
some (a1, y1)
else
(if (decide (a0.1 = (25 : Int))) = true then
some (a1, decide (a1.1 = (1 : Int)))
else
((if (decide (a0.1 = (31 : Int))) = true then
some (decide (a0.1 = (31 : Int)))
else
some (decide (a0.1 = (32 : Int)))) : Option (Bool)).bind fun j2 =>
(if j2 = true then
(M.ref10_kind N (2 : Int)).bind fun y3 =>
some (y3, decide (a1.1 = (5 : Int)))
else
(if (decide (a0.1 = (33 : Int))) = true then
(idx a2.2.1 a0.2).bind fun x4 =>
((M.ref09_ValidType N x4.2.1 a2.1).bind fun y6 =>
(if y6 = true then
(M.ref09_ValidType N x4.2.2.1 a2.1).bind fun y7 =>
(if y7 = true then
some ((eqR rType a1 x4.2.1), x4.2.2.1)
else
some (false, x4.2.2.1))
else
some (false, x4.2.2.1)) : Option (Bool × rType.den)).bind fun j5 =>
some (j5.2, j5.1)
else
(idx a2.2.1 (IntKind.i64.wrap (Int.tdiv a0.2 (8 : Int)))).bind fun x8 =>
((if (decide (a1.1 = (3 : Int))) = true then
(M.ref10_kind N (3 : Int)).bind fun y10 =>
(if (eqR rType x8.2.1 y10) = true then
(M.ref10_kind N (4 : Int)).bind fun y11 =>
some ((eqR rType x8.2.2.1 y11), a1)
else
some (false, a1))
else
some (false, a1)) : Option (Bool × rType.den)).bind fun j9 =>
some (j9.2, j9.1)))))
noncomputable def S86 (N : Nat) : Sig := { inn := ⟨[(0, .val true (.leaf rType)), (1, .val true (.leaf rType)), (2, .val true (.leaf rSignature))], [], [], 0⟩, out := ⟨[(0, .val true (.leaf rType)), (1, .val false (.leaf .bool))], [], [], 0⟩, fn := fun (x : rType.den × rType.den × rSignature.den) => M.ref10_single N x.1 x.2.1 x.2.2 }
theorem W86 (N : Nat) : FnOK Try.prog 86 (S86 N) := fn_ok (E := ⟨tabs, [(60, S60 N), (88, S88 N), (90, S90 N)], (tabcons (W60 N) (tabcons (W88 N) (tabcons (W90 N) tabnil))), mixed, false⟩) (N := N) (a := (.two .nil (.two (.two .nil (.two (.two .nil (.two .nil (.two .nil (.two .nil (.meet ⟨[(24, .val false (.leaf .bool))], [], [], 176⟩ .nil (.two .nil (.two .nil (.two (.two .nil (.meet ⟨[(7, .val false (.leaf .bool))], [(48, .box 53 (.leaf rType))], [], 337⟩ .nil .nil)) .nil)))))))) .nil)) (.two .nil (.meet ⟨[(7, .val false (.leaf .bool))], [(48, .box 53 (.leaf rType))], [], 353⟩ .nil .nil))))) (sg := S86 N) (c := Try.f86.body.getD .skip) (rs := Try.f86.results.toList) Try.func86 (by kernel_rfl) (by kernel_rfl) rfl rfl rfl rfl (fun x => by kernel_rfl)
noncomputable def M.ref10_scaled (N : Nat) (a0 : Int) (a1 : Int) (a2 : Int) : Option (rType.den × Bool) :=
(if (decide (a0 = (13 : Int))) = true then
((M.ref10_kind N a1).bind fun y2 =>
(if (decide (a2 = (2 : Int))) = true then
(if (decide (a1 = (2 : Int))) = true then
some (true, y2)
else
some (decide (a1 = (3 : Int)), y2))
else
some (false, y2)) : Option (Bool × rType.den)).bind fun j1 =>
some (j1.2, j1.1)
else
(if (decide (a0 = (14 : Int))) = true then
((M.ref10_kind N a1).bind fun y4 =>
(if (decide (a2 = (4 : Int))) = true then
(if (decide (a1 = (3 : Int))) = true then
some (true, y4)
else
some (decide (a1 = (4 : Int)), y4))
else
some (false, y4)) : Option (Bool × rType.den)).bind fun j3 =>
some (j3.2, j3.1)
else
((if (decide (a1 = (3 : Int))) = true then
some (decide (a2 = (3 : Int)))
else
some false) : Option (Bool)).bind fun j5 =>
(if j5 = true then
(M.ref10_kind N (4 : Int)).bind fun y6 =>
some (y6, true)
else
((M.ref10_kind N a1).bind fun y8 =>
(if (decide (a2 = (2 : Int))) = true then
(if (decide (a1 = (2 : Int))) = true then
some (true, y8)
else
some (decide (a1 = (3 : Int)), y8))
else
some (false, y8)) : Option (Bool × rType.den)).bind fun j7 =>
some (j7.2, j7.1))))
noncomputable def S91 (N : Nat) : Sig := { inn := ⟨[(0, .val false (.leaf rInt)), (1, .val false (.leaf rInt)), (2, .val false (.leaf rInt))], [], [], 0⟩, out := ⟨[(0, .val true (.leaf rType)), (1, .val false (.leaf .bool))], [], [], 0⟩, fn := fun (x : Int × Int × Int) => M.ref10_scaled N x.1 x.2.1 x.2.2 }
theorem W91 (N : Nat) : FnOK Try.prog 91 (S91 N) := fn_ok (E := ⟨tabs, [(88, S88 N)], (tabcons (W88 N) tabnil), mixed, false⟩) (N := N) (a := (.two .nil (.two (.two .nil (.two (.two .nil (.two (.meet ⟨[(7, .val false (.leaf .bool))], [(0, .box 53 (.leaf rType))], [], 81⟩ .nil .nil) (.two .nil (.two (.meet ⟨[(7, .val false (.leaf .bool))], [(0, .box 53 (.leaf rType))], [], 113⟩ .nil .nil) .nil)))) .nil)) (.two (.meet ⟨[(42, .val false (.leaf .bool))], [], [], 112⟩ .nil .nil) (.meet ⟨[(7, .val false (.leaf .bool))], [(0, .box 53 (.leaf rType))], [], 113⟩ .nil .nil))))) (sg := S91 N) (c := Try.f91.body.getD .skip) (rs := Try.f91.results.toList) Try.func91 (by kernel_rfl) (by kernel_rfl) rfl rfl rfl rfl (fun x => by kernel_rfl)
noncomputable def M.ref10_double (N : Nat) (a0 : Int) (a1 : rType.den) (a2 : rType.den) : Option (rType.den × Bool) :=
((if (decide (a0 = (11 : Int))) = true then
some (decide (a0 = (11 : Int)))
else
some (decide (a0 = (12 : Int)))) : Option (Bool)).bind fun j1 =>
(if j1 = true then
((if (eqR rType a1 a2) = true then
(M.ref10_number N a1.1).bind fun y3 =>
some (y3, a1)
else
some (false, a1)) : Option (Bool × rType.den)).bind fun j2 =>
some (j2.2, j2.1)
else
((if (decide (a0 = (13 : Int))) = true then
some (decide (a0 = (13 : Int)))
else
(if (decide (a0 = (14 : Int))) = true then
some (decide (a0 = (14 : Int)))
else
some (decide (a0 = (15 : Int))))) : Option (Bool)).bind fun j4 =>
(if j4 = true then
(M.ref10_scaled N a0 a1.1 a2.1).bind fun y5 =>
some (y5.1, y5.2)
else
(if (decide (a0 = (16 : Int))) = true then
((if (decide (a1.1 = (3 : Int))) = true then
some (decide (a2.1 = (3 : Int)), a1)
else
some (false, a1)) : Option (Bool × rType.den)).bind fun j6 =>
some (j6.2, j6.1)
else
((if (decide (a0 = (17 : Int))) = true then
some (decide (a0 = (17 : Int)))
else
some (decide (a0 = (18 : Int)))) : Option (Bool)).bind fun j7 =>
(if j7 = true then
((if (eqR rType a1 a2) = true then
(M.ref10_ordered N a1.1).bind fun y9 =>
some (y9, a1)
else
some (false, a1)) : Option (Bool × rType.den)).bind fun j8 =>
some (j8.2, j8.1)
else
((if (decide (a0 = (19 : Int))) = true then
some (decide (a0 = (19 : Int)))
else
some (decide (a0 = (20 : Int)))) : Option (Bool)).bind fun j10 =>
(if j10 = true then
(M.ref10_kind N (1 : Int)).bind fun y11 =>
some (y11, (eqR rType a1 a2))
else
((if (decide (a0 = (21 : Int))) = true then
some (decide (a0 = (21 : Int)))
else
some (decide (a0 = (22 : Int)))) : Option (Bool)).bind fun j12 =>
(if j12 = true then
((M.ref10_kind N (1 : Int)).bind fun y14 =>
(if (eqR rType a1 a2) = true then
(M.ref10_ordered N a1.1).bind fun y15 =>
some (y15, y14)
else
some (false, y14)) : Option (Bool × rType.den)).bind fun j13 =>
some (j13.2, j13.1)
else
((if (decide (a0 = (23 : Int))) = true then
some (decide (a0 = (23 : Int)))
else
some (decide (a0 = (24 : Int)))) : Option (Bool)).bind fun j16 =>
(if j16 = true then
((if (decide (a1.1 = (1 : Int))) = true then
some (decide (a2.1 = (1 : Int)), a1)
else
some (false, a1)) : Option (Bool × rType.den)).bind fun j17 =>
some (j17.2, j17.1)
else
((if (decide (a0 = (27 : Int))) = true then
some (decide (a0 = (27 : Int)))
else
some (decide (a0 = (28 : Int)))) : Option (Bool)).bind fun j18 =>
(if j18 = true then
((if (decide (a1.1 = (5 : Int))) = true then
some (decide (a2.1 = (2 : Int)), a1)
else
some (false, a1)) : Option (Bool × rType.den)).bind fun j19 =>
some (j19.2, j19.1)
else
((M.ref10_kind N (2 : Int)).bind fun y21 =>
(if (decide (a1.1 = (5 : Int))) = true then
some (decide (a2.1 = (5 : Int)), y21)
else
some (false, y21)) : Option (Bool × rType.den)).bind fun j20 =>
some (j20.2, j20.1)))))))))
noncomputable def S87 (N : Nat) : Sig := { inn := ⟨[(0, .val false (.leaf rInt)), (1, .val true (.leaf rType)), (2, .val true (.leaf rType))], [], [], 0⟩, out := ⟨[(0, .val true (.leaf rType)), (1, .val false (.leaf .bool))], [], [], 0⟩, fn := fun (x : Int × rType.den × rType.den) => M.ref10_double N x.1 x.2.1 x.2.2 }
theorem W87 (N : Nat) : FnOK Try.prog 87 (S87 N) := fn_ok (E := ⟨tabs, [(88, S88 N), (89, S89 N), (90, S90 N), (91, S91 N)], (tabcons (W88 N) (tabcons (W89 N) (tabcons (W90 N) (tabcons (W91 N) tabnil)))), mixed, false⟩) (N := N) (a := (.two .nil (.two (.two .nil (.two (.meet ⟨[(9, .val false (.leaf .bool))], [], [], 80⟩ .nil (.two (.meet ⟨[(7, .val false (.leaf .bool))], [(32, .box 53 (.leaf rType))], [], 81⟩ .nil .nil) (.meet ⟨[(21, .val false (.leaf .bool))], [], [], 80⟩ .nil (.two .nil (.two .nil (.two (.meet ⟨[(7, .val false (.leaf .bool))], [(32, .box 53 (.leaf rType))], [], 113⟩ .nil .nil) (.meet ⟨[(44, .val false (.leaf .bool))], [], [], 112⟩ .nil (.two (.meet ⟨[(7, .val false (.leaf .bool))], [(32, .box 53 (.leaf rType))], [], 113⟩ .nil .nil) (.meet ⟨[(56, .val false (.leaf .bool))], [], [], 112⟩ .nil (.two .nil (.meet ⟨[(63, .val false (.leaf .bool))], [], [], 112⟩ .nil (.two (.meet ⟨[(7, .val false (.leaf .bool))], [(32, .box 53 (.leaf rType))], [], 113⟩ .nil .nil) (.meet ⟨[(75, .val false (.leaf .bool))], [], [], 112⟩ .nil (.two (.meet ⟨[(7, .val false (.leaf .bool))], [(32, .box 53 (.leaf rType))], [], 113⟩ .nil .nil) (.meet ⟨[(87, .val false (.leaf .bool))], [], [], 112⟩ .nil (.two (.meet ⟨[(7, .val false (.leaf .bool))], [(32, .box 53 (.leaf rType))], [], 113⟩ .nil .nil) .nil)))))))))))))))) .nil)) (.meet ⟨[(7, .val false (.leaf .bool))], [(32, .box 53 (.leaf rType))], [], 113⟩ .nil .nil)))) (sg := S87 N) (c := Try.f87.body.getD .skip) (rs := Try.f87.results.toList) Try.func87 (by kernel_rfl) (by kernel_rfl) rfl rfl rfl rfl (fun x => by kernel_rfl)
noncomputable def M.ref10_Result (N : Nat) (a0 : rType.den) (a1 : List rType.den) (a2 : rSignature.den) : Option (rType.den × Int) :=
((if (!decide (a0.2 = (0 : Int))) = true then
(M.ref10_meaning N a0.1).bind fun y2 =>
some (!y2)
else
some false) : Option (Bool)).bind fun j1 =>
(if j1 = true then
some (((0 : Int), (0 : Int)), (2 : Int))
else
(M.ref10_ranged N a0 a2).bind fun y3 =>
(if (!y3) = true then
some (((0 : Int), (0 : Int)), (3 : Int))
else
(M.ref10_found N a0 a2).bind fun y4 =>
(if (!y4) = true then
some (((0 : Int), (0 : Int)), (6 : Int))
else
((if (decide ((a1.length : Int) = (0 : Int))) = true then
(M.ref10_leaf N a0 a2).bind fun y6 =>
some (y6.2, y6.1)
else
(if (decide ((a1.length : Int) = (1 : Int))) = true then
(idx a1 (0 : Int)).bind fun x7 =>
(M.ref10_single N a0 x7 a2).bind fun y8 =>
some (y8.2, y8.1)
else
(if (decide ((a1.length : Int) = (2 : Int))) = true then
(idx a1 (0 : Int)).bind fun x9 =>
(idx a1 (1 : Int)).bind fun x10 =>
(M.ref10_double N a0.1 x9 x10).bind fun y11 =>
some (y11.2, y11.1)
else
(idx a1 (1 : Int)).bind fun x12 =>
(idx a1 (0 : Int)).bind fun x13 =>
(if (decide (x13.1 = (1 : Int))) = true then
(idx a1 (1 : Int)).bind fun x14 =>
(idx a1 (2 : Int)).bind fun x15 =>
some ((eqR rType x14 x15), x12)
else
some (false, x12))))) : Option (Bool × rType.den)).bind fun j5 =>
(if (!j5.1) = true then
some (((0 : Int), (0 : Int)), (8 : Int))
else
some (j5.2, (0 : Int))))))
noncomputable def S80 (N : Nat) : Sig := { inn := ⟨[(0, .val true (.leaf rType)), (1, .val false (.leaf (.slice rType))), (2, .val true (.leaf rSignature))], [], [], 0⟩, out := ⟨[(0, .val true (.leaf rType)), (1, .val false (.leaf rInt))], [], [], 0⟩, fn := fun (x : rType.den × (List rType.den) × rSignature.den) => M.ref10_Result N x.1 x.2.1 x.2.2 }
theorem W80 (N : Nat) : FnOK Try.prog 80 (S80 N) := fn_ok (E := ⟨tabs, [(82, S82 N), (83, S83 N), (84, S84 N), (85, S85 N), (86, S86 N), (87, S87 N)], (tabcons (W82 N) (tabcons (W83 N) (tabcons (W84 N) (tabcons (W85 N) (tabcons (W86 N) (tabcons (W87 N) tabnil)))))), mixed, false⟩) (N := N) (a := (.two .nil (.two (.meet ⟨[(18, .val false (.leaf .bool))], [], [], 64⟩ .nil .nil) (.two .nil (.two .nil (.two .nil (.two .nil (.two (.two .nil (.meet ⟨[(9, .val false (.leaf .bool))], [(208, .box 53 (.leaf rType))], [], 289⟩ .nil .nil)) .nil)))))))) (sg := S80 N) (c := Try.f80.body.getD .skip) (rs := Try.f80.results.toList) Try.func80 (by kernel_rfl) (by kernel_rfl) rfl rfl rfl rfl (fun x => by kernel_rfl)
noncomputable def M.ref10_TypeOf (N : Nat) (a0 : List rType.den) (a1 : rSignature.den) : Option (rType.den × Int × Int) :=
(M.ref10_structure N a0).bind fun y1 =>
(if (!decide (y1.2.1 = (0 : Int))) = true then
some (((0 : Int), (0 : Int)), y1.1, y1.2.1)
else
Join (J := List rType.den) (R := rType.den × Int × Int) (Loop (S := Int × List rType.den) (X := (List rType.den) ⊕ (rType.den × Int × Int)) (fun s3 =>
(if (decide (s3.1 < (a0.length : Int))) = true then
(idx a0 s3.1).bind fun x4 =>
(M.ref10_Arity N x4.1).bind fun y5 =>
(idx a0 s3.1).bind fun x6 =>
(cutA s3.2 (IntKind.i64.wrap ((s3.2.length : Int) - y5)) (s3.2.length : Int)).bind fun l7 =>
(M.ref10_Result N x6 l7 a1).bind fun y8 =>
(if (!decide (y8.2 = (0 : Int))) = true then
some (Sum.inr (Sum.inr (((0 : Int), (0 : Int)), s3.1, y8.2)))
else
(cutA s3.2 (0 : Int) (IntKind.i64.wrap ((s3.2.length : Int) - y5))).bind fun l9 =>
(appA l9 ([y8.1] : List rType.den)).bind fun l10 =>
some (Sum.inl (IntKind.i64.wrap (s3.1 + (1 : Int)), l10)))
else
some (Sum.inr (Sum.inl s3.2)))) N ((0 : Int), ([] : List rType.den))) fun j2 =>
(idx j2 (0 : Int)).bind fun x11 =>
some (x11, (0 : Int), (0 : Int)))
noncomputable def S74 (N : Nat) : Sig := { inn := ⟨[(0, .val false (.leaf (.slice rType))), (1, .val true (.leaf rSignature))], [], [], 0⟩, out := ⟨[(0, .val true (.leaf rType)), (1, .val false (.leaf rInt)), (2, .val false (.leaf rInt))], [], [], 0⟩, fn := fun (x : (List rType.den) × rSignature.den) => M.ref10_TypeOf N x.1 x.2 }
theorem W74 (N : Nat) : FnOK Try.prog 74 (S74 N) := fn_ok (E := ⟨tabs, [(78, S78 N), (79, S79 N), (80, S80 N)], (tabcons (W78 N) (tabcons (W79 N) (tabcons (W80 N) tabnil))), mixed, false⟩) (N := N) (a := (.two .nil (.two .nil (.two .nil (.two .nil (.join ⟨[(10, .val false (.own 256))], [(256, .own 53 rType)], [], 257⟩ (.two .nil (.two (.loop ⟨[(10, .val false (.own 272)), (11, .val false (.leaf rInt))], [(272, .own 53 rType)], [], 273⟩ .nil) .nil)) .nil)))))) (sg := S74 N) (c := Try.f74.body.getD .skip) (rs := Try.f74.results.toList) Try.func74 (by kernel_rfl) (by kernel_rfl) rfl rfl rfl rfl (fun x => by kernel_rfl)
noncomputable def M.ref17_exprError (N : Nat) (a0 : List rType.den) (a1 : rSignature.den) (a2 : rType.den) : Option (Int) :=
(M.ref10_TypeOf N a0 a1).bind fun y1 =>
(if (!decide (y1.2.2 = (0 : Int))) = true then
some y1.2.2
else
(if (!(eqR rType y1.1 a2)) = true then
some (8 : Int)
else
some (0 : Int)))
noncomputable def S67 (N : Nat) : Sig := { inn := ⟨[(0, .val false (.leaf (.slice rType))), (1, .val true (.leaf rSignature)), (2, .val true (.leaf rType))], [], [], 0⟩, out := ⟨[(0, .val false (.leaf rInt))], [], [], 0⟩, fn := fun (x : (List rType.den) × rSignature.den × rType.den) => M.ref17_exprError N x.1 x.2.1 x.2.2 }
theorem W67 (N : Nat) : FnOK Try.prog 67 (S67 N) := fn_ok (E := ⟨tabs, [(74, S74 N)], (tabcons (W74 N) tabnil), mixed, false⟩) (N := N) (a := .nil) (sg := S67 N) (c := Try.f67.body.getD .skip) (rs := Try.f67.results.toList) Try.func67 (by kernel_rfl) (by kernel_rfl) rfl rfl rfl rfl (fun x => by kernel_rfl)
noncomputable def M.ref17_ruleError (N : Nat) (a0 : rLaw.den) (a1 : Int) (a2 : Int) : Option (Int) :=
(idx a0.2.2 a1).bind fun x1 =>
(idx x1.2.2.2.2 a2).bind fun x2 =>
(M.ref08_IsIdentifier N x2.1).bind fun y3 =>
(if (!y3) = true then
some (2 : Int)
else
Join (J := Int) (R := Int) (Loop (S := Int × Int) (X := (Int) ⊕ (Int)) (fun s5 =>
(if (decide (s5.2 < a2)) = true then
Join (J := Int) (R := (Int × Int) ⊕ ((Int) ⊕ (Int))) ((idx x1.2.2.2.2 s5.2).bind fun x7 =>
(if (decide (x7.1 = x2.1)) = true then
some (Sum.inr (Sum.inr (Sum.inr (7 : Int))))
else
(idx x1.2.2.2.2 s5.2).bind fun x8 =>
(if (decide (x8.2.1 = x2.2.1)) = true then
some (Sum.inl (IntKind.i64.wrap (s5.1 + (1 : Int))))
else
some (Sum.inl s5.1)))) fun j6 =>
some (Sum.inl (j6, IntKind.i64.wrap (s5.2 + (1 : Int))))
else
some (Sum.inr (Sum.inl s5.1)))) N ((0 : Int), (0 : Int))) fun j4 =>
((if (decide (x2.2.1 < (0 : Int))) = true then
some true
else
some (decide ((x1.2.2.2.1.length : Int) ≤ x2.2.1))) : Option (Bool)).bind fun j9 =>
(if j9 = true then
some (6 : Int)
else
((if (!decide (x2.2.2.1 = (-1 : Int))) = true then
(if (decide (x2.2.2.1 < (0 : Int))) = true then
some true
else
(if (decide (a2 ≤ x2.2.2.1)) = true then
some true
else
(idx x1.2.2.2.2 x2.2.2.1).bind fun x11 =>
some (!decide (x11.2.1 = x2.2.1))))
else
some false) : Option (Bool)).bind fun j10 =>
(if j10 = true then
some (9 : Int)
else
((if (decide (x2.2.2.2.1 < (0 : Int))) = true then
some true
else
(if (decide ((9 : Int) < x2.2.2.2.1)) = true then
some true
else
(M.ref05_Valid N x2.2.2.2.2.1).bind fun y13 =>
(if (!y13) = true then
some true
else
some (decide (x2.2.2.2.2.1.1 = x2.2.2.2.2.1.2))))) : Option (Bool)).bind fun j12 =>
(if j12 = true then
some (3 : Int)
else
(if (decide ((8 : Int) ≤ j4)) = true then
some (4 : Int)
else
(M.ref17_plainText N x2.2.2.2.2.2.2.2).bind fun y14 =>
(if (!y14) = true then
some (2 : Int)
else
(M.ref17_Signature N a0 a1).bind fun y15 =>
Join (J := Unit) (R := Int) ((if (decide ((0 : Int) < (x2.2.2.2.2.2.1.length : Int))) = true then
(M.ref17_exprError N x2.2.2.2.2.2.1 (y15.1, (y15.2.1, (y15.2.2.2.1, (y15.2.2.2.2.1, (y15.2.2.2.2.2, y15.2.2.1))))) ((1 : Int), (0 : Int))).bind fun y17 =>
(if (!decide (y17 = (0 : Int))) = true then
some (Sum.inr y17)
else
some (Sum.inl ()))
else
some (Sum.inl ()))) fun j16 =>
(idx x1.2.2.2.1 x2.2.1).bind fun x18 =>
(M.ref17_exprError N x2.2.2.2.2.2.2.1 (y15.1, (y15.2.1, (y15.2.2.2.1, (y15.2.2.2.2.1, (y15.2.2.2.2.2, y15.2.2.1))))) x18.2).bind fun y19 =>
some y19))))))
noncomputable def S55 (N : Nat) : Sig := { inn := ⟨[(0, .val true (.leaf rLaw)), (1, .val false (.leaf rInt)), (2, .val false (.leaf rInt))], [], [], 0⟩, out := ⟨[(0, .val false (.leaf rInt))], [], [], 0⟩, fn := fun (x : rLaw.den × Int × Int) => M.ref17_ruleError N x.1 x.2.1 x.2.2 }
theorem W55 (N : Nat) : FnOK Try.prog 55 (S55 N) := fn_ok (E := ⟨tabs, [(51, S51 N), (64, S64 N), (65, S65 N), (66, S66 N), (67, S67 N)], (tabcons (W51 N) (tabcons (W64 N) (tabcons (W65 N) (tabcons (W66 N) (tabcons (W67 N) tabnil))))), mixed, false⟩) (N := N) (a := (.two .nil (.two .nil (.two .nil (.two .nil (.two .nil (.join ⟨[(9, .val false (.leaf rInt))], [], [], 336⟩ (.two .nil (.two (.loop ⟨[(9, .val false (.leaf rInt)), (10, .val false (.leaf rInt))], [], [], 352⟩ (.two .nil (.two (.join ⟨[(9, .val false (.leaf rInt))], [], [], 400⟩ .nil .nil) .nil))) .nil)) (.two (.meet ⟨[(62, .val false (.leaf .bool))], [], [], 336⟩ .nil .nil) (.two (.meet ⟨[(88, .val false (.leaf .bool))], [], [], 336⟩ .nil .nil) (.two (.meet ⟨[(111, .val false (.leaf .bool))], [], [], 336⟩ .nil .nil) (.two .nil (.two .nil (.two .nil (.join ⟨[], [], [], 512⟩ .nil .nil)))))))))))))) (sg := S55 N) (c := Try.f55.body.getD .skip) (rs := Try.f55.results.toList) Try.func55 (by kernel_rfl) (by kernel_rfl) rfl rfl rfl rfl (fun x => by kernel_rfl)
noncomputable def M.ref16_insert (N : Nat) (a0 : List Int) (a1 : Int) : Option (List Int) :=
(Loop (S := Bool × Int × List Int) (X := Bool × List Int) (fun s2 =>
(if (decide (s2.2.1 < (a0.length : Int))) = true then
(((if (!s2.1) = true then
(idx a0 s2.2.1).bind fun x5 =>
some (decide (a1 ≤ x5))
else
some false) : Option (Bool)).bind fun j4 =>
(if j4 = true then
((idx a0 s2.2.1).bind fun x7 =>
(if (decide (a1 < x7)) = true then
(appA s2.2.2 ([a1] : List Int)).bind fun l8 =>
some l8
else
some s2.2.2) : Option (List Int)).bind fun j6 =>
some (true, j6)
else
some (s2.1, s2.2.2)) : Option (Bool × List Int)).bind fun j3 =>
(idx a0 s2.2.1).bind fun x9 =>
(appA j3.2 ([x9] : List Int)).bind fun l10 =>
some (Sum.inl (j3.1, IntKind.i64.wrap (s2.2.1 + (1 : Int)), l10))
else
some (Sum.inr (s2.1, s2.2.2)))) N (false, (0 : Int), ([] : List Int)) : Option (Bool × List Int)).bind fun j1 =>
((if (!j1.1) = true then
(appA j1.2 ([a1] : List Int)).bind fun l12 =>
some l12
else
some j1.2) : Option (List Int)).bind fun j11 =>
some j11
noncomputable def S69 (N : Nat) : Sig := { inn := ⟨[(0, .val false (.leaf (.slice rInt))), (1, .val false (.leaf rInt))], [], [], 0⟩, out := ⟨[(0, .val false (.own 0))], [(0, .own 3 rInt)], [], 1⟩, fn := fun (x : (List Int) × Int) => M.ref16_insert N x.1 x.2 }
theorem W69 (N : Nat) : FnOK Try.prog 69 (S69 N) := fn_ok (E := ⟨tabs, [], tabnil, mixed, false⟩) (N := N) (a := (.two .nil (.two .nil (.two .nil (.meet ⟨[(5, .val false (.own 48)), (6, .val false (.leaf .bool))], [(48, .own 3 rInt)], [], 49⟩ (.two .nil (.two (.loop ⟨[(5, .val false (.own 64)), (6, .val false (.leaf .bool)), (7, .val false (.leaf rInt))], [(64, .own 3 rInt)], [], 65⟩ (.two .nil (.two (.two (.meet ⟨[(5, .val false (.own 129)), (6, .val false (.leaf .bool))], [(129, .own 3 rInt)], [64], 130⟩ (.meet ⟨[(23, .val false (.leaf .bool))], [], [], 129⟩ .nil (.two (.meet ⟨[(5, .val false (.own 129))], [(129, .own 3 rInt)], [64], 130⟩ .nil .nil) .nil)) .nil) .nil) .nil))) .nil)) (.meet ⟨[(5, .val false (.own 49))], [(49, .own 3 rInt)], [48], 50⟩ .nil .nil)))))) (sg := S69 N) (c := Try.f69.body.getD .skip) (rs := Try.f69.results.toList) Try.func69 (by kernel_rfl) (by kernel_rfl) rfl rfl rfl rfl (fun x => by kernel_rfl)
noncomputable def M.ref16_is (N : Nat) (a0 : rScope.den) (a1 : Int) : Option (Bool) :=
((if (decide ((0 : Int) ≤ a1)) = true then
some (decide (a1 < (a0.2.2.2.1.length : Int)))
else
some false) : Option (Bool)).bind fun j1 =>
some j1
noncomputable def S75 (N : Nat) : Sig := { inn := ⟨[(0, .val true (.leaf rScope)), (1, .val false (.leaf rInt))], [], [], 0⟩, out := ⟨[(0, .val false (.leaf .bool))], [], [], 0⟩, fn := fun (x : rScope.den × Int) => M.ref16_is N x.1 x.2 }
theorem W75 (N : Nat) : FnOK Try.prog 75 (S75 N) := fn_ok (E := ⟨tabs, [], tabnil, mixed, false⟩) (N := N) (a := (.two .nil (.meet ⟨[(4, .val false (.leaf .bool))], [], [], 32⟩ .nil .nil))) (sg := S75 N) (c := Try.f75.body.getD .skip) (rs := Try.f75.results.toList) Try.func75 (by kernel_rfl) (by kernel_rfl) rfl rfl rfl rfl (fun x => by kernel_rfl)
noncomputable def M.ref10_insert (N : Nat) (a0 : List Int) (a1 : Int) : Option (List Int) :=
(Loop (S := Bool × Int × List Int) (X := Bool × List Int) (fun s2 =>
(if (decide (s2.2.1 < (a0.length : Int))) = true then
(((if (!s2.1) = true then
(idx a0 s2.2.1).bind fun x5 =>
some (decide (a1 ≤ x5))
else
some false) : Option (Bool)).bind fun j4 =>
(if j4 = true then
((idx a0 s2.2.1).bind fun x7 =>
(if (decide (a1 < x7)) = true then
(appA s2.2.2 ([a1] : List Int)).bind fun l8 =>
some l8
else
some s2.2.2) : Option (List Int)).bind fun j6 =>
some (true, j6)
else
some (s2.1, s2.2.2)) : Option (Bool × List Int)).bind fun j3 =>
(idx a0 s2.2.1).bind fun x9 =>
(appA j3.2 ([x9] : List Int)).bind fun l10 =>
some (Sum.inl (j3.1, IntKind.i64.wrap (s2.2.1 + (1 : Int)), l10))
else
some (Sum.inr (s2.1, s2.2.2)))) N (false, (0 : Int), ([] : List Int)) : Option (Bool × List Int)).bind fun j1 =>
((if (!j1.1) = true then
(appA j1.2 ([a1] : List Int)).bind fun l12 =>
some l12
else
some j1.2) : Option (List Int)).bind fun j11 =>
some j11
noncomputable def S81 (N : Nat) : Sig := { inn := ⟨[(0, .val false (.leaf (.slice rInt))), (1, .val false (.leaf rInt))], [], [], 0⟩, out := ⟨[(0, .val false (.own 0))], [(0, .own 3 rInt)], [], 1⟩, fn := fun (x : (List Int) × Int) => M.ref10_insert N x.1 x.2 }
theorem W81 (N : Nat) : FnOK Try.prog 81 (S81 N) := fn_ok (E := ⟨tabs, [], tabnil, mixed, false⟩) (N := N) (a := (.two .nil (.two .nil (.two .nil (.meet ⟨[(5, .val false (.own 48)), (6, .val false (.leaf .bool))], [(48, .own 3 rInt)], [], 49⟩ (.two .nil (.two (.loop ⟨[(5, .val false (.own 64)), (6, .val false (.leaf .bool)), (7, .val false (.leaf rInt))], [(64, .own 3 rInt)], [], 65⟩ (.two .nil (.two (.two (.meet ⟨[(5, .val false (.own 129)), (6, .val false (.leaf .bool))], [(129, .own 3 rInt)], [64], 130⟩ (.meet ⟨[(23, .val false (.leaf .bool))], [], [], 129⟩ .nil (.two (.meet ⟨[(5, .val false (.own 129))], [(129, .own 3 rInt)], [64], 130⟩ .nil .nil) .nil)) .nil) .nil) .nil))) .nil)) (.meet ⟨[(5, .val false (.own 49))], [(49, .own 3 rInt)], [48], 50⟩ .nil .nil)))))) (sg := S81 N) (c := Try.f81.body.getD .skip) (rs := Try.f81.results.toList) Try.func81 (by kernel_rfl) (by kernel_rfl) rfl rfl rfl rfl (fun x => by kernel_rfl)
noncomputable def M.ref10_References (N : Nat) (a0 : List rType.den) : Option ((List Int) × (List Int) × List Int) :=
(Loop (S := Int × (List Int) × (List Int) × List Int) (X := (List Int) × (List Int) × List Int) (fun s2 =>
(if (decide (s2.1 < (a0.length : Int))) = true then
((idx a0 s2.1).bind fun x4 =>
((if (decide (x4.1 = (7 : Int))) = true then
(idx a0 s2.1).bind fun x6 =>
(M.ref10_insert N s2.2.1 x6.2).bind fun y7 =>
some y7
else
some s2.2.1) : Option (List Int)).bind fun j5 =>
((if (decide (x4.1 = (8 : Int))) = true then
(idx a0 s2.1).bind fun x9 =>
(M.ref10_insert N s2.2.2.1 x9.2).bind fun y10 =>
some y10
else
some s2.2.2.1) : Option (List Int)).bind fun j8 =>
((if (decide ((36 : Int) ≤ x4.1)) = true then
some (decide (x4.1 ≤ (39 : Int)))
else
some false) : Option (Bool)).bind fun j11 =>
(if j11 = true then
(idx a0 s2.1).bind fun x12 =>
(M.ref10_insert N s2.2.2.2 x12.2).bind fun y13 =>
some (j5, j8, y13)
else
some (j5, j8, s2.2.2.2)) : Option ((List Int) × (List Int) × List Int)).bind fun j3 =>
some (Sum.inl (IntKind.i64.wrap (s2.1 + (1 : Int)), j3.1, j3.2.1, j3.2.2))
else
some (Sum.inr (s2.2.1, s2.2.2.1, s2.2.2.2)))) N ((0 : Int), ([] : List Int), ([] : List Int), ([] : List Int)) : Option ((List Int) × (List Int) × List Int)).bind fun j1 =>
some (j1.1, j1.2.1, j1.2.2)
noncomputable def S76 (N : Nat) : Sig := { inn := ⟨[(0, .val false (.leaf (.slice rType)))], [], [], 0⟩, out := ⟨[(0, .val false (.own 0)), (1, .val false (.own 1)), (2, .val false (.own 2))], [(0, .own 3 rInt), (1, .own 3 rInt), (2, .own 3 rInt)], [], 3⟩, fn := fun (x : List rType.den) => M.ref10_References N x }
theorem W76 (N : Nat) : FnOK Try.prog 76 (S76 N) := fn_ok (E := ⟨tabs, [(81, S81 N)], (tabcons (W81 N) tabnil), mixed, false⟩) (N := N) (a := (.two .nil (.two .nil (.meet ⟨[(5, .val false (.own 96)), (6, .val false (.own 97)), (7, .val false (.own 98))], [(96, .own 3 rInt), (97, .own 3 rInt), (98, .own 3 rInt)], [], 99⟩ (.two .nil (.two (.loop ⟨[(5, .val false (.own 112)), (6, .val false (.own 113)), (7, .val false (.own 114)), (8, .val false (.leaf rInt))], [(112, .own 3 rInt), (113, .own 3 rInt), (114, .own 3 rInt)], [], 115⟩ (.two .nil (.two (.meet ⟨[(5, .val false (.own 179)), (6, .val false (.own 180)), (7, .val false (.own 181))], [(179, .own 3 rInt), (180, .own 3 rInt), (181, .own 3 rInt)], [112, 113, 114], 182⟩ (.two .nil (.meet ⟨[(5, .val false (.own 275))], [(275, .own 3 rInt)], [112], 276⟩ .nil (.meet ⟨[(6, .val false (.own 276))], [(276, .own 3 rInt)], [113], 277⟩ .nil (.meet ⟨[(44, .val false (.leaf .bool))], [], [], 277⟩ .nil .nil)))) .nil) .nil))) .nil)) .nil)))) (sg := S76 N) (c := Try.f76.body.getD .skip) (rs := Try.f76.results.toList) Try.func76 (by kernel_rfl) (by kernel_rfl) rfl rfl rfl rfl (fun x => by kernel_rfl)
noncomputable def M.ref16_Direct (N : Nat) (a0 : rScope.den) (a1 : Int) : Option (List Int) :=
(M.ref16_is N a0 a1).bind fun y1 =>
(if (!y1) = true then
some ([] : List Int)
else
Loop (S := Int × List Int) (X := List Int) (fun s2 =>
(if (decide (s2.1 < (a0.2.2.2.2.length : Int))) = true then
(((idx a0.2.2.2.2 s2.1).bind fun x5 =>
(if (!decide (x5.2.1 = a1)) = true then
some s2.2
else
(idx a0.2.2.2.2 s2.1).bind fun x6 =>
(M.ref10_References N x6.2.2.2.2.2.1).bind fun y7 =>
(idx a0.2.2.2.2 s2.1).bind fun x8 =>
(M.ref10_References N x8.2.2.2.2.2.2.1).bind fun y9 =>
(Loop (S := Int × List Int) (X := List Int) (fun s11 =>
(if (decide (s11.1 < (y7.2.1.length : Int))) = true then
((idx y7.2.1 s11.1).bind fun x13 =>
(M.ref16_is N a0 x13).bind fun y14 =>
(if y14 = true then
(idx y7.2.1 s11.1).bind fun x15 =>
(M.ref16_insert N s11.2 x15).bind fun y16 =>
some y16
else
some s11.2) : Option (List Int)).bind fun j12 =>
some (Sum.inl (IntKind.i64.wrap (s11.1 + (1 : Int)), j12))
else
some (Sum.inr s11.2))) N ((0 : Int), s2.2) : Option (List Int)).bind fun j10 =>
Loop (S := Int × List Int) (X := List Int) (fun s17 =>
(if (decide (s17.1 < (y9.2.1.length : Int))) = true then
((idx y9.2.1 s17.1).bind fun x19 =>
(M.ref16_is N a0 x19).bind fun y20 =>
(if y20 = true then
(idx y9.2.1 s17.1).bind fun x21 =>
(M.ref16_insert N s17.2 x21).bind fun y22 =>
some y22
else
some s17.2) : Option (List Int)).bind fun j18 =>
some (Sum.inl (IntKind.i64.wrap (s17.1 + (1 : Int)), j18))
else
some (Sum.inr s17.2))) N ((0 : Int), j10)) : Option (List Int)).bind fun j4 =>
some j4 : Option (List Int)).bind fun j3 =>
some (Sum.inl (IntKind.i64.wrap (s2.1 + (1 : Int)), j3))
else
some (Sum.inr s2.2))) N ((0 : Int), ([] : List Int)))
noncomputable def S68 (N : Nat) : Sig := { inn := ⟨[(0, .val true (.leaf rScope)), (1, .val false (.leaf rInt))], [], [], 0⟩, out := ⟨[(0, .val false (.own 0))], [(0, .own 3 rInt)], [], 1⟩, fn := fun (x : rScope.den × Int) => M.ref16_Direct N x.1 x.2 }
theorem W68 (N : Nat) : FnOK Try.prog 68 (S68 N) := fn_ok (E := ⟨tabs, [(69, S69 N), (75, S75 N), (76, S76 N)], (tabcons (W69 N) (tabcons (W75 N) (tabcons (W76 N) tabnil))), mixed, false⟩) (N := N) (a := (.two .nil (.two .nil (.two .nil (.two (.two .nil (.two (.loop ⟨[(5, .val false (.own 128)), (6, .val false (.leaf rInt))], [(128, .own 3 rInt)], [], 129⟩ (.two .nil (.meet ⟨[(5, .val false (.own 209))], [(209, .own 3 rInt)], [128], 210⟩ (.meet ⟨[(5, .val false (.own 209))], [(209, .own 3 rInt)], [128], 210⟩ (.two .nil (.two .nil (.two .nil (.meet ⟨[(5, .val false (.own 785))], [(785, .own 3 rInt)], [128], 786⟩ (.two .nil (.two (.loop ⟨[(5, .val false (.own 801)), (13, .val false (.leaf rInt))], [(801, .own 3 rInt)], [128], 802⟩ (.two .nil (.two (.meet ⟨[(5, .val false (.own 866))], [(866, .own 3 rInt)], [801], 867⟩ .nil .nil) .nil))) .nil)) (.two .nil (.two (.loop ⟨[(5, .val false (.own 802)), (14, .val false (.leaf rInt))], [(802, .own 3 rInt)], [785], 803⟩ (.two .nil (.two (.meet ⟨[(5, .val false (.own 867))], [(867, .own 3 rInt)], [802], 868⟩ .nil .nil) .nil))) .nil)))))) .nil) .nil))) .nil)) .nil))))) (sg := S68 N) (c := Try.f68.body.getD .skip) (rs := Try.f68.results.toList) Try.func68 (by kernel_rfl) (by kernel_rfl) rfl rfl rfl rfl (fun x => by kernel_rfl)
noncomputable def M.ref16_Transitive (N : Nat) (a0 : rScope.den) (a1 : Int) : Option (List Int) :=
(M.ref16_Direct N a0 a1).bind fun y1 =>
Loop (S := (List Int) × Int) (X := List Int) (fun s2 =>
(if (decide (s2.2 < (a0.2.2.2.1.length : Int))) = true then
(Loop (S := (List Int) × Int) (X := List Int) (fun s4 =>
(if (decide (s4.2 < (s2.1.length : Int))) = true then
((idx s2.1 s4.2).bind fun x6 =>
(M.ref16_Direct N a0 x6).bind fun y7 =>
Loop (S := (List Int) × Int) (X := List Int) (fun s8 =>
(if (decide (s8.2 < (y7.length : Int))) = true then
(idx y7 s8.2).bind fun x9 =>
(M.ref16_insert N s8.1 x9).bind fun y10 =>
some (Sum.inl (y10, IntKind.i64.wrap (s8.2 + (1 : Int))))
else
some (Sum.inr s8.1))) N (s4.1, (0 : Int)) : Option (List Int)).bind fun j5 =>
some (Sum.inl (j5, IntKind.i64.wrap (s4.2 + (1 : Int))))
else
some (Sum.inr s4.1))) N (s2.1, (0 : Int)) : Option (List Int)).bind fun j3 =>
some (Sum.inl (j3, IntKind.i64.wrap (s2.2 + (1 : Int))))
else
some (Sum.inr s2.1))) N (y1, (0 : Int))
noncomputable def S56 (N : Nat) : Sig := { inn := ⟨[(0, .val true (.leaf rScope)), (1, .val false (.leaf rInt))], [], [], 0⟩, out := ⟨[(0, .val false (.leaf (.slice rInt)))], [], [], 0⟩, fn := fun (x : rScope.den × Int) => M.ref16_Transitive N x.1 x.2 }
theorem W56 (N : Nat) : FnOK Try.prog 56 (S56 N) := fn_ok (E := ⟨tabs, [(68, S68 N), (69, S69 N)], (tabcons (W68 N) (tabcons (W69 N) tabnil)), mixed, false⟩) (N := N) (a := (.two .nil (.two .nil (.two (.two .nil (.two (.loop ⟨[(5, .val false (.leaf (.slice rInt))), (6, .val false (.leaf rInt))], [], [64], 112⟩ (.two .nil (.meet ⟨[(5, .val false (.leaf (.slice rInt)))], [], [], 192⟩ (.two (.two .nil (.two .nil (.two (.loop ⟨[(5, .val false (.leaf (.slice rInt))), (8, .val false (.leaf rInt))], [], [], 240⟩ (.two .nil (.meet ⟨[(5, .val false (.leaf (.slice rInt)))], [], [], 304⟩ (.two (.two .nil (.two .nil (.two (.loop ⟨[(5, .val false (.leaf (.slice rInt))), (10, .val false (.leaf rInt))], [], [], 432⟩ .nil) .nil))) .nil) .nil))) .nil))) .nil) .nil))) .nil)) .nil)))) (sg := S56 N) (c := Try.f56.body.getD .skip) (rs := Try.f56.results.toList) Try.func56 (by kernel_rfl) (by kernel_rfl) rfl rfl rfl rfl (fun x => by kernel_rfl)
noncomputable def M.ref17_scopeError (N : Nat) (a0 : rLaw.den) (a1 : Int) : Option (rLawError.den) :=
(idx a0.2.2 a1).bind fun x1 =>
(M.ref08_IsIdentifier N x1.1).bind fun y2 =>
(if (!y2) = true then
some ((2 : Int), ((3 : Int), (a1, (0 : Int))))
else
(M.ref17_nameTaken N a0 (3 : Int) a1 x1.1).bind fun y3 =>
(if y3 = true then
some ((7 : Int), ((3 : Int), (a1, (0 : Int))))
else
((if (!decide (x1.2.1 = (-1 : Int))) = true then
(if (decide (x1.2.1 < (0 : Int))) = true then
some true
else
(if (decide (a1 ≤ x1.2.1)) = true then
some true
else
(idx a0.2.2 x1.2.1).bind fun x5 =>
some (!decide (x5.2.1 = (-1 : Int)))))
else
some false) : Option (Bool)).bind fun j4 =>
(if j4 = true then
some ((6 : Int), ((3 : Int), (a1, (0 : Int))))
else
(if (decide ((12 : Int) < (x1.2.2.1.length : Int))) = true then
some ((4 : Int), ((3 : Int), (a1, (112 : Int))))
else
(if (decide ((12 : Int) < (x1.2.2.2.1.length : Int))) = true then
some ((4 : Int), ((3 : Int), (a1, (212 : Int))))
else
(M.ref17_fieldError N a0 a1).bind fun y6 =>
(if (!decide (y6.1 = (0 : Int))) = true then
some y6
else
Join (J := Unit) (R := rLawError.den) (Loop (S := Int) (X := (Unit) ⊕ (rLawError.den)) (fun s8 =>
(if (decide (s8 < (x1.2.2.2.2.length : Int))) = true then
(M.ref17_ruleError N a0 a1 s8).bind fun y9 =>
(if (!decide (y9 = (0 : Int))) = true then
some (Sum.inr (Sum.inr (y9, ((3 : Int), (a1, IntKind.i64.wrap ((300 : Int) + s8))))))
else
some (Sum.inl (IntKind.i64.wrap (s8 + (1 : Int)))))
else
some (Sum.inr (Sum.inl ())))) N (0 : Int)) fun j7 =>
Join (J := Unit) (R := rLawError.den) (Loop (S := Int) (X := (Unit) ⊕ (rLawError.den)) (fun s11 =>
(if (decide (s11 < (x1.2.2.2.1.length : Int))) = true then
Join (J := Unit) (R := (Int) ⊕ ((Unit) ⊕ (rLawError.den))) ((M.ref16_Transitive N x1 s11).bind fun y13 =>
Loop (S := Int) (X := (Unit) ⊕ ((Int) ⊕ ((Unit) ⊕ (rLawError.den)))) (fun s14 =>
(if (decide (s14 < (y13.length : Int))) = true then
(idx y13 s14).bind fun x15 =>
(if (decide (x15 = s11)) = true then
some (Sum.inr (Sum.inr (Sum.inr (Sum.inr ((9 : Int), ((3 : Int), (a1, IntKind.i64.wrap ((200 : Int) + s11))))))))
else
some (Sum.inl (IntKind.i64.wrap (s14 + (1 : Int)))))
else
some (Sum.inr (Sum.inl ())))) N (0 : Int)) fun j12 =>
some (Sum.inl (IntKind.i64.wrap (s11 + (1 : Int))))
else
some (Sum.inr (Sum.inl ())))) N (0 : Int)) fun j10 =>
some ((0 : Int), ((0 : Int), ((0 : Int), (0 : Int))))))))))
noncomputable def S48 (N : Nat) : Sig := { inn := ⟨[(0, .val true (.leaf rLaw)), (1, .val false (.leaf rInt))], [], [], 0⟩, out := ⟨[(0, .val true (.leaf rLawError))], [], [], 0⟩, fn := fun (x : rLaw.den × Int) => M.ref17_scopeError N x.1 x.2 }
theorem W48 (N : Nat) : FnOK Try.prog 48 (S48 N) := fn_ok (E := ⟨tabs, [(51, S51 N), (52, S52 N), (54, S54 N), (55, S55 N), (56, S56 N)], (tabcons (W51 N) (tabcons (W52 N) (tabcons (W54 N) (tabcons (W55 N) (tabcons (W56 N) tabnil))))), mixed, false⟩) (N := N) (a := (.two .nil (.two .nil (.two .nil (.two .nil (.two .nil (.two (.meet ⟨[(56, .val false (.leaf .bool))], [], [], 352⟩ .nil .nil) (.two .nil (.two .nil (.two .nil (.two .nil (.join ⟨[], [], [], 608⟩ (.two .nil (.two (.loop ⟨[(8, .val false (.leaf rInt))], [], [], 624⟩ .nil) .nil)) (.join ⟨[], [], [], 608⟩ (.two .nil (.two (.loop ⟨[(10, .val false (.leaf rInt))], [], [], 624⟩ (.two .nil (.join ⟨[], [], [], 704⟩ (.two (.two .nil (.two .nil (.two (.loop ⟨[(12, .val false (.leaf rInt))], [], [], 784⟩ .nil) .nil))) .nil) .nil))) .nil)) .nil))))))))))))) (sg := S48 N) (c := Try.f48.body.getD .skip) (rs := Try.f48.results.toList) Try.func48 (by kernel_rfl) (by kernel_rfl) rfl rfl rfl rfl (fun x => by kernel_rfl)
noncomputable def M.ref17_Validate (N : Nat) (a0 : rLaw.den) : Option (rLawError.den) :=
(if (decide ((8 : Int) < (a0.1.length : Int))) = true then
some ((4 : Int), ((1 : Int), ((8 : Int), (0 : Int))))
else
Join (J := Unit) (R := rLawError.den) (Loop (S := Int) (X := (Unit) ⊕ (rLawError.den)) (fun s2 =>
(if (decide (s2 < (a0.1.length : Int))) = true then
(M.ref17_enumError N a0 s2).bind fun y3 =>
(if (!decide (y3.1 = (0 : Int))) = true then
some (Sum.inr (Sum.inr y3))
else
some (Sum.inl (IntKind.i64.wrap (s2 + (1 : Int)))))
else
some (Sum.inr (Sum.inl ())))) N (0 : Int)) fun j1 =>
(if (decide ((8 : Int) < (a0.2.1.length : Int))) = true then
some ((4 : Int), ((2 : Int), ((8 : Int), (0 : Int))))
else
Join (J := Unit) (R := rLawError.den) (Loop (S := Int) (X := (Unit) ⊕ (rLawError.den)) (fun s5 =>
(if (decide (s5 < (a0.2.1.length : Int))) = true then
(M.ref17_tableError N a0 s5).bind fun y6 =>
(if (!decide (y6.1 = (0 : Int))) = true then
some (Sum.inr (Sum.inr y6))
else
some (Sum.inl (IntKind.i64.wrap (s5 + (1 : Int)))))
else
some (Sum.inr (Sum.inl ())))) N (0 : Int)) fun j4 =>
(if (decide ((4 : Int) < (a0.2.2.length : Int))) = true then
some ((4 : Int), ((3 : Int), ((4 : Int), (0 : Int))))
else
Join (J := Unit) (R := rLawError.den) (Loop (S := Int) (X := (Unit) ⊕ (rLawError.den)) (fun s8 =>
(if (decide (s8 < (a0.2.2.length : Int))) = true then
(M.ref17_scopeError N a0 s8).bind fun y9 =>
(if (!decide (y9.1 = (0 : Int))) = true then
some (Sum.inr (Sum.inr y9))
else
some (Sum.inl (IntKind.i64.wrap (s8 + (1 : Int)))))
else
some (Sum.inr (Sum.inl ())))) N (0 : Int)) fun j7 =>
some ((0 : Int), ((0 : Int), ((0 : Int), (0 : Int)))))))
noncomputable def S34 (N : Nat) : Sig := { inn := ⟨[(0, .val true (.leaf rLaw))], [], [], 0⟩, out := ⟨[(0, .val true (.leaf rLawError))], [], [], 0⟩, fn := fun (x : rLaw.den) => M.ref17_Validate N x }
theorem W34 (N : Nat) : FnOK Try.prog 34 (S34 N) := fn_ok (E := ⟨tabs, [(46, S46 N), (47, S47 N), (48, S48 N)], (tabcons (W46 N) (tabcons (W47 N) (tabcons (W48 N) tabnil))), mixed, false⟩) (N := N) (a := (.two .nil (.two .nil (.join ⟨[], [], [], 96⟩ (.two .nil (.two (.loop ⟨[(3, .val false (.leaf rInt))], [], [], 112⟩ .nil) .nil)) (.two .nil (.join ⟨[], [], [], 160⟩ (.two .nil (.two (.loop ⟨[(5, .val false (.leaf rInt))], [], [], 176⟩ .nil) .nil)) (.two .nil (.join ⟨[], [], [], 224⟩ (.two .nil (.two (.loop ⟨[(7, .val false (.leaf rInt))], [], [], 240⟩ .nil) .nil)) .nil)))))))) (sg := S34 N) (c := Try.f34.body.getD .skip) (rs := Try.f34.results.toList) Try.func34 (by kernel_rfl) (by kernel_rfl) rfl rfl rfl rfl (fun x => by kernel_rfl)
noncomputable def M.ref17_IsValid (N : Nat) (a0 : rLaw.den) : Option (Bool) :=
(M.ref17_Validate N a0).bind fun y1 =>
some (decide (y1.1 = (0 : Int)))
noncomputable def S15 (N : Nat) : Sig := { inn := ⟨[(0, .val true (.leaf rLaw))], [], [], 0⟩, out := ⟨[(0, .val false (.leaf .bool))], [], [], 0⟩, fn := fun (x : rLaw.den) => M.ref17_IsValid N x }
theorem W15 (N : Nat) : FnOK Try.prog 15 (S15 N) := fn_ok (E := ⟨tabs, [(34, S34 N)], (tabcons (W34 N) tabnil), mixed, false⟩) (N := N) (a := .nil) (sg := S15 N) (c := Try.f15.body.getD .skip) (rs := Try.f15.results.toList) Try.func15 (by kernel_rfl) (by kernel_rfl) rfl rfl rfl rfl (fun x => by kernel_rfl)
noncomputable def M.law51_LawdiffIdentity (N : Nat) (a0 : rLaw.den) (a1 : rLaw.den) : Option (Bool) :=
((M.same_SmallLaw N a0).bind fun y2 =>
(if (!y2) = true then
some true
else
(M.same_SmallLaw N a1).bind fun y3 =>
(if (!y3) = true then
some true
else
(M.ref17_IsValid N a0).bind fun y4 =>
some (!y4))) : Option (Bool)).bind fun j1 =>
(if j1 = true then
(M.law51_awake N).bind fun y5 =>
some y5
else
((M.lawdiff_ChangedRules N a0 a0).bind fun y7 =>
(if (!decide ((y7.length : Int) = (0 : Int))) = true then
some true
else
(M.lawdiff_SameInterface N a0 a0).bind fun y8 =>
some (!y8)) : Option (Bool)).bind fun j6 =>
(if j6 = true then
some false
else
((M.ref17_IsValid N a1).bind fun y10 =>
(if (!y10) = true then
some true
else
(M.lawdiff_SameInterface N a0 a1).bind fun y11 =>
(if (!y11) = true then
some true
else
(M.lawdiff_ChangedRules N a0 a1).bind fun y12 =>
some (!decide ((y12.length : Int) = (0 : Int))))) : Option (Bool)).bind fun j9 =>
(if j9 = true then
(M.law51_awake N).bind fun y13 =>
some y13
else
Join (J := Unit) (R := Bool) (Loop (S := Int) (X := (Unit) ⊕ (Bool)) (fun s15 =>
(if (decide (s15 < (a0.2.2.length : Int))) = true then
Join (J := Unit) (R := (Int) ⊕ ((Unit) ⊕ (Bool))) ((idx a0.2.2 s15).bind fun x17 =>
(idx a1.2.2 s15).bind fun x18 =>
(if (!decide ((x17.2.2.2.2.length : Int) = (x18.2.2.2.2.length : Int))) = true then
some (Sum.inr (Sum.inr (Sum.inr false)))
else
Loop (S := Int) (X := (Unit) ⊕ ((Int) ⊕ ((Unit) ⊕ (Bool)))) (fun s19 =>
(idx a0.2.2 s15).bind fun x20 =>
(if (decide (s19 < (x20.2.2.2.2.length : Int))) = true then
(idx a0.2.2 s15).bind fun x21 =>
(idx x21.2.2.2.2 s19).bind fun x22 =>
(idx a0.2.2 s15).bind fun x23 =>
(M.ref51_Counterpart N a1 x23.1 x22.1).bind fun y24 =>
((if (!y24.2.2.2.2.2.2) = true then
some true
else
(idx y24.2.2.2.2.1 y24.2.2.2.2.2.1).bind fun x26 =>
(if (!decide (x26.2.1 = x22.2.1)) = true then
some true
else
(idx y24.2.2.2.2.1 y24.2.2.2.2.2.1).bind fun x27 =>
(if (!decide (x27.2.2.2.1 = x22.2.2.2.1)) = true then
some true
else
(idx y24.2.2.2.2.1 y24.2.2.2.2.2.1).bind fun x28 =>
(if (!(eqR rType x28.2.2.2.2.1 x22.2.2.2.2.1)) = true then
some true
else
(idx y24.2.2.2.2.1 y24.2.2.2.2.2.1).bind fun x29 =>
(M.same_Nodes N x29.2.2.2.2.2.1 x22.2.2.2.2.2.1).bind fun y30 =>
(if (!y30) = true then
some true
else
(idx y24.2.2.2.2.1 y24.2.2.2.2.2.1).bind fun x31 =>
(M.same_Nodes N x31.2.2.2.2.2.2.1 x22.2.2.2.2.2.2.1).bind fun y32 =>
(if (!y32) = true then
some true
else
(idx y24.2.2.2.2.1 y24.2.2.2.2.2.1).bind fun x33 =>
some (!decide (x33.2.2.2.2.2.2.2 = x22.2.2.2.2.2.2.2)))))))) : Option (Bool)).bind fun j25 =>
(if j25 = true then
some (Sum.inr (Sum.inr (Sum.inr (Sum.inr false))))
else
some (Sum.inl (IntKind.i64.wrap (s19 + (1 : Int)))))
else
some (Sum.inr (Sum.inl ())))) N (0 : Int))) fun j16 =>
some (Sum.inl (IntKind.i64.wrap (s15 + (1 : Int))))
else
some (Sum.inr (Sum.inl ())))) N (0 : Int)) fun j14 =>
(M.law51_awake N).bind fun y34 =>
some y34)))
noncomputable def S5 (N : Nat) : Sig := { inn := ⟨[(0, .val true (.leaf rLaw)), (1, .val true (.leaf rLaw))], [], [], 0⟩, out := ⟨[(0, .val false (.leaf .bool))], [], [], 0⟩, fn := fun (x : rLaw.den × rLaw.den) => M.law51_LawdiffIdentity N x.1 x.2 }
theorem W5 (N : Nat) : FnOK Try.prog 5 (S5 N) := fn_ok (E := ⟨tabs, [(8, S8 N), (9, S9 N), (11, S11 N), (13, S13 N), (15, S15 N), (16, S16 N), (17, S17 N)], (tabcons (W8 N) (tabcons (W9 N) (tabcons (W11 N) (tabcons (W13 N) (tabcons (W15 N) (tabcons (W16 N) (tabcons (W17 N) tabnil))))))), mixed, false⟩) (N := N) (a := (.two .nil (.two (.meet ⟨[(23, .val false (.leaf .bool))], [], [], 48⟩ .nil .nil) (.two (.meet ⟨[(35, .val false (.leaf .bool))], [], [], 48⟩ .nil .nil) (.two (.meet ⟨[(51, .val false (.leaf .bool))], [], [], 48⟩ .nil .nil) (.join ⟨[], [], [], 48⟩ (.two .nil (.two (.loop ⟨[(5, .val false (.leaf rInt))], [], [], 64⟩ (.two .nil (.join ⟨[], [], [], 144⟩ (.two (.two .nil (.two .nil (.two (.loop ⟨[(6, .val false (.leaf rInt))], [], [], 400⟩ (.two .nil (.two (.two (.two .nil (.two .nil (.meet ⟨[(178, .val false (.leaf .bool))], [], [], 1008⟩ .nil .nil))) .nil) .nil))) .nil))) .nil) .nil))) .nil)) .nil)))))) (sg := S5 N) (c := Try.f5.body.getD .skip) (rs := Try.f5.results.toList) Try.func5 (by kernel_rfl) (by kernel_rfl) rfl rfl rfl rfl (fun x => by kernel_rfl)
noncomputable def M.law51_has (N : Nat) (a0 : List rChange.den) (a1 : rChange.den) : Option (Bool) :=
Loop (S := Int) (X := Bool) (fun s1 =>
(if (decide (s1 < (a0.length : Int))) = true then
(idx a0 s1).bind fun x2 =>
(if (eqR rChange x2 a1) = true then
some (Sum.inr true)
else
some (Sum.inl (IntKind.i64.wrap (s1 + (1 : Int)))))
else
some (Sum.inr false))) N (0 : Int)
noncomputable def S18 (N : Nat) : Sig := { inn := ⟨[(0, .val false (.leaf (.slice rChange))), (1, .val true (.leaf rChange))], [], [], 0⟩, out := ⟨[(0, .val false (.leaf .bool))], [], [], 0⟩, fn := fun (x : (List rChange.den) × rChange.den) => M.law51_has N x.1 x.2 }
theorem W18 (N : Nat) : FnOK Try.prog 18 (S18 N) := fn_ok (E := ⟨tabs, [], tabnil, mixed, false⟩) (N := N) (a := (.two .nil (.two (.two .nil (.two (.loop ⟨[(5, .val false (.leaf rInt))], [], [], 48⟩ .nil) .nil)) .nil))) (sg := S18 N) (c := Try.f18.body.getD .skip) (rs := Try.f18.results.toList) Try.func18 (by kernel_rfl) (by kernel_rfl) rfl rfl rfl rfl (fun x => by kernel_rfl)
noncomputable def M.law51_LawdiffSymmetry (N : Nat) (a0 : rLaw.den) (a1 : rLaw.den) : Option (Bool) :=
((M.same_SmallLaw N a0).bind fun y2 =>
(if (!y2) = true then
some true
else
(M.same_SmallLaw N a1).bind fun y3 =>
(if (!y3) = true then
some true
else
(M.ref17_IsValid N a0).bind fun y4 =>
(if (!y4) = true then
some true
else
(M.ref17_IsValid N a1).bind fun y5 =>
some (!y5)))) : Option (Bool)).bind fun j1 =>
(if j1 = true then
(M.law51_awake N).bind fun y6 =>
some y6
else
(M.lawdiff_ChangedRules N a0 a1).bind fun y7 =>
(M.lawdiff_ChangedRules N a1 a0).bind fun y8 =>
(if (!decide ((y7.length : Int) = (y8.length : Int))) = true then
some false
else
Join (J := Unit) (R := Bool) (Loop (S := Int) (X := (Unit) ⊕ (Bool)) (fun s10 =>
(if (decide (s10 < (y7.length : Int))) = true then
(idx y7 s10).bind fun x11 =>
((if (decide (x11.2.2 = (1 : Int))) = true then
some (x11.1, (x11.2.1, (2 : Int)))
else
(if (decide (x11.2.2 = (2 : Int))) = true then
some (x11.1, (x11.2.1, (1 : Int)))
else
some x11)) : Option (rChange.den)).bind fun j12 =>
(M.law51_has N y8 j12).bind fun y13 =>
(if (!y13) = true then
some (Sum.inr (Sum.inr false))
else
some (Sum.inl (IntKind.i64.wrap (s10 + (1 : Int)))))
else
some (Sum.inr (Sum.inl ())))) N (0 : Int)) fun j9 =>
(M.law51_awake N).bind fun y14 =>
some y14))
noncomputable def S6 (N : Nat) : Sig := { inn := ⟨[(0, .val true (.leaf rLaw)), (1, .val true (.leaf rLaw))], [], [], 0⟩, out := ⟨[(0, .val false (.leaf .bool))], [], [], 0⟩, fn := fun (x : rLaw.den × rLaw.den) => M.law51_LawdiffSymmetry N x.1 x.2 }
theorem W6 (N : Nat) : FnOK Try.prog 6 (S6 N) := fn_ok (E := ⟨tabs, [(8, S8 N), (9, S9 N), (11, S11 N), (15, S15 N), (18, S18 N)], (tabcons (W8 N) (tabcons (W9 N) (tabcons (W11 N) (tabcons (W15 N) (tabcons (W18 N) tabnil))))), mixed, false⟩) (N := N) (a := (.two .nil (.two (.meet ⟨[(26, .val false (.leaf .bool))], [], [], 48⟩ .nil .nil) (.two .nil (.two .nil (.join ⟨[], [], [], 256⟩ (.two .nil (.two (.loop ⟨[(7, .val false (.leaf rInt))], [], [], 272⟩ (.two .nil (.two (.two (.two .nil (.two (.two .nil (.meet ⟨[], [(400, .box 46 (.leaf rChange))], [], 465⟩ .nil .nil)) .nil)) .nil) .nil))) .nil)) .nil)))))) (sg := S6 N) (c := Try.f6.body.getD .skip) (rs := Try.f6.results.toList) Try.func6 (by kernel_rfl) (by kernel_rfl) rfl rfl rfl rfl (fun x => by kernel_rfl)
noncomputable def M.law51_LawdiffOneRule (N : Nat) (a0 : rLaw.den) (a1 : Int) (a2 : Int) (a3 : ByteArray) : Option (Bool) :=
((M.same_SmallLaw N a0).bind fun y2 =>
(if (!y2) = true then
some true
else
(M.ref17_IsValid N a0).bind fun y3 =>
(if (!y3) = true then
some true
else
(if (decide ((a0.2.2.length : Int) = (0 : Int))) = true then
some true
else
some (decide ((80 : Int) < (a3.size : Int)))))) : Option (Bool)).bind fun j1 =>
(if j1 = true then
(M.law51_awake N).bind fun y4 =>
some y4
else
(remA (IntKind.i64.wrap a1) (a0.2.2.length : Int)).bind fun x5 =>
(idx a0.2.2 x5).bind fun x6 =>
(if (decide ((x6.2.2.2.2.length : Int) = (0 : Int))) = true then
(M.law51_awake N).bind fun y7 =>
some y7
else
(remA (IntKind.i64.wrap a2) (x6.2.2.2.2.length : Int)).bind fun x8 =>
(idx x6.2.2.2.2 x8).bind fun x9 =>
(appA ([] : List rRule.den) x6.2.2.2.2).bind fun l10 =>
(idx l10 x8).bind fun x11 =>
(appA ([] : List rScope.den) a0.2.2).bind fun l12 =>
(idx l12 x5).bind fun x13 =>
(M.lawdiff_ChangedRules N a0 (a0.1, (a0.2.1, setL l12 x5 (x6.1, (x6.2.1, (x6.2.2.1, (x6.2.2.2.1, setL l10 x8 (x11.1, (x11.2.1, (x11.2.2.1, (x11.2.2.2.1, (x11.2.2.2.2.1, (x11.2.2.2.2.2.1, (x11.2.2.2.2.2.2.1, a3)))))))))))))).bind fun y14 =>
(if (decide (a3 = x9.2.2.2.2.2.2.2)) = true then
((if (decide ((y14.length : Int) = (0 : Int))) = true then
(M.law51_awake N).bind fun y16 =>
some y16
else
some false) : Option (Bool)).bind fun j15 =>
some j15
else
((if (decide ((y14.length : Int) = (1 : Int))) = true then
(idx y14 (0 : Int)).bind fun x18 =>
(idx (setL l10 x8 (x11.1, (x11.2.1, (x11.2.2.1, (x11.2.2.2.1, (x11.2.2.2.2.1, (x11.2.2.2.2.2.1, (x11.2.2.2.2.2.2.1, a3)))))))) x8).bind fun x19 =>
(if (eqR rChange x18 (x6.1, (x19.1, (3 : Int)))) = true then
(M.law51_awake N).bind fun y20 =>
some y20
else
some false)
else
some false) : Option (Bool)).bind fun j17 =>
some j17)))
noncomputable def S7 (N : Nat) : Sig := { inn := ⟨[(0, .val true (.leaf rLaw)), (1, .val false (.leaf (.int .u8))), (2, .val false (.leaf (.int .u8))), (3, .val false (.leaf .str))], [], [], 0⟩, out := ⟨[(0, .val false (.leaf .bool))], [], [], 0⟩, fn := fun (x : rLaw.den × Int × Int × ByteArray) => M.law51_LawdiffOneRule N x.1 x.2.1 x.2.2.1 x.2.2.2 }
theorem W7 (N : Nat) : FnOK Try.prog 7 (S7 N) := fn_ok (E := ⟨tabs, [(8, S8 N), (9, S9 N), (11, S11 N), (15, S15 N)], (tabcons (W8 N) (tabcons (W9 N) (tabcons (W11 N) (tabcons (W15 N) tabnil)))), mixed, false⟩) (N := N) (a := (.two .nil (.two (.meet ⟨[(33, .val false (.leaf .bool))], [], [], 32⟩ .nil .nil) (.two .nil (.two .nil (.two .nil (.two .nil (.two .nil (.two .nil (.two .nil (.two .nil (.two .nil (.two .nil (.two .nil (.two (.two .nil (.two (.meet ⟨[(8, .val false (.leaf .bool))], [], [], 1104⟩ .nil .nil) .nil)) (.meet ⟨[(8, .val false (.leaf .bool))], [], [], 1104⟩ .nil .nil)))))))))))))))) (sg := S7 N) (c := Try.f7.body.getD .skip) (rs := Try.f7.results.toList) Try.func7 (by kernel_rfl) (by kernel_rfl) rfl rfl rfl rfl (fun x => by kernel_rfl)
end Go.Proofs.Ytacochphlicngaa
