/- Written by rx.py: models and walks. -/
import Derived.Test.YtdpikadpkgkhkaaGreatModel
namespace Go.Proofs.YtdpikadpkgkhkaaGreat
open Go Go.RowKit
set_option maxRecDepth 100000
set_option linter.unusedVariables false

noncomputable def M.ref16_insert (N : Nat) (a0 : List Int) (a1 : Int) : Option (List Int) :=
(Loop (S := Bool × Int × List Int) (X := Bool × List Int) (fun s2 =>
(if (decide (s2.2.1 < (a0.length : Int))) = true then
(((if (!s2.1) = true then
(idx a0 s2.2.1).bind fun x5 =>
some (decide (a1 ≤ x5))
else
some false) : Option (Bool)).bind fun j4 =>
(if j4 = true then
((idx a0 s2.2.1).bind fun x7 =>
(if (decide (a1 < x7)) = true then
(appA s2.2.2 ([a1] : List Int)).bind fun l8 =>
some l8
else
some s2.2.2) : Option (List Int)).bind fun j6 =>
some (true, j6)
else
some (s2.1, s2.2.2)) : Option (Bool × List Int)).bind fun j3 =>
(idx a0 s2.2.1).bind fun x9 =>
(appA j3.2 ([x9] : List Int)).bind fun l10 =>
some (Sum.inl (j3.1, IntKind.i64.wrap (s2.2.1 + (1 : Int)), l10))
else
some (Sum.inr (s2.1, s2.2.2)))) N (false, (0 : Int), ([] : List Int)) : Option (Bool × List Int)).bind fun j1 =>
((if (!j1.1) = true then
(appA j1.2 ([a1] : List Int)).bind fun l12 =>
some l12
else
some j1.2) : Option (List Int)).bind fun j11 =>
some j11
noncomputable def S117 (N : Nat) : Sig := { inn := ⟨[(0, .val false (.leaf (.slice rInt))), (1, .val false (.leaf rInt))], [], [], 0⟩, out := ⟨[(0, .val false (.own 0))], [(0, .own 3 rInt)], [], 1⟩, fn := fun (x : (List Int) × Int) => M.ref16_insert N x.1 x.2 }
theorem W117 (N : Nat) : FnOK Tryz.prog 117 (S117 N) := fn_ok (E := ⟨tabs, [], tabnil, mixed, false, false⟩) (N := N) (a := (.two .nil (.two .nil (.two .nil (.meet ⟨[(5, .val false (.own 48)), (6, .val false (.leaf .bool))], [(48, .own 3 rInt)], [], 49⟩ (.two .nil (.two (.loop ⟨[(5, .val false (.own 64)), (6, .val false (.leaf .bool)), (7, .val false (.leaf rInt))], [(64, .own 3 rInt)], [], 65⟩ (.two .nil (.two (.two (.meet ⟨[(5, .val false (.own 129)), (6, .val false (.leaf .bool))], [(129, .own 3 rInt)], [64], 130⟩ (.meet ⟨[(23, .val false (.leaf .bool))], [], [], 129⟩ .nil (.two (.meet ⟨[(5, .val false (.own 129))], [(129, .own 3 rInt)], [64], 130⟩ .nil .nil) .nil)) .nil) .nil) .nil))) .nil)) (.meet ⟨[(5, .val false (.own 49))], [(49, .own 3 rInt)], [48], 50⟩ .nil .nil)))))) (sg := S117 N) (c := Tryz.f117.body.getD .skip) (rs := Tryz.f117.results.toList) Tryz.func117 (by kernel_rfl) (by kernel_rfl) rfl rfl rfl rfl (fun x => by kernel_rfl)
noncomputable def M.ref16_is (N : Nat) (a0 : rScope.den) (a1 : Int) : Option (Bool) :=
((if (decide ((0 : Int) ≤ a1)) = true then
some (decide (a1 < (a0.2.2.2.1.length : Int)))
else
some false) : Option (Bool)).bind fun j1 =>
some j1
noncomputable def S129 (N : Nat) : Sig := { inn := ⟨[(0, .val true (.leaf rScope)), (1, .val false (.leaf rInt))], [], [], 0⟩, out := ⟨[(0, .val false (.leaf .bool))], [], [], 0⟩, fn := fun (x : rScope.den × Int) => M.ref16_is N x.1 x.2 }
theorem W129 (N : Nat) : FnOK Tryz.prog 129 (S129 N) := fn_ok (E := ⟨tabs, [], tabnil, mixed, false, false⟩) (N := N) (a := (.two .nil (.meet ⟨[(4, .val false (.leaf .bool))], [], [], 32⟩ .nil .nil))) (sg := S129 N) (c := Tryz.f129.body.getD .skip) (rs := Tryz.f129.results.toList) Tryz.func129 (by kernel_rfl) (by kernel_rfl) rfl rfl rfl rfl (fun x => by kernel_rfl)
noncomputable def M.ref10_insert (N : Nat) (a0 : List Int) (a1 : Int) : Option (List Int) :=
(Loop (S := Bool × Int × List Int) (X := Bool × List Int) (fun s2 =>
(if (decide (s2.2.1 < (a0.length : Int))) = true then
(((if (!s2.1) = true then
(idx a0 s2.2.1).bind fun x5 =>
some (decide (a1 ≤ x5))
else
some false) : Option (Bool)).bind fun j4 =>
(if j4 = true then
((idx a0 s2.2.1).bind fun x7 =>
(if (decide (a1 < x7)) = true then
(appA s2.2.2 ([a1] : List Int)).bind fun l8 =>
some l8
else
some s2.2.2) : Option (List Int)).bind fun j6 =>
some (true, j6)
else
some (s2.1, s2.2.2)) : Option (Bool × List Int)).bind fun j3 =>
(idx a0 s2.2.1).bind fun x9 =>
(appA j3.2 ([x9] : List Int)).bind fun l10 =>
some (Sum.inl (j3.1, IntKind.i64.wrap (s2.2.1 + (1 : Int)), l10))
else
some (Sum.inr (s2.1, s2.2.2)))) N (false, (0 : Int), ([] : List Int)) : Option (Bool × List Int)).bind fun j1 =>
((if (!j1.1) = true then
(appA j1.2 ([a1] : List Int)).bind fun l12 =>
some l12
else
some j1.2) : Option (List Int)).bind fun j11 =>
some j11
noncomputable def S142 (N : Nat) : Sig := { inn := ⟨[(0, .val false (.leaf (.slice rInt))), (1, .val false (.leaf rInt))], [], [], 0⟩, out := ⟨[(0, .val false (.own 0))], [(0, .own 3 rInt)], [], 1⟩, fn := fun (x : (List Int) × Int) => M.ref10_insert N x.1 x.2 }
theorem W142 (N : Nat) : FnOK Tryz.prog 142 (S142 N) := fn_ok (E := ⟨tabs, [], tabnil, mixed, false, false⟩) (N := N) (a := (.two .nil (.two .nil (.two .nil (.meet ⟨[(5, .val false (.own 48)), (6, .val false (.leaf .bool))], [(48, .own 3 rInt)], [], 49⟩ (.two .nil (.two (.loop ⟨[(5, .val false (.own 64)), (6, .val false (.leaf .bool)), (7, .val false (.leaf rInt))], [(64, .own 3 rInt)], [], 65⟩ (.two .nil (.two (.two (.meet ⟨[(5, .val false (.own 129)), (6, .val false (.leaf .bool))], [(129, .own 3 rInt)], [64], 130⟩ (.meet ⟨[(23, .val false (.leaf .bool))], [], [], 129⟩ .nil (.two (.meet ⟨[(5, .val false (.own 129))], [(129, .own 3 rInt)], [64], 130⟩ .nil .nil) .nil)) .nil) .nil) .nil))) .nil)) (.meet ⟨[(5, .val false (.own 49))], [(49, .own 3 rInt)], [48], 50⟩ .nil .nil)))))) (sg := S142 N) (c := Tryz.f142.body.getD .skip) (rs := Tryz.f142.results.toList) Tryz.func142 (by kernel_rfl) (by kernel_rfl) rfl rfl rfl rfl (fun x => by kernel_rfl)
noncomputable def M.ref10_References (N : Nat) (a0 : List rType.den) : Option ((List Int) × (List Int) × List Int) :=
(Loop (S := Int × (List Int) × (List Int) × List Int) (X := (List Int) × (List Int) × List Int) (fun s2 =>
(if (decide (s2.1 < (a0.length : Int))) = true then
((idx a0 s2.1).bind fun x4 =>
((if (decide (x4.1 = (7 : Int))) = true then
(idx a0 s2.1).bind fun x6 =>
(M.ref10_insert N s2.2.1 x6.2).bind fun y7 =>
some y7
else
some s2.2.1) : Option (List Int)).bind fun j5 =>
((if (decide (x4.1 = (8 : Int))) = true then
(idx a0 s2.1).bind fun x9 =>
(M.ref10_insert N s2.2.2.1 x9.2).bind fun y10 =>
some y10
else
some s2.2.2.1) : Option (List Int)).bind fun j8 =>
((if (decide ((36 : Int) ≤ x4.1)) = true then
some (decide (x4.1 ≤ (39 : Int)))
else
some false) : Option (Bool)).bind fun j11 =>
(if j11 = true then
(idx a0 s2.1).bind fun x12 =>
(M.ref10_insert N s2.2.2.2 x12.2).bind fun y13 =>
some (j5, j8, y13)
else
some (j5, j8, s2.2.2.2)) : Option ((List Int) × (List Int) × List Int)).bind fun j3 =>
some (Sum.inl (IntKind.i64.wrap (s2.1 + (1 : Int)), j3.1, j3.2.1, j3.2.2))
else
some (Sum.inr (s2.2.1, s2.2.2.1, s2.2.2.2)))) N ((0 : Int), ([] : List Int), ([] : List Int), ([] : List Int)) : Option ((List Int) × (List Int) × List Int)).bind fun j1 =>
some (j1.1, j1.2.1, j1.2.2)
noncomputable def S130 (N : Nat) : Sig := { inn := ⟨[(0, .val false (.leaf (.slice rType)))], [], [], 0⟩, out := ⟨[(0, .val false (.own 0)), (1, .val false (.own 1)), (2, .val false (.own 2))], [(0, .own 3 rInt), (1, .own 3 rInt), (2, .own 3 rInt)], [], 3⟩, fn := fun (x : List rType.den) => M.ref10_References N x }
theorem W130 (N : Nat) : FnOK Tryz.prog 130 (S130 N) := fn_ok (E := ⟨tabs, [(142, S142 N)], (tabcons (W142 N) tabnil), mixed, false, false⟩) (N := N) (a := (.two .nil (.two .nil (.meet ⟨[(5, .val false (.own 96)), (6, .val false (.own 97)), (7, .val false (.own 98))], [(96, .own 3 rInt), (97, .own 3 rInt), (98, .own 3 rInt)], [], 99⟩ (.two .nil (.two (.loop ⟨[(5, .val false (.own 112)), (6, .val false (.own 113)), (7, .val false (.own 114)), (8, .val false (.leaf rInt))], [(112, .own 3 rInt), (113, .own 3 rInt), (114, .own 3 rInt)], [], 115⟩ (.two .nil (.two (.meet ⟨[(5, .val false (.own 179)), (6, .val false (.own 180)), (7, .val false (.own 181))], [(179, .own 3 rInt), (180, .own 3 rInt), (181, .own 3 rInt)], [112, 113, 114], 182⟩ (.two .nil (.meet ⟨[(5, .val false (.own 275))], [(275, .own 3 rInt)], [112], 276⟩ .nil (.meet ⟨[(6, .val false (.own 276))], [(276, .own 3 rInt)], [113], 277⟩ .nil (.meet ⟨[(44, .val false (.leaf .bool))], [], [], 277⟩ .nil .nil)))) .nil) .nil))) .nil)) .nil)))) (sg := S130 N) (c := Tryz.f130.body.getD .skip) (rs := Tryz.f130.results.toList) Tryz.func130 (by kernel_rfl) (by kernel_rfl) rfl rfl rfl rfl (fun x => by kernel_rfl)
noncomputable def M.ref16_Direct (N : Nat) (a0 : rScope.den) (a1 : Int) : Option (List Int) :=
(M.ref16_is N a0 a1).bind fun y1 =>
(if (!y1) = true then
some ([] : List Int)
else
Loop (S := Int × List Int) (X := List Int) (fun s2 =>
(if (decide (s2.1 < (a0.2.2.2.2.length : Int))) = true then
(((idx a0.2.2.2.2 s2.1).bind fun x5 =>
(if (!decide (x5.2.1 = a1)) = true then
some s2.2
else
(idx a0.2.2.2.2 s2.1).bind fun x6 =>
(M.ref10_References N x6.2.2.2.2.2.1).bind fun y7 =>
(idx a0.2.2.2.2 s2.1).bind fun x8 =>
(M.ref10_References N x8.2.2.2.2.2.2.1).bind fun y9 =>
(Loop (S := Int × List Int) (X := List Int) (fun s11 =>
(if (decide (s11.1 < (y7.2.1.length : Int))) = true then
((idx y7.2.1 s11.1).bind fun x13 =>
(M.ref16_is N a0 x13).bind fun y14 =>
(if y14 = true then
(idx y7.2.1 s11.1).bind fun x15 =>
(M.ref16_insert N s11.2 x15).bind fun y16 =>
some y16
else
some s11.2) : Option (List Int)).bind fun j12 =>
some (Sum.inl (IntKind.i64.wrap (s11.1 + (1 : Int)), j12))
else
some (Sum.inr s11.2))) N ((0 : Int), s2.2) : Option (List Int)).bind fun j10 =>
Loop (S := Int × List Int) (X := List Int) (fun s17 =>
(if (decide (s17.1 < (y9.2.1.length : Int))) = true then
((idx y9.2.1 s17.1).bind fun x19 =>
(M.ref16_is N a0 x19).bind fun y20 =>
(if y20 = true then
(idx y9.2.1 s17.1).bind fun x21 =>
(M.ref16_insert N s17.2 x21).bind fun y22 =>
some y22
else
some s17.2) : Option (List Int)).bind fun j18 =>
some (Sum.inl (IntKind.i64.wrap (s17.1 + (1 : Int)), j18))
else
some (Sum.inr s17.2))) N ((0 : Int), j10)) : Option (List Int)).bind fun j4 =>
some j4 : Option (List Int)).bind fun j3 =>
some (Sum.inl (IntKind.i64.wrap (s2.1 + (1 : Int)), j3))
else
some (Sum.inr s2.2))) N ((0 : Int), ([] : List Int)))
noncomputable def S116 (N : Nat) : Sig := { inn := ⟨[(0, .val true (.leaf rScope)), (1, .val false (.leaf rInt))], [], [], 0⟩, out := ⟨[(0, .val false (.own 0))], [(0, .own 3 rInt)], [], 1⟩, fn := fun (x : rScope.den × Int) => M.ref16_Direct N x.1 x.2 }
theorem W116 (N : Nat) : FnOK Tryz.prog 116 (S116 N) := fn_ok (E := ⟨tabs, [(117, S117 N), (129, S129 N), (130, S130 N)], (tabcons (W117 N) (tabcons (W129 N) (tabcons (W130 N) tabnil))), mixed, false, false⟩) (N := N) (a := (.two .nil (.two .nil (.two .nil (.two (.two .nil (.two (.loop ⟨[(5, .val false (.own 128)), (6, .val false (.leaf rInt))], [(128, .own 3 rInt)], [], 129⟩ (.two .nil (.meet ⟨[(5, .val false (.own 209))], [(209, .own 3 rInt)], [128], 210⟩ (.meet ⟨[(5, .val false (.own 209))], [(209, .own 3 rInt)], [128], 210⟩ (.two .nil (.two .nil (.two .nil (.meet ⟨[(5, .val false (.own 785))], [(785, .own 3 rInt)], [128], 786⟩ (.two .nil (.two (.loop ⟨[(5, .val false (.own 801)), (13, .val false (.leaf rInt))], [(801, .own 3 rInt)], [128], 802⟩ (.two .nil (.two (.meet ⟨[(5, .val false (.own 866))], [(866, .own 3 rInt)], [801], 867⟩ .nil .nil) .nil))) .nil)) (.two .nil (.two (.loop ⟨[(5, .val false (.own 802)), (14, .val false (.leaf rInt))], [(802, .own 3 rInt)], [785], 803⟩ (.two .nil (.two (.meet ⟨[(5, .val false (.own 867))], [(867, .own 3 rInt)], [802], 868⟩ .nil .nil) .nil))) .nil)))))) .nil) .nil))) .nil)) .nil))))) (sg := S116 N) (c := Tryz.f116.body.getD .skip) (rs := Tryz.f116.results.toList) Tryz.func116 (by kernel_rfl) (by kernel_rfl) rfl rfl rfl rfl (fun x => by kernel_rfl)
noncomputable def M.ref16_Transitive (N : Nat) (a0 : rScope.den) (a1 : Int) : Option (List Int) :=
(M.ref16_Direct N a0 a1).bind fun y1 =>
Loop (S := (List Int) × Int) (X := List Int) (fun s2 =>
(if (decide (s2.2 < (a0.2.2.2.1.length : Int))) = true then
(Loop (S := (List Int) × Int) (X := List Int) (fun s4 =>
(if (decide (s4.2 < (s2.1.length : Int))) = true then
((idx s2.1 s4.2).bind fun x6 =>
(M.ref16_Direct N a0 x6).bind fun y7 =>
Loop (S := (List Int) × Int) (X := List Int) (fun s8 =>
(if (decide (s8.2 < (y7.length : Int))) = true then
(idx y7 s8.2).bind fun x9 =>
(M.ref16_insert N s8.1 x9).bind fun y10 =>
some (Sum.inl (y10, IntKind.i64.wrap (s8.2 + (1 : Int))))
else
some (Sum.inr s8.1))) N (s4.1, (0 : Int)) : Option (List Int)).bind fun j5 =>
some (Sum.inl (j5, IntKind.i64.wrap (s4.2 + (1 : Int))))
else
some (Sum.inr s4.1))) N (s2.1, (0 : Int)) : Option (List Int)).bind fun j3 =>
some (Sum.inl (j3, IntKind.i64.wrap (s2.2 + (1 : Int))))
else
some (Sum.inr s2.1))) N (y1, (0 : Int))
noncomputable def S90 (N : Nat) : Sig := { inn := ⟨[(0, .val true (.leaf rScope)), (1, .val false (.leaf rInt))], [], [], 0⟩, out := ⟨[(0, .val false (.leaf (.slice rInt)))], [], [], 0⟩, fn := fun (x : rScope.den × Int) => M.ref16_Transitive N x.1 x.2 }
theorem W90 (N : Nat) : FnOK Tryz.prog 90 (S90 N) := fn_ok (E := ⟨tabs, [(116, S116 N), (117, S117 N)], (tabcons (W116 N) (tabcons (W117 N) tabnil)), mixed, false, false⟩) (N := N) (a := (.two .nil (.two .nil (.two (.two .nil (.two (.loop ⟨[(5, .val false (.leaf (.slice rInt))), (6, .val false (.leaf rInt))], [], [64], 112⟩ (.two .nil (.meet ⟨[(5, .val false (.leaf (.slice rInt)))], [], [], 192⟩ (.two (.two .nil (.two .nil (.two (.loop ⟨[(5, .val false (.leaf (.slice rInt))), (8, .val false (.leaf rInt))], [], [], 240⟩ (.two .nil (.meet ⟨[(5, .val false (.leaf (.slice rInt)))], [], [], 304⟩ (.two (.two .nil (.two .nil (.two (.loop ⟨[(5, .val false (.leaf (.slice rInt))), (10, .val false (.leaf rInt))], [], [], 432⟩ .nil) .nil))) .nil) .nil))) .nil))) .nil) .nil))) .nil)) .nil)))) (sg := S90 N) (c := Tryz.f90.body.getD .skip) (rs := Tryz.f90.results.toList) Tryz.func90 (by kernel_rfl) (by kernel_rfl) rfl rfl rfl rfl (fun x => by kernel_rfl)
noncomputable def M.ref17_scopeError (N : Nat) (a0 : rLaw.den) (a1 : Int) : Option (rLawError.den) :=
(idx a0.2.2 a1).bind fun x1 =>
(M.ref08_IsIdentifier N x1.1).bind fun y2 =>
(if (!y2) = true then
some ((2 : Int), ((3 : Int), (a1, (0 : Int))))
else
(M.ref17_nameTaken N a0 (3 : Int) a1 x1.1).bind fun y3 =>
(if y3 = true then
some ((7 : Int), ((3 : Int), (a1, (0 : Int))))
else
((if (!decide (x1.2.1 = (-1 : Int))) = true then
(if (decide (x1.2.1 < (0 : Int))) = true then
some true
else
(if (decide (a1 ≤ x1.2.1)) = true then
some true
else
(idx a0.2.2 x1.2.1).bind fun x5 =>
some (!decide (x5.2.1 = (-1 : Int)))))
else
some false) : Option (Bool)).bind fun j4 =>
(if j4 = true then
some ((6 : Int), ((3 : Int), (a1, (0 : Int))))
else
(if (decide ((12 : Int) < (x1.2.2.1.length : Int))) = true then
some ((4 : Int), ((3 : Int), (a1, (112 : Int))))
else
(if (decide ((12 : Int) < (x1.2.2.2.1.length : Int))) = true then
some ((4 : Int), ((3 : Int), (a1, (212 : Int))))
else
(M.ref17_fieldError N a0 a1).bind fun y6 =>
(if (!decide (y6.1 = (0 : Int))) = true then
some y6
else
Join (J := Unit) (R := rLawError.den) (Loop (S := Int) (X := (Unit) ⊕ (rLawError.den)) (fun s8 =>
(if (decide (s8 < (x1.2.2.2.2.length : Int))) = true then
(M.ref17_ruleError N a0 a1 s8).bind fun y9 =>
(if (!decide (y9 = (0 : Int))) = true then
some (Sum.inr (Sum.inr (y9, ((3 : Int), (a1, IntKind.i64.wrap ((300 : Int) + s8))))))
else
some (Sum.inl (IntKind.i64.wrap (s8 + (1 : Int)))))
else
some (Sum.inr (Sum.inl ())))) N (0 : Int)) fun j7 =>
Join (J := Unit) (R := rLawError.den) (Loop (S := Int) (X := (Unit) ⊕ (rLawError.den)) (fun s11 =>
(if (decide (s11 < (x1.2.2.2.1.length : Int))) = true then
Join (J := Unit) (R := (Int) ⊕ ((Unit) ⊕ (rLawError.den))) ((M.ref16_Transitive N x1 s11).bind fun y13 =>
Loop (S := Int) (X := (Unit) ⊕ ((Int) ⊕ ((Unit) ⊕ (rLawError.den)))) (fun s14 =>
(if (decide (s14 < (y13.length : Int))) = true then
(idx y13 s14).bind fun x15 =>
(if (decide (x15 = s11)) = true then
some (Sum.inr (Sum.inr (Sum.inr (Sum.inr ((9 : Int), ((3 : Int), (a1, IntKind.i64.wrap ((200 : Int) + s11))))))))
else
some (Sum.inl (IntKind.i64.wrap (s14 + (1 : Int)))))
else
some (Sum.inr (Sum.inl ())))) N (0 : Int)) fun j12 =>
some (Sum.inl (IntKind.i64.wrap (s11 + (1 : Int))))
else
some (Sum.inr (Sum.inl ())))) N (0 : Int)) fun j10 =>
some ((0 : Int), ((0 : Int), ((0 : Int), (0 : Int))))))))))
noncomputable def S65 (N : Nat) : Sig := { inn := ⟨[(0, .val true (.leaf rLaw)), (1, .val false (.leaf rInt))], [], [], 0⟩, out := ⟨[(0, .val true (.leaf rLawError))], [], [], 0⟩, fn := fun (x : rLaw.den × Int) => M.ref17_scopeError N x.1 x.2 }
theorem W65 (N : Nat) : FnOK Tryz.prog 65 (S65 N) := fn_ok (E := ⟨tabs, [(85, S85 N), (86, S86 N), (88, S88 N), (89, S89 N), (90, S90 N)], (tabcons (W85 N) (tabcons (W86 N) (tabcons (W88 N) (tabcons (W89 N) (tabcons (W90 N) tabnil))))), mixed, false, false⟩) (N := N) (a := (.two .nil (.two .nil (.two .nil (.two .nil (.two .nil (.two (.meet ⟨[(56, .val false (.leaf .bool))], [], [], 352⟩ .nil .nil) (.two .nil (.two .nil (.two .nil (.two .nil (.join ⟨[], [], [], 608⟩ (.two .nil (.two (.loop ⟨[(8, .val false (.leaf rInt))], [], [], 624⟩ .nil) .nil)) (.join ⟨[], [], [], 608⟩ (.two .nil (.two (.loop ⟨[(10, .val false (.leaf rInt))], [], [], 624⟩ (.two .nil (.join ⟨[], [], [], 704⟩ (.two (.two .nil (.two .nil (.two (.loop ⟨[(12, .val false (.leaf rInt))], [], [], 784⟩ .nil) .nil))) .nil) .nil))) .nil)) .nil))))))))))))) (sg := S65 N) (c := Tryz.f65.body.getD .skip) (rs := Tryz.f65.results.toList) Tryz.func65 (by kernel_rfl) (by kernel_rfl) rfl rfl rfl rfl (fun x => by kernel_rfl)
noncomputable def M.ref17_Validate (N : Nat) (a0 : rLaw.den) : Option (rLawError.den) :=
(if (decide ((8 : Int) < (a0.1.length : Int))) = true then
some ((4 : Int), ((1 : Int), ((8 : Int), (0 : Int))))
else
Join (J := Unit) (R := rLawError.den) (Loop (S := Int) (X := (Unit) ⊕ (rLawError.den)) (fun s2 =>
(if (decide (s2 < (a0.1.length : Int))) = true then
(M.ref17_enumError N a0 s2).bind fun y3 =>
(if (!decide (y3.1 = (0 : Int))) = true then
some (Sum.inr (Sum.inr y3))
else
some (Sum.inl (IntKind.i64.wrap (s2 + (1 : Int)))))
else
some (Sum.inr (Sum.inl ())))) N (0 : Int)) fun j1 =>
(if (decide ((8 : Int) < (a0.2.1.length : Int))) = true then
some ((4 : Int), ((2 : Int), ((8 : Int), (0 : Int))))
else
Join (J := Unit) (R := rLawError.den) (Loop (S := Int) (X := (Unit) ⊕ (rLawError.den)) (fun s5 =>
(if (decide (s5 < (a0.2.1.length : Int))) = true then
(M.ref17_tableError N a0 s5).bind fun y6 =>
(if (!decide (y6.1 = (0 : Int))) = true then
some (Sum.inr (Sum.inr y6))
else
some (Sum.inl (IntKind.i64.wrap (s5 + (1 : Int)))))
else
some (Sum.inr (Sum.inl ())))) N (0 : Int)) fun j4 =>
(if (decide ((4 : Int) < (a0.2.2.length : Int))) = true then
some ((4 : Int), ((3 : Int), ((4 : Int), (0 : Int))))
else
Join (J := Unit) (R := rLawError.den) (Loop (S := Int) (X := (Unit) ⊕ (rLawError.den)) (fun s8 =>
(if (decide (s8 < (a0.2.2.length : Int))) = true then
(M.ref17_scopeError N a0 s8).bind fun y9 =>
(if (!decide (y9.1 = (0 : Int))) = true then
some (Sum.inr (Sum.inr y9))
else
some (Sum.inl (IntKind.i64.wrap (s8 + (1 : Int)))))
else
some (Sum.inr (Sum.inl ())))) N (0 : Int)) fun j7 =>
some ((0 : Int), ((0 : Int), ((0 : Int), (0 : Int)))))))
noncomputable def S50 (N : Nat) : Sig := { inn := ⟨[(0, .val true (.leaf rLaw))], [], [], 0⟩, out := ⟨[(0, .val true (.leaf rLawError))], [], [], 0⟩, fn := fun (x : rLaw.den) => M.ref17_Validate N x }
theorem W50 (N : Nat) : FnOK Tryz.prog 50 (S50 N) := fn_ok (E := ⟨tabs, [(63, S63 N), (64, S64 N), (65, S65 N)], (tabcons (W63 N) (tabcons (W64 N) (tabcons (W65 N) tabnil))), mixed, false, false⟩) (N := N) (a := (.two .nil (.two .nil (.join ⟨[], [], [], 96⟩ (.two .nil (.two (.loop ⟨[(3, .val false (.leaf rInt))], [], [], 112⟩ .nil) .nil)) (.two .nil (.join ⟨[], [], [], 160⟩ (.two .nil (.two (.loop ⟨[(5, .val false (.leaf rInt))], [], [], 176⟩ .nil) .nil)) (.two .nil (.join ⟨[], [], [], 224⟩ (.two .nil (.two (.loop ⟨[(7, .val false (.leaf rInt))], [], [], 240⟩ .nil) .nil)) .nil)))))))) (sg := S50 N) (c := Tryz.f50.body.getD .skip) (rs := Tryz.f50.results.toList) Tryz.func50 (by kernel_rfl) (by kernel_rfl) rfl rfl rfl rfl (fun x => by kernel_rfl)
noncomputable def M.ref17_IsValid (N : Nat) (a0 : rLaw.den) : Option (Bool) :=
(M.ref17_Validate N a0).bind fun y1 =>
some (decide (y1.1 = (0 : Int)))
noncomputable def S33 (N : Nat) : Sig := { inn := ⟨[(0, .val true (.leaf rLaw))], [], [], 0⟩, out := ⟨[(0, .val false (.leaf .bool))], [], [], 0⟩, fn := fun (x : rLaw.den) => M.ref17_IsValid N x }
theorem W33 (N : Nat) : FnOK Tryz.prog 33 (S33 N) := fn_ok (E := ⟨tabs, [(50, S50 N)], (tabcons (W50 N) tabnil), mixed, false, false⟩) (N := N) (a := .nil) (sg := S33 N) (c := Tryz.f33.body.getD .skip) (rs := Tryz.f33.results.toList) Tryz.func33 (by kernel_rfl) (by kernel_rfl) rfl rfl rfl rfl (fun x => by kernel_rfl)
noncomputable def M.ref35_inputs (N : Nat) (a0 : rHousehold.den) (a1 : Int) (a2 : List rField.den) (a3 : Int) (a4 : Int) : Option (Bool × List rValue.den) :=
Loop (S := Int × List rValue.den) (X := Bool × List rValue.den) (fun s1 =>
(if (decide (s1.1 < (a2.length : Int))) = true then
(M.ref34_AsOf N a0.2.2.2 a1 s1.1 a3 a4).bind fun y2 =>
(if (!y2.2) = true then
some (Sum.inr (false, ([] : List rValue.den)))
else
(appA s1.2 ([y2.1] : List rValue.den)).bind fun l3 =>
some (Sum.inl (IntKind.i64.wrap (s1.1 + (1 : Int)), l3)))
else
some (Sum.inr (true, s1.2)))) N ((0 : Int), ([] : List rValue.den))
noncomputable def S51 (N : Nat) : Sig := { inn := ⟨[(0, .val true (.leaf rHousehold)), (1, .val false (.leaf rInt)), (2, .val false (.leaf (.slice rField))), (3, .val false (.leaf rInt)), (4, .val false (.leaf rInt))], [], [], 0⟩, out := ⟨[(0, .val false (.own 0)), (1, .val false (.leaf .bool))], [(0, .own 51 rValue)], [], 1⟩, fn := fun (x : rHousehold.den × Int × (List rField.den) × Int × Int) => M.ref35_inputs N x.1 x.2.1 x.2.2.1 x.2.2.2.1 x.2.2.2.2 }
theorem W51 (N : Nat) : FnOK Tryz.prog 51 (S51 N) := fn_ok (E := ⟨tabs, [(30, S30 N)], (tabcons (W30 N) tabnil), mixed, false, false⟩) (N := N) (a := (.two .nil (.two .nil (.two (.two .nil (.two (.loop ⟨[(12, .val false (.own 80)), (13, .val false (.leaf rInt))], [(80, .own 51 rValue)], [], 81⟩ .nil) .nil)) .nil)))) (sg := S51 N) (c := Tryz.f51.body.getD .skip) (rs := Tryz.f51.results.toList) Tryz.func51 (by kernel_rfl) (by kernel_rfl) rfl rfl rfl rfl (fun x => by kernel_rfl)
noncomputable def M.ref35_CaseOnValid (N : Nat) (a0 : rLaw.den) (a1 : rHousehold.den) (a2 : Int) (a3 : Int) : Option (Int × Int × (List rValue.den) × List (List rValue.den)) :=
((if (decide (a2 < (0 : Int))) = true then
some true
else
some (decide ((109572 : Int) < a2))) : Option (Bool)).bind fun j1 =>
(if j1 = true then
some ((0 : Int), (3 : Int), ([] : List rValue.den), ([] : List (List rValue.den)))
else
(idx a0.2.2 a1.2.1).bind fun x2 =>
(M.ref35_inputs N a1 (-1 : Int) x2.2.2.1 a2 a3).bind fun y3 =>
(if (!y3.1) = true then
some ((0 : Int), (6 : Int), ([] : List rValue.den), ([] : List (List rValue.den)))
else
(M.ref35_memberInputs N a0 a1.2.1).bind fun y4 =>
(M.ref35_MembersOn N a1 a2 a3).bind fun y5 =>
Join (J := (List rValue.den) × Int × List (List rValue.den)) (R := Int × Int × (List rValue.den) × List (List rValue.den)) (Loop (S := Int × (List rValue.den) × Int × List (List rValue.den)) (X := ((List rValue.den) × Int × List (List rValue.den)) ⊕ (Int × Int × (List rValue.den) × List (List rValue.den))) (fun s7 =>
(if (decide (s7.1 < (y5.length : Int))) = true then
(idx y5 s7.1).bind fun x8 =>
(M.ref35_inputs N a1 x8 y4.1 a2 a3).bind fun y9 =>
(if (!y9.1) = true then
some (Sum.inr (Sum.inr ((0 : Int), (6 : Int), ([] : List rValue.den), ([] : List (List rValue.den)))))
else
(appA s7.2.2.2 ([y9.2] : List (List rValue.den))).bind fun l10 =>
some (Sum.inl (IntKind.i64.wrap (s7.1 + (1 : Int)), s7.2.1, s7.2.2.1, l10)))
else
some (Sum.inr (Sum.inl (s7.2.1, s7.2.2.1, s7.2.2.2))))) N ((0 : Int), y3.2, a2, ([] : List (List rValue.den)))) fun j6 =>
some (j6.2.1, (0 : Int), j6.1, j6.2.2)))
noncomputable def S34 (N : Nat) : Sig := { inn := ⟨[(0, .val true (.leaf rLaw)), (1, .val true (.leaf rHousehold)), (2, .val false (.leaf rInt)), (3, .val false (.leaf rInt))], [], [], 0⟩, out := ⟨[(0, .val true (.pair (.leaf rInt) (.pair (.own 0) (.own 1)))), (1, .val false (.leaf rInt))], [(0, .own 51 rValue), (1, .own 41 (.slice rValue))], [], 2⟩, fn := fun (x : rLaw.den × rHousehold.den × Int × Int) => M.ref35_CaseOnValid N x.1 x.2.1 x.2.2.1 x.2.2.2 }
theorem W34 (N : Nat) : FnOK Tryz.prog 34 (S34 N) := fn_ok (E := ⟨tabs, [(16, S16 N), (26, S26 N), (51, S51 N)], (tabcons (W16 N) (tabcons (W26 N) (tabcons (W51 N) tabnil))), mixed, false, false⟩) (N := N) (a := (.two .nil (.two (.meet ⟨[(24, .val false (.leaf .bool))], [], [], 64⟩ .nil .nil) (.two .nil (.two .nil (.two .nil (.two .nil (.two .nil (.join ⟨[], [(224, .own 51 rValue), (400, .box 44 (.pair (.leaf rInt) (.pair (.own 224) (.own 656)))), (656, .own 41 (.slice rValue))], [], 659⟩ (.two .nil (.two (.loop ⟨[(16, .val false (.leaf rInt))], [(224, .own 51 rValue), (400, .box 44 (.pair (.leaf rInt) (.pair (.own 224) (.own 672)))), (672, .own 41 (.slice rValue))], [], 675⟩ .nil) .nil)) .nil))))))))) (sg := S34 N) (c := Tryz.f34.body.getD .skip) (rs := Tryz.f34.results.toList) Tryz.func34 (by kernel_rfl) (by kernel_rfl) rfl rfl rfl rfl (fun x => by kernel_rfl)
noncomputable def M.ref35_CaseOn (N : Nat) (a0 : rLaw.den) (a1 : rHousehold.den) (a2 : Int) (a3 : Int) : Option (Int × Int × (List rValue.den) × List (List rValue.den)) :=
(M.ref17_IsValid N a0).bind fun y1 =>
(if (!y1) = true then
some ((0 : Int), (1 : Int), ([] : List rValue.den), ([] : List (List rValue.den)))
else
(M.ref35_Validate N a0 a1).bind fun y2 =>
(if (!decide (y2.2 = (0 : Int))) = true then
some ((0 : Int), (1 : Int), ([] : List rValue.den), ([] : List (List rValue.den)))
else
(M.ref35_CaseOnValid N a0 a1 a2 a3).bind fun y3 =>
some (y3.1, y3.2.1, y3.2.2.1, y3.2.2.2)))
noncomputable def S18 (N : Nat) : Sig := { inn := ⟨[(0, .val true (.leaf rLaw)), (1, .val true (.leaf rHousehold)), (2, .val false (.leaf rInt)), (3, .val false (.leaf rInt))], [], [], 0⟩, out := ⟨[(0, .val true (.pair (.leaf rInt) (.pair (.own 0) (.own 1)))), (1, .val false (.leaf rInt))], [(0, .own 51 rValue), (1, .own 41 (.slice rValue))], [], 2⟩, fn := fun (x : rLaw.den × rHousehold.den × Int × Int) => M.ref35_CaseOn N x.1 x.2.1 x.2.2.1 x.2.2.2 }
theorem W18 (N : Nat) : FnOK Tryz.prog 18 (S18 N) := fn_ok (E := ⟨tabs, [(13, S13 N), (33, S33 N), (34, S34 N)], (tabcons (W13 N) (tabcons (W33 N) (tabcons (W34 N) tabnil))), mixed, false, false⟩) (N := N) (a := .nil) (sg := S18 N) (c := Tryz.f18.body.getD .skip) (rs := Tryz.f18.results.toList) Tryz.func18 (by kernel_rfl) (by kernel_rfl) rfl rfl rfl rfl (fun x => by kernel_rfl)
noncomputable def M.same_Values (N : Nat) (a0 : List rValue.den) (a1 : List rValue.den) : Option (Bool) :=
(if (!decide ((a0.length : Int) = (a1.length : Int))) = true then
some false
else
Loop (S := Int) (X := Bool) (fun s1 =>
((if (decide (s1 < (a0.length : Int))) = true then
some (decide (s1 < (a1.length : Int)))
else
some false) : Option (Bool)).bind fun j2 =>
(if j2 = true then
(idx a0 s1).bind fun x3 =>
(idx a1 s1).bind fun x4 =>
(if (!(eqR rValue x3 x4)) = true then
some (Sum.inr false)
else
some (Sum.inl (IntKind.i64.wrap (s1 + (1 : Int)))))
else
some (Sum.inr true))) N (0 : Int))
noncomputable def S35 (N : Nat) : Sig := { inn := ⟨[(0, .val false (.leaf (.slice rValue))), (1, .val false (.leaf (.slice rValue)))], [], [], 0⟩, out := ⟨[(0, .val false (.leaf .bool))], [], [], 0⟩, fn := fun (x : (List rValue.den) × List rValue.den) => M.same_Values N x.1 x.2 }
theorem W35 (N : Nat) : FnOK Tryz.prog 35 (S35 N) := fn_ok (E := ⟨tabs, [], tabnil, mixed, false, false⟩) (N := N) (a := (.two .nil (.two .nil (.two (.two .nil (.two (.loop ⟨[(5, .val false (.leaf rInt))], [], [], 112⟩ (.two (.meet ⟨[(20, .val false (.leaf .bool))], [], [], 112⟩ .nil .nil) .nil)) .nil)) .nil)))) (sg := S35 N) (c := Tryz.f35.body.getD .skip) (rs := Tryz.f35.results.toList) Tryz.func35 (by kernel_rfl) (by kernel_rfl) rfl rfl rfl rfl (fun x => by kernel_rfl)
noncomputable def M.same_ValueLists (N : Nat) (a0 : List (List rValue.den)) (a1 : List (List rValue.den)) : Option (Bool) :=
(if (!decide ((a0.length : Int) = (a1.length : Int))) = true then
some false
else
Loop (S := Int) (X := Bool) (fun s1 =>
((if (decide (s1 < (a0.length : Int))) = true then
some (decide (s1 < (a1.length : Int)))
else
some false) : Option (Bool)).bind fun j2 =>
(if j2 = true then
(idx a0 s1).bind fun x3 =>
(idx a1 s1).bind fun x4 =>
(M.same_Values N x3 x4).bind fun y5 =>
(if (!y5) = true then
some (Sum.inr false)
else
some (Sum.inl (IntKind.i64.wrap (s1 + (1 : Int)))))
else
some (Sum.inr true))) N (0 : Int))
noncomputable def S36 (N : Nat) : Sig := { inn := ⟨[(0, .val false (.leaf (.slice (.slice rValue)))), (1, .val false (.leaf (.slice (.slice rValue))))], [], [], 0⟩, out := ⟨[(0, .val false (.leaf .bool))], [], [], 0⟩, fn := fun (x : (List (List rValue.den)) × List (List rValue.den)) => M.same_ValueLists N x.1 x.2 }
theorem W36 (N : Nat) : FnOK Tryz.prog 36 (S36 N) := fn_ok (E := ⟨tabs, [(35, S35 N)], (tabcons (W35 N) tabnil), mixed, false, false⟩) (N := N) (a := (.two .nil (.two .nil (.two (.two .nil (.two (.loop ⟨[(5, .val false (.leaf rInt))], [], [], 112⟩ (.two (.meet ⟨[(20, .val false (.leaf .bool))], [], [], 112⟩ .nil .nil) .nil)) .nil)) .nil)))) (sg := S36 N) (c := Tryz.f36.body.getD .skip) (rs := Tryz.f36.results.toList) Tryz.func36 (by kernel_rfl) (by kernel_rfl) rfl rfl rfl rfl (fun x => by kernel_rfl)
noncomputable def M.same_Case (N : Nat) (a0 : rCase.den) (a1 : rCase.den) : Option (Bool) :=
((if (decide (a0.1 = a1.1)) = true then
(M.same_Values N a0.2.1 a1.2.1).bind fun y2 =>
(if y2 = true then
(M.same_ValueLists N a0.2.2 a1.2.2).bind fun y3 =>
some y3
else
some false)
else
some false) : Option (Bool)).bind fun j1 =>
some j1
noncomputable def S19 (N : Nat) : Sig := { inn := ⟨[(0, .val true (.leaf rCase)), (1, .val true (.leaf rCase))], [], [], 0⟩, out := ⟨[(0, .val false (.leaf .bool))], [], [], 0⟩, fn := fun (x : rCase.den × rCase.den) => M.same_Case N x.1 x.2 }
theorem W19 (N : Nat) : FnOK Tryz.prog 19 (S19 N) := fn_ok (E := ⟨tabs, [(35, S35 N), (36, S36 N)], (tabcons (W35 N) (tabcons (W36 N) tabnil)), mixed, false, false⟩) (N := N) (a := (.two .nil (.meet ⟨[(4, .val false (.leaf .bool))], [], [], 48⟩ .nil .nil))) (sg := S19 N) (c := Tryz.f19.body.getD .skip) (rs := Tryz.f19.results.toList) Tryz.func19 (by kernel_rfl) (by kernel_rfl) rfl rfl rfl rfl (fun x => by kernel_rfl)
noncomputable def M.law35_HouseholdCase (N : Nat) (a0 : rLaw.den) (a1 : rHousehold.den) (a2 : Int) (a3 : Int) : Option (Bool) :=
((M.same_SmallLaw N a0).bind fun y2 =>
(if (!y2) = true then
some true
else
(M.same_SmallHousehold N a1).bind fun y3 =>
some (!y3)) : Option (Bool)).bind fun j1 =>
(if j1 = true then
(M.law35_awake N).bind fun y4 =>
some y4
else
(M.household_CaseOn N a0 a1 a2 a3).bind fun y5 =>
(M.ref35_CaseOn N a0 a1 a2 a3).bind fun y6 =>
((M.same_Case N (y5.1, (y5.2.2.1, y5.2.2.2)) (y6.1, (y6.2.2.1, y6.2.2.2))).bind fun y8 =>
(if y8 = true then
(if (decide (y5.2.1 = y6.2.1)) = true then
(M.law35_awake N).bind fun y9 =>
some y9
else
some false)
else
some false) : Option (Bool)).bind fun j7 =>
some j7)
noncomputable def S5 (N : Nat) : Sig := { inn := ⟨[(0, .val true (.leaf rLaw)), (1, .val true (.leaf rHousehold)), (2, .val false (.leaf rInt)), (3, .val false (.leaf rInt))], [], [], 0⟩, out := ⟨[(0, .val false (.leaf .bool))], [], [], 0⟩, fn := fun (x : rLaw.den × rHousehold.den × Int × Int) => M.law35_HouseholdCase N x.1 x.2.1 x.2.2.1 x.2.2.2 }
theorem W5 (N : Nat) : FnOK Tryz.prog 5 (S5 N) := fn_ok (E := ⟨tabs, [(9, S9 N), (10, S10 N), (11, S11 N), (17, S17 N), (18, S18 N), (19, S19 N)], (tabcons (W9 N) (tabcons (W10 N) (tabcons (W11 N) (tabcons (W17 N) (tabcons (W18 N) (tabcons (W19 N) tabnil)))))), mixed, false, false⟩) (N := N) (a := (.two .nil (.two (.meet ⟨[(20, .val false (.leaf .bool))], [], [], 48⟩ .nil .nil) (.two .nil (.two .nil (.meet ⟨[(8, .val false (.leaf .bool))], [], [], 400⟩ .nil .nil)))))) (sg := S5 N) (c := Tryz.f5.body.getD .skip) (rs := Tryz.f5.results.toList) Tryz.func5 (by kernel_rfl) (by kernel_rfl) rfl rfl rfl rfl (fun x => by kernel_rfl)
noncomputable def M.law35_HouseholdOrder (N : Nat) (a0 : rLaw.den) (a1 : rHousehold.den) (a2 : rType.den) (a3 : Int) : Option (Bool) :=
((M.same_SmallLaw N a0).bind fun y2 =>
(if (!y2) = true then
some true
else
(M.same_SmallHousehold N a1).bind fun y3 =>
some (!y3)) : Option (Bool)).bind fun j1 =>
(if j1 = true then
(M.law35_awake N).bind fun y4 =>
some y4
else
(M.household_Validate N a0 a1).bind fun y5 =>
(if (!decide (y5.2 = (0 : Int))) = true then
(M.law35_awake N).bind fun y6 =>
some y6
else
(Loop (S := Int × Int × Int × Int × List rFact.den) (X := Int × Int × Int × List rFact.den) (fun s8 =>
(if (decide (s8.1 < (a1.2.2.2.length : Int))) = true then
(remA (IntKind.i64.wrap ((IntKind.i64.wrap ((IntKind.i64.wrap ((a1.2.2.2.length : Int) - (1 : Int))) - s8.1)) + (IntKind.i64.wrap a3))) (a1.2.2.2.length : Int)).bind fun x9 =>
(idx a1.2.2.2 x9).bind fun x10 =>
(appA s8.2.2.2.2 ([x10] : List rFact.den)).bind fun l11 =>
some (Sum.inl (IntKind.i64.wrap (s8.1 + (1 : Int)), s8.2.1, s8.2.2.1, s8.2.2.2.1, l11))
else
some (Sum.inr (s8.2.1, s8.2.2.1, s8.2.2.2.1, s8.2.2.2.2)))) N ((0 : Int), a1.1, a1.2.1, a1.2.2.1, ([] : List rFact.den)) : Option (Int × Int × Int × List rFact.den)).bind fun j7 =>
(M.household_CaseOn N a0 a1 a2.1 a2.2).bind fun y12 =>
(M.household_CaseOn N a0 (j7.1, (j7.2.1, (j7.2.2.1, j7.2.2.2))) a2.1 a2.2).bind fun y13 =>
((M.same_Case N (y12.1, (y12.2.2.1, y12.2.2.2)) (y13.1, (y13.2.2.1, y13.2.2.2))).bind fun y15 =>
(if y15 = true then
(if (decide (y12.2.1 = y13.2.1)) = true then
(M.household_MembersOn N a1 a2.1 a2.2).bind fun y16 =>
(M.household_MembersOn N (j7.1, (j7.2.1, (j7.2.2.1, j7.2.2.2))) a2.1 a2.2).bind fun y17 =>
(M.same_Ints N y16 y17).bind fun y18 =>
(if y18 = true then
(M.law35_awake N).bind fun y19 =>
some y19
else
some false)
else
some false)
else
some false) : Option (Bool)).bind fun j14 =>
some j14))
noncomputable def S6 (N : Nat) : Sig := { inn := ⟨[(0, .val true (.leaf rLaw)), (1, .val true (.leaf rHousehold)), (2, .val true (.leaf rType)), (3, .val false (.leaf (.int .u8)))], [], [], 0⟩, out := ⟨[(0, .val false (.leaf .bool))], [], [], 0⟩, fn := fun (x : rLaw.den × rHousehold.den × rType.den × Int) => M.law35_HouseholdOrder N x.1 x.2.1 x.2.2.1 x.2.2.2 }
theorem W6 (N : Nat) : FnOK Tryz.prog 6 (S6 N) := fn_ok (E := ⟨tabs, [(9, S9 N), (10, S10 N), (11, S11 N), (12, S12 N), (14, S14 N), (15, S15 N), (17, S17 N), (19, S19 N)], (tabcons (W9 N) (tabcons (W10 N) (tabcons (W11 N) (tabcons (W12 N) (tabcons (W14 N) (tabcons (W15 N) (tabcons (W17 N) (tabcons (W19 N) tabnil)))))))), mixed, false, false⟩) (N := N) (a := (.two .nil (.two (.meet ⟨[(24, .val false (.leaf .bool))], [], [], 64⟩ .nil .nil) (.two .nil (.two .nil (.two .nil (.meet ⟨[], [(240, .box 29 (.pair (.leaf rInt) (.pair (.leaf rInt) (.pair (.leaf rInt) (.own 304))))), (304, .own 55 rFact)], [], 306⟩ (.two .nil (.two (.loop ⟨[(12, .val false (.leaf rInt))], [(240, .box 29 (.pair (.leaf rInt) (.pair (.leaf rInt) (.pair (.leaf rInt) (.own 320))))), (320, .own 55 rFact)], [], 322⟩ .nil) .nil)) (.two .nil (.two .nil (.meet ⟨[(8, .val false (.leaf .bool))], [], [], 722⟩ .nil .nil)))))))))) (sg := S6 N) (c := Tryz.f6.body.getD .skip) (rs := Tryz.f6.results.toList) Tryz.func6 (by kernel_rfl) (by kernel_rfl) rfl rfl rfl rfl (fun x => by kernel_rfl)
noncomputable def M.law35_HouseholdKnown (N : Nat) (a0 : rLaw.den) (a1 : rHousehold.den) (a2 : Int) (a3 : Int) : Option (Bool) :=
((M.same_SmallLaw N a0).bind fun y2 =>
(if (!y2) = true then
some true
else
(M.same_SmallHousehold N a1).bind fun y3 =>
some (!y3)) : Option (Bool)).bind fun j1 =>
(if j1 = true then
(M.law35_awake N).bind fun y4 =>
some y4
else
(M.household_Validate N a0 a1).bind fun y5 =>
(if (!decide (y5.2 = (0 : Int))) = true then
(M.law35_awake N).bind fun y6 =>
some y6
else
(Loop (S := Int × Int × Int × Int × List rFact.den) (X := Int × Int × Int × List rFact.den) (fun s8 =>
(if (decide (s8.1 < (a1.2.2.2.length : Int))) = true then
((idx a1.2.2.2 s8.1).bind fun x10 =>
(if (decide (x10.2.2.2.2.2 ≤ a3)) = true then
(idx a1.2.2.2 s8.1).bind fun x11 =>
(appA s8.2.2.2.2 ([x11] : List rFact.den)).bind fun l12 =>
some (s8.2.1, s8.2.2.1, s8.2.2.2.1, l12)
else
some (s8.2.1, s8.2.2.1, s8.2.2.2.1, s8.2.2.2.2)) : Option (Int × Int × Int × List rFact.den)).bind fun j9 =>
some (Sum.inl (IntKind.i64.wrap (s8.1 + (1 : Int)), j9.1, j9.2.1, j9.2.2.1, j9.2.2.2))
else
some (Sum.inr (s8.2.1, s8.2.2.1, s8.2.2.2.1, s8.2.2.2.2)))) N ((0 : Int), a1.1, a1.2.1, a1.2.2.1, ([] : List rFact.den)) : Option (Int × Int × Int × List rFact.den)).bind fun j7 =>
(M.household_CaseOn N a0 a1 a2 a3).bind fun y13 =>
(M.household_CaseOn N a0 (j7.1, (j7.2.1, (j7.2.2.1, j7.2.2.2))) a2 a3).bind fun y14 =>
((M.same_Case N (y13.1, (y13.2.2.1, y13.2.2.2)) (y14.1, (y14.2.2.1, y14.2.2.2))).bind fun y16 =>
(if y16 = true then
(if (decide (y13.2.1 = y14.2.1)) = true then
(M.household_MembersOn N a1 a2 a3).bind fun y17 =>
(M.household_MembersOn N (j7.1, (j7.2.1, (j7.2.2.1, j7.2.2.2))) a2 a3).bind fun y18 =>
(M.same_Ints N y17 y18).bind fun y19 =>
(if y19 = true then
(M.law35_awake N).bind fun y20 =>
some y20
else
some false)
else
some false)
else
some false) : Option (Bool)).bind fun j15 =>
some j15))
noncomputable def S7 (N : Nat) : Sig := { inn := ⟨[(0, .val true (.leaf rLaw)), (1, .val true (.leaf rHousehold)), (2, .val false (.leaf rInt)), (3, .val false (.leaf rInt))], [], [], 0⟩, out := ⟨[(0, .val false (.leaf .bool))], [], [], 0⟩, fn := fun (x : rLaw.den × rHousehold.den × Int × Int) => M.law35_HouseholdKnown N x.1 x.2.1 x.2.2.1 x.2.2.2 }
theorem W7 (N : Nat) : FnOK Tryz.prog 7 (S7 N) := fn_ok (E := ⟨tabs, [(9, S9 N), (10, S10 N), (11, S11 N), (12, S12 N), (14, S14 N), (15, S15 N), (17, S17 N), (19, S19 N)], (tabcons (W9 N) (tabcons (W10 N) (tabcons (W11 N) (tabcons (W12 N) (tabcons (W14 N) (tabcons (W15 N) (tabcons (W17 N) (tabcons (W19 N) tabnil)))))))), mixed, false, false⟩) (N := N) (a := (.two .nil (.two (.meet ⟨[(24, .val false (.leaf .bool))], [], [], 48⟩ .nil .nil) (.two .nil (.two .nil (.two .nil (.meet ⟨[], [(224, .box 29 (.pair (.leaf rInt) (.pair (.leaf rInt) (.pair (.leaf rInt) (.own 288))))), (288, .own 55 rFact)], [], 290⟩ (.two .nil (.two (.loop ⟨[(12, .val false (.leaf rInt))], [(224, .box 29 (.pair (.leaf rInt) (.pair (.leaf rInt) (.pair (.leaf rInt) (.own 304))))), (304, .own 55 rFact)], [], 306⟩ (.two .nil (.two (.meet ⟨[], [(224, .box 29 (.pair (.leaf rInt) (.pair (.leaf rInt) (.pair (.leaf rInt) (.own 386))))), (386, .own 55 rFact)], [304], 388⟩ .nil .nil) .nil))) .nil)) (.two .nil (.two .nil (.meet ⟨[(8, .val false (.leaf .bool))], [], [], 642⟩ .nil .nil)))))))))) (sg := S7 N) (c := Tryz.f7.body.getD .skip) (rs := Tryz.f7.results.toList) Tryz.func7 (by kernel_rfl) (by kernel_rfl) rfl rfl rfl rfl (fun x => by kernel_rfl)
noncomputable def M.casedata_checkValues (N : Nat) (a0 : rLaw.den) (a1 : List rValue.den) (a2 : List rField.den) : Option (Int × Int) :=
(if (decide ((a1.length : Int) < (a2.length : Int))) = true then
some ((a1.length : Int), (5 : Int))
else
(if (decide ((a2.length : Int) < (a1.length : Int))) = true then
some ((a2.length : Int), (4 : Int))
else
Loop (S := Int) (X := Int × Int) (fun s1 =>
(if (decide (s1 < (a1.length : Int))) = true then
(idx a1 s1).bind fun x2 =>
(idx a2 s1).bind fun x3 =>
((if (!decide (x2.1 = x3.2.1)) = true then
some true
else
some (!decide (x2.2.1 = x3.2.2))) : Option (Bool)).bind fun j4 =>
(if j4 = true then
some (Sum.inr (s1, (8 : Int)))
else
(M.value_Bounds N x3.2 a0.1).bind fun y5 =>
((if (decide (x2.2.2 < y5.1)) = true then
some true
else
some (decide (y5.2 < x2.2.2))) : Option (Bool)).bind fun j6 =>
(if j6 = true then
some (Sum.inr (s1, (3 : Int)))
else
some (Sum.inl (IntKind.i64.wrap (s1 + (1 : Int))))))
else
some (Sum.inr ((0 : Int), (0 : Int))))) N (0 : Int)))
noncomputable def S37 (N : Nat) : Sig := { inn := ⟨[(0, .val true (.leaf rLaw)), (1, .val false (.leaf (.slice rValue))), (2, .val false (.leaf (.slice rField)))], [], [], 0⟩, out := ⟨[(0, .val false (.leaf rInt)), (1, .val false (.leaf rInt))], [], [], 0⟩, fn := fun (x : rLaw.den × (List rValue.den) × List rField.den) => M.casedata_checkValues N x.1 x.2.1 x.2.2 }
theorem W37 (N : Nat) : FnOK Tryz.prog 37 (S37 N) := fn_ok (E := ⟨tabs, [(25, S25 N)], (tabcons (W25 N) tabnil), mixed, false, false⟩) (N := N) (a := (.two .nil (.two .nil (.two .nil (.two (.two .nil (.two (.loop ⟨[(29, .val false (.leaf rInt))], [], [], 256⟩ (.two .nil (.two .nil (.two (.two (.two .nil (.two .nil (.two (.meet ⟨[(50, .val false (.leaf .bool))], [], [], 480⟩ .nil .nil) (.two .nil (.meet ⟨[(68, .val false (.leaf .bool))], [], [], 624⟩ .nil .nil))))) .nil) .nil)))) .nil)) .nil))))) (sg := S37 N) (c := Tryz.f37.body.getD .skip) (rs := Tryz.f37.results.toList) Tryz.func37 (by kernel_rfl) (by kernel_rfl) rfl rfl rfl rfl (fun x => by kernel_rfl)
noncomputable def M.casedata_memberInputs (N : Nat) (a0 : rLaw.den) (a1 : Int) : Option ((List rField.den) × Int) :=
(idx a0.2.2 a1).bind fun x1 =>
((if (decide (x1.2.1 < (0 : Int))) = true then
some true
else
some (decide ((a0.2.2.length : Int) ≤ x1.2.1))) : Option (Bool)).bind fun j2 =>
(if j2 = true then
some (([] : List rField.den), (0 : Int))
else
(idx a0.2.2 x1.2.1).bind fun x3 =>
some (x3.2.2.1, (8 : Int)))
noncomputable def S38 (N : Nat) : Sig := { inn := ⟨[(0, .val true (.leaf rLaw)), (1, .val false (.leaf rInt))], [], [], 0⟩, out := ⟨[(0, .val false (.leaf (.slice rField))), (1, .val false (.leaf rInt))], [], [], 0⟩, fn := fun (x : rLaw.den × Int) => M.casedata_memberInputs N x.1 x.2 }
theorem W38 (N : Nat) : FnOK Tryz.prog 38 (S38 N) := fn_ok (E := ⟨tabs, [], tabnil, mixed, false, false⟩) (N := N) (a := (.two .nil (.two .nil (.two (.meet ⟨[(21, .val false (.leaf .bool))], [], [], 160⟩ .nil .nil) .nil)))) (sg := S38 N) (c := Tryz.f38.body.getD .skip) (rs := Tryz.f38.results.toList) Tryz.func38 (by kernel_rfl) (by kernel_rfl) rfl rfl rfl rfl (fun x => by kernel_rfl)
noncomputable def M.casedata_Validate (N : Nat) (a0 : rLaw.den) (a1 : Int) (a2 : rCase.den) : Option (Int × Int × Int) :=
((if (decide (a1 < (0 : Int))) = true then
some true
else
some (decide ((a0.2.2.length : Int) ≤ a1))) : Option (Bool)).bind fun j1 =>
(if j1 = true then
some ((-1 : Int), (-1 : Int), (6 : Int))
else
((if (decide (a2.1 < (0 : Int))) = true then
some true
else
some (decide ((109572 : Int) < a2.1))) : Option (Bool)).bind fun j2 =>
(if j2 = true then
some ((-1 : Int), (-1 : Int), (3 : Int))
else
(idx a0.2.2 a1).bind fun x3 =>
(M.casedata_checkValues N a0 a2.2.1 x3.2.2.1).bind fun y4 =>
(if (!decide (y4.2 = (0 : Int))) = true then
some ((-1 : Int), y4.1, y4.2)
else
(M.casedata_memberInputs N a0 a1).bind fun y5 =>
(if (decide (y5.2 < (a2.2.2.length : Int))) = true then
some (y5.2, (-1 : Int), (4 : Int))
else
Loop (S := Int) (X := Int × Int × Int) (fun s6 =>
(if (decide (s6 < (a2.2.2.length : Int))) = true then
(idx a2.2.2 s6).bind fun x7 =>
(M.casedata_checkValues N a0 x7 y5.1).bind fun y8 =>
(if (!decide (y8.2 = (0 : Int))) = true then
some (Sum.inr (s6, y8.1, y8.2))
else
some (Sum.inl (IntKind.i64.wrap (s6 + (1 : Int)))))
else
some (Sum.inr ((0 : Int), (0 : Int), (0 : Int))))) N (0 : Int)))))
noncomputable def S20 (N : Nat) : Sig := { inn := ⟨[(0, .val true (.leaf rLaw)), (1, .val false (.leaf rInt)), (2, .val true (.leaf rCase))], [], [], 0⟩, out := ⟨[(0, .val false (.leaf rInt)), (1, .val false (.leaf rInt)), (2, .val false (.leaf rInt))], [], [], 0⟩, fn := fun (x : rLaw.den × Int × rCase.den) => M.casedata_Validate N x.1 x.2.1 x.2.2 }
theorem W20 (N : Nat) : FnOK Tryz.prog 20 (S20 N) := fn_ok (E := ⟨tabs, [(37, S37 N), (38, S38 N)], (tabcons (W37 N) (tabcons (W38 N) tabnil)), mixed, false, false⟩) (N := N) (a := (.two .nil (.two (.meet ⟨[(25, .val false (.leaf .bool))], [], [], 80⟩ .nil .nil) (.two (.meet ⟨[(33, .val false (.leaf .bool))], [], [], 80⟩ .nil .nil) (.two .nil (.two .nil (.two .nil (.two (.two .nil (.two (.loop ⟨[(66, .val false (.leaf rInt))], [], [], 624⟩ .nil) .nil)) .nil)))))))) (sg := S20 N) (c := Tryz.f20.body.getD .skip) (rs := Tryz.f20.results.toList) Tryz.func20 (by kernel_rfl) (by kernel_rfl) rfl rfl rfl rfl (fun x => by kernel_rfl)
noncomputable def M.law35_HouseholdValidCase (N : Nat) (a0 : rLaw.den) (a1 : rHousehold.den) (a2 : Int) (a3 : Int) : Option (Bool) :=
((M.same_SmallLaw N a0).bind fun y2 =>
(if (!y2) = true then
some true
else
(M.same_SmallHousehold N a1).bind fun y3 =>
some (!y3)) : Option (Bool)).bind fun j1 =>
(if j1 = true then
(M.law35_awake N).bind fun y4 =>
some y4
else
(M.household_CaseOn N a0 a1 a2 a3).bind fun y5 =>
(if (!decide (y5.2.1 = (0 : Int))) = true then
((M.same_Case N (y5.1, (y5.2.2.1, y5.2.2.2)) ((0 : Int), (([] : List rValue.den), ([] : List (List rValue.den))))).bind fun y7 =>
(if y7 = true then
(M.law35_awake N).bind fun y8 =>
some y8
else
some false) : Option (Bool)).bind fun j6 =>
some j6
else
(M.casedata_Validate N a0 a1.2.1 (y5.1, (y5.2.2.1, y5.2.2.2))).bind fun y9 =>
((if (decide (y9.2.2 = (0 : Int))) = true then
(if (decide (y5.1 = a2)) = true then
(M.household_MembersOn N a1 a2 a3).bind fun y11 =>
(if (decide ((y5.2.2.2.length : Int) = (y11.length : Int))) = true then
(M.law35_awake N).bind fun y12 =>
some y12
else
some false)
else
some false)
else
some false) : Option (Bool)).bind fun j10 =>
some j10))
noncomputable def S8 (N : Nat) : Sig := { inn := ⟨[(0, .val true (.leaf rLaw)), (1, .val true (.leaf rHousehold)), (2, .val false (.leaf rInt)), (3, .val false (.leaf rInt))], [], [], 0⟩, out := ⟨[(0, .val false (.leaf .bool))], [], [], 0⟩, fn := fun (x : rLaw.den × rHousehold.den × Int × Int) => M.law35_HouseholdValidCase N x.1 x.2.1 x.2.2.1 x.2.2.2 }
theorem W8 (N : Nat) : FnOK Tryz.prog 8 (S8 N) := fn_ok (E := ⟨tabs, [(9, S9 N), (10, S10 N), (11, S11 N), (15, S15 N), (17, S17 N), (19, S19 N), (20, S20 N)], (tabcons (W9 N) (tabcons (W10 N) (tabcons (W11 N) (tabcons (W15 N) (tabcons (W17 N) (tabcons (W19 N) (tabcons (W20 N) tabnil))))))), mixed, false, false⟩) (N := N) (a := (.two .nil (.two (.meet ⟨[(21, .val false (.leaf .bool))], [], [], 48⟩ .nil .nil) (.two .nil (.two (.two .nil (.two (.meet ⟨[(8, .val false (.leaf .bool))], [], [], 256⟩ .nil .nil) .nil)) (.two .nil (.meet ⟨[(8, .val false (.leaf .bool))], [], [], 448⟩ .nil .nil))))))) (sg := S8 N) (c := Tryz.f8.body.getD .skip) (rs := Tryz.f8.results.toList) Tryz.func8 (by kernel_rfl) (by kernel_rfl) rfl rfl rfl rfl (fun x => by kernel_rfl)
noncomputable def M.internal_bytealg_Cutover (N : Nat) (a0 : Int) : Option (Int) :=
some (IntKind.i64.wrap (Int.tdiv (IntKind.i64.wrap (a0 + (16 : Int))) (8 : Int)))
noncomputable def S162 (N : Nat) : Sig := { inn := ⟨[(0, .val false (.leaf rInt))], [], [], 0⟩, out := ⟨[(0, .val false (.leaf rInt))], [], [], 0⟩, fn := fun (x : Int) => M.internal_bytealg_Cutover N x }
theorem W162 (N : Nat) : FnOK Tryz.prog 162 (S162 N) := fn_ok (E := ⟨tabs, [], tabnil, mixed, false, false⟩) (N := N) (a := .nil) (sg := S162 N) (c := Tryz.f162.body.getD .skip) (rs := Tryz.f162.results.toList) Tryz.func162 (by kernel_rfl) (by kernel_rfl) rfl rfl rfl rfl (fun x => by kernel_rfl)
noncomputable def M.internal_bytealg_hashStr_string (N : Nat) (a0 : ByteArray) : Option (Int × Int) :=
(Loop (S := Int × Int) (X := Int) (fun s2 =>
(if (decide (s2.2 < (a0.size : Int))) = true then
(byteA a0 s2.2).bind fun x3 =>
some (Sum.inl (IntKind.u32.wrap ((IntKind.u32.wrap (s2.1 * (16777619 : Int))) + (IntKind.u32.wrap x3)), IntKind.i64.wrap (s2.2 + (1 : Int))))
else
some (Sum.inr s2.1))) N ((0 : Int), (0 : Int)) : Option (Int)).bind fun j1 =>
Loop (S := Int × Int × Int) (X := Int × Int) (fun s4 =>
(if (decide ((0 : Int) < s4.2.2)) = true then
((if (!decide ((bitsA .and .i64 s4.2.2 (1 : Int)) = (0 : Int))) = true then
some (IntKind.u32.wrap (s4.1 * s4.2.1))
else
some s4.1) : Option (Int)).bind fun j5 =>
some (Sum.inl (j5, IntKind.u32.wrap (s4.2.1 * s4.2.1), shrV .i64 s4.2.2 (1 : Int)))
else
some (Sum.inr (j1, s4.1)))) N ((1 : Int), (16777619 : Int), (a0.size : Int))
noncomputable def S182 (N : Nat) : Sig := { inn := ⟨[(0, .val false (.leaf .str))], [], [], 0⟩, out := ⟨[(0, .val false (.leaf (.int .u32))), (1, .val false (.leaf (.int .u32)))], [], [], 0⟩, fn := fun (x : ByteArray) => M.internal_bytealg_hashStr_string N x }
theorem W182 (N : Nat) : FnOK Tryz.prog 182 (S182 N) := fn_ok (E := ⟨tabs, [], tabnil, mixed, false, false⟩) (N := N) (a := (.two .nil (.two .nil (.meet ⟨[(4, .val false (.leaf (.int .u32)))], [], [], 48⟩ (.two .nil (.two (.loop ⟨[(4, .val false (.leaf (.int .u32))), (5, .val false (.leaf rInt))], [], [], 64⟩ .nil) .nil)) (.two .nil (.two (.two .nil (.two (.loop ⟨[(6, .val false (.leaf (.int .u32))), (7, .val false (.leaf (.int .u32))), (8, .val false (.leaf rInt))], [], [], 128⟩ (.two .nil (.two (.two (.meet ⟨[(6, .val false (.leaf (.int .u32)))], [], [], 160⟩ .nil .nil) .nil) .nil))) .nil)) .nil)))))) (sg := S182 N) (c := Tryz.f182.body.getD .skip) (rs := Tryz.f182.results.toList) Tryz.func182 (by kernel_rfl) (by kernel_rfl) rfl rfl rfl rfl (fun x => by kernel_rfl)
noncomputable def M.cmp_isNaN_int (N : Nat) (a0 : Int) : Option (Bool) :=
some (!decide (a0 = a0))
noncomputable def S188 (N : Nat) : Sig := { inn := ⟨[(0, .val false (.leaf rInt))], [], [], 0⟩, out := ⟨[(0, .val false (.leaf .bool))], [], [], 0⟩, fn := fun (x : Int) => M.cmp_isNaN_int N x }
theorem W188 (N : Nat) : FnOK Tryz.prog 188 (S188 N) := fn_ok (E := ⟨tabs, [], tabnil, mixed, false, false⟩) (N := N) (a := .nil) (sg := S188 N) (c := Tryz.f188.body.getD .skip) (rs := Tryz.f188.results.toList) Tryz.func188 (by kernel_rfl) (by kernel_rfl) rfl rfl rfl rfl (fun x => by kernel_rfl)
noncomputable def M.cmp_Less_int (N : Nat) (a0 : Int) (a1 : Int) : Option (Bool) :=
((M.cmp_isNaN_int N a0).bind fun y2 =>
(if y2 = true then
(M.cmp_isNaN_int N a1).bind fun y3 =>
(if (!y3) = true then
some true
else
some (decide (a0 < a1)))
else
some (decide (a0 < a1))) : Option (Bool)).bind fun j1 =>
some j1
noncomputable def S172 (N : Nat) : Sig := { inn := ⟨[(0, .val false (.leaf rInt)), (1, .val false (.leaf rInt))], [], [], 0⟩, out := ⟨[(0, .val false (.leaf .bool))], [], [], 0⟩, fn := fun (x : Int × Int) => M.cmp_Less_int N x.1 x.2 }
theorem W172 (N : Nat) : FnOK Tryz.prog 172 (S172 N) := fn_ok (E := ⟨tabs, [(188, S188 N)], (tabcons (W188 N) tabnil), mixed, false, false⟩) (N := N) (a := (.two .nil (.meet ⟨[(4, .val false (.leaf .bool))], [], [], 16⟩ .nil .nil))) (sg := S172 N) (c := Tryz.f172.body.getD .skip) (rs := Tryz.f172.results.toList) Tryz.func172 (by kernel_rfl) (by kernel_rfl) rfl rfl rfl rfl (fun x => by kernel_rfl)
noncomputable def M.math_bits_Len32 (N : Nat) (a0 : Int) : Option (Int) :=
((if (decide ((65536 : Int) ≤ a0)) = true then
some (shrV .u32 a0 (16 : Int), (16 : Int))
else
some (a0, (0 : Int))) : Option (Int × Int)).bind fun j1 =>
((if (decide ((256 : Int) ≤ j1.1)) = true then
some (shrV .u32 j1.1 (8 : Int), IntKind.i64.wrap (j1.2 + (8 : Int)))
else
some (j1.1, j1.2)) : Option (Int × Int)).bind fun j2 =>
(byteA (⟨#[0, 1, 2, 2, 3, 3, 3, 3, 4, 4, 4, 4, 4, 4, 4, 4, 5, 5, 5, 5, 5, 5, 5, 5, 5, 5, 5, 5, 5, 5, 5, 5, 6, 6, 6, 6, 6, 6, 6, 6, 6, 6, 6, 6, 6, 6, 6, 6, 6, 6, 6, 6, 6, 6, 6, 6, 6, 6, 6, 6, 6, 6, 6, 6, 7, 7, 7, 7, 7, 7, 7, 7, 7, 7, 7, 7, 7, 7, 7, 7, 7, 7, 7, 7, 7, 7, 7, 7, 7, 7, 7, 7, 7, 7, 7, 7, 7, 7, 7, 7, 7, 7, 7, 7, 7, 7, 7, 7, 7, 7, 7, 7, 7, 7, 7, 7, 7, 7, 7, 7, 7, 7, 7, 7, 7, 7, 7, 7, 8, 8, 8, 8, 8, 8, 8, 8, 8, 8, 8, 8, 8, 8, 8, 8, 8, 8, 8, 8, 8, 8, 8, 8, 8, 8, 8, 8, 8, 8, 8, 8, 8, 8, 8, 8, 8, 8, 8, 8, 8, 8, 8, 8, 8, 8, 8, 8, 8, 8, 8, 8, 8, 8, 8, 8, 8, 8, 8, 8, 8, 8, 8, 8, 8, 8, 8, 8, 8, 8, 8, 8, 8, 8, 8, 8, 8, 8, 8, 8, 8, 8, 8, 8, 8, 8, 8, 8, 8, 8, 8, 8, 8, 8, 8, 8, 8, 8, 8, 8, 8, 8, 8, 8, 8, 8, 8, 8, 8, 8, 8, 8, 8, 8, 8, 8, 8, 8, 8, 8, 8, 8, 8, 8, 8, 8, 8, 8]⟩ : ByteArray) (IntKind.u8.wrap j2.1)).bind fun x3 =>
some (IntKind.i64.wrap (j2.2 + (IntKind.i64.wrap x3)))
noncomputable def S175 (N : Nat) : Sig := { inn := ⟨[(0, .val false (.leaf (.int .u32)))], [], [], 0⟩, out := ⟨[(0, .val false (.leaf rInt))], [], [], 0⟩, fn := fun (x : Int) => M.math_bits_Len32 N x }
theorem W175 (N : Nat) : FnOK Tryz.prog 175 (S175 N) := fn_ok (E := ⟨tabs, [], tabnil, mixed, false, false⟩) (N := N) (a := (.two .nil (.meet ⟨[(0, .val false (.leaf (.int .u32))), (2, .val false (.leaf rInt))], [], [], 16⟩ .nil (.meet ⟨[(0, .val false (.leaf (.int .u32))), (2, .val false (.leaf rInt))], [], [], 16⟩ .nil .nil)))) (sg := S175 N) (c := Tryz.f175.body.getD .skip) (rs := Tryz.f175.results.toList) Tryz.func175 (by kernel_rfl) (by kernel_rfl) rfl rfl rfl rfl (fun x => by kernel_rfl)
noncomputable def M.math_bits_Len64 (N : Nat) (a0 : Int) : Option (Int) :=
((if (decide ((4294967296 : Int) ≤ a0)) = true then
some (shrV .u64 a0 (32 : Int), (32 : Int))
else
some (a0, (0 : Int))) : Option (Int × Int)).bind fun j1 =>
((if (decide ((65536 : Int) ≤ j1.1)) = true then
some (shrV .u64 j1.1 (16 : Int), IntKind.i64.wrap (j1.2 + (16 : Int)))
else
some (j1.1, j1.2)) : Option (Int × Int)).bind fun j2 =>
((if (decide ((256 : Int) ≤ j2.1)) = true then
some (shrV .u64 j2.1 (8 : Int), IntKind.i64.wrap (j2.2 + (8 : Int)))
else
some (j2.1, j2.2)) : Option (Int × Int)).bind fun j3 =>
(byteA (⟨#[0, 1, 2, 2, 3, 3, 3, 3, 4, 4, 4, 4, 4, 4, 4, 4, 5, 5, 5, 5, 5, 5, 5, 5, 5, 5, 5, 5, 5, 5, 5, 5, 6, 6, 6, 6, 6, 6, 6, 6, 6, 6, 6, 6, 6, 6, 6, 6, 6, 6, 6, 6, 6, 6, 6, 6, 6, 6, 6, 6, 6, 6, 6, 6, 7, 7, 7, 7, 7, 7, 7, 7, 7, 7, 7, 7, 7, 7, 7, 7, 7, 7, 7, 7, 7, 7, 7, 7, 7, 7, 7, 7, 7, 7, 7, 7, 7, 7, 7, 7, 7, 7, 7, 7, 7, 7, 7, 7, 7, 7, 7, 7, 7, 7, 7, 7, 7, 7, 7, 7, 7, 7, 7, 7, 7, 7, 7, 7, 8, 8, 8, 8, 8, 8, 8, 8, 8, 8, 8, 8, 8, 8, 8, 8, 8, 8, 8, 8, 8, 8, 8, 8, 8, 8, 8, 8, 8, 8, 8, 8, 8, 8, 8, 8, 8, 8, 8, 8, 8, 8, 8, 8, 8, 8, 8, 8, 8, 8, 8, 8, 8, 8, 8, 8, 8, 8, 8, 8, 8, 8, 8, 8, 8, 8, 8, 8, 8, 8, 8, 8, 8, 8, 8, 8, 8, 8, 8, 8, 8, 8, 8, 8, 8, 8, 8, 8, 8, 8, 8, 8, 8, 8, 8, 8, 8, 8, 8, 8, 8, 8, 8, 8, 8, 8, 8, 8, 8, 8, 8, 8, 8, 8, 8, 8, 8, 8, 8, 8, 8, 8, 8, 8, 8, 8, 8, 8]⟩ : ByteArray) (IntKind.u8.wrap j3.1)).bind fun x4 =>
some (IntKind.i64.wrap (j3.2 + (IntKind.i64.wrap x4)))
noncomputable def S176 (N : Nat) : Sig := { inn := ⟨[(0, .val false (.leaf (.int .u64)))], [], [], 0⟩, out := ⟨[(0, .val false (.leaf rInt))], [], [], 0⟩, fn := fun (x : Int) => M.math_bits_Len64 N x }
theorem W176 (N : Nat) : FnOK Tryz.prog 176 (S176 N) := fn_ok (E := ⟨tabs, [], tabnil, mixed, false, false⟩) (N := N) (a := (.two .nil (.meet ⟨[(0, .val false (.leaf (.int .u64))), (2, .val false (.leaf rInt))], [], [], 16⟩ .nil (.meet ⟨[(0, .val false (.leaf (.int .u64))), (2, .val false (.leaf rInt))], [], [], 16⟩ .nil (.meet ⟨[(0, .val false (.leaf (.int .u64))), (2, .val false (.leaf rInt))], [], [], 16⟩ .nil .nil))))) (sg := S176 N) (c := Tryz.f176.body.getD .skip) (rs := Tryz.f176.results.toList) Tryz.func176 (by kernel_rfl) (by kernel_rfl) rfl rfl rfl rfl (fun x => by kernel_rfl)
noncomputable def M.math_bits_Len (N : Nat) (a0 : Int) : Option (Int) :=
(M.math_bits_Len64 N a0).bind fun y1 =>
some y1
noncomputable def S153 (N : Nat) : Sig := { inn := ⟨[(0, .val false (.leaf (.int .u64)))], [], [], 0⟩, out := ⟨[(0, .val false (.leaf rInt))], [], [], 0⟩, fn := fun (x : Int) => M.math_bits_Len N x }
theorem W153 (N : Nat) : FnOK Tryz.prog 153 (S153 N) := fn_ok (E := ⟨tabs, [(176, S176 N)], (tabcons (W176 N) tabnil), mixed, false, false⟩) (N := N) (a := .nil) (sg := S153 N) (c := Tryz.f153.body.getD .skip) (rs := Tryz.f153.results.toList) Tryz.func153 (by kernel_rfl) (by kernel_rfl) rfl rfl rfl rfl (fun x => by kernel_rfl)
noncomputable def M.slices_nextPowerOfTwo (N : Nat) (a0 : Int) : Option (Int) :=
(M.math_bits_Len N (IntKind.u64.wrap a0)).bind fun y1 =>
(shlA .u64 (1 : Int) y1).bind fun x2 =>
some x2
noncomputable def S184 (N : Nat) : Sig := { inn := ⟨[(0, .val false (.leaf rInt))], [], [], 0⟩, out := ⟨[(0, .val false (.leaf (.int .u64)))], [], [], 0⟩, fn := fun (x : Int) => M.slices_nextPowerOfTwo N x }
theorem W184 (N : Nat) : FnOK Tryz.prog 184 (S184 N) := fn_ok (E := ⟨tabs, [(153, S153 N)], (tabcons (W153 N) tabnil), mixed, false, false⟩) (N := N) (a := .nil) (sg := S184 N) (c := Tryz.f184.body.getD .skip) (rs := Tryz.f184.results.toList) Tryz.func184 (by kernel_rfl) (by kernel_rfl) rfl rfl rfl rfl (fun x => by kernel_rfl)
noncomputable def M.slices_xorshift_Next (N : Nat) (a0 : Int) : Option (Int × Int) :=
some (bitsA .xor .u64 (bitsA .xor .u64 (bitsA .xor .u64 a0 (shlV .u64 a0 (13 : Int))) (shrV .u64 (bitsA .xor .u64 a0 (shlV .u64 a0 (13 : Int))) (7 : Int))) (shlV .u64 (bitsA .xor .u64 (bitsA .xor .u64 a0 (shlV .u64 a0 (13 : Int))) (shrV .u64 (bitsA .xor .u64 a0 (shlV .u64 a0 (13 : Int))) (7 : Int))) (17 : Int)), bitsA .xor .u64 (bitsA .xor .u64 (bitsA .xor .u64 a0 (shlV .u64 a0 (13 : Int))) (shrV .u64 (bitsA .xor .u64 a0 (shlV .u64 a0 (13 : Int))) (7 : Int))) (shlV .u64 (bitsA .xor .u64 (bitsA .xor .u64 a0 (shlV .u64 a0 (13 : Int))) (shrV .u64 (bitsA .xor .u64 a0 (shlV .u64 a0 (13 : Int))) (7 : Int))) (17 : Int)))
noncomputable def S185 (N : Nat) : Sig := { inn := ⟨[(0, .ptr 0 [] 0)], [(0, .box 210 (.leaf (.int .u64)))], [], 1⟩, out := ⟨[(0, .val false (.leaf (.int .u64)))], [(0, .box 210 (.leaf (.int .u64)))], [], 2⟩, fn := fun (x : Int) => M.slices_xorshift_Next N x }
theorem W185 (N : Nat) : FnOK Tryz.prog 185 (S185 N) := fn_ok (E := ⟨tabs, [], tabnil, mixed, false, false⟩) (N := N) (a := .nil) (sg := S185 N) (c := Tryz.f185.body.getD .skip) (rs := Tryz.f185.results.toList) Tryz.func185 (by kernel_rfl) (by kernel_rfl) rfl rfl rfl rfl (fun x => by kernel_rfl)
noncomputable def M.slices_order2Ordered_int (N : Nat) (a0 : List Int) (a1 : Int) (a2 : Int) (a3 : Int) : Option (Int × Int × Int) :=
(idx a0 a2).bind fun x1 =>
(idx a0 a1).bind fun x2 =>
(M.cmp_Less_int N x1 x2).bind fun y3 =>
(if y3 = true then
some (a2, a1, IntKind.i64.wrap (a3 + (1 : Int)))
else
some (a1, a2, a3))
noncomputable def S189 (N : Nat) : Sig := { inn := ⟨[(0, .val false (.leaf (.slice rInt))), (1, .val false (.leaf rInt)), (2, .val false (.leaf rInt)), (3, .ptr 0 [] 0)], [(0, .box 3 (.leaf rInt))], [], 1⟩, out := ⟨[(0, .val false (.leaf rInt)), (1, .val false (.leaf rInt))], [(0, .box 3 (.leaf rInt))], [], 2⟩, fn := fun (x : (List Int) × Int × Int × Int) => M.slices_order2Ordered_int N x.1 x.2.1 x.2.2.1 x.2.2.2 }
theorem W189 (N : Nat) : FnOK Tryz.prog 189 (S189 N) := fn_ok (E := ⟨tabs, [(172, S172 N)], (tabcons (W172 N) tabnil), mixed, false, false⟩) (N := N) (a := .nil) (sg := S189 N) (c := Tryz.f189.body.getD .skip) (rs := Tryz.f189.results.toList) Tryz.func189 (by kernel_rfl) (by kernel_rfl) rfl rfl rfl rfl (fun x => by kernel_rfl)
noncomputable def M.slices_medianOrdered_int (N : Nat) (a0 : List Int) (a1 : Int) (a2 : Int) (a3 : Int) (a4 : Int) : Option (Int × Int) :=
(M.slices_order2Ordered_int N a0 a1 a2 a4).bind fun y1 =>
(M.slices_order2Ordered_int N a0 y1.2.1 a3 y1.2.2).bind fun y2 =>
(M.slices_order2Ordered_int N a0 y1.1 y2.1 y2.2.2).bind fun y3 =>
some (y3.2.1, y3.2.2)
noncomputable def S187 (N : Nat) : Sig := { inn := ⟨[(0, .val false (.leaf (.slice rInt))), (1, .val false (.leaf rInt)), (2, .val false (.leaf rInt)), (3, .val false (.leaf rInt)), (4, .ptr 0 [] 0)], [(0, .box 3 (.leaf rInt))], [], 1⟩, out := ⟨[(0, .val false (.leaf rInt))], [(0, .box 3 (.leaf rInt))], [], 2⟩, fn := fun (x : (List Int) × Int × Int × Int × Int) => M.slices_medianOrdered_int N x.1 x.2.1 x.2.2.1 x.2.2.2.1 x.2.2.2.2 }
theorem W187 (N : Nat) : FnOK Tryz.prog 187 (S187 N) := fn_ok (E := ⟨tabs, [(189, S189 N)], (tabcons (W189 N) tabnil), mixed, false, false⟩) (N := N) (a := .nil) (sg := S187 N) (c := Tryz.f187.body.getD .skip) (rs := Tryz.f187.results.toList) Tryz.func187 (by kernel_rfl) (by kernel_rfl) rfl rfl rfl rfl (fun x => by kernel_rfl)
noncomputable def M.slices_medianAdjacentOrdered_int (N : Nat) (a0 : List Int) (a1 : Int) (a2 : Int) : Option (Int × Int) :=
(M.slices_medianOrdered_int N a0 (IntKind.i64.wrap (a1 - (1 : Int))) a1 (IntKind.i64.wrap (a1 + (1 : Int))) a2).bind fun y1 =>
some (y1.1, y1.2)
noncomputable def S186 (N : Nat) : Sig := { inn := ⟨[(0, .val false (.leaf (.slice rInt))), (1, .val false (.leaf rInt)), (2, .ptr 0 [] 0)], [(0, .box 3 (.leaf rInt))], [], 1⟩, out := ⟨[(0, .val false (.leaf rInt))], [(0, .box 3 (.leaf rInt))], [], 2⟩, fn := fun (x : (List Int) × Int × Int) => M.slices_medianAdjacentOrdered_int N x.1 x.2.1 x.2.2 }
theorem W186 (N : Nat) : FnOK Tryz.prog 186 (S186 N) := fn_ok (E := ⟨tabs, [(187, S187 N)], (tabcons (W187 N) tabnil), mixed, false, false⟩) (N := N) (a := .nil) (sg := S186 N) (c := Tryz.f186.body.getD .skip) (rs := Tryz.f186.results.toList) Tryz.func186 (by kernel_rfl) (by kernel_rfl) rfl rfl rfl rfl (fun x => by kernel_rfl)
noncomputable def M.slices_choosePivotOrdered_int (N : Nat) (a0 : List Int) (a1 : Int) (a2 : Int) : Option (Int × Int) :=
((if (decide ((8 : Int) ≤ (IntKind.i64.wrap (a2 - a1)))) = true then
((if (decide ((50 : Int) ≤ (IntKind.i64.wrap (a2 - a1)))) = true then
(M.slices_medianAdjacentOrdered_int N a0 (IntKind.i64.wrap (a1 + (IntKind.i64.wrap ((IntKind.i64.wrap (Int.tdiv (IntKind.i64.wrap (a2 - a1)) (4 : Int))) * (1 : Int))))) (0 : Int)).bind fun y3 =>
(M.slices_medianAdjacentOrdered_int N a0 (IntKind.i64.wrap (a1 + (IntKind.i64.wrap ((IntKind.i64.wrap (Int.tdiv (IntKind.i64.wrap (a2 - a1)) (4 : Int))) * (2 : Int))))) y3.2).bind fun y4 =>
(M.slices_medianAdjacentOrdered_int N a0 (IntKind.i64.wrap (a1 + (IntKind.i64.wrap ((IntKind.i64.wrap (Int.tdiv (IntKind.i64.wrap (a2 - a1)) (4 : Int))) * (3 : Int))))) y4.2).bind fun y5 =>
some (y3.1, y4.1, y5.1, y5.2)
else
some (IntKind.i64.wrap (a1 + (IntKind.i64.wrap ((IntKind.i64.wrap (Int.tdiv (IntKind.i64.wrap (a2 - a1)) (4 : Int))) * (1 : Int)))), IntKind.i64.wrap (a1 + (IntKind.i64.wrap ((IntKind.i64.wrap (Int.tdiv (IntKind.i64.wrap (a2 - a1)) (4 : Int))) * (2 : Int)))), IntKind.i64.wrap (a1 + (IntKind.i64.wrap ((IntKind.i64.wrap (Int.tdiv (IntKind.i64.wrap (a2 - a1)) (4 : Int))) * (3 : Int)))), (0 : Int))) : Option (Int × Int × Int × Int)).bind fun j2 =>
(M.slices_medianOrdered_int N a0 j2.1 j2.2.1 j2.2.2.1 j2.2.2.2).bind fun y6 =>
some (y6.1, y6.2)
else
some (IntKind.i64.wrap (a1 + (IntKind.i64.wrap ((IntKind.i64.wrap (Int.tdiv (IntKind.i64.wrap (a2 - a1)) (4 : Int))) * (2 : Int)))), (0 : Int))) : Option (Int × Int)).bind fun j1 =>
(if (decide (j1.2 = (0 : Int))) = true then
some (j1.1, (1 : Int))
else
(if (decide (j1.2 = (12 : Int))) = true then
some (j1.1, (2 : Int))
else
some (j1.1, (0 : Int))))
noncomputable def S169 (N : Nat) : Sig := { inn := ⟨[(0, .val false (.leaf (.slice rInt))), (1, .val false (.leaf rInt)), (2, .val false (.leaf rInt))], [], [], 0⟩, out := ⟨[(0, .val false (.leaf rInt)), (1, .val false (.leaf rInt))], [], [], 0⟩, fn := fun (x : (List Int) × Int × Int) => M.slices_choosePivotOrdered_int N x.1 x.2.1 x.2.2 }
theorem W169 (N : Nat) : FnOK Tryz.prog 169 (S169 N) := fn_ok (E := ⟨tabs, [(186, S186 N), (187, S187 N)], (tabcons (W186 N) (tabcons (W187 N) tabnil)), mixed, false, false⟩) (N := N) (a := (.two .nil (.two .nil (.two .nil (.two .nil (.two .nil (.two .nil (.meet ⟨[(11, .val false (.leaf rInt))], [(96, .box 3 (.leaf rInt))], [], 401⟩ (.two .nil (.two (.meet ⟨[(10, .val false (.leaf rInt)), (11, .val false (.leaf rInt)), (12, .val false (.leaf rInt))], [(96, .box 3 (.leaf rInt))], [], 433⟩ .nil .nil) .nil)) .nil)))))))) (sg := S169 N) (c := Tryz.f169.body.getD .skip) (rs := Tryz.f169.results.toList) Tryz.func169 (by kernel_rfl) (by kernel_rfl) rfl rfl rfl rfl (fun x => by kernel_rfl)
end Go.Proofs.YtdpikadpkgkhkaaGreat
