/- Written by rx.py: models and walks. -/
import Derived.Test.YtjeeligfdpociaaGreatModel
namespace Go.Proofs.YtjeeligfdpociaaGreat
open Go Go.RowKit
set_option maxRecDepth 100000
set_option linter.unusedVariables false

noncomputable def M.law_Clone_v1 (N : Nat) (a0 : rLaw.den) : Option ((List rEnum.den) × (List rTable.den) × List rScope.den) :=
(M.law_cloneEnums_v1 N a0.1).bind fun y1 =>
(M.law_cloneTables_v1 N a0.2.1).bind fun y2 =>
(Loop (S := Int × (List rEnum.den) × (List rTable.den) × List rScope.den) (X := (List rEnum.den) × (List rTable.den) × List rScope.den) (fun s4 =>
(if (decide (s4.1 < (a0.2.2.length : Int))) = true then
((idx a0.2.2 s4.1).bind fun x6 =>
(M.slices_Clone_guerdon_api_Field_guerdon_api_Field N x6.2.2.1).bind fun y7 =>
(M.slices_Clone_guerdon_api_Field_guerdon_api_Field N x6.2.2.2.1).bind fun y8 =>
(Loop (S := Int × ByteArray × Int × (List rField.den) × (List rField.den) × List rRule.den) (X := ByteArray × Int × (List rField.den) × (List rField.den) × List rRule.den) (fun s10 =>
(if (decide (s10.1 < (x6.2.2.2.2.length : Int))) = true then
(idx x6.2.2.2.2 s10.1).bind fun x11 =>
(M.slices_Clone_guerdon_api_Node_guerdon_api_Node N x11.2.2.2.2.2.1).bind fun y12 =>
(M.slices_Clone_guerdon_api_Node_guerdon_api_Node N x11.2.2.2.2.2.2.1).bind fun y13 =>
(appA s10.2.2.2.2.2 ([(x11.1, (x11.2.1, (x11.2.2.1, (x11.2.2.2.1, (x11.2.2.2.2.1, (y12, (y13, x11.2.2.2.2.2.2.2)))))))] : List rRule.den)).bind fun l14 =>
some (Sum.inl (IntKind.i64.wrap (s10.1 + (1 : Int)), s10.2.1, s10.2.2.1, s10.2.2.2.1, s10.2.2.2.2.1, l14))
else
some (Sum.inr (s10.2.1, s10.2.2.1, s10.2.2.2.1, s10.2.2.2.2.1, s10.2.2.2.2.2)))) N ((0 : Int), x6.1, x6.2.1, y7, y8, ([] : List rRule.den)) : Option (ByteArray × Int × (List rField.den) × (List rField.den) × List rRule.den)).bind fun j9 =>
(appA s4.2.2.2 ([(j9.1, (j9.2.1, (j9.2.2.1, (j9.2.2.2.1, j9.2.2.2.2))))] : List rScope.den)).bind fun l15 =>
some (s4.2.1, s4.2.2.1, l15) : Option ((List rEnum.den) × (List rTable.den) × List rScope.den)).bind fun j5 =>
some (Sum.inl (IntKind.i64.wrap (s4.1 + (1 : Int)), j5.1, j5.2.1, j5.2.2))
else
some (Sum.inr (s4.2.1, s4.2.2.1, s4.2.2.2)))) N ((0 : Int), y1, y2, ([] : List rScope.den)) : Option ((List rEnum.den) × (List rTable.den) × List rScope.den)).bind fun j3 =>
some (j3.1, j3.2.1, j3.2.2)
noncomputable def S15v1 (N : Nat) : Sig := { inn := ⟨[(0, .val true (.leaf rLaw))], [], [], 0⟩, out := ⟨[(0, .val true (.pair (.own 0) (.pair (.own 1) (.own 2))))], [(0, .deep 68 (.pair (.leaf .str) (.sl 9 (.leaf .str)))), (1, .deep 71 (.pair (.leaf .str) (.pair (.leaf rType) (.pair (.leaf rType) (.sl 112 (.leaf rRow)))))), (2, .deep 41 (.pair (.leaf .str) (.pair (.leaf rInt) (.pair (.sl 45 (.leaf rField)) (.pair (.sl 45 (.leaf rField)) (.sl 63 (.pair (.leaf .str) (.pair (.leaf rInt) (.pair (.leaf rInt) (.pair (.leaf rInt) (.pair (.leaf rType) (.pair (.sl 65 (.leaf rType)) (.pair (.sl 65 (.leaf rType)) (.leaf .str))))))))))))))], [], 3⟩, fn := fun (x : rLaw.den) => M.law_Clone_v1 N x }
theorem W15v1 (N : Nat) : FnOK Tryz.prog 15 (S15v1 N) := fn_ok (E := ⟨tabs, [(38, S38v1 N), (39, S39v1 N), (40, S40 N), (41, S41 N)], (tabcons (W38v1 N) (tabcons (W39v1 N) (tabcons (W40 N) (tabcons (W41 N) tabnil)))), mixed, true, false⟩) (N := N) (a := (.two .nil (.two .nil (.meet ⟨[], [(64, .deep 68 (.pair (.leaf .str) (.sl 9 (.leaf .str)))), (112, .deep 71 (.pair (.leaf .str) (.pair (.leaf rType) (.pair (.leaf rType) (.sl 112 (.leaf rRow)))))), (144, .box 26 (.pair (.own 64) (.pair (.own 112) (.own 176)))), (176, .deep 41 (.pair (.leaf .str) (.pair (.leaf rInt) (.pair (.sl 45 (.leaf rField)) (.pair (.sl 45 (.leaf rField)) (.sl 63 (.pair (.leaf .str) (.pair (.leaf rInt) (.pair (.leaf rInt) (.pair (.leaf rInt) (.pair (.leaf rType) (.pair (.sl 65 (.leaf rType)) (.pair (.sl 65 (.leaf rType)) (.leaf .str))))))))))))))], [], 180⟩ (.two .nil (.two (.loop ⟨[(19, .val false (.leaf rInt))], [(64, .deep 68 (.pair (.leaf .str) (.sl 9 (.leaf .str)))), (112, .deep 71 (.pair (.leaf .str) (.pair (.leaf rType) (.pair (.leaf rType) (.sl 112 (.leaf rRow)))))), (144, .box 26 (.pair (.own 64) (.pair (.own 112) (.own 240)))), (240, .deep 41 (.pair (.leaf .str) (.pair (.leaf rInt) (.pair (.sl 45 (.leaf rField)) (.pair (.sl 45 (.leaf rField)) (.sl 63 (.pair (.leaf .str) (.pair (.leaf rInt) (.pair (.leaf rInt) (.pair (.leaf rInt) (.pair (.leaf rType) (.pair (.sl 65 (.leaf rType)) (.pair (.sl 65 (.leaf rType)) (.leaf .str))))))))))))))], [], 244⟩ (.two .nil (.two .nil (.meet ⟨[], [(64, .deep 68 (.pair (.leaf .str) (.sl 9 (.leaf .str)))), (112, .deep 71 (.pair (.leaf .str) (.pair (.leaf rType) (.pair (.leaf rType) (.sl 112 (.leaf rRow)))))), (144, .box 26 (.pair (.own 64) (.pair (.own 112) (.own 260)))), (260, .deep 41 (.pair (.leaf .str) (.pair (.leaf rInt) (.pair (.sl 45 (.leaf rField)) (.pair (.sl 45 (.leaf rField)) (.sl 63 (.pair (.leaf .str) (.pair (.leaf rInt) (.pair (.leaf rInt) (.pair (.leaf rInt) (.pair (.leaf rType) (.pair (.sl 65 (.leaf rType)) (.pair (.sl 65 (.leaf rType)) (.leaf .str))))))))))))))], [240], 264⟩ (.two (.two .nil (.two .nil (.two .nil (.two .nil (.two .nil (.meet ⟨[], [(340, .box 41 (.pair (.leaf .str) (.pair (.leaf rInt) (.pair (.own 404) (.pair (.own 484) (.own 564)))))), (404, .own 45 rField), (484, .own 45 rField), (564, .deep 63 (.pair (.leaf .str) (.pair (.leaf rInt) (.pair (.leaf rInt) (.pair (.leaf rInt) (.pair (.leaf rType) (.pair (.sl 65 (.leaf rType)) (.pair (.sl 65 (.leaf rType)) (.leaf .str)))))))))], [], 568⟩ (.two .nil (.two (.loop ⟨[(36, .val false (.leaf rInt))], [(340, .box 41 (.pair (.leaf .str) (.pair (.leaf rInt) (.pair (.own 404) (.pair (.own 484) (.own 628)))))), (404, .own 45 rField), (484, .own 45 rField), (628, .deep 63 (.pair (.leaf .str) (.pair (.leaf rInt) (.pair (.leaf rInt) (.pair (.leaf rInt) (.pair (.leaf rType) (.pair (.sl 65 (.leaf rType)) (.pair (.sl 65 (.leaf rType)) (.leaf .str)))))))))], [], 632⟩ .nil) .nil)) .nil)))))) .nil) .nil)))) .nil)) .nil)))) (sg := S15v1 N) (c := Tryz.f15.body.getD .skip) (rs := Tryz.f15.results.toList) Tryz.func15 (by kernel_rfl) (by kernel_rfl) rfl rfl rfl rfl (fun x => by kernel_rfl)
noncomputable def M.law17_LawDuplicate (N : Nat) (a0 : rLaw.den) (a1 : Int) : Option (Bool) :=
((M.same_SmallLaw N a0).bind fun y2 =>
(if (!y2) = true then
some true
else
(M.law_Validate N a0).bind fun y3 =>
(if (!(eqR rLawError y3 ((0 : Int), ((0 : Int), ((0 : Int), (0 : Int)))))) = true then
some true
else
some (decide ((a0.2.2.length : Int) = (0 : Int))))) : Option (Bool)).bind fun j1 =>
(if j1 = true then
(M.law17_awake N).bind fun y4 =>
some y4
else
(M.law_Clone_v1 N a0).bind fun y5 =>
(if (!decide ((y5.2.2.length : Int) = (a0.2.2.length : Int))) = true then
some false
else
(remA a1 (y5.2.2.length : Int)).bind fun x6 =>
(remA (IntKind.i64.wrap (x6 + (y5.2.2.length : Int))) (y5.2.2.length : Int)).bind fun x7 =>
(idx y5.2.2 x7).bind fun x8 =>
Join (J := List rScope.den) (R := Bool) ((idx y5.2.2 x7).bind fun x10 =>
(if (decide ((0 : Int) < (x10.2.2.2.1.length : Int))) = true then
(if decide (x7 = x7) = true then
(idx y5.2.2 x7).bind fun x11 =>
(if (decide ((x10.2.2.2.1.length : Int) < (12 : Int))) = true then
((if decide (x7 = x7) = true then
(idx y5.2.2 x7).bind fun x13 =>
(if decide (x7 = x7) = true then
(idx y5.2.2 x7).bind fun x14 =>
(idx x10.2.2.2.1 (0 : Int)).bind fun x15 =>
(appA x10.2.2.2.1 ([x15] : List rField.den)).bind fun l16 =>
(if decide (x7 = x7) = true then
(idx y5.2.2 x7).bind fun x17 =>
(idx (modL y5.2.2 x7 (fun m18 => (m18.1, (m18.2.1, (m18.2.2.1, (l16, m18.2.2.2.2)))))) x7).bind fun x19 =>
some (x19, y5.1, y5.2.1, modL y5.2.2 x7 (fun m18 => (m18.1, (m18.2.1, (m18.2.2.1, (l16, m18.2.2.2.2))))))
else none)
else none)
else none) : Option (rScope.den × (List rEnum.den) × (List rTable.den) × List rScope.den)).bind fun j12 =>
((M.law_Validate N (j12.2.1, (j12.2.2.1, j12.2.2.2))).bind fun y21 =>
(if (eqR rLawError y21 ((7 : Int), ((3 : Int), (x7, IntKind.i64.wrap ((IntKind.i64.wrap ((200 : Int) + (j12.1.2.2.2.1.length : Int))) - (1 : Int)))))) = true then
(M.law17_awake N).bind fun y22 =>
some y22
else
some false) : Option (Bool)).bind fun j20 =>
some (Sum.inr j20)
else
some (Sum.inl (modL y5.2.2 x7 (fun m23 => (m23.1, (m23.2.1, (m23.2.2.1, (x10.2.2.2.1, m23.2.2.2.2))))))))
else none)
else
some (Sum.inl (modL y5.2.2 x7 (fun m24 => (m24.1, (m24.2.1, (m24.2.2.1, (x10.2.2.2.1, m24.2.2.2.2))))))))) fun j9 =>
Join (J := List rScope.den) (R := Bool) ((if (decide ((4 : Int) ≤ (j9.length : Int))) = true then
(M.law17_awake N).bind fun y26 =>
some (Sum.inr y26)
else
some (Sum.inl j9))) fun j25 =>
(idx j25 (0 : Int)).bind fun x27 =>
(appA j25 ([x27] : List rScope.den)).bind fun l28 =>
((M.law_Validate N (y5.1, (y5.2.1, l28))).bind fun y30 =>
(if (eqR rLawError y30 ((7 : Int), ((3 : Int), (IntKind.i64.wrap ((l28.length : Int) - (1 : Int)), (0 : Int))))) = true then
(M.law17_awake N).bind fun y31 =>
some y31
else
some false) : Option (Bool)).bind fun j29 =>
some j29))
noncomputable def S5 (N : Nat) : Sig := { inn := ⟨[(0, .val true (.leaf rLaw)), (1, .val false (.leaf rInt))], [], [], 0⟩, out := ⟨[(0, .val false (.leaf .bool))], [], [], 0⟩, fn := fun (x : rLaw.den × Int) => M.law17_LawDuplicate N x.1 x.2 }
theorem W5 (N : Nat) : FnOK Tryz.prog 5 (S5 N) := fn_ok (E := ⟨tabs, [(9, S9 N), (10, S10 N), (11, S11 N), (15, S15v1 N)], (tabcons (W9 N) (tabcons (W10 N) (tabcons (W11 N) (tabcons (W15v1 N) tabnil)))), mixed, true, false⟩) (N := N) (a := (.two .nil (.two (.meet ⟨[(22, .val false (.leaf .bool))], [], [], 32⟩ .nil .nil) (.two .nil (.two .nil (.two .nil (.two .nil (.join ⟨[], [(50, .deep 41 (.pair (.leaf .str) (.pair (.leaf rInt) (.pair (.sl 45 (.leaf rField)) (.pair (.sl 45 (.leaf rField)) (.sl 63 (.pair (.leaf .str) (.pair (.leaf rInt) (.pair (.leaf rInt) (.pair (.leaf rInt) (.pair (.leaf rType) (.pair (.sl 65 (.leaf rType)) (.pair (.sl 65 (.leaf rType)) (.leaf .str))))))))))))))], [], 513⟩ (.two .nil (.two (.meet ⟨[(7, .at rScope)], [(48, .deep 68 (.pair (.leaf .str) (.sl 9 (.leaf .str)))), (49, .deep 71 (.pair (.leaf .str) (.pair (.leaf rType) (.pair (.leaf rType) (.sl 112 (.leaf rRow)))))), (64, .box 26 (.pair (.own 48) (.pair (.own 49) (.leaf (.slice rScope)))))], [50, 560], 739⟩ .nil (.meet ⟨[(4, .val false (.leaf .bool))], [], [], 739⟩ .nil .nil)) .nil)) (.join ⟨[], [(50, .own 41 rScope)], [], 514⟩ .nil (.two .nil (.meet ⟨[(4, .val false (.leaf .bool))], [], [], 674⟩ .nil .nil))))))))))) (sg := S5 N) (c := Tryz.f5.body.getD .skip) (rs := Tryz.f5.results.toList) Tryz.func5 (by kernel_rfl) (by kernel_rfl) rfl rfl rfl rfl (fun x => by kernel_rfl)
noncomputable def M.same_Strings (N : Nat) (a0 : List ByteArray) (a1 : List ByteArray) : Option (Bool) :=
(if (!decide ((a0.length : Int) = (a1.length : Int))) = true then
some false
else
Loop (S := Int) (X := Bool) (fun s1 =>
((if (decide (s1 < (a0.length : Int))) = true then
some (decide (s1 < (a1.length : Int)))
else
some false) : Option (Bool)).bind fun j2 =>
(if j2 = true then
(idx a0 s1).bind fun x3 =>
(idx a1 s1).bind fun x4 =>
(if (!decide (x3 = x4)) = true then
some (Sum.inr false)
else
some (Sum.inl (IntKind.i64.wrap (s1 + (1 : Int)))))
else
some (Sum.inr true))) N (0 : Int))
noncomputable def S47 (N : Nat) : Sig := { inn := ⟨[(0, .val false (.leaf (.slice .str))), (1, .val false (.leaf (.slice .str)))], [], [], 0⟩, out := ⟨[(0, .val false (.leaf .bool))], [], [], 0⟩, fn := fun (x : (List ByteArray) × List ByteArray) => M.same_Strings N x.1 x.2 }
theorem W47 (N : Nat) : FnOK Tryz.prog 47 (S47 N) := fn_ok (E := ⟨tabs, [], tabnil, mixed, false, false⟩) (N := N) (a := (.two .nil (.two .nil (.two (.two .nil (.two (.loop ⟨[(5, .val false (.leaf rInt))], [], [], 112⟩ (.two (.meet ⟨[(20, .val false (.leaf .bool))], [], [], 112⟩ .nil .nil) .nil)) .nil)) .nil)))) (sg := S47 N) (c := Tryz.f47.body.getD .skip) (rs := Tryz.f47.results.toList) Tryz.func47 (by kernel_rfl) (by kernel_rfl) rfl rfl rfl rfl (fun x => by kernel_rfl)
noncomputable def M.same_Enum (N : Nat) (a0 : rEnum.den) (a1 : rEnum.den) : Option (Bool) :=
((if (decide (a0.1 = a1.1)) = true then
(M.same_Strings N a0.2 a1.2).bind fun y2 =>
some y2
else
some false) : Option (Bool)).bind fun j1 =>
some j1
noncomputable def S73 (N : Nat) : Sig := { inn := ⟨[(0, .val true (.leaf rEnum)), (1, .val true (.leaf rEnum))], [], [], 0⟩, out := ⟨[(0, .val false (.leaf .bool))], [], [], 0⟩, fn := fun (x : rEnum.den × rEnum.den) => M.same_Enum N x.1 x.2 }
theorem W73 (N : Nat) : FnOK Tryz.prog 73 (S73 N) := fn_ok (E := ⟨tabs, [(47, S47 N)], (tabcons (W47 N) tabnil), mixed, false, false⟩) (N := N) (a := (.two .nil (.meet ⟨[(4, .val false (.leaf .bool))], [], [], 48⟩ .nil .nil))) (sg := S73 N) (c := Tryz.f73.body.getD .skip) (rs := Tryz.f73.results.toList) Tryz.func73 (by kernel_rfl) (by kernel_rfl) rfl rfl rfl rfl (fun x => by kernel_rfl)
noncomputable def M.same_Enums (N : Nat) (a0 : List rEnum.den) (a1 : List rEnum.den) : Option (Bool) :=
(if (!decide ((a0.length : Int) = (a1.length : Int))) = true then
some false
else
Loop (S := Int) (X := Bool) (fun s1 =>
((if (decide (s1 < (a0.length : Int))) = true then
some (decide (s1 < (a1.length : Int)))
else
some false) : Option (Bool)).bind fun j2 =>
(if j2 = true then
(idx a0 s1).bind fun x3 =>
(idx a1 s1).bind fun x4 =>
(M.same_Enum N x3 x4).bind fun y5 =>
(if (!y5) = true then
some (Sum.inr false)
else
some (Sum.inl (IntKind.i64.wrap (s1 + (1 : Int)))))
else
some (Sum.inr true))) N (0 : Int))
noncomputable def S42 (N : Nat) : Sig := { inn := ⟨[(0, .val false (.leaf (.slice rEnum))), (1, .val false (.leaf (.slice rEnum)))], [], [], 0⟩, out := ⟨[(0, .val false (.leaf .bool))], [], [], 0⟩, fn := fun (x : (List rEnum.den) × List rEnum.den) => M.same_Enums N x.1 x.2 }
theorem W42 (N : Nat) : FnOK Tryz.prog 42 (S42 N) := fn_ok (E := ⟨tabs, [(73, S73 N)], (tabcons (W73 N) tabnil), mixed, false, false⟩) (N := N) (a := (.two .nil (.two .nil (.two (.two .nil (.two (.loop ⟨[(5, .val false (.leaf rInt))], [], [], 112⟩ (.two (.meet ⟨[(20, .val false (.leaf .bool))], [], [], 112⟩ .nil .nil) .nil)) .nil)) .nil)))) (sg := S42 N) (c := Tryz.f42.body.getD .skip) (rs := Tryz.f42.results.toList) Tryz.func42 (by kernel_rfl) (by kernel_rfl) rfl rfl rfl rfl (fun x => by kernel_rfl)
noncomputable def M.same_Rows (N : Nat) (a0 : List rRow.den) (a1 : List rRow.den) : Option (Bool) :=
(if (!decide ((a0.length : Int) = (a1.length : Int))) = true then
some false
else
Loop (S := Int) (X := Bool) (fun s1 =>
((if (decide (s1 < (a0.length : Int))) = true then
some (decide (s1 < (a1.length : Int)))
else
some false) : Option (Bool)).bind fun j2 =>
(if j2 = true then
(idx a0 s1).bind fun x3 =>
(idx a1 s1).bind fun x4 =>
(if (!(eqR rRow x3 x4)) = true then
some (Sum.inr false)
else
some (Sum.inl (IntKind.i64.wrap (s1 + (1 : Int)))))
else
some (Sum.inr true))) N (0 : Int))
noncomputable def S118 (N : Nat) : Sig := { inn := ⟨[(0, .val false (.leaf (.slice rRow))), (1, .val false (.leaf (.slice rRow)))], [], [], 0⟩, out := ⟨[(0, .val false (.leaf .bool))], [], [], 0⟩, fn := fun (x : (List rRow.den) × List rRow.den) => M.same_Rows N x.1 x.2 }
theorem W118 (N : Nat) : FnOK Tryz.prog 118 (S118 N) := fn_ok (E := ⟨tabs, [], tabnil, mixed, false, false⟩) (N := N) (a := (.two .nil (.two .nil (.two (.two .nil (.two (.loop ⟨[(5, .val false (.leaf rInt))], [], [], 112⟩ (.two (.meet ⟨[(20, .val false (.leaf .bool))], [], [], 112⟩ .nil .nil) .nil)) .nil)) .nil)))) (sg := S118 N) (c := Tryz.f118.body.getD .skip) (rs := Tryz.f118.results.toList) Tryz.func118 (by kernel_rfl) (by kernel_rfl) rfl rfl rfl rfl (fun x => by kernel_rfl)
noncomputable def M.same_Table (N : Nat) (a0 : rTable.den) (a1 : rTable.den) : Option (Bool) :=
((if (decide (a0.1 = a1.1)) = true then
(if (eqR rType a0.2.1 a1.2.1) = true then
(if (eqR rType a0.2.2.1 a1.2.2.1) = true then
(M.same_Rows N a0.2.2.2 a1.2.2.2).bind fun y2 =>
some y2
else
some false)
else
some false)
else
some false) : Option (Bool)).bind fun j1 =>
some j1
noncomputable def S74 (N : Nat) : Sig := { inn := ⟨[(0, .val true (.leaf rTable)), (1, .val true (.leaf rTable))], [], [], 0⟩, out := ⟨[(0, .val false (.leaf .bool))], [], [], 0⟩, fn := fun (x : rTable.den × rTable.den) => M.same_Table N x.1 x.2 }
theorem W74 (N : Nat) : FnOK Tryz.prog 74 (S74 N) := fn_ok (E := ⟨tabs, [(118, S118 N)], (tabcons (W118 N) tabnil), mixed, false, false⟩) (N := N) (a := (.two .nil (.meet ⟨[(4, .val false (.leaf .bool))], [], [], 48⟩ .nil .nil))) (sg := S74 N) (c := Tryz.f74.body.getD .skip) (rs := Tryz.f74.results.toList) Tryz.func74 (by kernel_rfl) (by kernel_rfl) rfl rfl rfl rfl (fun x => by kernel_rfl)
noncomputable def M.same_Tables (N : Nat) (a0 : List rTable.den) (a1 : List rTable.den) : Option (Bool) :=
(if (!decide ((a0.length : Int) = (a1.length : Int))) = true then
some false
else
Loop (S := Int) (X := Bool) (fun s1 =>
((if (decide (s1 < (a0.length : Int))) = true then
some (decide (s1 < (a1.length : Int)))
else
some false) : Option (Bool)).bind fun j2 =>
(if j2 = true then
(idx a0 s1).bind fun x3 =>
(idx a1 s1).bind fun x4 =>
(M.same_Table N x3 x4).bind fun y5 =>
(if (!y5) = true then
some (Sum.inr false)
else
some (Sum.inl (IntKind.i64.wrap (s1 + (1 : Int)))))
else
some (Sum.inr true))) N (0 : Int))
noncomputable def S43 (N : Nat) : Sig := { inn := ⟨[(0, .val false (.leaf (.slice rTable))), (1, .val false (.leaf (.slice rTable)))], [], [], 0⟩, out := ⟨[(0, .val false (.leaf .bool))], [], [], 0⟩, fn := fun (x : (List rTable.den) × List rTable.den) => M.same_Tables N x.1 x.2 }
theorem W43 (N : Nat) : FnOK Tryz.prog 43 (S43 N) := fn_ok (E := ⟨tabs, [(74, S74 N)], (tabcons (W74 N) tabnil), mixed, false, false⟩) (N := N) (a := (.two .nil (.two .nil (.two (.two .nil (.two (.loop ⟨[(5, .val false (.leaf rInt))], [], [], 112⟩ (.two (.meet ⟨[(20, .val false (.leaf .bool))], [], [], 112⟩ .nil .nil) .nil)) .nil)) .nil)))) (sg := S43 N) (c := Tryz.f43.body.getD .skip) (rs := Tryz.f43.results.toList) Tryz.func43 (by kernel_rfl) (by kernel_rfl) rfl rfl rfl rfl (fun x => by kernel_rfl)
noncomputable def M.same_Types (N : Nat) (a0 : List rType.den) (a1 : List rType.den) : Option (Bool) :=
(if (!decide ((a0.length : Int) = (a1.length : Int))) = true then
some false
else
Loop (S := Int) (X := Bool) (fun s1 =>
((if (decide (s1 < (a0.length : Int))) = true then
some (decide (s1 < (a1.length : Int)))
else
some false) : Option (Bool)).bind fun j2 =>
(if j2 = true then
(idx a0 s1).bind fun x3 =>
(idx a1 s1).bind fun x4 =>
(if (!(eqR rType x3 x4)) = true then
some (Sum.inr false)
else
some (Sum.inl (IntKind.i64.wrap (s1 + (1 : Int)))))
else
some (Sum.inr true))) N (0 : Int))
noncomputable def S44 (N : Nat) : Sig := { inn := ⟨[(0, .val false (.leaf (.slice rType))), (1, .val false (.leaf (.slice rType)))], [], [], 0⟩, out := ⟨[(0, .val false (.leaf .bool))], [], [], 0⟩, fn := fun (x : (List rType.den) × List rType.den) => M.same_Types N x.1 x.2 }
theorem W44 (N : Nat) : FnOK Tryz.prog 44 (S44 N) := fn_ok (E := ⟨tabs, [], tabnil, mixed, false, false⟩) (N := N) (a := (.two .nil (.two .nil (.two (.two .nil (.two (.loop ⟨[(5, .val false (.leaf rInt))], [], [], 112⟩ (.two (.meet ⟨[(20, .val false (.leaf .bool))], [], [], 112⟩ .nil .nil) .nil)) .nil)) .nil)))) (sg := S44 N) (c := Tryz.f44.body.getD .skip) (rs := Tryz.f44.results.toList) Tryz.func44 (by kernel_rfl) (by kernel_rfl) rfl rfl rfl rfl (fun x => by kernel_rfl)
noncomputable def M.same_Signature (N : Nat) (a0 : rSignature.den) (a1 : rSignature.den) : Option (Bool) :=
((M.same_Enums N a0.1 a1.1).bind fun y2 =>
(if y2 = true then
(M.same_Tables N a0.2.1 a1.2.1).bind fun y3 =>
(if y3 = true then
(M.same_Types N a0.2.2.1 a1.2.2.1).bind fun y4 =>
(if y4 = true then
(M.same_Types N a0.2.2.2.1 a1.2.2.2.1).bind fun y5 =>
(if y5 = true then
(M.same_Types N a0.2.2.2.2.1 a1.2.2.2.2.1).bind fun y6 =>
(if y6 = true then
some (decide (a0.2.2.2.2.2 = a1.2.2.2.2.2))
else
some false)
else
some false)
else
some false)
else
some false)
else
some false) : Option (Bool)).bind fun j1 =>
some j1
noncomputable def S16 (N : Nat) : Sig := { inn := ⟨[(0, .val true (.leaf rSignature)), (1, .val true (.leaf rSignature))], [], [], 0⟩, out := ⟨[(0, .val false (.leaf .bool))], [], [], 0⟩, fn := fun (x : rSignature.den × rSignature.den) => M.same_Signature N x.1 x.2 }
theorem W16 (N : Nat) : FnOK Tryz.prog 16 (S16 N) := fn_ok (E := ⟨tabs, [(42, S42 N), (43, S43 N), (44, S44 N)], (tabcons (W42 N) (tabcons (W43 N) (tabcons (W44 N) tabnil))), mixed, false, false⟩) (N := N) (a := (.two .nil (.meet ⟨[(4, .val false (.leaf .bool))], [], [], 48⟩ .nil .nil))) (sg := S16 N) (c := Tryz.f16.body.getD .skip) (rs := Tryz.f16.results.toList) Tryz.func16 (by kernel_rfl) (by kernel_rfl) rfl rfl rfl rfl (fun x => by kernel_rfl)
noncomputable def M.law_Signature (N : Nat) (a0 : rLaw.den) (a1 : Int) : Option (Bool × (List rEnum.den) × (List rTable.den) × (List rType.den) × (List rType.den) × List rType.den) :=
((if (decide (a1 < (0 : Int))) = true then
some true
else
some (decide ((a0.2.2.length : Int) ≤ a1))) : Option (Bool)).bind fun j1 =>
(if j1 = true then
some (false, ([] : List rEnum.den), ([] : List rTable.den), ([] : List rType.den), ([] : List rType.den), ([] : List rType.den))
else
(M.law_sharedSignature N a0 a1).bind fun y2 =>
(M.law_cloneEnums N y2.1).bind fun y3 =>
(M.law_cloneTables N y2.2.1).bind fun y4 =>
some (y2.2.2.1, y3, y4, y2.2.2.2.1, y2.2.2.2.2.1, y2.2.2.2.2.2))
noncomputable def S17 (N : Nat) : Sig := { inn := ⟨[(0, .val true (.leaf rLaw)), (1, .val false (.leaf rInt))], [], [], 0⟩, out := ⟨[(0, .val true (.pair (.own 0) (.pair (.own 1) (.pair (.own 2) (.pair (.own 3) (.pair (.own 4) (.leaf .bool)))))))], [(0, .own 68 rEnum), (1, .own 71 rTable), (2, .own 43 rType), (3, .own 43 rType), (4, .own 43 rType)], [], 5⟩, fn := fun (x : rLaw.den × Int) => M.law_Signature N x.1 x.2 }
theorem W17 (N : Nat) : FnOK Tryz.prog 17 (S17 N) := fn_ok (E := ⟨tabs, [(38, S38 N), (39, S39 N), (45, S45 N)], (tabcons (W38 N) (tabcons (W39 N) (tabcons (W45 N) tabnil))), mixed, false, false⟩) (N := N) (a := (.two .nil (.two (.meet ⟨[(14, .val false (.leaf .bool))], [], [], 32⟩ .nil .nil) .nil))) (sg := S17 N) (c := Tryz.f17.body.getD .skip) (rs := Tryz.f17.results.toList) Tryz.func17 (by kernel_rfl) (by kernel_rfl) rfl rfl rfl rfl (fun x => by kernel_rfl)
noncomputable def M.same_SymbolNames (N : Nat) (a0 : rSymbolNames.den) (a1 : rSymbolNames.den) : Option (Bool) :=
((M.same_Enums N a0.1 a1.1).bind fun y2 =>
(if y2 = true then
(M.same_Strings N a0.2.1 a1.2.1).bind fun y3 =>
(if y3 = true then
(M.same_Strings N a0.2.2.1 a1.2.2.1).bind fun y4 =>
(if y4 = true then
(M.same_Strings N a0.2.2.2.1 a1.2.2.2.1).bind fun y5 =>
(if y5 = true then
(M.same_Strings N a0.2.2.2.2 a1.2.2.2.2).bind fun y6 =>
some y6
else
some false)
else
some false)
else
some false)
else
some false) : Option (Bool)).bind fun j1 =>
some j1
noncomputable def S19 (N : Nat) : Sig := { inn := ⟨[(0, .val true (.leaf rSymbolNames)), (1, .val true (.leaf rSymbolNames))], [], [], 0⟩, out := ⟨[(0, .val false (.leaf .bool))], [], [], 0⟩, fn := fun (x : rSymbolNames.den × rSymbolNames.den) => M.same_SymbolNames N x.1 x.2 }
theorem W19 (N : Nat) : FnOK Tryz.prog 19 (S19 N) := fn_ok (E := ⟨tabs, [(42, S42 N), (47, S47 N)], (tabcons (W42 N) (tabcons (W47 N) tabnil)), mixed, false, false⟩) (N := N) (a := (.two .nil (.meet ⟨[(4, .val false (.leaf .bool))], [], [], 48⟩ .nil .nil))) (sg := S19 N) (c := Tryz.f19.body.getD .skip) (rs := Tryz.f19.results.toList) Tryz.func19 (by kernel_rfl) (by kernel_rfl) rfl rfl rfl rfl (fun x => by kernel_rfl)
noncomputable def M.law_fieldNames (N : Nat) (a0 : List rField.den) : Option (List ByteArray) :=
Loop (S := Int × List ByteArray) (X := List ByteArray) (fun s1 =>
(if (decide (s1.1 < (a0.length : Int))) = true then
(idx a0 s1.1).bind fun x2 =>
(appA s1.2 ([x2.1] : List ByteArray)).bind fun l3 =>
some (Sum.inl (IntKind.i64.wrap (s1.1 + (1 : Int)), l3))
else
some (Sum.inr s1.2))) N ((0 : Int), ([] : List ByteArray))
noncomputable def S48 (N : Nat) : Sig := { inn := ⟨[(0, .val false (.leaf (.slice rField)))], [], [], 0⟩, out := ⟨[(0, .val false (.own 0))], [(0, .own 9 .str)], [], 1⟩, fn := fun (x : List rField.den) => M.law_fieldNames N x }
theorem W48 (N : Nat) : FnOK Tryz.prog 48 (S48 N) := fn_ok (E := ⟨tabs, [], tabnil, mixed, false, false⟩) (N := N) (a := (.two .nil (.two .nil (.two (.two .nil (.two (.loop ⟨[(3, .val false (.own 80)), (8, .val false (.leaf rInt))], [(80, .own 9 .str)], [], 81⟩ .nil) .nil)) .nil)))) (sg := S48 N) (c := Tryz.f48.body.getD .skip) (rs := Tryz.f48.results.toList) Tryz.func48 (by kernel_rfl) (by kernel_rfl) rfl rfl rfl rfl (fun x => by kernel_rfl)
noncomputable def M.law_SymbolNames (N : Nat) (a0 : rLaw.den) (a1 : Int) : Option ((List rEnum.den) × (List ByteArray) × (List ByteArray) × (List ByteArray) × List ByteArray) :=
((if (decide (a1 < (0 : Int))) = true then
some true
else
some (decide ((a0.2.2.length : Int) ≤ a1))) : Option (Bool)).bind fun j1 =>
(if j1 = true then
some (([] : List rEnum.den), ([] : List ByteArray), ([] : List ByteArray), ([] : List ByteArray), ([] : List ByteArray))
else
(idx a0.2.2 a1).bind fun x2 =>
(M.law_cloneEnums N a0.1).bind fun y3 =>
(M.law_fieldNames N x2.2.2.1).bind fun y4 =>
(M.law_fieldNames N x2.2.2.2.1).bind fun y5 =>
(Loop (S := Int × (List rEnum.den) × (List ByteArray) × (List ByteArray) × List ByteArray) (X := (List rEnum.den) × (List ByteArray) × (List ByteArray) × List ByteArray) (fun s7 =>
(if (decide (s7.1 < (a0.2.1.length : Int))) = true then
(idx a0.2.1 s7.1).bind fun x8 =>
(appA s7.2.2.2.2 ([x8.1] : List ByteArray)).bind fun l9 =>
some (Sum.inl (IntKind.i64.wrap (s7.1 + (1 : Int)), s7.2.1, s7.2.2.1, s7.2.2.2.1, l9))
else
some (Sum.inr (s7.2.1, s7.2.2.1, s7.2.2.2.1, s7.2.2.2.2)))) N ((0 : Int), y3, y4, y5, ([] : List ByteArray)) : Option ((List rEnum.den) × (List ByteArray) × (List ByteArray) × List ByteArray)).bind fun j6 =>
(((if (decide ((0 : Int) ≤ x2.2.1)) = true then
some (decide (x2.2.1 < (a0.2.2.length : Int)))
else
some false) : Option (Bool)).bind fun j11 =>
(if j11 = true then
(idx a0.2.2 x2.2.1).bind fun x12 =>
(M.law_fieldNames N x12.2.2.2.1).bind fun y13 =>
some (j6.1, j6.2.1, j6.2.2.1, j6.2.2.2, y13)
else
some (j6.1, j6.2.1, j6.2.2.1, j6.2.2.2, ([] : List ByteArray))) : Option ((List rEnum.den) × (List ByteArray) × (List ByteArray) × (List ByteArray) × List ByteArray)).bind fun j10 =>
some (j10.1, j10.2.2.2.1, j10.2.1, j10.2.2.1, j10.2.2.2.2))
noncomputable def S20 (N : Nat) : Sig := { inn := ⟨[(0, .val true (.leaf rLaw)), (1, .val false (.leaf rInt))], [], [], 0⟩, out := ⟨[(0, .val true (.pair (.own 0) (.pair (.own 1) (.pair (.own 2) (.pair (.own 3) (.own 4))))))], [(0, .own 68 rEnum), (1, .own 9 .str), (2, .own 9 .str), (3, .own 9 .str), (4, .own 9 .str)], [], 5⟩, fn := fun (x : rLaw.den × Int) => M.law_SymbolNames N x.1 x.2 }
theorem W20 (N : Nat) : FnOK Tryz.prog 20 (S20 N) := fn_ok (E := ⟨tabs, [(38, S38 N), (48, S48 N)], (tabcons (W38 N) (tabcons (W48 N) tabnil)), mixed, false, false⟩) (N := N) (a := (.two .nil (.two (.meet ⟨[(17, .val false (.leaf .bool))], [], [], 32⟩ .nil .nil) (.two .nil (.two .nil (.meet ⟨[], [(176, .own 68 rEnum), (224, .own 9 .str), (272, .own 9 .str), (304, .box 55 (.pair (.own 176) (.pair (.own 336) (.pair (.own 224) (.pair (.own 272) .nil))))), (336, .own 9 .str)], [], 341⟩ (.two .nil (.two (.loop ⟨[(37, .val false (.leaf rInt))], [(176, .own 68 rEnum), (224, .own 9 .str), (272, .own 9 .str), (304, .box 55 (.pair (.own 176) (.pair (.own 400) (.pair (.own 224) (.pair (.own 272) .nil))))), (400, .own 9 .str)], [], 405⟩ .nil) .nil)) (.meet ⟨[], [(176, .own 68 rEnum), (224, .own 9 .str), (272, .own 9 .str), (304, .box 55 (.pair (.own 176) (.pair (.own 336) (.pair (.own 224) (.pair (.own 272) (.own 341)))))), (336, .own 9 .str), (341, .own 9 .str)], [], 347⟩ (.meet ⟨[(59, .val false (.leaf .bool))], [], [], 341⟩ .nil .nil) .nil))))))) (sg := S20 N) (c := Tryz.f20.body.getD .skip) (rs := Tryz.f20.results.toList) Tryz.func20 (by kernel_rfl) (by kernel_rfl) rfl rfl rfl rfl (fun x => by kernel_rfl)
noncomputable def M.ref17_fieldNames (N : Nat) (a0 : List rField.den) : Option (List ByteArray) :=
Loop (S := Int × List ByteArray) (X := List ByteArray) (fun s1 =>
(if (decide (s1.1 < (a0.length : Int))) = true then
(idx a0 s1.1).bind fun x2 =>
(appA s1.2 ([x2.1] : List ByteArray)).bind fun l3 =>
some (Sum.inl (IntKind.i64.wrap (s1.1 + (1 : Int)), l3))
else
some (Sum.inr s1.2))) N ((0 : Int), ([] : List ByteArray))
noncomputable def S49 (N : Nat) : Sig := { inn := ⟨[(0, .val false (.leaf (.slice rField)))], [], [], 0⟩, out := ⟨[(0, .val false (.own 0))], [(0, .own 9 .str)], [], 1⟩, fn := fun (x : List rField.den) => M.ref17_fieldNames N x }
theorem W49 (N : Nat) : FnOK Tryz.prog 49 (S49 N) := fn_ok (E := ⟨tabs, [], tabnil, mixed, false, false⟩) (N := N) (a := (.two .nil (.two .nil (.two (.two .nil (.two (.loop ⟨[(3, .val false (.own 48)), (4, .val false (.leaf rInt))], [(48, .own 9 .str)], [], 49⟩ .nil) .nil)) .nil)))) (sg := S49 N) (c := Tryz.f49.body.getD .skip) (rs := Tryz.f49.results.toList) Tryz.func49 (by kernel_rfl) (by kernel_rfl) rfl rfl rfl rfl (fun x => by kernel_rfl)
noncomputable def M.ref17_SymbolNames (N : Nat) (a0 : rLaw.den) (a1 : Int) : Option ((List rEnum.den) × (List ByteArray) × (List ByteArray) × (List ByteArray) × List ByteArray) :=
((if (decide (a1 < (0 : Int))) = true then
some true
else
some (decide ((a0.2.2.length : Int) ≤ a1))) : Option (Bool)).bind fun j1 =>
(if j1 = true then
some (([] : List rEnum.den), ([] : List ByteArray), ([] : List ByteArray), ([] : List ByteArray), ([] : List ByteArray))
else
(idx a0.2.2 a1).bind fun x2 =>
(M.ref17_fieldNames N x2.2.2.1).bind fun y3 =>
(M.ref17_fieldNames N x2.2.2.2.1).bind fun y4 =>
(Loop (S := Int × (List ByteArray) × (List ByteArray) × (List rEnum.den) × List ByteArray) (X := (List ByteArray) × (List ByteArray) × (List rEnum.den) × List ByteArray) (fun s6 =>
(if (decide (s6.1 < (a0.2.1.length : Int))) = true then
(idx a0.2.1 s6.1).bind fun x7 =>
(appA s6.2.2.2.2 ([x7.1] : List ByteArray)).bind fun l8 =>
some (Sum.inl (IntKind.i64.wrap (s6.1 + (1 : Int)), s6.2.1, s6.2.2.1, s6.2.2.2.1, l8))
else
some (Sum.inr (s6.2.1, s6.2.2.1, s6.2.2.2.1, s6.2.2.2.2)))) N ((0 : Int), y3, y4, a0.1, ([] : List ByteArray)) : Option ((List ByteArray) × (List ByteArray) × (List rEnum.den) × List ByteArray)).bind fun j5 =>
(((if (decide ((0 : Int) ≤ x2.2.1)) = true then
some (decide (x2.2.1 < (a0.2.2.length : Int)))
else
some false) : Option (Bool)).bind fun j10 =>
(if j10 = true then
(idx a0.2.2 x2.2.1).bind fun x11 =>
(M.ref17_fieldNames N x11.2.2.2.1).bind fun y12 =>
some (j5.1, j5.2.1, j5.2.2.1, j5.2.2.2, y12)
else
some (j5.1, j5.2.1, j5.2.2.1, j5.2.2.2, ([] : List ByteArray))) : Option ((List ByteArray) × (List ByteArray) × (List rEnum.den) × (List ByteArray) × List ByteArray)).bind fun j9 =>
some (j9.2.2.1, j9.2.2.2.1, j9.1, j9.2.1, j9.2.2.2.2))
noncomputable def S21 (N : Nat) : Sig := { inn := ⟨[(0, .val true (.leaf rLaw)), (1, .val false (.leaf rInt))], [], [], 0⟩, out := ⟨[(0, .val true (.pair (.leaf (.slice rEnum)) (.pair (.own 0) (.pair (.own 1) (.pair (.own 2) (.own 3))))))], [(0, .own 9 .str), (1, .own 9 .str), (2, .own 9 .str), (3, .own 9 .str)], [], 4⟩, fn := fun (x : rLaw.den × Int) => M.ref17_SymbolNames N x.1 x.2 }
theorem W21 (N : Nat) : FnOK Tryz.prog 21 (S21 N) := fn_ok (E := ⟨tabs, [(49, S49 N)], (tabcons (W49 N) tabnil), mixed, false, false⟩) (N := N) (a := (.two .nil (.two (.meet ⟨[(16, .val false (.leaf .bool))], [], [], 32⟩ .nil .nil) (.two .nil (.two .nil (.meet ⟨[], [(208, .own 9 .str), (256, .own 9 .str), (288, .box 55 (.pair (.leaf (.slice rEnum)) (.pair (.own 320) (.pair (.own 208) (.pair (.own 256) .nil))))), (320, .own 9 .str)], [], 324⟩ (.two .nil (.two (.loop ⟨[(7, .val false (.leaf rInt))], [(208, .own 9 .str), (256, .own 9 .str), (288, .box 55 (.pair (.leaf (.slice rEnum)) (.pair (.own 336) (.pair (.own 208) (.pair (.own 256) .nil))))), (336, .own 9 .str)], [], 340⟩ .nil) .nil)) (.meet ⟨[], [(208, .own 9 .str), (256, .own 9 .str), (288, .box 55 (.pair (.leaf (.slice rEnum)) (.pair (.own 320) (.pair (.own 208) (.pair (.own 256) (.own 324)))))), (320, .own 9 .str), (324, .own 9 .str)], [], 329⟩ (.meet ⟨[(60, .val false (.leaf .bool))], [], [], 324⟩ .nil .nil) .nil))))))) (sg := S21 N) (c := Tryz.f21.body.getD .skip) (rs := Tryz.f21.results.toList) Tryz.func21 (by kernel_rfl) (by kernel_rfl) rfl rfl rfl rfl (fun x => by kernel_rfl)
noncomputable def M.law17_LawSignature (N : Nat) (a0 : rLaw.den) (a1 : Int) : Option (Bool) :=
(M.same_SmallLaw N a0).bind fun y1 =>
(if (!y1) = true then
(M.law17_awake N).bind fun y2 =>
some y2
else
((M.law_Signature N a0 a1).bind fun y4 =>
(M.ref17_Signature N a0 a1).bind fun y5 =>
(M.same_Signature N (y4.2.1, (y4.2.2.1, (y4.2.2.2.1, (y4.2.2.2.2.1, (y4.2.2.2.2.2, y4.1))))) (y5.1, (y5.2.1, (y5.2.2.2.1, (y5.2.2.2.2.1, (y5.2.2.2.2.2, y5.2.2.1)))))).bind fun y6 =>
(if y6 = true then
(M.law_SymbolNames N a0 a1).bind fun y7 =>
(M.ref17_SymbolNames N a0 a1).bind fun y8 =>
(M.same_SymbolNames N (y7.1, (y7.2.1, (y7.2.2.1, (y7.2.2.2.1, y7.2.2.2.2)))) (y8.1, (y8.2.1, (y8.2.2.1, (y8.2.2.2.1, y8.2.2.2.2))))).bind fun y9 =>
(if y9 = true then
(M.law17_awake N).bind fun y10 =>
some y10
else
some false)
else
some false) : Option (Bool)).bind fun j3 =>
some j3)
noncomputable def S6 (N : Nat) : Sig := { inn := ⟨[(0, .val true (.leaf rLaw)), (1, .val false (.leaf rInt))], [], [], 0⟩, out := ⟨[(0, .val false (.leaf .bool))], [], [], 0⟩, fn := fun (x : rLaw.den × Int) => M.law17_LawSignature N x.1 x.2 }
theorem W6 (N : Nat) : FnOK Tryz.prog 6 (S6 N) := fn_ok (E := ⟨tabs, [(9, S9 N), (10, S10 N), (16, S16 N), (17, S17 N), (18, S18 N), (19, S19 N), (20, S20 N), (21, S21 N)], (tabcons (W9 N) (tabcons (W10 N) (tabcons (W16 N) (tabcons (W17 N) (tabcons (W18 N) (tabcons (W19 N) (tabcons (W20 N) (tabcons (W21 N) tabnil)))))))), mixed, false, false⟩) (N := N) (a := (.two .nil (.two .nil (.meet ⟨[(4, .val false (.leaf .bool))], [], [], 80⟩ .nil .nil)))) (sg := S6 N) (c := Tryz.f6.body.getD .skip) (rs := Tryz.f6.results.toList) Tryz.func6 (by kernel_rfl) (by kernel_rfl) rfl rfl rfl rfl (fun x => by kernel_rfl)
noncomputable def M.daterange_Contains (N : Nat) (a0 : rType.den) (a1 : Int) : Option (Bool) :=
((M.daterange_Valid N a0).bind fun y2 =>
(if y2 = true then
(if (decide (a0.1 ≤ a1)) = true then
some (decide (a1 < a0.2))
else
some false)
else
some false) : Option (Bool)).bind fun j1 =>
some j1
noncomputable def S76 (N : Nat) : Sig := { inn := ⟨[(0, .val true (.leaf rType)), (1, .val false (.leaf rInt))], [], [], 0⟩, out := ⟨[(0, .val false (.leaf .bool))], [], [], 0⟩, fn := fun (x : rType.den × Int) => M.daterange_Contains N x.1 x.2 }
theorem W76 (N : Nat) : FnOK Tryz.prog 76 (S76 N) := fn_ok (E := ⟨tabs, [(89, S89 N)], (tabcons (W89 N) tabnil), mixed, false, false⟩) (N := N) (a := (.two .nil (.meet ⟨[(4, .val false (.leaf .bool))], [], [], 32⟩ .nil .nil))) (sg := S76 N) (c := Tryz.f76.body.getD .skip) (rs := Tryz.f76.results.toList) Tryz.func76 (by kernel_rfl) (by kernel_rfl) rfl rfl rfl rfl (fun x => by kernel_rfl)
noncomputable def M.effective_allDates (N : Nat) : Option (rType.den) :=
some ((0 : Int), (109573 : Int))
noncomputable def S77 (N : Nat) : Sig := { inn := ⟨[], [], [], 0⟩, out := ⟨[(0, .val true (.leaf rType))], [], [], 0⟩, fn := fun (x : Unit) => M.effective_allDates N }
theorem W77 (N : Nat) : FnOK Tryz.prog 77 (S77 N) := fn_ok (E := ⟨tabs, [], tabnil, mixed, false, false⟩) (N := N) (a := .nil) (sg := S77 N) (c := Tryz.f77.body.getD .skip) (rs := Tryz.f77.results.toList) Tryz.func77 (by kernel_rfl) (by kernel_rfl) rfl rfl rfl rfl (fun x => by kernel_rfl)
noncomputable def M.effective_tableOn (N : Nat) (a0 : rTable.den) (a1 : Int) : Option (ByteArray × rType.den × rType.den × List rRow.den) :=
(Loop (S := Int × List rRow.den) (X := List rRow.den) (fun s2 =>
(if (decide (s2.1 < (a0.2.2.2.length : Int))) = true then
((idx a0.2.2.2 s2.1).bind fun x4 =>
(M.daterange_Contains N x4.1 a1).bind fun y5 =>
(if y5 = true then
(M.effective_allDates N).bind fun y6 =>
(appA s2.2 ([(y6, x4.2)] : List rRow.den)).bind fun l7 =>
some l7
else
some s2.2) : Option (List rRow.den)).bind fun j3 =>
some (Sum.inl (IntKind.i64.wrap (s2.1 + (1 : Int)), j3))
else
some (Sum.inr s2.2))) N ((0 : Int), ([] : List rRow.den)) : Option (List rRow.den)).bind fun j1 =>
some (a0.1, a0.2.1, a0.2.2.1, j1)
noncomputable def S51 (N : Nat) : Sig := { inn := ⟨[(0, .val true (.leaf rTable)), (1, .val false (.leaf rInt))], [], [], 0⟩, out := ⟨[(0, .val true (.pair (.leaf .str) (.pair (.leaf rType) (.pair (.leaf rType) (.own 0)))))], [(0, .own 112 rRow)], [], 1⟩, fn := fun (x : rTable.den × Int) => M.effective_tableOn N x.1 x.2 }
theorem W51 (N : Nat) : FnOK Tryz.prog 51 (S51 N) := fn_ok (E := ⟨tabs, [(76, S76 N), (77, S77 N)], (tabcons (W76 N) (tabcons (W77 N) tabnil)), mixed, false, false⟩) (N := N) (a := (.two .nil (.two .nil (.meet ⟨[(5, .val false (.own 48))], [(48, .own 112 rRow)], [], 49⟩ (.two .nil (.two (.loop ⟨[(5, .val false (.own 112)), (11, .val false (.leaf rInt))], [(112, .own 112 rRow)], [], 113⟩ (.two .nil (.two .nil (.two (.meet ⟨[(5, .val false (.own 129))], [(129, .own 112 rRow)], [112], 130⟩ .nil .nil) .nil)))) .nil)) .nil)))) (sg := S51 N) (c := Tryz.f51.body.getD .skip) (rs := Tryz.f51.results.toList) Tryz.func51 (by kernel_rfl) (by kernel_rfl) rfl rfl rfl rfl (fun x => by kernel_rfl)
noncomputable def M.effective_scopeOn_c1_v1 (N : Nat) (a0 : rRule.den) (a1 : Int) : Option (Bool × Int) :=
(M.daterange_Contains N a0.2.2.2.2.1 a1).bind fun y1 =>
some (y1, a1)
noncomputable def S79v1 (N : Nat) : Sig := { inn := ⟨[(0, .val true (.leaf rRule)), (1, .ptr 0 [] 0)], [(0, .box 3 (.leaf rInt))], [], 1⟩, out := ⟨[(0, .val false (.leaf .bool))], [(0, .box 3 (.leaf rInt))], [], 2⟩, fn := fun (x : rRule.den × Int) => M.effective_scopeOn_c1_v1 N x.1 x.2 }
theorem W79v1 (N : Nat) : FnOK Tryz.prog 79 (S79v1 N) := fn_ok (E := ⟨tabs, [(76, S76 N)], (tabcons (W76 N) tabnil), mixed, false, false⟩) (N := N) (a := .nil) (sg := S79v1 N) (c := Tryz.f79.body.getD .skip) (rs := Tryz.f79.results.toList) Tryz.func79 (by kernel_rfl) (by kernel_rfl) rfl rfl rfl rfl (fun x => by kernel_rfl)
noncomputable def M.effective_remaining_v1 (N : Nat) (a0 : List rRule.den) (a1 : Int) : Option (Int × (List Int) × List Int) :=
(mkL (a0.length : Int) (0 : Int)).bind fun l1 =>
Loop (S := Int × Int × (List Int) × (List Int) × List Int) (X := Int × (List Int) × List Int) (fun s2 =>
(if (decide (s2.1 < (a0.length : Int))) = true then
((idx a0 s2.1).bind fun x4 =>
(((if (decide ((0 : Int) ≤ x4.2.2.1)) = true then
some (decide (x4.2.2.1 < s2.1))
else
some false) : Option (Bool)).bind fun j6 =>
(if j6 = true then
(idx s2.2.2.1 x4.2.2.1).bind fun x7 =>
some x7
else
some (-1 : Int)) : Option (Int)).bind fun j5 =>
(idx s2.2.2.1 s2.1).bind fun x8 =>
(M.effective_scopeOn_c1_v1 N x4 s2.2.1).bind fun y9 =>
(if y9.1 = true then
(idx (setL s2.2.2.1 s2.1 j5) s2.1).bind fun x10 =>
(appA s2.2.2.2.1 ([s2.1] : List Int)).bind fun l11 =>
(appA s2.2.2.2.2 ([j5] : List Int)).bind fun l12 =>
some (y9.2, setL (setL s2.2.2.1 s2.1 j5) s2.1 (s2.2.2.2.1.length : Int), l11, l12)
else
some (y9.2, setL s2.2.2.1 s2.1 j5, s2.2.2.2.1, s2.2.2.2.2)) : Option (Int × (List Int) × (List Int) × List Int)).bind fun j3 =>
some (Sum.inl (IntKind.i64.wrap (s2.1 + (1 : Int)), j3.1, j3.2.1, j3.2.2.1, j3.2.2.2))
else
some (Sum.inr (s2.2.1, s2.2.2.2.1, s2.2.2.2.2)))) N ((0 : Int), a1, l1, ([] : List Int), ([] : List Int))
noncomputable def S78v1 (N : Nat) : Sig := { inn := ⟨[(0, .val false (.leaf (.slice rRule))), (1, .fn 79 [(0, [], 0)])], [(0, .box 3 (.leaf rInt))], [], 1⟩, out := ⟨[(0, .val false (.own 1)), (1, .val false (.own 2))], [(0, .box 3 (.leaf rInt)), (1, .own 3 rInt), (2, .own 3 rInt)], [], 4⟩, fn := fun (x : (List rRule.den) × Int) => M.effective_remaining_v1 N x.1 x.2 }
theorem W78v1 (N : Nat) : FnOK Tryz.prog 78 (S78v1 N) := fn_ok (E := ⟨tabs, [(79, S79v1 N)], (tabcons (W79v1 N) tabnil), mixed, false, false⟩) (N := N) (a := (.two .nil (.two .nil (.two .nil (.two (.two .nil (.two (.loop ⟨[(6, .val false (.own 177)), (7, .val false (.own 178)), (17, .val false (.leaf rInt))], [(0, .box 3 (.leaf rInt)), (97, .own 3 rInt), (177, .own 3 rInt), (178, .own 3 rInt)], [], 181⟩ (.two .nil (.two .nil (.two (.meet ⟨[(6, .val false (.own 197)), (7, .val false (.own 198))], [(0, .box 3 (.leaf rInt)), (97, .own 3 rInt), (197, .own 3 rInt), (198, .own 3 rInt)], [177, 178], 201⟩ (.two .nil (.two .nil (.meet ⟨[(11, .val false (.leaf rInt))], [], [], 309⟩ (.meet ⟨[(30, .val false (.leaf .bool))], [], [], 309⟩ .nil .nil) .nil))) .nil) .nil)))) .nil)) .nil))))) (sg := S78v1 N) (c := Tryz.f78.body.getD .skip) (rs := Tryz.f78.results.toList) Tryz.func78 (by kernel_rfl) (by kernel_rfl) rfl rfl rfl rfl (fun x => by kernel_rfl)
noncomputable def M.effective_scopeOn (N : Nat) (a0 : rScope.den) (a1 : Int) : Option (ByteArray × Int × (List rField.den) × (List rField.den) × List rRule.den) :=
(M.effective_remaining_v1 N a0.2.2.2.2 a1).bind fun y1 =>
(Loop (S := Int × List rRule.den) (X := List rRule.den) (fun s3 =>
(if (decide (s3.1 < (y1.2.1.length : Int))) = true then
(idx y1.2.1 s3.1).bind fun x4 =>
(idx a0.2.2.2.2 x4).bind fun x5 =>
(idx y1.2.2 s3.1).bind fun x6 =>
(M.effective_allDates N).bind fun y7 =>
(M.slices_Clone_guerdon_api_Node_guerdon_api_Node N x5.2.2.2.2.2.1).bind fun y8 =>
(M.slices_Clone_guerdon_api_Node_guerdon_api_Node N x5.2.2.2.2.2.2.1).bind fun y9 =>
(appA s3.2 ([(x5.1, (x5.2.1, (x6, (x5.2.2.2.1, (y7, (y8, (y9, x5.2.2.2.2.2.2.2)))))))] : List rRule.den)).bind fun l10 =>
some (Sum.inl (IntKind.i64.wrap (s3.1 + (1 : Int)), l10))
else
some (Sum.inr s3.2))) N ((0 : Int), ([] : List rRule.den)) : Option (List rRule.den)).bind fun j2 =>
(M.slices_Clone_guerdon_api_Field_guerdon_api_Field N a0.2.2.1).bind fun y11 =>
(M.slices_Clone_guerdon_api_Field_guerdon_api_Field N a0.2.2.2.1).bind fun y12 =>
some (a0.1, a0.2.1, y11, y12, j2)
noncomputable def S52 (N : Nat) : Sig := { inn := ⟨[(0, .val true (.leaf rScope)), (1, .val false (.leaf rInt))], [], [], 0⟩, out := ⟨[(0, .val true (.pair (.leaf .str) (.pair (.leaf rInt) (.pair (.own 0) (.pair (.own 1) (.own 2))))))], [(0, .own 45 rField), (1, .own 45 rField), (2, .own 63 rRule)], [], 3⟩, fn := fun (x : rScope.den × Int) => M.effective_scopeOn N x.1 x.2 }
theorem W52 (N : Nat) : FnOK Tryz.prog 52 (S52 N) := fn_ok (E := ⟨tabs, [(40, S40 N), (41, S41 N), (77, S77 N), (78, S78v1 N)], (tabcons (W40 N) (tabcons (W41 N) (tabcons (W77 N) (tabcons (W78v1 N) tabnil)))), mixed, false, false⟩) (N := N) (a := (.two .nil (.two .nil (.two .nil (.meet ⟨[(7, .val false (.own 208))], [(208, .own 63 rRule)], [], 209⟩ (.two .nil (.two (.loop ⟨[(7, .val false (.own 256)), (20, .val false (.leaf rInt))], [(256, .own 63 rRule)], [], 257⟩ .nil) .nil)) .nil))))) (sg := S52 N) (c := Tryz.f52.body.getD .skip) (rs := Tryz.f52.results.toList) Tryz.func52 (by kernel_rfl) (by kernel_rfl) rfl rfl rfl rfl (fun x => by kernel_rfl)
noncomputable def M.effective_LawOn (N : Nat) (a0 : rLaw.den) (a1 : Int) : Option ((List rEnum.den) × (List rTable.den) × List rScope.den) :=
(Loop (S := Int × List rEnum.den) (X := List rEnum.den) (fun s2 =>
(if (decide (s2.1 < (a0.1.length : Int))) = true then
(idx a0.1 s2.1).bind fun x3 =>
(M.slices_Clone_string_string N x3.2).bind fun y4 =>
(appA s2.2 ([(x3.1, y4)] : List rEnum.den)).bind fun l5 =>
some (Sum.inl (IntKind.i64.wrap (s2.1 + (1 : Int)), l5))
else
some (Sum.inr s2.2))) N ((0 : Int), ([] : List rEnum.den)) : Option (List rEnum.den)).bind fun j1 =>
(Loop (S := Int × (List rEnum.den) × List rTable.den) (X := (List rEnum.den) × List rTable.den) (fun s7 =>
(if (decide (s7.1 < (a0.2.1.length : Int))) = true then
(idx a0.2.1 s7.1).bind fun x8 =>
(M.effective_tableOn N x8 a1).bind fun y9 =>
(appA s7.2.2 ([(y9.1, (y9.2.1, (y9.2.2.1, y9.2.2.2)))] : List rTable.den)).bind fun l10 =>
some (Sum.inl (IntKind.i64.wrap (s7.1 + (1 : Int)), s7.2.1, l10))
else
some (Sum.inr (s7.2.1, s7.2.2)))) N ((0 : Int), j1, ([] : List rTable.den)) : Option ((List rEnum.den) × List rTable.den)).bind fun j6 =>
(Loop (S := Int × (List rEnum.den) × (List rTable.den) × List rScope.den) (X := (List rEnum.den) × (List rTable.den) × List rScope.den) (fun s12 =>
(if (decide (s12.1 < (a0.2.2.length : Int))) = true then
(idx a0.2.2 s12.1).bind fun x13 =>
(M.effective_scopeOn N x13 a1).bind fun y14 =>
(appA s12.2.2.2 ([(y14.1, (y14.2.1, (y14.2.2.1, (y14.2.2.2.1, y14.2.2.2.2))))] : List rScope.den)).bind fun l15 =>
some (Sum.inl (IntKind.i64.wrap (s12.1 + (1 : Int)), s12.2.1, s12.2.2.1, l15))
else
some (Sum.inr (s12.2.1, s12.2.2.1, s12.2.2.2)))) N ((0 : Int), j6.1, j6.2, ([] : List rScope.den)) : Option ((List rEnum.den) × (List rTable.den) × List rScope.den)).bind fun j11 =>
some (j11.1, j11.2.1, j11.2.2)
noncomputable def S22 (N : Nat) : Sig := { inn := ⟨[(0, .val true (.leaf rLaw)), (1, .val false (.leaf rInt))], [], [], 0⟩, out := ⟨[(0, .val true (.pair (.own 0) (.pair (.own 1) (.own 2))))], [(0, .own 68 rEnum), (1, .own 71 rTable), (2, .own 41 rScope)], [], 3⟩, fn := fun (x : rLaw.den × Int) => M.effective_LawOn N x.1 x.2 }
theorem W22 (N : Nat) : FnOK Tryz.prog 22 (S22 N) := fn_ok (E := ⟨tabs, [(50, S50 N), (51, S51 N), (52, S52 N)], (tabcons (W50 N) (tabcons (W51 N) (tabcons (W52 N) tabnil))), mixed, false, false⟩) (N := N) (a := (.two .nil (.two .nil (.meet ⟨[], [(32, .box 26 (.pair (.own 48) (.pair .nil .nil))), (48, .own 68 rEnum)], [], 50⟩ (.two .nil (.two (.loop ⟨[(15, .val false (.leaf rInt))], [(32, .box 26 (.pair (.own 112) (.pair .nil .nil))), (112, .own 68 rEnum)], [], 114⟩ .nil) .nil)) (.meet ⟨[], [(32, .box 26 (.pair (.own 48) (.pair (.own 50) .nil))), (48, .own 68 rEnum), (50, .own 71 rTable)], [], 53⟩ (.two .nil (.two (.loop ⟨[(33, .val false (.leaf rInt))], [(32, .box 26 (.pair (.own 48) (.pair (.own 114) .nil))), (48, .own 68 rEnum), (114, .own 71 rTable)], [], 117⟩ .nil) .nil)) (.meet ⟨[], [(32, .box 26 (.pair (.own 48) (.pair (.own 50) (.own 53)))), (48, .own 68 rEnum), (50, .own 71 rTable), (53, .own 41 rScope)], [], 57⟩ (.two .nil (.two (.loop ⟨[(49, .val false (.leaf rInt))], [(32, .box 26 (.pair (.own 48) (.pair (.own 50) (.own 117)))), (48, .own 68 rEnum), (50, .own 71 rTable), (117, .own 41 rScope)], [], 121⟩ .nil) .nil)) .nil)))))) (sg := S22 N) (c := Tryz.f22.body.getD .skip) (rs := Tryz.f22.results.toList) Tryz.func22 (by kernel_rfl) (by kernel_rfl) rfl rfl rfl rfl (fun x => by kernel_rfl)
noncomputable def M.law17_LawOnDateValid (N : Nat) (a0 : rLaw.den) (a1 : Int) : Option (Bool) :=
((M.same_SmallLaw N a0).bind fun y2 =>
(if (!y2) = true then
some true
else
(M.law_Validate N a0).bind fun y3 =>
(if (!(eqR rLawError y3 ((0 : Int), ((0 : Int), ((0 : Int), (0 : Int)))))) = true then
some true
else
(if (decide (a1 < (0 : Int))) = true then
some true
else
some (decide ((109572 : Int) < a1))))) : Option (Bool)).bind fun j1 =>
(if j1 = true then
(M.law17_awake N).bind fun y4 =>
some y4
else
((M.effective_LawOn N a0 a1).bind fun y6 =>
(M.law_Validate N (y6.1, (y6.2.1, y6.2.2))).bind fun y7 =>
(if (eqR rLawError y7 ((0 : Int), ((0 : Int), ((0 : Int), (0 : Int))))) = true then
(M.law17_awake N).bind fun y8 =>
some y8
else
some false) : Option (Bool)).bind fun j5 =>
some j5)
noncomputable def S7 (N : Nat) : Sig := { inn := ⟨[(0, .val true (.leaf rLaw)), (1, .val false (.leaf rInt))], [], [], 0⟩, out := ⟨[(0, .val false (.leaf .bool))], [], [], 0⟩, fn := fun (x : rLaw.den × Int) => M.law17_LawOnDateValid N x.1 x.2 }
theorem W7 (N : Nat) : FnOK Tryz.prog 7 (S7 N) := fn_ok (E := ⟨tabs, [(9, S9 N), (10, S10 N), (11, S11 N), (22, S22 N)], (tabcons (W9 N) (tabcons (W10 N) (tabcons (W11 N) (tabcons (W22 N) tabnil)))), mixed, false, false⟩) (N := N) (a := (.two .nil (.two (.meet ⟨[(21, .val false (.leaf .bool))], [], [], 32⟩ .nil .nil) (.meet ⟨[(4, .val false (.leaf .bool))], [], [], 32⟩ .nil .nil)))) (sg := S7 N) (c := Tryz.f7.body.getD .skip) (rs := Tryz.f7.results.toList) Tryz.func7 (by kernel_rfl) (by kernel_rfl) rfl rfl rfl rfl (fun x => by kernel_rfl)
noncomputable def M.slices_Equal_string_string (N : Nat) (a0 : List ByteArray) (a1 : List ByteArray) : Option (Bool) :=
(if (!decide ((a0.length : Int) = (a1.length : Int))) = true then
some false
else
Loop (S := Int) (X := Bool) (fun s1 =>
(if (decide (s1 < (a0.length : Int))) = true then
(idx a0 s1).bind fun x2 =>
(idx a1 s1).bind fun x3 =>
(if (!decide (x2 = x3)) = true then
some (Sum.inr false)
else
some (Sum.inl (IntKind.i64.wrap (s1 + (1 : Int)))))
else
some (Sum.inr true))) N (0 : Int))
noncomputable def S80 (N : Nat) : Sig := { inn := ⟨[(0, .val false (.leaf (.slice .str))), (1, .val false (.leaf (.slice .str)))], [], [], 0⟩, out := ⟨[(0, .val false (.leaf .bool))], [], [], 0⟩, fn := fun (x : (List ByteArray) × List ByteArray) => M.slices_Equal_string_string N x.1 x.2 }
theorem W80 (N : Nat) : FnOK Tryz.prog 80 (S80 N) := fn_ok (E := ⟨tabs, [], tabnil, mixed, false, false⟩) (N := N) (a := (.two .nil (.two .nil (.two (.two .nil (.two (.loop ⟨[(13, .val false (.leaf rInt))], [], [], 144⟩ .nil) .nil)) .nil)))) (sg := S80 N) (c := Tryz.f80.body.getD .skip) (rs := Tryz.f80.results.toList) Tryz.func80 (by kernel_rfl) (by kernel_rfl) rfl rfl rfl rfl (fun x => by kernel_rfl)
noncomputable def M.law_equalEnums (N : Nat) (a0 : rEnum.den) (a1 : rEnum.den) : Option (Bool) :=
((if (decide (a0.1 = a1.1)) = true then
(M.slices_Equal_string_string N a0.2 a1.2).bind fun y2 =>
some y2
else
some false) : Option (Bool)).bind fun j1 =>
some j1
noncomputable def S54 (N : Nat) : Sig := { inn := ⟨[(0, .val true (.leaf rEnum)), (1, .val true (.leaf rEnum))], [], [], 0⟩, out := ⟨[(0, .val false (.leaf .bool))], [], [], 0⟩, fn := fun (x : rEnum.den × rEnum.den) => M.law_equalEnums N x.1 x.2 }
theorem W54 (N : Nat) : FnOK Tryz.prog 54 (S54 N) := fn_ok (E := ⟨tabs, [(80, S80 N)], (tabcons (W80 N) tabnil), mixed, false, false⟩) (N := N) (a := (.two .nil (.meet ⟨[(4, .val false (.leaf .bool))], [], [], 48⟩ .nil .nil))) (sg := S54 N) (c := Tryz.f54.body.getD .skip) (rs := Tryz.f54.results.toList) Tryz.func54 (by kernel_rfl) (by kernel_rfl) rfl rfl rfl rfl (fun x => by kernel_rfl)
noncomputable def M.slices_Equal_guerdon_api_Row_guerdon_api_Row (N : Nat) (a0 : List rRow.den) (a1 : List rRow.den) : Option (Bool) :=
(if (!decide ((a0.length : Int) = (a1.length : Int))) = true then
some false
else
Loop (S := Int) (X := Bool) (fun s1 =>
(if (decide (s1 < (a0.length : Int))) = true then
(idx a0 s1).bind fun x2 =>
(idx a1 s1).bind fun x3 =>
(if (!(eqR rRow x2 x3)) = true then
some (Sum.inr false)
else
some (Sum.inl (IntKind.i64.wrap (s1 + (1 : Int)))))
else
some (Sum.inr true))) N (0 : Int))
noncomputable def S81 (N : Nat) : Sig := { inn := ⟨[(0, .val false (.leaf (.slice rRow))), (1, .val false (.leaf (.slice rRow)))], [], [], 0⟩, out := ⟨[(0, .val false (.leaf .bool))], [], [], 0⟩, fn := fun (x : (List rRow.den) × List rRow.den) => M.slices_Equal_guerdon_api_Row_guerdon_api_Row N x.1 x.2 }
theorem W81 (N : Nat) : FnOK Tryz.prog 81 (S81 N) := fn_ok (E := ⟨tabs, [], tabnil, mixed, false, false⟩) (N := N) (a := (.two .nil (.two .nil (.two (.two .nil (.two (.loop ⟨[(13, .val false (.leaf rInt))], [], [], 144⟩ .nil) .nil)) .nil)))) (sg := S81 N) (c := Tryz.f81.body.getD .skip) (rs := Tryz.f81.results.toList) Tryz.func81 (by kernel_rfl) (by kernel_rfl) rfl rfl rfl rfl (fun x => by kernel_rfl)
noncomputable def M.law_equalTables (N : Nat) (a0 : rTable.den) (a1 : rTable.den) : Option (Bool) :=
((if (decide (a0.1 = a1.1)) = true then
(if (eqR rType a0.2.1 a1.2.1) = true then
(if (eqR rType a0.2.2.1 a1.2.2.1) = true then
(M.slices_Equal_guerdon_api_Row_guerdon_api_Row N a0.2.2.2 a1.2.2.2).bind fun y2 =>
some y2
else
some false)
else
some false)
else
some false) : Option (Bool)).bind fun j1 =>
some j1
noncomputable def S56 (N : Nat) : Sig := { inn := ⟨[(0, .val true (.leaf rTable)), (1, .val true (.leaf rTable))], [], [], 0⟩, out := ⟨[(0, .val false (.leaf .bool))], [], [], 0⟩, fn := fun (x : rTable.den × rTable.den) => M.law_equalTables N x.1 x.2 }
theorem W56 (N : Nat) : FnOK Tryz.prog 56 (S56 N) := fn_ok (E := ⟨tabs, [(81, S81 N)], (tabcons (W81 N) tabnil), mixed, false, false⟩) (N := N) (a := (.two .nil (.meet ⟨[(4, .val false (.leaf .bool))], [], [], 48⟩ .nil .nil))) (sg := S56 N) (c := Tryz.f56.body.getD .skip) (rs := Tryz.f56.results.toList) Tryz.func56 (by kernel_rfl) (by kernel_rfl) rfl rfl rfl rfl (fun x => by kernel_rfl)
noncomputable def M.slices_Equal_guerdon_api_Field_guerdon_api_Field (N : Nat) (a0 : List rField.den) (a1 : List rField.den) : Option (Bool) :=
(if (!decide ((a0.length : Int) = (a1.length : Int))) = true then
some false
else
Loop (S := Int) (X := Bool) (fun s1 =>
(if (decide (s1 < (a0.length : Int))) = true then
(idx a0 s1).bind fun x2 =>
(idx a1 s1).bind fun x3 =>
(if (!(eqR rField x2 x3)) = true then
some (Sum.inr false)
else
some (Sum.inl (IntKind.i64.wrap (s1 + (1 : Int)))))
else
some (Sum.inr true))) N (0 : Int))
noncomputable def S82 (N : Nat) : Sig := { inn := ⟨[(0, .val false (.leaf (.slice rField))), (1, .val false (.leaf (.slice rField)))], [], [], 0⟩, out := ⟨[(0, .val false (.leaf .bool))], [], [], 0⟩, fn := fun (x : (List rField.den) × List rField.den) => M.slices_Equal_guerdon_api_Field_guerdon_api_Field N x.1 x.2 }
theorem W82 (N : Nat) : FnOK Tryz.prog 82 (S82 N) := fn_ok (E := ⟨tabs, [], tabnil, mixed, false, false⟩) (N := N) (a := (.two .nil (.two .nil (.two (.two .nil (.two (.loop ⟨[(13, .val false (.leaf rInt))], [], [], 144⟩ .nil) .nil)) .nil)))) (sg := S82 N) (c := Tryz.f82.body.getD .skip) (rs := Tryz.f82.results.toList) Tryz.func82 (by kernel_rfl) (by kernel_rfl) rfl rfl rfl rfl (fun x => by kernel_rfl)
noncomputable def M.slices_Equal_guerdon_api_Node_guerdon_api_Node (N : Nat) (a0 : List rType.den) (a1 : List rType.den) : Option (Bool) :=
(if (!decide ((a0.length : Int) = (a1.length : Int))) = true then
some false
else
Loop (S := Int) (X := Bool) (fun s1 =>
(if (decide (s1 < (a0.length : Int))) = true then
(idx a0 s1).bind fun x2 =>
(idx a1 s1).bind fun x3 =>
(if (!(eqR rType x2 x3)) = true then
some (Sum.inr false)
else
some (Sum.inl (IntKind.i64.wrap (s1 + (1 : Int)))))
else
some (Sum.inr true))) N (0 : Int))
noncomputable def S119 (N : Nat) : Sig := { inn := ⟨[(0, .val false (.leaf (.slice rType))), (1, .val false (.leaf (.slice rType)))], [], [], 0⟩, out := ⟨[(0, .val false (.leaf .bool))], [], [], 0⟩, fn := fun (x : (List rType.den) × List rType.den) => M.slices_Equal_guerdon_api_Node_guerdon_api_Node N x.1 x.2 }
theorem W119 (N : Nat) : FnOK Tryz.prog 119 (S119 N) := fn_ok (E := ⟨tabs, [], tabnil, mixed, false, false⟩) (N := N) (a := (.two .nil (.two .nil (.two (.two .nil (.two (.loop ⟨[(13, .val false (.leaf rInt))], [], [], 144⟩ .nil) .nil)) .nil)))) (sg := S119 N) (c := Tryz.f119.body.getD .skip) (rs := Tryz.f119.results.toList) Tryz.func119 (by kernel_rfl) (by kernel_rfl) rfl rfl rfl rfl (fun x => by kernel_rfl)
noncomputable def M.law_equalRules (N : Nat) (a0 : rRule.den) (a1 : rRule.den) : Option (Bool) :=
((if (decide (a0.1 = a1.1)) = true then
(if (decide (a0.2.1 = a1.2.1)) = true then
(if (decide (a0.2.2.1 = a1.2.2.1)) = true then
(if (decide (a0.2.2.2.1 = a1.2.2.2.1)) = true then
(if (eqR rType a0.2.2.2.2.1 a1.2.2.2.2.1) = true then
(if (decide (a0.2.2.2.2.2.2.2 = a1.2.2.2.2.2.2.2)) = true then
(M.slices_Equal_guerdon_api_Node_guerdon_api_Node N a0.2.2.2.2.2.1 a1.2.2.2.2.2.1).bind fun y2 =>
(if y2 = true then
(M.slices_Equal_guerdon_api_Node_guerdon_api_Node N a0.2.2.2.2.2.2.1 a1.2.2.2.2.2.2.1).bind fun y3 =>
some y3
else
some false)
else
some false)
else
some false)
else
some false)
else
some false)
else
some false)
else
some false) : Option (Bool)).bind fun j1 =>
some j1
noncomputable def S84 (N : Nat) : Sig := { inn := ⟨[(0, .val true (.leaf rRule)), (1, .val true (.leaf rRule))], [], [], 0⟩, out := ⟨[(0, .val false (.leaf .bool))], [], [], 0⟩, fn := fun (x : rRule.den × rRule.den) => M.law_equalRules N x.1 x.2 }
theorem W84 (N : Nat) : FnOK Tryz.prog 84 (S84 N) := fn_ok (E := ⟨tabs, [(119, S119 N)], (tabcons (W119 N) tabnil), mixed, false, false⟩) (N := N) (a := (.two .nil (.meet ⟨[(4, .val false (.leaf .bool))], [], [], 48⟩ .nil .nil))) (sg := S84 N) (c := Tryz.f84.body.getD .skip) (rs := Tryz.f84.results.toList) Tryz.func84 (by kernel_rfl) (by kernel_rfl) rfl rfl rfl rfl (fun x => by kernel_rfl)
noncomputable def M.slices_EqualFunc_guerdon_api_Rule_guerdon_api_Rule_guerdon_api_Rule_guerdon_api_Rule_v1 (N : Nat) (a0 : List rRule.den) (a1 : List rRule.den) : Option (Bool) :=
(if (!decide ((a0.length : Int) = (a1.length : Int))) = true then
some false
else
Loop (S := Int) (X := Bool) (fun s1 =>
(if (decide (s1 < (a0.length : Int))) = true then
(idx a0 s1).bind fun x2 =>
(idx a1 s1).bind fun x3 =>
(M.law_equalRules N x2 x3).bind fun y4 =>
(if (!y4) = true then
some (Sum.inr false)
else
some (Sum.inl (IntKind.i64.wrap (s1 + (1 : Int)))))
else
some (Sum.inr true))) N (0 : Int))
noncomputable def S83v1 (N : Nat) : Sig := { inn := ⟨[(0, .val false (.leaf (.slice rRule))), (1, .val false (.leaf (.slice rRule))), (2, .fn 84 [])], [], [], 0⟩, out := ⟨[(0, .val false (.leaf .bool))], [], [], 0⟩, fn := fun (x : (List rRule.den) × List rRule.den) => M.slices_EqualFunc_guerdon_api_Rule_guerdon_api_Rule_guerdon_api_Rule_guerdon_api_Rule_v1 N x.1 x.2 }
theorem W83v1 (N : Nat) : FnOK Tryz.prog 83 (S83v1 N) := fn_ok (E := ⟨tabs, [(84, S84 N)], (tabcons (W84 N) tabnil), mixed, false, false⟩) (N := N) (a := (.two .nil (.two .nil (.two (.two .nil (.two (.loop ⟨[(17, .val false (.leaf rInt))], [], [], 144⟩ .nil) .nil)) .nil)))) (sg := S83v1 N) (c := Tryz.f83.body.getD .skip) (rs := Tryz.f83.results.toList) Tryz.func83 (by kernel_rfl) (by kernel_rfl) rfl rfl rfl rfl (fun x => by kernel_rfl)
noncomputable def M.law_equalScopes (N : Nat) (a0 : rScope.den) (a1 : rScope.den) : Option (Bool) :=
((if (decide (a0.1 = a1.1)) = true then
(if (decide (a0.2.1 = a1.2.1)) = true then
(M.slices_Equal_guerdon_api_Field_guerdon_api_Field N a0.2.2.1 a1.2.2.1).bind fun y2 =>
(if y2 = true then
(M.slices_Equal_guerdon_api_Field_guerdon_api_Field N a0.2.2.2.1 a1.2.2.2.1).bind fun y3 =>
(if y3 = true then
(M.slices_EqualFunc_guerdon_api_Rule_guerdon_api_Rule_guerdon_api_Rule_guerdon_api_Rule_v1 N a0.2.2.2.2 a1.2.2.2.2).bind fun y4 =>
some y4
else
some false)
else
some false)
else
some false)
else
some false) : Option (Bool)).bind fun j1 =>
some j1
noncomputable def S58 (N : Nat) : Sig := { inn := ⟨[(0, .val true (.leaf rScope)), (1, .val true (.leaf rScope))], [], [], 0⟩, out := ⟨[(0, .val false (.leaf .bool))], [], [], 0⟩, fn := fun (x : rScope.den × rScope.den) => M.law_equalScopes N x.1 x.2 }
theorem W58 (N : Nat) : FnOK Tryz.prog 58 (S58 N) := fn_ok (E := ⟨tabs, [(82, S82 N), (83, S83v1 N)], (tabcons (W82 N) (tabcons (W83v1 N) tabnil)), mixed, false, false⟩) (N := N) (a := (.two .nil (.meet ⟨[(4, .val false (.leaf .bool))], [], [], 48⟩ .nil .nil))) (sg := S58 N) (c := Tryz.f58.body.getD .skip) (rs := Tryz.f58.results.toList) Tryz.func58 (by kernel_rfl) (by kernel_rfl) rfl rfl rfl rfl (fun x => by kernel_rfl)
noncomputable def M.slices_EqualFunc_guerdon_api_Enum_guerdon_api_Enum_guerdon_api_Enum_guerdon_api_Enum_v1 (N : Nat) (a0 : List rEnum.den) (a1 : List rEnum.den) : Option (Bool) :=
(if (!decide ((a0.length : Int) = (a1.length : Int))) = true then
some false
else
Loop (S := Int) (X := Bool) (fun s1 =>
(if (decide (s1 < (a0.length : Int))) = true then
(idx a0 s1).bind fun x2 =>
(idx a1 s1).bind fun x3 =>
(M.law_equalEnums N x2 x3).bind fun y4 =>
(if (!y4) = true then
some (Sum.inr false)
else
some (Sum.inl (IntKind.i64.wrap (s1 + (1 : Int)))))
else
some (Sum.inr true))) N (0 : Int))
noncomputable def S53v1 (N : Nat) : Sig := { inn := ⟨[(0, .val false (.leaf (.slice rEnum))), (1, .val false (.leaf (.slice rEnum))), (2, .fn 54 [])], [], [], 0⟩, out := ⟨[(0, .val false (.leaf .bool))], [], [], 0⟩, fn := fun (x : (List rEnum.den) × List rEnum.den) => M.slices_EqualFunc_guerdon_api_Enum_guerdon_api_Enum_guerdon_api_Enum_guerdon_api_Enum_v1 N x.1 x.2 }
theorem W53v1 (N : Nat) : FnOK Tryz.prog 53 (S53v1 N) := fn_ok (E := ⟨tabs, [(54, S54 N)], (tabcons (W54 N) tabnil), mixed, false, false⟩) (N := N) (a := (.two .nil (.two .nil (.two (.two .nil (.two (.loop ⟨[(17, .val false (.leaf rInt))], [], [], 144⟩ .nil) .nil)) .nil)))) (sg := S53v1 N) (c := Tryz.f53.body.getD .skip) (rs := Tryz.f53.results.toList) Tryz.func53 (by kernel_rfl) (by kernel_rfl) rfl rfl rfl rfl (fun x => by kernel_rfl)
noncomputable def M.slices_EqualFunc_guerdon_api_Table_guerdon_api_Table_guerdon_api_Table_guerdon_api_Table_v1 (N : Nat) (a0 : List rTable.den) (a1 : List rTable.den) : Option (Bool) :=
(if (!decide ((a0.length : Int) = (a1.length : Int))) = true then
some false
else
Loop (S := Int) (X := Bool) (fun s1 =>
(if (decide (s1 < (a0.length : Int))) = true then
(idx a0 s1).bind fun x2 =>
(idx a1 s1).bind fun x3 =>
(M.law_equalTables N x2 x3).bind fun y4 =>
(if (!y4) = true then
some (Sum.inr false)
else
some (Sum.inl (IntKind.i64.wrap (s1 + (1 : Int)))))
else
some (Sum.inr true))) N (0 : Int))
noncomputable def S55v1 (N : Nat) : Sig := { inn := ⟨[(0, .val false (.leaf (.slice rTable))), (1, .val false (.leaf (.slice rTable))), (2, .fn 56 [])], [], [], 0⟩, out := ⟨[(0, .val false (.leaf .bool))], [], [], 0⟩, fn := fun (x : (List rTable.den) × List rTable.den) => M.slices_EqualFunc_guerdon_api_Table_guerdon_api_Table_guerdon_api_Table_guerdon_api_Table_v1 N x.1 x.2 }
theorem W55v1 (N : Nat) : FnOK Tryz.prog 55 (S55v1 N) := fn_ok (E := ⟨tabs, [(56, S56 N)], (tabcons (W56 N) tabnil), mixed, false, false⟩) (N := N) (a := (.two .nil (.two .nil (.two (.two .nil (.two (.loop ⟨[(17, .val false (.leaf rInt))], [], [], 144⟩ .nil) .nil)) .nil)))) (sg := S55v1 N) (c := Tryz.f55.body.getD .skip) (rs := Tryz.f55.results.toList) Tryz.func55 (by kernel_rfl) (by kernel_rfl) rfl rfl rfl rfl (fun x => by kernel_rfl)
noncomputable def M.slices_EqualFunc_guerdon_api_Scope_guerdon_api_Scope_guerdon_api_Scope_guerdon_api_Scope_v1 (N : Nat) (a0 : List rScope.den) (a1 : List rScope.den) : Option (Bool) :=
(if (!decide ((a0.length : Int) = (a1.length : Int))) = true then
some false
else
Loop (S := Int) (X := Bool) (fun s1 =>
(if (decide (s1 < (a0.length : Int))) = true then
(idx a0 s1).bind fun x2 =>
(idx a1 s1).bind fun x3 =>
(M.law_equalScopes N x2 x3).bind fun y4 =>
(if (!y4) = true then
some (Sum.inr false)
else
some (Sum.inl (IntKind.i64.wrap (s1 + (1 : Int)))))
else
some (Sum.inr true))) N (0 : Int))
noncomputable def S57v1 (N : Nat) : Sig := { inn := ⟨[(0, .val false (.leaf (.slice rScope))), (1, .val false (.leaf (.slice rScope))), (2, .fn 58 [])], [], [], 0⟩, out := ⟨[(0, .val false (.leaf .bool))], [], [], 0⟩, fn := fun (x : (List rScope.den) × List rScope.den) => M.slices_EqualFunc_guerdon_api_Scope_guerdon_api_Scope_guerdon_api_Scope_guerdon_api_Scope_v1 N x.1 x.2 }
theorem W57v1 (N : Nat) : FnOK Tryz.prog 57 (S57v1 N) := fn_ok (E := ⟨tabs, [(58, S58 N)], (tabcons (W58 N) tabnil), mixed, false, false⟩) (N := N) (a := (.two .nil (.two .nil (.two (.two .nil (.two (.loop ⟨[(17, .val false (.leaf rInt))], [], [], 144⟩ .nil) .nil)) .nil)))) (sg := S57v1 N) (c := Tryz.f57.body.getD .skip) (rs := Tryz.f57.results.toList) Tryz.func57 (by kernel_rfl) (by kernel_rfl) rfl rfl rfl rfl (fun x => by kernel_rfl)
noncomputable def M.law_Equal (N : Nat) (a0 : rLaw.den) (a1 : rLaw.den) : Option (Bool) :=
((M.slices_EqualFunc_guerdon_api_Enum_guerdon_api_Enum_guerdon_api_Enum_guerdon_api_Enum_v1 N a0.1 a1.1).bind fun y2 =>
(if y2 = true then
(M.slices_EqualFunc_guerdon_api_Table_guerdon_api_Table_guerdon_api_Table_guerdon_api_Table_v1 N a0.2.1 a1.2.1).bind fun y3 =>
(if y3 = true then
(M.slices_EqualFunc_guerdon_api_Scope_guerdon_api_Scope_guerdon_api_Scope_guerdon_api_Scope_v1 N a0.2.2 a1.2.2).bind fun y4 =>
some y4
else
some false)
else
some false) : Option (Bool)).bind fun j1 =>
some j1
noncomputable def S23 (N : Nat) : Sig := { inn := ⟨[(0, .val true (.leaf rLaw)), (1, .val true (.leaf rLaw))], [], [], 0⟩, out := ⟨[(0, .val false (.leaf .bool))], [], [], 0⟩, fn := fun (x : rLaw.den × rLaw.den) => M.law_Equal N x.1 x.2 }
theorem W23 (N : Nat) : FnOK Tryz.prog 23 (S23 N) := fn_ok (E := ⟨tabs, [(53, S53v1 N), (55, S55v1 N), (57, S57v1 N)], (tabcons (W53v1 N) (tabcons (W55v1 N) (tabcons (W57v1 N) tabnil))), mixed, false, false⟩) (N := N) (a := (.two .nil (.meet ⟨[(4, .val false (.leaf .bool))], [], [], 48⟩ .nil .nil))) (sg := S23 N) (c := Tryz.f23.body.getD .skip) (rs := Tryz.f23.results.toList) Tryz.func23 (by kernel_rfl) (by kernel_rfl) rfl rfl rfl rfl (fun x => by kernel_rfl)
noncomputable def M.same_Fields (N : Nat) (a0 : List rField.den) (a1 : List rField.den) : Option (Bool) :=
(if (!decide ((a0.length : Int) = (a1.length : Int))) = true then
some false
else
Loop (S := Int) (X := Bool) (fun s1 =>
((if (decide (s1 < (a0.length : Int))) = true then
some (decide (s1 < (a1.length : Int)))
else
some false) : Option (Bool)).bind fun j2 =>
(if j2 = true then
(idx a0 s1).bind fun x3 =>
(idx a1 s1).bind fun x4 =>
(if (!(eqR rField x3 x4)) = true then
some (Sum.inr false)
else
some (Sum.inl (IntKind.i64.wrap (s1 + (1 : Int)))))
else
some (Sum.inr true))) N (0 : Int))
noncomputable def S141 (N : Nat) : Sig := { inn := ⟨[(0, .val false (.leaf (.slice rField))), (1, .val false (.leaf (.slice rField)))], [], [], 0⟩, out := ⟨[(0, .val false (.leaf .bool))], [], [], 0⟩, fn := fun (x : (List rField.den) × List rField.den) => M.same_Fields N x.1 x.2 }
theorem W141 (N : Nat) : FnOK Tryz.prog 141 (S141 N) := fn_ok (E := ⟨tabs, [], tabnil, mixed, false, false⟩) (N := N) (a := (.two .nil (.two .nil (.two (.two .nil (.two (.loop ⟨[(5, .val false (.leaf rInt))], [], [], 112⟩ (.two (.meet ⟨[(20, .val false (.leaf .bool))], [], [], 112⟩ .nil .nil) .nil)) .nil)) .nil)))) (sg := S141 N) (c := Tryz.f141.body.getD .skip) (rs := Tryz.f141.results.toList) Tryz.func141 (by kernel_rfl) (by kernel_rfl) rfl rfl rfl rfl (fun x => by kernel_rfl)
noncomputable def M.same_Nodes (N : Nat) (a0 : List rType.den) (a1 : List rType.den) : Option (Bool) :=
(if (!decide ((a0.length : Int) = (a1.length : Int))) = true then
some false
else
Loop (S := Int) (X := Bool) (fun s1 =>
((if (decide (s1 < (a0.length : Int))) = true then
some (decide (s1 < (a1.length : Int)))
else
some false) : Option (Bool)).bind fun j2 =>
(if j2 = true then
(idx a0 s1).bind fun x3 =>
(idx a1 s1).bind fun x4 =>
(if (!(eqR rType x3 x4)) = true then
some (Sum.inr false)
else
some (Sum.inl (IntKind.i64.wrap (s1 + (1 : Int)))))
else
some (Sum.inr true))) N (0 : Int))
noncomputable def S169 (N : Nat) : Sig := { inn := ⟨[(0, .val false (.leaf (.slice rType))), (1, .val false (.leaf (.slice rType)))], [], [], 0⟩, out := ⟨[(0, .val false (.leaf .bool))], [], [], 0⟩, fn := fun (x : (List rType.den) × List rType.den) => M.same_Nodes N x.1 x.2 }
theorem W169 (N : Nat) : FnOK Tryz.prog 169 (S169 N) := fn_ok (E := ⟨tabs, [], tabnil, mixed, false, false⟩) (N := N) (a := (.two .nil (.two .nil (.two (.two .nil (.two (.loop ⟨[(5, .val false (.leaf rInt))], [], [], 112⟩ (.two (.meet ⟨[(20, .val false (.leaf .bool))], [], [], 112⟩ .nil .nil) .nil)) .nil)) .nil)))) (sg := S169 N) (c := Tryz.f169.body.getD .skip) (rs := Tryz.f169.results.toList) Tryz.func169 (by kernel_rfl) (by kernel_rfl) rfl rfl rfl rfl (fun x => by kernel_rfl)
noncomputable def M.same_Rule (N : Nat) (a0 : rRule.den) (a1 : rRule.den) : Option (Bool) :=
((if (decide (a0.1 = a1.1)) = true then
(if (decide (a0.2.1 = a1.2.1)) = true then
(if (decide (a0.2.2.1 = a1.2.2.1)) = true then
(if (decide (a0.2.2.2.1 = a1.2.2.2.1)) = true then
(if (eqR rType a0.2.2.2.2.1 a1.2.2.2.2.1) = true then
(if (decide (a0.2.2.2.2.2.2.2 = a1.2.2.2.2.2.2.2)) = true then
(M.same_Nodes N a0.2.2.2.2.2.1 a1.2.2.2.2.2.1).bind fun y2 =>
(if y2 = true then
(M.same_Nodes N a0.2.2.2.2.2.2.1 a1.2.2.2.2.2.2.1).bind fun y3 =>
some y3
else
some false)
else
some false)
else
some false)
else
some false)
else
some false)
else
some false)
else
some false) : Option (Bool)).bind fun j1 =>
some j1
noncomputable def S154 (N : Nat) : Sig := { inn := ⟨[(0, .val true (.leaf rRule)), (1, .val true (.leaf rRule))], [], [], 0⟩, out := ⟨[(0, .val false (.leaf .bool))], [], [], 0⟩, fn := fun (x : rRule.den × rRule.den) => M.same_Rule N x.1 x.2 }
theorem W154 (N : Nat) : FnOK Tryz.prog 154 (S154 N) := fn_ok (E := ⟨tabs, [(169, S169 N)], (tabcons (W169 N) tabnil), mixed, false, false⟩) (N := N) (a := (.two .nil (.meet ⟨[(4, .val false (.leaf .bool))], [], [], 48⟩ .nil .nil))) (sg := S154 N) (c := Tryz.f154.body.getD .skip) (rs := Tryz.f154.results.toList) Tryz.func154 (by kernel_rfl) (by kernel_rfl) rfl rfl rfl rfl (fun x => by kernel_rfl)
noncomputable def M.same_Rules (N : Nat) (a0 : List rRule.den) (a1 : List rRule.den) : Option (Bool) :=
(if (!decide ((a0.length : Int) = (a1.length : Int))) = true then
some false
else
Loop (S := Int) (X := Bool) (fun s1 =>
((if (decide (s1 < (a0.length : Int))) = true then
some (decide (s1 < (a1.length : Int)))
else
some false) : Option (Bool)).bind fun j2 =>
(if j2 = true then
(idx a0 s1).bind fun x3 =>
(idx a1 s1).bind fun x4 =>
(M.same_Rule N x3 x4).bind fun y5 =>
(if (!y5) = true then
some (Sum.inr false)
else
some (Sum.inl (IntKind.i64.wrap (s1 + (1 : Int)))))
else
some (Sum.inr true))) N (0 : Int))
noncomputable def S142 (N : Nat) : Sig := { inn := ⟨[(0, .val false (.leaf (.slice rRule))), (1, .val false (.leaf (.slice rRule)))], [], [], 0⟩, out := ⟨[(0, .val false (.leaf .bool))], [], [], 0⟩, fn := fun (x : (List rRule.den) × List rRule.den) => M.same_Rules N x.1 x.2 }
theorem W142 (N : Nat) : FnOK Tryz.prog 142 (S142 N) := fn_ok (E := ⟨tabs, [(154, S154 N)], (tabcons (W154 N) tabnil), mixed, false, false⟩) (N := N) (a := (.two .nil (.two .nil (.two (.two .nil (.two (.loop ⟨[(5, .val false (.leaf rInt))], [], [], 112⟩ (.two (.meet ⟨[(20, .val false (.leaf .bool))], [], [], 112⟩ .nil .nil) .nil)) .nil)) .nil)))) (sg := S142 N) (c := Tryz.f142.body.getD .skip) (rs := Tryz.f142.results.toList) Tryz.func142 (by kernel_rfl) (by kernel_rfl) rfl rfl rfl rfl (fun x => by kernel_rfl)
noncomputable def M.same_Scope (N : Nat) (a0 : rScope.den) (a1 : rScope.den) : Option (Bool) :=
((if (decide (a0.1 = a1.1)) = true then
(if (decide (a0.2.1 = a1.2.1)) = true then
(M.same_Fields N a0.2.2.1 a1.2.2.1).bind fun y2 =>
(if y2 = true then
(M.same_Fields N a0.2.2.2.1 a1.2.2.2.1).bind fun y3 =>
(if y3 = true then
(M.same_Rules N a0.2.2.2.2 a1.2.2.2.2).bind fun y4 =>
some y4
else
some false)
else
some false)
else
some false)
else
some false) : Option (Bool)).bind fun j1 =>
some j1
noncomputable def S120 (N : Nat) : Sig := { inn := ⟨[(0, .val true (.leaf rScope)), (1, .val true (.leaf rScope))], [], [], 0⟩, out := ⟨[(0, .val false (.leaf .bool))], [], [], 0⟩, fn := fun (x : rScope.den × rScope.den) => M.same_Scope N x.1 x.2 }
theorem W120 (N : Nat) : FnOK Tryz.prog 120 (S120 N) := fn_ok (E := ⟨tabs, [(141, S141 N), (142, S142 N)], (tabcons (W141 N) (tabcons (W142 N) tabnil)), mixed, false, false⟩) (N := N) (a := (.two .nil (.meet ⟨[(4, .val false (.leaf .bool))], [], [], 48⟩ .nil .nil))) (sg := S120 N) (c := Tryz.f120.body.getD .skip) (rs := Tryz.f120.results.toList) Tryz.func120 (by kernel_rfl) (by kernel_rfl) rfl rfl rfl rfl (fun x => by kernel_rfl)
noncomputable def M.same_Scopes (N : Nat) (a0 : List rScope.den) (a1 : List rScope.den) : Option (Bool) :=
(if (!decide ((a0.length : Int) = (a1.length : Int))) = true then
some false
else
Loop (S := Int) (X := Bool) (fun s1 =>
((if (decide (s1 < (a0.length : Int))) = true then
some (decide (s1 < (a1.length : Int)))
else
some false) : Option (Bool)).bind fun j2 =>
(if j2 = true then
(idx a0 s1).bind fun x3 =>
(idx a1 s1).bind fun x4 =>
(M.same_Scope N x3 x4).bind fun y5 =>
(if (!y5) = true then
some (Sum.inr false)
else
some (Sum.inl (IntKind.i64.wrap (s1 + (1 : Int)))))
else
some (Sum.inr true))) N (0 : Int))
noncomputable def S85 (N : Nat) : Sig := { inn := ⟨[(0, .val false (.leaf (.slice rScope))), (1, .val false (.leaf (.slice rScope)))], [], [], 0⟩, out := ⟨[(0, .val false (.leaf .bool))], [], [], 0⟩, fn := fun (x : (List rScope.den) × List rScope.den) => M.same_Scopes N x.1 x.2 }
theorem W85 (N : Nat) : FnOK Tryz.prog 85 (S85 N) := fn_ok (E := ⟨tabs, [(120, S120 N)], (tabcons (W120 N) tabnil), mixed, false, false⟩) (N := N) (a := (.two .nil (.two .nil (.two (.two .nil (.two (.loop ⟨[(5, .val false (.leaf rInt))], [], [], 112⟩ (.two (.meet ⟨[(20, .val false (.leaf .bool))], [], [], 112⟩ .nil .nil) .nil)) .nil)) .nil)))) (sg := S85 N) (c := Tryz.f85.body.getD .skip) (rs := Tryz.f85.results.toList) Tryz.func85 (by kernel_rfl) (by kernel_rfl) rfl rfl rfl rfl (fun x => by kernel_rfl)
noncomputable def M.same_Law (N : Nat) (a0 : rLaw.den) (a1 : rLaw.den) : Option (Bool) :=
((M.same_Enums N a0.1 a1.1).bind fun y2 =>
(if y2 = true then
(M.same_Tables N a0.2.1 a1.2.1).bind fun y3 =>
(if y3 = true then
(M.same_Scopes N a0.2.2 a1.2.2).bind fun y4 =>
some y4
else
some false)
else
some false) : Option (Bool)).bind fun j1 =>
some j1
noncomputable def S59 (N : Nat) : Sig := { inn := ⟨[(0, .val true (.leaf rLaw)), (1, .val true (.leaf rLaw))], [], [], 0⟩, out := ⟨[(0, .val false (.leaf .bool))], [], [], 0⟩, fn := fun (x : rLaw.den × rLaw.den) => M.same_Law N x.1 x.2 }
theorem W59 (N : Nat) : FnOK Tryz.prog 59 (S59 N) := fn_ok (E := ⟨tabs, [(42, S42 N), (43, S43 N), (85, S85 N)], (tabcons (W42 N) (tabcons (W43 N) (tabcons (W85 N) tabnil))), mixed, false, false⟩) (N := N) (a := (.two .nil (.meet ⟨[(4, .val false (.leaf .bool))], [], [], 48⟩ .nil .nil))) (sg := S59 N) (c := Tryz.f59.body.getD .skip) (rs := Tryz.f59.results.toList) Tryz.func59 (by kernel_rfl) (by kernel_rfl) rfl rfl rfl rfl (fun x => by kernel_rfl)
noncomputable def M.ref17_Equal (N : Nat) (a0 : rLaw.den) (a1 : rLaw.den) : Option (Bool) :=
(M.same_Law N a0 a1).bind fun y1 =>
some y1
noncomputable def S24 (N : Nat) : Sig := { inn := ⟨[(0, .val true (.leaf rLaw)), (1, .val true (.leaf rLaw))], [], [], 0⟩, out := ⟨[(0, .val false (.leaf .bool))], [], [], 0⟩, fn := fun (x : rLaw.den × rLaw.den) => M.ref17_Equal N x.1 x.2 }
theorem W24 (N : Nat) : FnOK Tryz.prog 24 (S24 N) := fn_ok (E := ⟨tabs, [(59, S59 N)], (tabcons (W59 N) tabnil), mixed, false, false⟩) (N := N) (a := .nil) (sg := S24 N) (c := Tryz.f24.body.getD .skip) (rs := Tryz.f24.results.toList) Tryz.func24 (by kernel_rfl) (by kernel_rfl) rfl rfl rfl rfl (fun x => by kernel_rfl)
noncomputable def M.law17_LawClone (N : Nat) (a0 : rLaw.den) (a1 : rLaw.den) (a2 : Int) : Option (Bool) :=
((M.same_SmallLaw N a0).bind fun y2 =>
(if (!y2) = true then
some true
else
(M.same_SmallLaw N a1).bind fun y3 =>
some (!y3)) : Option (Bool)).bind fun j1 =>
(if j1 = true then
(M.law17_awake N).bind fun y4 =>
some y4
else
(M.law_Clone_v1 N a0).bind fun y5 =>
(M.law_Clone_v1 N a0).bind fun y6 =>
((M.law_Equal N a0 a1).bind fun y8 =>
(M.ref17_Equal N a0 a1).bind fun y9 =>
(if (!decide (y8 = y9)) = true then
some true
else
(M.law_Equal N (y5.1, (y5.2.1, y5.2.2)) a0).bind fun y10 =>
(if (!y10) = true then
some true
else
(M.ref17_Equal N (y5.1, (y5.2.1, y5.2.2)) a0).bind fun y11 =>
(if (!y11) = true then
some true
else
(M.ref17_Equal N (y6.1, (y6.2.1, y6.2.2)) a0).bind fun y12 =>
some (!y12)))) : Option (Bool)).bind fun j7 =>
(if j7 = true then
some false
else
(if (decide ((y5.2.2.length : Int) = (0 : Int))) = true then
(M.law17_awake N).bind fun y13 =>
some y13
else
(remA a2 (y5.2.2.length : Int)).bind fun x14 =>
(remA (IntKind.i64.wrap (x14 + (y5.2.2.length : Int))) (y5.2.2.length : Int)).bind fun x15 =>
(idx y5.2.2 x15).bind fun x16 =>
(idx y5.2.2 x15).bind fun x17 =>
(catA x17.1 (⟨#[120]⟩ : ByteArray)).bind fun x18 =>
(idx y5.2.2 x15).bind fun x19 =>
((idx (setL y5.2.2 x15 (x18, x19.2)) x15).bind fun x21 =>
(if (decide ((0 : Int) < (x21.2.2.2.2.length : Int))) = true then
(if decide (x15 = x15) = true then
(idx (setL y5.2.2 x15 (x18, x19.2)) x15).bind fun x22 =>
(idx x21.2.2.2.2 (0 : Int)).bind fun x23 =>
(idx x21.2.2.2.2 (0 : Int)).bind fun x24 =>
(idx x21.2.2.2.2 (0 : Int)).bind fun x25 =>
(idx x21.2.2.2.2 (0 : Int)).bind fun x26 =>
(if decide (x15 = x15) = true then
(idx (setL y5.2.2 x15 (x18, x19.2)) x15).bind fun x27 =>
(idx (setL x21.2.2.2.2 (0 : Int) (x26.1, (x26.2.1, (x26.2.2.1, (IntKind.i64.wrap (x24.2.2.2.1 + (1 : Int)), x26.2.2.2.2))))) (0 : Int)).bind fun x28 =>
(idx (setL x21.2.2.2.2 (0 : Int) (x26.1, (x26.2.1, (x26.2.2.1, (IntKind.i64.wrap (x24.2.2.2.1 + (1 : Int)), x26.2.2.2.2))))) (0 : Int)).bind fun x29 =>
(if (decide ((0 : Int) < (x29.2.2.2.2.2.2.1.length : Int))) = true then
(if decide (x15 = x15) = true then
(idx (setL y5.2.2 x15 (x18, x19.2)) x15).bind fun x30 =>
(idx (setL x21.2.2.2.2 (0 : Int) (x26.1, (x26.2.1, (x26.2.2.1, (IntKind.i64.wrap (x24.2.2.2.1 + (1 : Int)), x26.2.2.2.2))))) (0 : Int)).bind fun x31 =>
(if decide ((0 : Int) = (0 : Int)) = true then
(idx (setL x21.2.2.2.2 (0 : Int) (x26.1, (x26.2.1, (x26.2.2.1, (IntKind.i64.wrap (x24.2.2.2.1 + (1 : Int)), x26.2.2.2.2))))) (0 : Int)).bind fun x32 =>
(idx x29.2.2.2.2.2.2.1 (0 : Int)).bind fun x33 =>
(idx x29.2.2.2.2.2.2.1 (0 : Int)).bind fun x34 =>
some (modL (setL y5.2.2 x15 (x18, x19.2)) x15 (fun m36 => (m36.1, (m36.2.1, (m36.2.2.1, (m36.2.2.2.1, modL (setL x21.2.2.2.2 (0 : Int) (x26.1, (x26.2.1, (x26.2.2.1, (IntKind.i64.wrap (x24.2.2.2.1 + (1 : Int)), x26.2.2.2.2))))) (0 : Int) (fun m35 => (m35.1, (m35.2.1, (m35.2.2.1, (m35.2.2.2.1, (m35.2.2.2.2.1, (m35.2.2.2.2.2.1, (setL x29.2.2.2.2.2.2.1 (0 : Int) (x34.1, IntKind.i64.wrap (x33.2 + (1 : Int))), m35.2.2.2.2.2.2.2))))))))))))))
else none)
else none)
else
some (modL (setL y5.2.2 x15 (x18, x19.2)) x15 (fun m38 => (m38.1, (m38.2.1, (m38.2.2.1, (m38.2.2.2.1, modL (setL x21.2.2.2.2 (0 : Int) (x26.1, (x26.2.1, (x26.2.2.1, (IntKind.i64.wrap (x24.2.2.2.1 + (1 : Int)), x26.2.2.2.2))))) (0 : Int) (fun m37 => (m37.1, (m37.2.1, (m37.2.2.1, (m37.2.2.2.1, (m37.2.2.2.2.1, (m37.2.2.2.2.2.1, (x29.2.2.2.2.2.2.1, m37.2.2.2.2.2.2.2)))))))))))))))
else none)
else none)
else
some (modL (setL y5.2.2 x15 (x18, x19.2)) x15 (fun m39 => (m39.1, (m39.2.1, (m39.2.2.1, (m39.2.2.2.1, x21.2.2.2.2))))))) : Option (List rScope.den)).bind fun j20 =>
((M.law_Equal N (y5.1, (y5.2.1, j20)) a0).bind fun y41 =>
(if (!y41) = true then
(M.law_Equal N (y6.1, (y6.2.1, y6.2.2)) a0).bind fun y42 =>
(if y42 = true then
(M.ref17_Equal N (y6.1, (y6.2.1, y6.2.2)) a0).bind fun y43 =>
(if y43 = true then
(M.law17_awake N).bind fun y44 =>
some y44
else
some false)
else
some false)
else
some false) : Option (Bool)).bind fun j40 =>
some j40)))
noncomputable def S8 (N : Nat) : Sig := { inn := ⟨[(0, .val true (.leaf rLaw)), (1, .val true (.leaf rLaw)), (2, .val false (.leaf rInt))], [], [], 0⟩, out := ⟨[(0, .val false (.leaf .bool))], [], [], 0⟩, fn := fun (x : rLaw.den × rLaw.den × Int) => M.law17_LawClone N x.1 x.2.1 x.2.2 }
theorem W8 (N : Nat) : FnOK Tryz.prog 8 (S8 N) := fn_ok (E := ⟨tabs, [(9, S9 N), (10, S10 N), (15, S15v1 N), (23, S23 N), (24, S24 N)], (tabcons (W9 N) (tabcons (W10 N) (tabcons (W15v1 N) (tabcons (W23 N) (tabcons (W24 N) tabnil))))), mixed, true, false⟩) (N := N) (a := (.two .nil (.two (.meet ⟨[(17, .val false (.leaf .bool))], [], [], 48⟩ .nil .nil) (.two .nil (.two (.meet ⟨[(47, .val false (.leaf .bool))], [], [], 176⟩ .nil .nil) (.two .nil (.two .nil (.two .nil (.meet ⟨[], [(66, .deep 41 (.pair (.leaf .str) (.pair (.leaf rInt) (.pair (.sl 45 (.leaf rField)) (.pair (.sl 45 (.leaf rField)) (.sl 63 (.pair (.leaf .str) (.pair (.leaf rInt) (.pair (.leaf rInt) (.pair (.leaf rInt) (.pair (.leaf rType) (.pair (.sl 65 (.leaf rType)) (.pair (.sl 65 (.leaf rType)) (.leaf .str))))))))))))))], [], 641⟩ .nil (.meet ⟨[(6, .val false (.leaf .bool))], [], [], 641⟩ .nil .nil)))))))))) (sg := S8 N) (c := Tryz.f8.body.getD .skip) (rs := Tryz.f8.results.toList) Tryz.func8 (by kernel_rfl) (by kernel_rfl) rfl rfl rfl rfl (fun x => by kernel_rfl)
noncomputable def M.internal_bytealg_Cutover (N : Nat) (a0 : Int) : Option (Int) :=
some (IntKind.i64.wrap (Int.tdiv (IntKind.i64.wrap (a0 + (16 : Int))) (8 : Int)))
noncomputable def S187 (N : Nat) : Sig := { inn := ⟨[(0, .val false (.leaf rInt))], [], [], 0⟩, out := ⟨[(0, .val false (.leaf rInt))], [], [], 0⟩, fn := fun (x : Int) => M.internal_bytealg_Cutover N x }
theorem W187 (N : Nat) : FnOK Tryz.prog 187 (S187 N) := fn_ok (E := ⟨tabs, [], tabnil, mixed, false, false⟩) (N := N) (a := .nil) (sg := S187 N) (c := Tryz.f187.body.getD .skip) (rs := Tryz.f187.results.toList) Tryz.func187 (by kernel_rfl) (by kernel_rfl) rfl rfl rfl rfl (fun x => by kernel_rfl)
noncomputable def M.internal_bytealg_hashStr_string (N : Nat) (a0 : ByteArray) : Option (Int × Int) :=
(Loop (S := Int × Int) (X := Int) (fun s2 =>
(if (decide (s2.2 < (a0.size : Int))) = true then
(byteA a0 s2.2).bind fun x3 =>
some (Sum.inl (IntKind.u32.wrap ((IntKind.u32.wrap (s2.1 * (16777619 : Int))) + (IntKind.u32.wrap x3)), IntKind.i64.wrap (s2.2 + (1 : Int))))
else
some (Sum.inr s2.1))) N ((0 : Int), (0 : Int)) : Option (Int)).bind fun j1 =>
Loop (S := Int × Int × Int) (X := Int × Int) (fun s4 =>
(if (decide ((0 : Int) < s4.2.2)) = true then
((if (!decide ((bitsA .and .i64 s4.2.2 (1 : Int)) = (0 : Int))) = true then
some (IntKind.u32.wrap (s4.1 * s4.2.1))
else
some s4.1) : Option (Int)).bind fun j5 =>
some (Sum.inl (j5, IntKind.u32.wrap (s4.2.1 * s4.2.1), shrV .i64 s4.2.2 (1 : Int)))
else
some (Sum.inr (j1, s4.1)))) N ((1 : Int), (16777619 : Int), (a0.size : Int))
noncomputable def S203 (N : Nat) : Sig := { inn := ⟨[(0, .val false (.leaf .str))], [], [], 0⟩, out := ⟨[(0, .val false (.leaf (.int .u32))), (1, .val false (.leaf (.int .u32)))], [], [], 0⟩, fn := fun (x : ByteArray) => M.internal_bytealg_hashStr_string N x }
theorem W203 (N : Nat) : FnOK Tryz.prog 203 (S203 N) := fn_ok (E := ⟨tabs, [], tabnil, mixed, false, false⟩) (N := N) (a := (.two .nil (.two .nil (.meet ⟨[(4, .val false (.leaf (.int .u32)))], [], [], 48⟩ (.two .nil (.two (.loop ⟨[(4, .val false (.leaf (.int .u32))), (5, .val false (.leaf rInt))], [], [], 64⟩ .nil) .nil)) (.two .nil (.two (.two .nil (.two (.loop ⟨[(6, .val false (.leaf (.int .u32))), (7, .val false (.leaf (.int .u32))), (8, .val false (.leaf rInt))], [], [], 128⟩ (.two .nil (.two (.two (.meet ⟨[(6, .val false (.leaf (.int .u32)))], [], [], 160⟩ .nil .nil) .nil) .nil))) .nil)) .nil)))))) (sg := S203 N) (c := Tryz.f203.body.getD .skip) (rs := Tryz.f203.results.toList) Tryz.func203 (by kernel_rfl) (by kernel_rfl) rfl rfl rfl rfl (fun x => by kernel_rfl)
noncomputable def M.cmp_isNaN_int (N : Nat) (a0 : Int) : Option (Bool) :=
some (!decide (a0 = a0))
noncomputable def S209 (N : Nat) : Sig := { inn := ⟨[(0, .val false (.leaf rInt))], [], [], 0⟩, out := ⟨[(0, .val false (.leaf .bool))], [], [], 0⟩, fn := fun (x : Int) => M.cmp_isNaN_int N x }
theorem W209 (N : Nat) : FnOK Tryz.prog 209 (S209 N) := fn_ok (E := ⟨tabs, [], tabnil, mixed, false, false⟩) (N := N) (a := .nil) (sg := S209 N) (c := Tryz.f209.body.getD .skip) (rs := Tryz.f209.results.toList) Tryz.func209 (by kernel_rfl) (by kernel_rfl) rfl rfl rfl rfl (fun x => by kernel_rfl)
noncomputable def M.cmp_Less_int (N : Nat) (a0 : Int) (a1 : Int) : Option (Bool) :=
((M.cmp_isNaN_int N a0).bind fun y2 =>
(if y2 = true then
(M.cmp_isNaN_int N a1).bind fun y3 =>
(if (!y3) = true then
some true
else
some (decide (a0 < a1)))
else
some (decide (a0 < a1))) : Option (Bool)).bind fun j1 =>
some j1
noncomputable def S197 (N : Nat) : Sig := { inn := ⟨[(0, .val false (.leaf rInt)), (1, .val false (.leaf rInt))], [], [], 0⟩, out := ⟨[(0, .val false (.leaf .bool))], [], [], 0⟩, fn := fun (x : Int × Int) => M.cmp_Less_int N x.1 x.2 }
theorem W197 (N : Nat) : FnOK Tryz.prog 197 (S197 N) := fn_ok (E := ⟨tabs, [(209, S209 N)], (tabcons (W209 N) tabnil), mixed, false, false⟩) (N := N) (a := (.two .nil (.meet ⟨[(4, .val false (.leaf .bool))], [], [], 16⟩ .nil .nil))) (sg := S197 N) (c := Tryz.f197.body.getD .skip) (rs := Tryz.f197.results.toList) Tryz.func197 (by kernel_rfl) (by kernel_rfl) rfl rfl rfl rfl (fun x => by kernel_rfl)
noncomputable def M.math_bits_Len32 (N : Nat) (a0 : Int) : Option (Int) :=
((if (decide ((65536 : Int) ≤ a0)) = true then
some (shrV .u32 a0 (16 : Int), (16 : Int))
else
some (a0, (0 : Int))) : Option (Int × Int)).bind fun j1 =>
((if (decide ((256 : Int) ≤ j1.1)) = true then
some (shrV .u32 j1.1 (8 : Int), IntKind.i64.wrap (j1.2 + (8 : Int)))
else
some (j1.1, j1.2)) : Option (Int × Int)).bind fun j2 =>
(byteA (⟨#[0, 1, 2, 2, 3, 3, 3, 3, 4, 4, 4, 4, 4, 4, 4, 4, 5, 5, 5, 5, 5, 5, 5, 5, 5, 5, 5, 5, 5, 5, 5, 5, 6, 6, 6, 6, 6, 6, 6, 6, 6, 6, 6, 6, 6, 6, 6, 6, 6, 6, 6, 6, 6, 6, 6, 6, 6, 6, 6, 6, 6, 6, 6, 6, 7, 7, 7, 7, 7, 7, 7, 7, 7, 7, 7, 7, 7, 7, 7, 7, 7, 7, 7, 7, 7, 7, 7, 7, 7, 7, 7, 7, 7, 7, 7, 7, 7, 7, 7, 7, 7, 7, 7, 7, 7, 7, 7, 7, 7, 7, 7, 7, 7, 7, 7, 7, 7, 7, 7, 7, 7, 7, 7, 7, 7, 7, 7, 7, 8, 8, 8, 8, 8, 8, 8, 8, 8, 8, 8, 8, 8, 8, 8, 8, 8, 8, 8, 8, 8, 8, 8, 8, 8, 8, 8, 8, 8, 8, 8, 8, 8, 8, 8, 8, 8, 8, 8, 8, 8, 8, 8, 8, 8, 8, 8, 8, 8, 8, 8, 8, 8, 8, 8, 8, 8, 8, 8, 8, 8, 8, 8, 8, 8, 8, 8, 8, 8, 8, 8, 8, 8, 8, 8, 8, 8, 8, 8, 8, 8, 8, 8, 8, 8, 8, 8, 8, 8, 8, 8, 8, 8, 8, 8, 8, 8, 8, 8, 8, 8, 8, 8, 8, 8, 8, 8, 8, 8, 8, 8, 8, 8, 8, 8, 8, 8, 8, 8, 8, 8, 8, 8, 8, 8, 8, 8, 8]⟩ : ByteArray) (IntKind.u8.wrap j2.1)).bind fun x3 =>
some (IntKind.i64.wrap (j2.2 + (IntKind.i64.wrap x3)))
noncomputable def S200 (N : Nat) : Sig := { inn := ⟨[(0, .val false (.leaf (.int .u32)))], [], [], 0⟩, out := ⟨[(0, .val false (.leaf rInt))], [], [], 0⟩, fn := fun (x : Int) => M.math_bits_Len32 N x }
theorem W200 (N : Nat) : FnOK Tryz.prog 200 (S200 N) := fn_ok (E := ⟨tabs, [], tabnil, mixed, false, false⟩) (N := N) (a := (.two .nil (.meet ⟨[(0, .val false (.leaf (.int .u32))), (2, .val false (.leaf rInt))], [], [], 16⟩ .nil (.meet ⟨[(0, .val false (.leaf (.int .u32))), (2, .val false (.leaf rInt))], [], [], 16⟩ .nil .nil)))) (sg := S200 N) (c := Tryz.f200.body.getD .skip) (rs := Tryz.f200.results.toList) Tryz.func200 (by kernel_rfl) (by kernel_rfl) rfl rfl rfl rfl (fun x => by kernel_rfl)
noncomputable def M.math_bits_Len64 (N : Nat) (a0 : Int) : Option (Int) :=
((if (decide ((4294967296 : Int) ≤ a0)) = true then
some (shrV .u64 a0 (32 : Int), (32 : Int))
else
some (a0, (0 : Int))) : Option (Int × Int)).bind fun j1 =>
((if (decide ((65536 : Int) ≤ j1.1)) = true then
some (shrV .u64 j1.1 (16 : Int), IntKind.i64.wrap (j1.2 + (16 : Int)))
else
some (j1.1, j1.2)) : Option (Int × Int)).bind fun j2 =>
((if (decide ((256 : Int) ≤ j2.1)) = true then
some (shrV .u64 j2.1 (8 : Int), IntKind.i64.wrap (j2.2 + (8 : Int)))
else
some (j2.1, j2.2)) : Option (Int × Int)).bind fun j3 =>
(byteA (⟨#[0, 1, 2, 2, 3, 3, 3, 3, 4, 4, 4, 4, 4, 4, 4, 4, 5, 5, 5, 5, 5, 5, 5, 5, 5, 5, 5, 5, 5, 5, 5, 5, 6, 6, 6, 6, 6, 6, 6, 6, 6, 6, 6, 6, 6, 6, 6, 6, 6, 6, 6, 6, 6, 6, 6, 6, 6, 6, 6, 6, 6, 6, 6, 6, 7, 7, 7, 7, 7, 7, 7, 7, 7, 7, 7, 7, 7, 7, 7, 7, 7, 7, 7, 7, 7, 7, 7, 7, 7, 7, 7, 7, 7, 7, 7, 7, 7, 7, 7, 7, 7, 7, 7, 7, 7, 7, 7, 7, 7, 7, 7, 7, 7, 7, 7, 7, 7, 7, 7, 7, 7, 7, 7, 7, 7, 7, 7, 7, 8, 8, 8, 8, 8, 8, 8, 8, 8, 8, 8, 8, 8, 8, 8, 8, 8, 8, 8, 8, 8, 8, 8, 8, 8, 8, 8, 8, 8, 8, 8, 8, 8, 8, 8, 8, 8, 8, 8, 8, 8, 8, 8, 8, 8, 8, 8, 8, 8, 8, 8, 8, 8, 8, 8, 8, 8, 8, 8, 8, 8, 8, 8, 8, 8, 8, 8, 8, 8, 8, 8, 8, 8, 8, 8, 8, 8, 8, 8, 8, 8, 8, 8, 8, 8, 8, 8, 8, 8, 8, 8, 8, 8, 8, 8, 8, 8, 8, 8, 8, 8, 8, 8, 8, 8, 8, 8, 8, 8, 8, 8, 8, 8, 8, 8, 8, 8, 8, 8, 8, 8, 8, 8, 8, 8, 8, 8, 8]⟩ : ByteArray) (IntKind.u8.wrap j3.1)).bind fun x4 =>
some (IntKind.i64.wrap (j3.2 + (IntKind.i64.wrap x4)))
noncomputable def S201 (N : Nat) : Sig := { inn := ⟨[(0, .val false (.leaf (.int .u64)))], [], [], 0⟩, out := ⟨[(0, .val false (.leaf rInt))], [], [], 0⟩, fn := fun (x : Int) => M.math_bits_Len64 N x }
theorem W201 (N : Nat) : FnOK Tryz.prog 201 (S201 N) := fn_ok (E := ⟨tabs, [], tabnil, mixed, false, false⟩) (N := N) (a := (.two .nil (.meet ⟨[(0, .val false (.leaf (.int .u64))), (2, .val false (.leaf rInt))], [], [], 16⟩ .nil (.meet ⟨[(0, .val false (.leaf (.int .u64))), (2, .val false (.leaf rInt))], [], [], 16⟩ .nil (.meet ⟨[(0, .val false (.leaf (.int .u64))), (2, .val false (.leaf rInt))], [], [], 16⟩ .nil .nil))))) (sg := S201 N) (c := Tryz.f201.body.getD .skip) (rs := Tryz.f201.results.toList) Tryz.func201 (by kernel_rfl) (by kernel_rfl) rfl rfl rfl rfl (fun x => by kernel_rfl)
noncomputable def M.math_bits_Len (N : Nat) (a0 : Int) : Option (Int) :=
(M.math_bits_Len64 N a0).bind fun y1 =>
some y1
noncomputable def S180 (N : Nat) : Sig := { inn := ⟨[(0, .val false (.leaf (.int .u64)))], [], [], 0⟩, out := ⟨[(0, .val false (.leaf rInt))], [], [], 0⟩, fn := fun (x : Int) => M.math_bits_Len N x }
theorem W180 (N : Nat) : FnOK Tryz.prog 180 (S180 N) := fn_ok (E := ⟨tabs, [(201, S201 N)], (tabcons (W201 N) tabnil), mixed, false, false⟩) (N := N) (a := .nil) (sg := S180 N) (c := Tryz.f180.body.getD .skip) (rs := Tryz.f180.results.toList) Tryz.func180 (by kernel_rfl) (by kernel_rfl) rfl rfl rfl rfl (fun x => by kernel_rfl)
noncomputable def M.slices_nextPowerOfTwo (N : Nat) (a0 : Int) : Option (Int) :=
(M.math_bits_Len N (IntKind.u64.wrap a0)).bind fun y1 =>
(shlA .u64 (1 : Int) y1).bind fun x2 =>
some x2
noncomputable def S205 (N : Nat) : Sig := { inn := ⟨[(0, .val false (.leaf rInt))], [], [], 0⟩, out := ⟨[(0, .val false (.leaf (.int .u64)))], [], [], 0⟩, fn := fun (x : Int) => M.slices_nextPowerOfTwo N x }
theorem W205 (N : Nat) : FnOK Tryz.prog 205 (S205 N) := fn_ok (E := ⟨tabs, [(180, S180 N)], (tabcons (W180 N) tabnil), mixed, false, false⟩) (N := N) (a := .nil) (sg := S205 N) (c := Tryz.f205.body.getD .skip) (rs := Tryz.f205.results.toList) Tryz.func205 (by kernel_rfl) (by kernel_rfl) rfl rfl rfl rfl (fun x => by kernel_rfl)
noncomputable def M.slices_xorshift_Next (N : Nat) (a0 : Int) : Option (Int × Int) :=
some (bitsA .xor .u64 (bitsA .xor .u64 (bitsA .xor .u64 a0 (shlV .u64 a0 (13 : Int))) (shrV .u64 (bitsA .xor .u64 a0 (shlV .u64 a0 (13 : Int))) (7 : Int))) (shlV .u64 (bitsA .xor .u64 (bitsA .xor .u64 a0 (shlV .u64 a0 (13 : Int))) (shrV .u64 (bitsA .xor .u64 a0 (shlV .u64 a0 (13 : Int))) (7 : Int))) (17 : Int)), bitsA .xor .u64 (bitsA .xor .u64 (bitsA .xor .u64 a0 (shlV .u64 a0 (13 : Int))) (shrV .u64 (bitsA .xor .u64 a0 (shlV .u64 a0 (13 : Int))) (7 : Int))) (shlV .u64 (bitsA .xor .u64 (bitsA .xor .u64 a0 (shlV .u64 a0 (13 : Int))) (shrV .u64 (bitsA .xor .u64 a0 (shlV .u64 a0 (13 : Int))) (7 : Int))) (17 : Int)))
noncomputable def S206 (N : Nat) : Sig := { inn := ⟨[(0, .ptr 0 [] 0)], [(0, .box 210 (.leaf (.int .u64)))], [], 1⟩, out := ⟨[(0, .val false (.leaf (.int .u64)))], [(0, .box 210 (.leaf (.int .u64)))], [], 2⟩, fn := fun (x : Int) => M.slices_xorshift_Next N x }
theorem W206 (N : Nat) : FnOK Tryz.prog 206 (S206 N) := fn_ok (E := ⟨tabs, [], tabnil, mixed, false, false⟩) (N := N) (a := .nil) (sg := S206 N) (c := Tryz.f206.body.getD .skip) (rs := Tryz.f206.results.toList) Tryz.func206 (by kernel_rfl) (by kernel_rfl) rfl rfl rfl rfl (fun x => by kernel_rfl)
noncomputable def M.slices_order2Ordered_int (N : Nat) (a0 : List Int) (a1 : Int) (a2 : Int) (a3 : Int) : Option (Int × Int × Int) :=
(idx a0 a2).bind fun x1 =>
(idx a0 a1).bind fun x2 =>
(M.cmp_Less_int N x1 x2).bind fun y3 =>
(if y3 = true then
some (a2, a1, IntKind.i64.wrap (a3 + (1 : Int)))
else
some (a1, a2, a3))
noncomputable def S210 (N : Nat) : Sig := { inn := ⟨[(0, .val false (.leaf (.slice rInt))), (1, .val false (.leaf rInt)), (2, .val false (.leaf rInt)), (3, .ptr 0 [] 0)], [(0, .box 3 (.leaf rInt))], [], 1⟩, out := ⟨[(0, .val false (.leaf rInt)), (1, .val false (.leaf rInt))], [(0, .box 3 (.leaf rInt))], [], 2⟩, fn := fun (x : (List Int) × Int × Int × Int) => M.slices_order2Ordered_int N x.1 x.2.1 x.2.2.1 x.2.2.2 }
theorem W210 (N : Nat) : FnOK Tryz.prog 210 (S210 N) := fn_ok (E := ⟨tabs, [(197, S197 N)], (tabcons (W197 N) tabnil), mixed, false, false⟩) (N := N) (a := .nil) (sg := S210 N) (c := Tryz.f210.body.getD .skip) (rs := Tryz.f210.results.toList) Tryz.func210 (by kernel_rfl) (by kernel_rfl) rfl rfl rfl rfl (fun x => by kernel_rfl)
noncomputable def M.slices_medianOrdered_int (N : Nat) (a0 : List Int) (a1 : Int) (a2 : Int) (a3 : Int) (a4 : Int) : Option (Int × Int) :=
(M.slices_order2Ordered_int N a0 a1 a2 a4).bind fun y1 =>
(M.slices_order2Ordered_int N a0 y1.2.1 a3 y1.2.2).bind fun y2 =>
(M.slices_order2Ordered_int N a0 y1.1 y2.1 y2.2.2).bind fun y3 =>
some (y3.2.1, y3.2.2)
noncomputable def S208 (N : Nat) : Sig := { inn := ⟨[(0, .val false (.leaf (.slice rInt))), (1, .val false (.leaf rInt)), (2, .val false (.leaf rInt)), (3, .val false (.leaf rInt)), (4, .ptr 0 [] 0)], [(0, .box 3 (.leaf rInt))], [], 1⟩, out := ⟨[(0, .val false (.leaf rInt))], [(0, .box 3 (.leaf rInt))], [], 2⟩, fn := fun (x : (List Int) × Int × Int × Int × Int) => M.slices_medianOrdered_int N x.1 x.2.1 x.2.2.1 x.2.2.2.1 x.2.2.2.2 }
theorem W208 (N : Nat) : FnOK Tryz.prog 208 (S208 N) := fn_ok (E := ⟨tabs, [(210, S210 N)], (tabcons (W210 N) tabnil), mixed, false, false⟩) (N := N) (a := .nil) (sg := S208 N) (c := Tryz.f208.body.getD .skip) (rs := Tryz.f208.results.toList) Tryz.func208 (by kernel_rfl) (by kernel_rfl) rfl rfl rfl rfl (fun x => by kernel_rfl)
noncomputable def M.slices_medianAdjacentOrdered_int (N : Nat) (a0 : List Int) (a1 : Int) (a2 : Int) : Option (Int × Int) :=
(M.slices_medianOrdered_int N a0 (IntKind.i64.wrap (a1 - (1 : Int))) a1 (IntKind.i64.wrap (a1 + (1 : Int))) a2).bind fun y1 =>
some (y1.1, y1.2)
noncomputable def S207 (N : Nat) : Sig := { inn := ⟨[(0, .val false (.leaf (.slice rInt))), (1, .val false (.leaf rInt)), (2, .ptr 0 [] 0)], [(0, .box 3 (.leaf rInt))], [], 1⟩, out := ⟨[(0, .val false (.leaf rInt))], [(0, .box 3 (.leaf rInt))], [], 2⟩, fn := fun (x : (List Int) × Int × Int) => M.slices_medianAdjacentOrdered_int N x.1 x.2.1 x.2.2 }
theorem W207 (N : Nat) : FnOK Tryz.prog 207 (S207 N) := fn_ok (E := ⟨tabs, [(208, S208 N)], (tabcons (W208 N) tabnil), mixed, false, false⟩) (N := N) (a := .nil) (sg := S207 N) (c := Tryz.f207.body.getD .skip) (rs := Tryz.f207.results.toList) Tryz.func207 (by kernel_rfl) (by kernel_rfl) rfl rfl rfl rfl (fun x => by kernel_rfl)
noncomputable def M.slices_choosePivotOrdered_int (N : Nat) (a0 : List Int) (a1 : Int) (a2 : Int) : Option (Int × Int) :=
((if (decide ((8 : Int) ≤ (IntKind.i64.wrap (a2 - a1)))) = true then
((if (decide ((50 : Int) ≤ (IntKind.i64.wrap (a2 - a1)))) = true then
(M.slices_medianAdjacentOrdered_int N a0 (IntKind.i64.wrap (a1 + (IntKind.i64.wrap ((IntKind.i64.wrap (Int.tdiv (IntKind.i64.wrap (a2 - a1)) (4 : Int))) * (1 : Int))))) (0 : Int)).bind fun y3 =>
(M.slices_medianAdjacentOrdered_int N a0 (IntKind.i64.wrap (a1 + (IntKind.i64.wrap ((IntKind.i64.wrap (Int.tdiv (IntKind.i64.wrap (a2 - a1)) (4 : Int))) * (2 : Int))))) y3.2).bind fun y4 =>
(M.slices_medianAdjacentOrdered_int N a0 (IntKind.i64.wrap (a1 + (IntKind.i64.wrap ((IntKind.i64.wrap (Int.tdiv (IntKind.i64.wrap (a2 - a1)) (4 : Int))) * (3 : Int))))) y4.2).bind fun y5 =>
some (y3.1, y4.1, y5.1, y5.2)
else
some (IntKind.i64.wrap (a1 + (IntKind.i64.wrap ((IntKind.i64.wrap (Int.tdiv (IntKind.i64.wrap (a2 - a1)) (4 : Int))) * (1 : Int)))), IntKind.i64.wrap (a1 + (IntKind.i64.wrap ((IntKind.i64.wrap (Int.tdiv (IntKind.i64.wrap (a2 - a1)) (4 : Int))) * (2 : Int)))), IntKind.i64.wrap (a1 + (IntKind.i64.wrap ((IntKind.i64.wrap (Int.tdiv (IntKind.i64.wrap (a2 - a1)) (4 : Int))) * (3 : Int)))), (0 : Int))) : Option (Int × Int × Int × Int)).bind fun j2 =>
(M.slices_medianOrdered_int N a0 j2.1 j2.2.1 j2.2.2.1 j2.2.2.2).bind fun y6 =>
some (y6.1, y6.2)
else
some (IntKind.i64.wrap (a1 + (IntKind.i64.wrap ((IntKind.i64.wrap (Int.tdiv (IntKind.i64.wrap (a2 - a1)) (4 : Int))) * (2 : Int)))), (0 : Int))) : Option (Int × Int)).bind fun j1 =>
(if (decide (j1.2 = (0 : Int))) = true then
some (j1.1, (1 : Int))
else
(if (decide (j1.2 = (12 : Int))) = true then
some (j1.1, (2 : Int))
else
some (j1.1, (0 : Int))))
noncomputable def S194 (N : Nat) : Sig := { inn := ⟨[(0, .val false (.leaf (.slice rInt))), (1, .val false (.leaf rInt)), (2, .val false (.leaf rInt))], [], [], 0⟩, out := ⟨[(0, .val false (.leaf rInt)), (1, .val false (.leaf rInt))], [], [], 0⟩, fn := fun (x : (List Int) × Int × Int) => M.slices_choosePivotOrdered_int N x.1 x.2.1 x.2.2 }
theorem W194 (N : Nat) : FnOK Tryz.prog 194 (S194 N) := fn_ok (E := ⟨tabs, [(207, S207 N), (208, S208 N)], (tabcons (W207 N) (tabcons (W208 N) tabnil)), mixed, false, false⟩) (N := N) (a := (.two .nil (.two .nil (.two .nil (.two .nil (.two .nil (.two .nil (.meet ⟨[(11, .val false (.leaf rInt))], [(96, .box 3 (.leaf rInt))], [], 401⟩ (.two .nil (.two (.meet ⟨[(10, .val false (.leaf rInt)), (11, .val false (.leaf rInt)), (12, .val false (.leaf rInt))], [(96, .box 3 (.leaf rInt))], [], 433⟩ .nil .nil) .nil)) .nil)))))))) (sg := S194 N) (c := Tryz.f194.body.getD .skip) (rs := Tryz.f194.results.toList) Tryz.func194 (by kernel_rfl) (by kernel_rfl) rfl rfl rfl rfl (fun x => by kernel_rfl)
end Go.Proofs.YtjeeligfdpociaaGreat
