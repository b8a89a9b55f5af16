/- Written by rx.py: models and walks. -/
import Derived.Test.YtkkinabadiaieaaFn
import Derived.Test.YtkkinabadiaieaaProg
namespace Go.Proofs.Ytkkinabadiaieaa
open Go Go.RowKit
set_option maxRecDepth 100000
set_option linter.unusedVariables false

@[reducible] def rruletree_tree : Row := .pair (.slice rInt) (.pair (.slice rInt) (.slice rInt))
theorem Ti3 : TI Try.prog 3 rInt := TI.mk (k := 1) (by kernel_rfl) rfl
theorem Ti4 : TI Try.prog 4 .bool := TI.mk (k := 1) (by kernel_rfl) rfl
theorem Ti22 : TI Try.prog 22 (.slice rInt) := TI.mk (k := 1) (by kernel_rfl) rfl
theorem Ti36 : TI Try.prog 36 rruletree_tree := TI.mk (k := 3) (by kernel_rfl) rfl
theorem tu : ∀ p ∈ ([(3, .int .i64), (4, .bool), (5, .int .u8), (22, .slice 3), (23, .slice 4), (36, .struct [(22, 0), (22, 1), (22, 2)])] : List (Nat × TyK)), TyKOK Try.prog p.1 p.2 := by
  simp only [List.forall_mem_cons]
  exact ⟨Try.underlying3, Try.underlying4, Try.underlying5, Try.underlying22, Try.underlying23, ⟨_, Try.underlying36, rfl⟩,  fun _ h => absurd h (by simp)⟩
theorem tr : ∀ p ∈ ([(3, rInt), (4, .bool), (22, (.slice rInt)), (36, rruletree_tree)] : List (Nat × Row)), TI Try.prog p.1 p.2 := by
  simp only [List.forall_mem_cons]
  exact ⟨Ti3, Ti4, Ti22, Ti36,  fun _ h => absurd h (by simp)⟩
def tabs : Tabs Try.prog := ⟨_, _, [], forall_find tu, forall_find tr, fun _ _ h => by cases h⟩
theorem mixed : Try.prog.follows .mixedOrders = true := by kernel_rfl
noncomputable def M.ruletree_Validate (N : Nat) (a0 : List Int) (a1 : List Int) : Option (Int) :=
(if (!decide ((a0.length : Int) = (a1.length : Int))) = true then
some (2 : Int)
else
(if (decide ((8 : Int) < (a0.length : Int))) = true then
some (4 : Int)
else
Loop (S := Int) (X := Int) (fun s1 =>
(if (decide (s1 < (a0.length : Int))) = true then
(idx a0 s1).bind fun x2 =>
((if (decide (x2 < (-1 : Int))) = true then
some true
else
some (decide (s1 ≤ x2))) : Option (Bool)).bind fun j3 =>
(if j3 = true then
some (Sum.inr (9 : Int))
else
((idx a1 s1).bind fun x5 =>
(if (decide (x5 < (0 : Int))) = true then
some true
else
(idx a1 s1).bind fun x6 =>
some (decide ((9 : Int) < x6))) : Option (Bool)).bind fun j4 =>
(if j4 = true then
some (Sum.inr (3 : Int))
else
some (Sum.inl (IntKind.i64.wrap (s1 + (1 : Int))))))
else
some (Sum.inr (0 : Int)))) N (0 : Int)))
noncomputable def S11 (N : Nat) : Sig := { inn := ⟨[(0, .val false (.leaf (.slice rInt))), (1, .val false (.leaf (.slice rInt)))], [], [], 0⟩, out := ⟨[(0, .val false (.leaf rInt))], [], [], 0⟩, fn := fun (x : (List Int) × List Int) => M.ruletree_Validate N x.1 x.2 }
theorem W11 (N : Nat) : FnOK Try.prog 11 (S11 N) := fn_ok (E := ⟨tabs, [], tabnil, mixed⟩) (N := N) (a := (.two .nil (.two .nil (.two .nil (.two (.two .nil (.two (.loop ⟨[(17, .val false (.leaf rInt))], [], [], 192⟩ (.two .nil (.two .nil (.two (.two (.two .nil (.two (.meet ⟨[(28, .val false (.leaf .bool))], [], [], 288⟩ .nil .nil) (.meet ⟨[(40, .val false (.leaf .bool))], [], [], 288⟩ .nil .nil))) .nil) .nil)))) .nil)) .nil))))) (sg := S11 N) (c := Try.f11.body.getD .skip) (rs := Try.f11.results.toList) Try.func11 (by kernel_rfl) (by kernel_rfl) rfl rfl rfl rfl (fun x => by kernel_rfl)
noncomputable def M.ruletree_Children (N : Nat) (a0 : List Int) (a1 : Int) : Option (List Int) :=
Loop (S := Int × List Int) (X := List Int) (fun s1 =>
(if (decide (s1.1 < (a0.length : Int))) = true then
((idx a0 s1.1).bind fun x3 =>
(if (decide (x3 = a1)) = true then
(appA s1.2 ([s1.1] : List Int)).bind fun l4 =>
some l4
else
some s1.2) : Option (List Int)).bind fun j2 =>
some (Sum.inl (IntKind.i64.wrap (s1.1 + (1 : Int)), j2))
else
some (Sum.inr s1.2))) N ((0 : Int), ([] : List Int))
noncomputable def S19 (N : Nat) : Sig := { inn := ⟨[(0, .val false (.leaf (.slice rInt))), (1, .val false (.leaf rInt))], [], [], 0⟩, out := ⟨[(0, .val false (.own 0))], [(0, .own 3 rInt)], [], 1⟩, fn := fun (x : (List Int) × Int) => M.ruletree_Children N x.1 x.2 }
theorem W19 (N : Nat) : FnOK Try.prog 19 (S19 N) := fn_ok (E := ⟨tabs, [], tabnil, mixed⟩) (N := N) (a := (.two .nil (.two .nil (.two (.two .nil (.two (.loop ⟨[(5, .val false (.own 80)), (10, .val false (.leaf rInt))], [(80, .own 3 rInt)], [], 81⟩ (.two .nil (.two .nil (.two (.meet ⟨[(5, .val false (.own 97))], [(97, .own 3 rInt)], [80], 98⟩ .nil .nil) .nil)))) .nil)) .nil)))) (sg := S19 N) (c := Try.f19.body.getD .skip) (rs := Try.f19.results.toList) Try.func19 (by kernel_rfl) (by kernel_rfl) rfl rfl rfl rfl (fun x => by kernel_rfl)
noncomputable def M.ruletree_tree_best (N : Nat) (a0 : rruletree_tree.den) (a1 : Int) : Option (List Int) :=
(M.ruletree_Children N a0.1 a1).bind fun y1 =>
Loop (S := Int × List Int) (X := List Int) (fun s2 =>
(if (decide (s2.1 < (y1.length : Int))) = true then
((idx y1 s2.1).bind fun x4 =>
(idx a0.2.2 x4).bind fun x5 =>
(if (decide (x5 = (-1 : Int))) = true then
some s2.2
else
(((if (decide ((0 : Int) < (s2.2.length : Int))) = true then
(idx a0.2.1 x4).bind fun x8 =>
(idx s2.2 (0 : Int)).bind fun x9 =>
(idx a0.2.1 x9).bind fun x10 =>
some (decide (x10 < x8))
else
some false) : Option (Bool)).bind fun j7 =>
(if j7 = true then
(cutA s2.2 (0 : Int) (0 : Int)).bind fun l11 =>
some l11
else
some s2.2) : Option (List Int)).bind fun j6 =>
((if (decide ((j6.length : Int) = (0 : Int))) = true then
some true
else
(idx a0.2.1 x4).bind fun x13 =>
(idx j6 (0 : Int)).bind fun x14 =>
(idx a0.2.1 x14).bind fun x15 =>
some (decide (x13 = x15))) : Option (Bool)).bind fun j12 =>
(if j12 = true then
(appA j6 ([x4] : List Int)).bind fun l16 =>
some l16
else
some j6)) : Option (List Int)).bind fun j3 =>
some (Sum.inl (IntKind.i64.wrap (s2.1 + (1 : Int)), j3))
else
some (Sum.inr s2.2))) N ((0 : Int), ([] : List Int))
noncomputable def S14 (N : Nat) : Sig := { inn := ⟨[(0, .val true (.leaf rruletree_tree)), (1, .val false (.leaf rInt))], [], [], 0⟩, out := ⟨[(0, .val false (.own 0))], [(0, .own 3 rInt)], [], 1⟩, fn := fun (x : rruletree_tree.den × Int) => M.ruletree_tree_best N x.1 x.2 }
theorem W14 (N : Nat) : FnOK Try.prog 14 (S14 N) := fn_ok (E := ⟨tabs, [(19, S19 N)], (tabcons (W19 N) tabnil), mixed⟩) (N := N) (a := (.two .nil (.two .nil (.two (.two .nil (.two (.loop ⟨[(5, .val false (.own 144)), (13, .val false (.leaf rInt))], [(144, .own 3 rInt)], [], 145⟩ (.two .nil (.two .nil (.two (.meet ⟨[(5, .val false (.own 161))], [(161, .own 3 rInt)], [144], 162⟩ (.two .nil (.two .nil (.meet ⟨[(5, .val false (.own 305))], [(305, .own 3 rInt)], [144], 306⟩ (.meet ⟨[(40, .val false (.leaf .bool))], [], [], 305⟩ .nil .nil) (.meet ⟨[(60, .val false (.leaf .bool))], [], [], 306⟩ .nil .nil)))) .nil) .nil)))) .nil)) .nil)))) (sg := S14 N) (c := Try.f14.body.getD .skip) (rs := Try.f14.results.toList) Try.func14 (by kernel_rfl) (by kernel_rfl) rfl rfl rfl rfl (fun x => by kernel_rfl)
noncomputable def M.ruletree_tree_ofChildren (N : Nat) (a0 : rruletree_tree.den) (a1 : Int) : Option (Int) :=
(M.ruletree_tree_best N a0 a1).bind fun y1 =>
(if (decide ((y1.length : Int) = (0 : Int))) = true then
some (-1 : Int)
else
(if (decide ((y1.length : Int) = (1 : Int))) = true then
(idx y1 (0 : Int)).bind fun x2 =>
(idx a0.2.2 x2).bind fun x3 =>
some x3
else
some (-2 : Int)))
noncomputable def S16 (N : Nat) : Sig := { inn := ⟨[(0, .val true (.leaf rruletree_tree)), (1, .val false (.leaf rInt))], [], [], 0⟩, out := ⟨[(0, .val false (.leaf rInt))], [], [], 0⟩, fn := fun (x : rruletree_tree.den × Int) => M.ruletree_tree_ofChildren N x.1 x.2 }
theorem W16 (N : Nat) : FnOK Try.prog 16 (S16 N) := fn_ok (E := ⟨tabs, [(14, S14 N)], (tabcons (W14 N) tabnil), mixed⟩) (N := N) (a := .nil) (sg := S16 N) (c := Try.f16.body.getD .skip) (rs := Try.f16.results.toList) Try.func16 (by kernel_rfl) (by kernel_rfl) rfl rfl rfl rfl (fun x => by kernel_rfl)
noncomputable def M.ruletree_outcomes (N : Nat) (a0 : List Int) (a1 : List Int) (a2 : List Bool) : Option (List Int) :=
(mkL (a0.length : Int) (0 : Int)).bind fun l1 =>
Loop (S := Int × List Int) (X := List Int) (fun s2 =>
(if (decide ((0 : Int) ≤ s2.1)) = true then
((M.ruletree_tree_ofChildren N (a0, (a1, s2.2)) s2.1).bind fun y4 =>
(idx s2.2 s2.1).bind fun x5 =>
((idx (setL s2.2 s2.1 y4) s2.1).bind fun x7 =>
(if (decide (x7 = (-1 : Int))) = true then
(idx a2 s2.1).bind fun x8 =>
some x8
else
some false) : Option (Bool)).bind fun j6 =>
(if j6 = true then
(idx (setL s2.2 s2.1 y4) s2.1).bind fun x9 =>
some (setL (setL s2.2 s2.1 y4) s2.1 s2.1)
else
some (setL s2.2 s2.1 y4)) : Option (List Int)).bind fun j3 =>
some (Sum.inl (IntKind.i64.wrap (s2.1 - (1 : Int)), j3))
else
some (Sum.inr s2.2))) N (IntKind.i64.wrap ((a0.length : Int) - (1 : Int)), l1)
noncomputable def S13 (N : Nat) : Sig := { inn := ⟨[(0, .val false (.leaf (.slice rInt))), (1, .val false (.leaf (.slice rInt))), (2, .val false (.leaf (.slice .bool)))], [], [], 0⟩, out := ⟨[(0, .val false (.own 0))], [(0, .own 3 rInt)], [], 1⟩, fn := fun (x : (List Int) × (List Int) × List Bool) => M.ruletree_outcomes N x.1 x.2.1 x.2.2 }
theorem W13 (N : Nat) : FnOK Try.prog 13 (S13 N) := fn_ok (E := ⟨tabs, [(16, S16 N)], (tabcons (W16 N) tabnil), mixed⟩) (N := N) (a := (.two .nil (.two .nil (.two (.two .nil (.two (.loop ⟨[(8, .val false (.leaf rInt))], [(80, .own 3 rInt)], [], 209⟩ (.two .nil (.two (.meet ⟨[], [(80, .own 3 rInt)], [], 242⟩ (.two .nil (.meet ⟨[(40, .val false (.leaf .bool))], [], [], 369⟩ .nil .nil)) .nil) .nil))) .nil)) .nil)))) (sg := S13 N) (c := Try.f13.body.getD .skip) (rs := Try.f13.results.toList) Try.func13 (by kernel_rfl) (by kernel_rfl) rfl rfl rfl rfl (fun x => by kernel_rfl)
noncomputable def M.ruletree_Select (N : Nat) (a0 : List Int) (a1 : List Int) (a2 : List Bool) : Option (Int) :=
((M.ruletree_Validate N a0 a1).bind fun y2 =>
(if (!decide (y2 = (0 : Int))) = true then
some true
else
some (!decide ((a2.length : Int) = (a0.length : Int)))) : Option (Bool)).bind fun j1 =>
(if j1 = true then
some (-1 : Int)
else
(M.ruletree_outcomes N a0 a1 a2).bind fun y3 =>
(M.ruletree_tree_ofChildren N (a0, (a1, y3)) (-1 : Int)).bind fun y4 =>
some y4)
noncomputable def S9 (N : Nat) : Sig := { inn := ⟨[(0, .val false (.leaf (.slice rInt))), (1, .val false (.leaf (.slice rInt))), (2, .val false (.leaf (.slice .bool)))], [], [], 0⟩, out := ⟨[(0, .val false (.leaf rInt))], [], [], 0⟩, fn := fun (x : (List Int) × (List Int) × List Bool) => M.ruletree_Select N x.1 x.2.1 x.2.2 }
theorem W9 (N : Nat) : FnOK Try.prog 9 (S9 N) := fn_ok (E := ⟨tabs, [(11, S11 N), (13, S13 N), (16, S16 N)], (tabcons (W11 N) (tabcons (W13 N) (tabcons (W16 N) tabnil))), mixed⟩) (N := N) (a := (.two .nil (.two (.meet ⟨[(17, .val false (.leaf .bool))], [], [], 16⟩ .nil .nil) .nil))) (sg := S9 N) (c := Try.f9.body.getD .skip) (rs := Try.f9.results.toList) Try.func9 (by kernel_rfl) (by kernel_rfl) rfl rfl rfl rfl (fun x => by kernel_rfl)
noncomputable def M.ruletree_FindConflict (N : Nat) (a0 : List Int) (a1 : List Int) (a2 : List Bool) : Option (Int × Int × Bool) :=
(M.ruletree_Select N a0 a1 a2).bind fun y1 =>
(if (!decide (y1 = (-2 : Int))) = true then
some ((0 : Int), (0 : Int), false)
else
(M.ruletree_outcomes N a0 a1 a2).bind fun y2 =>
(M.ruletree_tree_best N (a0, (a1, y2)) (-1 : Int)).bind fun y3 =>
(Loop (S := List Int) (X := List Int) (fun s5 =>
(if (decide ((s5.length : Int) = (1 : Int))) = true then
(idx s5 (0 : Int)).bind fun x6 =>
(M.ruletree_tree_best N (a0, (a1, y2)) x6).bind fun y7 =>
some (Sum.inl y7)
else
some (Sum.inr s5))) N y3 : Option (List Int)).bind fun j4 =>
(if (decide ((j4.length : Int) < (2 : Int))) = true then
some ((0 : Int), (0 : Int), false)
else
(idx j4 (0 : Int)).bind fun x8 =>
(idx j4 (1 : Int)).bind fun x9 =>
some (x8, x9, true)))
noncomputable def S7 (N : Nat) : Sig := { inn := ⟨[(0, .val false (.leaf (.slice rInt))), (1, .val false (.leaf (.slice rInt))), (2, .val false (.leaf (.slice .bool)))], [], [], 0⟩, out := ⟨[(0, .val false (.leaf rInt)), (1, .val false (.leaf rInt)), (2, .val false (.leaf .bool))], [], [], 0⟩, fn := fun (x : (List Int) × (List Int) × List Bool) => M.ruletree_FindConflict N x.1 x.2.1 x.2.2 }
theorem W7 (N : Nat) : FnOK Try.prog 7 (S7 N) := fn_ok (E := ⟨tabs, [(9, S9 N), (13, S13 N), (14, S14 N)], (tabcons (W9 N) (tabcons (W13 N) (tabcons (W14 N) tabnil))), mixed⟩) (N := N) (a := (.two .nil (.two .nil (.two .nil (.two .nil (.meet ⟨[(10, .val false (.own 320))], [(320, .own 3 rInt)], [288], 321⟩ (.two (.loop ⟨[(10, .val false (.own 320))], [(320, .own 3 rInt)], [288], 321⟩ .nil) .nil) .nil)))))) (sg := S7 N) (c := Try.f7.body.getD .skip) (rs := Try.f7.results.toList) Try.func7 (by kernel_rfl) (by kernel_rfl) rfl rfl rfl rfl (fun x => by kernel_rfl)
noncomputable def M.ruletree_Path (N : Nat) (a0 : List Int) (a1 : Int) : Option (List Int) :=
((if (decide (a1 < (0 : Int))) = true then
some true
else
some (decide ((a0.length : Int) ≤ a1))) : Option (Bool)).bind fun j1 =>
(if j1 = true then
some ([] : List Int)
else
Loop (S := Int × List Int) (X := List Int) (fun s2 =>
((idx a0 s2.1).bind fun x4 =>
(if (decide ((0 : Int) ≤ x4)) = true then
(idx a0 s2.1).bind fun x5 =>
some (decide (x5 < s2.1))
else
some false) : Option (Bool)).bind fun j3 =>
(if j3 = true then
(idx a0 s2.1).bind fun x6 =>
(appA s2.2 ([x6] : List Int)).bind fun l7 =>
some (Sum.inl (x6, l7))
else
some (Sum.inr s2.2))) N (a1, ([a1] : List Int)))
noncomputable def S12 (N : Nat) : Sig := { inn := ⟨[(0, .val false (.leaf (.slice rInt))), (1, .val false (.leaf rInt))], [], [], 0⟩, out := ⟨[(0, .val false (.own 0))], [(0, .own 3 rInt)], [], 1⟩, fn := fun (x : (List Int) × Int) => M.ruletree_Path N x.1 x.2 }
theorem W12 (N : Nat) : FnOK Try.prog 12 (S12 N) := fn_ok (E := ⟨tabs, [], tabnil, mixed⟩) (N := N) (a := (.two .nil (.two (.meet ⟨[(13, .val false (.leaf .bool))], [], [], 16⟩ .nil .nil) (.two .nil (.two (.two (.loop ⟨[(1, .val false (.leaf rInt)), (5, .val false (.own 64))], [(64, .own 3 rInt)], [32], 65⟩ (.two (.meet ⟨[(28, .val false (.leaf .bool))], [], [], 65⟩ .nil .nil) .nil)) .nil) .nil))))) (sg := S12 N) (c := Try.f12.body.getD .skip) (rs := Try.f12.results.toList) Try.func12 (by kernel_rfl) (by kernel_rfl) rfl rfl rfl rfl (fun x => by kernel_rfl)
noncomputable def M.law14_awake (N : Nat) : Option (Bool) :=
(M.ruletree_FindConflict N ([(-1 : Int), (0 : Int), (0 : Int)] : List Int) ([(0 : Int), (0 : Int), (0 : Int)] : List Int) ([true, true, true] : List Bool)).bind fun y1 =>
((if (decide (y1.1 = (1 : Int))) = true then
(if (decide (y1.2.1 = (2 : Int))) = true then
(if y1.2.2 = true then
(M.ruletree_Select N ([(-1 : Int), (0 : Int), (0 : Int)] : List Int) ([(0 : Int), (0 : Int), (0 : Int)] : List Int) ([true, true, true] : List Bool)).bind fun y3 =>
(if (decide (y3 = (-2 : Int))) = true then
(M.ruletree_Select N ([(-1 : Int), (0 : Int)] : List Int) ([(0 : Int), (0 : Int)] : List Int) ([true, true] : List Bool)).bind fun y4 =>
(if (decide (y4 = (1 : Int))) = true then
(M.ruletree_Select N ([(-1 : Int)] : List Int) ([(0 : Int)] : List Int) ([true] : List Bool)).bind fun y5 =>
(if (decide (y5 = (0 : Int))) = true then
(M.ruletree_Select N ([(-1 : Int)] : List Int) ([(0 : Int)] : List Int) ([false] : List Bool)).bind fun y6 =>
(if (decide (y6 = (-1 : Int))) = true then
(M.ruletree_Validate N ([(0 : Int)] : List Int) ([(0 : Int)] : List Int)).bind fun y7 =>
(if (decide (y7 = (9 : Int))) = true then
(M.ruletree_Path N ([(-1 : Int), (0 : Int)] : List Int) (1 : Int)).bind fun y8 =>
some (decide ((y8.length : Int) = (2 : Int)))
else
some false)
else
some false)
else
some false)
else
some false)
else
some false)
else
some false)
else
some false)
else
some false) : Option (Bool)).bind fun j2 =>
some j2
noncomputable def S6 (N : Nat) : Sig := { inn := ⟨[], [], [], 0⟩, out := ⟨[(0, .val false (.leaf .bool))], [], [], 0⟩, fn := fun (x : Unit) => M.law14_awake N }
theorem W6 (N : Nat) : FnOK Try.prog 6 (S6 N) := fn_ok (E := ⟨tabs, [(7, S7 N), (9, S9 N), (11, S11 N), (12, S12 N)], (tabcons (W7 N) (tabcons (W9 N) (tabcons (W11 N) (tabcons (W12 N) tabnil)))), mixed⟩) (N := N) (a := (.two .nil (.two .nil (.meet ⟨[(0, .val false (.leaf .bool))], [], [], 192⟩ .nil .nil)))) (sg := S6 N) (c := Try.f6.body.getD .skip) (rs := Try.f6.results.toList) Try.func6 (by kernel_rfl) (by kernel_rfl) rfl rfl rfl rfl (fun x => by kernel_rfl)
noncomputable def M.ref14_Validate (N : Nat) (a0 : List Int) (a1 : List Int) : Option (Int) :=
(if (!decide ((a0.length : Int) = (a1.length : Int))) = true then
some (2 : Int)
else
(if (decide ((8 : Int) < (a0.length : Int))) = true then
some (4 : Int)
else
Loop (S := Int) (X := Int) (fun s1 =>
(if (decide (s1 < (a0.length : Int))) = true then
((idx a0 s1).bind fun x3 =>
(if (decide (x3 < (-1 : Int))) = true then
some true
else
(idx a0 s1).bind fun x4 =>
some (decide (s1 ≤ x4))) : Option (Bool)).bind fun j2 =>
(if j2 = true then
some (Sum.inr (9 : Int))
else
((idx a1 s1).bind fun x6 =>
(if (decide (x6 < (0 : Int))) = true then
some true
else
(idx a1 s1).bind fun x7 =>
some (decide ((9 : Int) < x7))) : Option (Bool)).bind fun j5 =>
(if j5 = true then
some (Sum.inr (3 : Int))
else
some (Sum.inl (IntKind.i64.wrap (s1 + (1 : Int))))))
else
some (Sum.inr (0 : Int)))) N (0 : Int)))
noncomputable def S17 (N : Nat) : Sig := { inn := ⟨[(0, .val false (.leaf (.slice rInt))), (1, .val false (.leaf (.slice rInt)))], [], [], 0⟩, out := ⟨[(0, .val false (.leaf rInt))], [], [], 0⟩, fn := fun (x : (List Int) × List Int) => M.ref14_Validate N x.1 x.2 }
theorem W17 (N : Nat) : FnOK Try.prog 17 (S17 N) := fn_ok (E := ⟨tabs, [], tabnil, mixed⟩) (N := N) (a := (.two .nil (.two .nil (.two .nil (.two (.two .nil (.two (.loop ⟨[(5, .val false (.leaf rInt))], [], [], 160⟩ (.two .nil (.two (.two (.two (.meet ⟨[(32, .val false (.leaf .bool))], [], [], 224⟩ .nil .nil) (.meet ⟨[(44, .val false (.leaf .bool))], [], [], 224⟩ .nil .nil)) .nil) .nil))) .nil)) .nil))))) (sg := S17 N) (c := Try.f17.body.getD .skip) (rs := Try.f17.results.toList) Try.func17 (by kernel_rfl) (by kernel_rfl) rfl rfl rfl rfl (fun x => by kernel_rfl)
noncomputable def M.ref14_Children (N : Nat) (a0 : List Int) (a1 : Int) : Option (List Int) :=
Loop (S := Int × List Int) (X := List Int) (fun s1 =>
(if (decide (s1.1 < (a0.length : Int))) = true then
((idx a0 s1.1).bind fun x3 =>
(if (decide (x3 = a1)) = true then
(appA s1.2 ([s1.1] : List Int)).bind fun l4 =>
some l4
else
some s1.2) : Option (List Int)).bind fun j2 =>
some (Sum.inl (IntKind.i64.wrap (s1.1 + (1 : Int)), j2))
else
some (Sum.inr s1.2))) N ((0 : Int), ([] : List Int))
noncomputable def S20 (N : Nat) : Sig := { inn := ⟨[(0, .val false (.leaf (.slice rInt))), (1, .val false (.leaf rInt))], [], [], 0⟩, out := ⟨[(0, .val false (.own 0))], [(0, .own 3 rInt)], [], 1⟩, fn := fun (x : (List Int) × Int) => M.ref14_Children N x.1 x.2 }
theorem W20 (N : Nat) : FnOK Try.prog 20 (S20 N) := fn_ok (E := ⟨tabs, [], tabnil, mixed⟩) (N := N) (a := (.two .nil (.two .nil (.two (.two .nil (.two (.loop ⟨[(5, .val false (.own 64)), (6, .val false (.leaf rInt))], [(64, .own 3 rInt)], [16], 65⟩ (.two .nil (.two (.meet ⟨[(5, .val false (.own 129))], [(129, .own 3 rInt)], [64], 130⟩ .nil .nil) .nil))) .nil)) .nil)))) (sg := S20 N) (c := Try.f20.body.getD .skip) (rs := Try.f20.results.toList) Try.func20 (by kernel_rfl) (by kernel_rfl) rfl rfl rfl rfl (fun x => by kernel_rfl)
mutual
noncomputable def M.ref14_best : Nat → (List Int) → (List Int) → (List Bool) → Int → Option (List Int)
  | 0, _, _, _, _ => none
  | N + 1, a0, a1, a2, a3 =>
   (M.ref14_Children N a0 a3).bind fun y2 =>
   Loop (S := Int × List Int) (X := List Int) (fun s101 =>
   (if (decide (s101.1 < (y2.length : Int))) = true then
   ((idx y2 s101.1).bind fun x103 =>
   (M.ref14_outcome N a0 a1 a2 x103).bind fun y104 =>
   (if (decide (y104 = (-1 : Int))) = true then
   some s101.2
   else
   (((if (decide ((0 : Int) < (s101.2.length : Int))) = true then
   (idx y2 s101.1).bind fun x107 =>
   (idx a1 x107).bind fun x108 =>
   (idx s101.2 (0 : Int)).bind fun x109 =>
   (idx a1 x109).bind fun x110 =>
   some (decide (x110 < x108))
   else
   some false) : Option (Bool)).bind fun j106 =>
   (if j106 = true then
   some ([] : List Int)
   else
   some s101.2) : Option (List Int)).bind fun j105 =>
   ((if (decide ((j105.length : Int) = (0 : Int))) = true then
   some true
   else
   (idx y2 s101.1).bind fun x112 =>
   (idx a1 x112).bind fun x113 =>
   (idx j105 (0 : Int)).bind fun x114 =>
   (idx a1 x114).bind fun x115 =>
   some (decide (x113 = x115))) : Option (Bool)).bind fun j111 =>
   (if j111 = true then
   (idx y2 s101.1).bind fun x116 =>
   (appA j105 ([x116] : List Int)).bind fun l117 =>
   some l117
   else
   some j105)) : Option (List Int)).bind fun j102 =>
   some (Sum.inl (IntKind.i64.wrap (s101.1 + (1 : Int)), j102))
   else
   some (Sum.inr s101.2))) N ((0 : Int), ([] : List Int))
noncomputable def M.ref14_children : Nat → (List Int) → (List Int) → (List Bool) → Int → Option (Int)
  | 0, _, _, _, _ => none
  | N + 1, a0, a1, a2, a3 =>
   (M.ref14_best N a0 a1 a2 a3).bind fun y2 =>
   (if (decide ((y2.length : Int) = (0 : Int))) = true then
   some (-1 : Int)
   else
   (if (decide ((1 : Int) < (y2.length : Int))) = true then
   some (-2 : Int)
   else
   (idx y2 (0 : Int)).bind fun x5 =>
   (M.ref14_outcome N a0 a1 a2 x5).bind fun y6 =>
   some y6))
noncomputable def M.ref14_outcome : Nat → (List Int) → (List Int) → (List Bool) → Int → Option (Int)
  | 0, _, _, _, _ => none
  | N + 1, a0, a1, a2, a3 =>
   (M.ref14_children N a0 a1 a2 a3).bind fun y2 =>
   ((if (decide (y2 = (-1 : Int))) = true then
   (idx a2 a3).bind fun x7 =>
   some x7
   else
   some false) : Option (Bool)).bind fun j6 =>
   (if j6 = true then
   some a3
   else
   some y2)
end
noncomputable def S15 (N : Nat) : Sig := { inn := ⟨[(0, .val false (.leaf (.slice rInt))), (1, .val false (.leaf (.slice rInt))), (2, .val false (.leaf (.slice .bool))), (3, .val false (.leaf rInt))], [], [], 0⟩, out := ⟨[(0, .val false (.leaf (.slice rInt)))], [], [], 0⟩, fn := fun (x : (List Int) × (List Int) × (List Bool) × Int) => M.ref14_best N x.1 x.2.1 x.2.2.1 x.2.2.2 }
noncomputable def S18 (N : Nat) : Sig := { inn := ⟨[(0, .val false (.leaf (.slice rInt))), (1, .val false (.leaf (.slice rInt))), (2, .val false (.leaf (.slice .bool))), (3, .val false (.leaf rInt))], [], [], 0⟩, out := ⟨[(0, .val false (.leaf rInt))], [], [], 0⟩, fn := fun (x : (List Int) × (List Int) × (List Bool) × Int) => M.ref14_children N x.1 x.2.1 x.2.2.1 x.2.2.2 }
noncomputable def S21 (N : Nat) : Sig := { inn := ⟨[(0, .val false (.leaf (.slice rInt))), (1, .val false (.leaf (.slice rInt))), (2, .val false (.leaf (.slice .bool))), (3, .val false (.leaf rInt))], [], [], 0⟩, out := ⟨[(0, .val false (.leaf rInt))], [], [], 0⟩, fn := fun (x : (List Int) × (List Int) × (List Bool) × Int) => M.ref14_outcome N x.1 x.2.1 x.2.2.1 x.2.2.2 }
theorem WS15 : ∀ N, FnOK Try.prog 15 (S15 N) ∧ FnOK Try.prog 18 (S18 N) ∧ FnOK Try.prog 21 (S21 N)
  | 0 => ⟨fn_none Try.func15 (by kernel_rfl) (by kernel_rfl) fun _ => rfl, fn_none Try.func18 (by kernel_rfl) (by kernel_rfl) fun _ => rfl, fn_none Try.func21 (by kernel_rfl) (by kernel_rfl) fun _ => rfl⟩
  | N + 1 => ⟨fn_ok (E := ⟨tabs, [(20, S20 N), (21, S21 N)], (tabcons (W20 N) (tabcons ((WS15 N).2.2) tabnil)), mixed⟩) (N := N) (a := (.two .nil (.two .nil (.two .nil (.two (.two .nil (.two (.loop ⟨[(10, .val false (.own 128)), (11, .val false (.leaf rInt))], [(128, .own 3 rInt)], [80], 129⟩ (.two .nil (.two (.meet ⟨[(10, .val false (.own 193))], [(193, .own 3 rInt)], [128], 194⟩ (.two .nil (.meet ⟨[(10, .val false (.own 337))], [(337, .own 3 rInt)], [128], 338⟩ (.meet ⟨[(49, .val false (.leaf .bool))], [], [], 337⟩ .nil .nil) (.meet ⟨[(69, .val false (.leaf .bool))], [], [], 338⟩ .nil .nil))) .nil) .nil))) .nil)) .nil))))) (sg := S15 (N + 1)) (c := Try.f15.body.getD .skip) (rs := Try.f15.results.toList) Try.func15 (by kernel_rfl) (by kernel_rfl) rfl rfl rfl rfl (fun x => by kernel_rfl),
    fn_ok (E := ⟨tabs, [(15, S15 N), (21, S21 N)], (tabcons ((WS15 N).1) (tabcons ((WS15 N).2.2) tabnil)), mixed⟩) (N := N) (a := .nil) (sg := S18 (N + 1)) (c := Try.f18.body.getD .skip) (rs := Try.f18.results.toList) Try.func18 (by kernel_rfl) (by kernel_rfl) rfl rfl rfl rfl (fun x => by kernel_rfl),
    fn_ok (E := ⟨tabs, [(18, S18 N)], (tabcons ((WS15 N).2.1) tabnil), mixed⟩) (N := N) (a := (.two .nil (.two .nil (.two (.meet ⟨[(22, .val false (.leaf .bool))], [], [], 112⟩ .nil .nil) .nil)))) (sg := S21 (N + 1)) (c := Try.f21.body.getD .skip) (rs := Try.f21.results.toList) Try.func21 (by kernel_rfl) (by kernel_rfl) rfl rfl rfl rfl (fun x => by kernel_rfl)⟩
theorem W15 (N : Nat) : FnOK Try.prog 15 (S15 N) := (WS15 N).1
theorem W18 (N : Nat) : FnOK Try.prog 18 (S18 N) := (WS15 N).2.1
theorem W21 (N : Nat) : FnOK Try.prog 21 (S21 N) := (WS15 N).2.2
noncomputable def M.ref14_Select (N : Nat) (a0 : List Int) (a1 : List Int) (a2 : List Bool) : Option (Int) :=
((M.ref14_Validate N a0 a1).bind fun y2 =>
(if (!decide (y2 = (0 : Int))) = true then
some true
else
some (!decide ((a2.length : Int) = (a0.length : Int)))) : Option (Bool)).bind fun j1 =>
(if j1 = true then
some (-1 : Int)
else
(M.ref14_children N a0 a1 a2 (-1 : Int)).bind fun y3 =>
some y3)
noncomputable def S10 (N : Nat) : Sig := { inn := ⟨[(0, .val false (.leaf (.slice rInt))), (1, .val false (.leaf (.slice rInt))), (2, .val false (.leaf (.slice .bool)))], [], [], 0⟩, out := ⟨[(0, .val false (.leaf rInt))], [], [], 0⟩, fn := fun (x : (List Int) × (List Int) × List Bool) => M.ref14_Select N x.1 x.2.1 x.2.2 }
theorem W10 (N : Nat) : FnOK Try.prog 10 (S10 N) := fn_ok (E := ⟨tabs, [(17, S17 N), (18, S18 N)], (tabcons (W17 N) (tabcons (W18 N) tabnil)), mixed⟩) (N := N) (a := (.two .nil (.two (.meet ⟨[(17, .val false (.leaf .bool))], [], [], 16⟩ .nil .nil) .nil))) (sg := S10 N) (c := Try.f10.body.getD .skip) (rs := Try.f10.results.toList) Try.func10 (by kernel_rfl) (by kernel_rfl) rfl rfl rfl rfl (fun x => by kernel_rfl)
noncomputable def M.ref14_FindConflict (N : Nat) (a0 : List Int) (a1 : List Int) (a2 : List Bool) : Option (Int × Int × Bool) :=
(M.ref14_Select N a0 a1 a2).bind fun y1 =>
(if (!decide (y1 = (-2 : Int))) = true then
some ((0 : Int), (0 : Int), false)
else
Loop (S := Int) (X := Int × Int × Bool) (fun s2 =>
(M.ref14_best N a0 a1 a2 s2).bind fun y3 =>
(if (decide ((1 : Int) < (y3.length : Int))) = true then
(idx y3 (0 : Int)).bind fun x4 =>
(idx y3 (1 : Int)).bind fun x5 =>
some (Sum.inr (x4, x5, true))
else
(idx y3 (0 : Int)).bind fun x6 =>
some (Sum.inl x6))) N (-1 : Int))
noncomputable def S8 (N : Nat) : Sig := { inn := ⟨[(0, .val false (.leaf (.slice rInt))), (1, .val false (.leaf (.slice rInt))), (2, .val false (.leaf (.slice .bool)))], [], [], 0⟩, out := ⟨[(0, .val false (.leaf rInt)), (1, .val false (.leaf rInt)), (2, .val false (.leaf .bool))], [], [], 0⟩, fn := fun (x : (List Int) × (List Int) × List Bool) => M.ref14_FindConflict N x.1 x.2.1 x.2.2 }
theorem W8 (N : Nat) : FnOK Try.prog 8 (S8 N) := fn_ok (E := ⟨tabs, [(10, S10 N), (15, S15 N)], (tabcons (W10 N) (tabcons (W15 N) tabnil)), mixed⟩) (N := N) (a := (.two .nil (.two .nil (.two .nil (.two (.loop ⟨[(9, .val false (.leaf rInt))], [], [], 144⟩ .nil) .nil))))) (sg := S8 N) (c := Try.f8.body.getD .skip) (rs := Try.f8.results.toList) Try.func8 (by kernel_rfl) (by kernel_rfl) rfl rfl rfl rfl (fun x => by kernel_rfl)
noncomputable def M.law14_RuletreeSelects (N : Nat) (a0 : List Int) (a1 : List Int) (a2 : List Bool) : Option (Bool) :=
((if (decide ((100 : Int) < (a0.length : Int))) = true then
some true
else
(if (decide ((100 : Int) < (a1.length : Int))) = true then
some true
else
some (decide ((100 : Int) < (a2.length : Int))))) : Option (Bool)).bind fun j1 =>
(if j1 = true then
(M.law14_awake N).bind fun y2 =>
some y2
else
(M.ruletree_FindConflict N a0 a1 a2).bind fun y3 =>
(M.ref14_FindConflict N a0 a1 a2).bind fun y4 =>
((M.ruletree_Select N a0 a1 a2).bind fun y6 =>
(M.ref14_Select N a0 a1 a2).bind fun y7 =>
(if (decide (y6 = y7)) = true then
(if (decide (y3.1 = y4.1)) = true then
(if (decide (y3.2.1 = y4.2.1)) = true then
(if (decide (y3.2.2 = y4.2.2)) = true then
(M.law14_awake N).bind fun y8 =>
some y8
else
some false)
else
some false)
else
some false)
else
some false) : Option (Bool)).bind fun j5 =>
some j5)
noncomputable def S3 (N : Nat) : Sig := { inn := ⟨[(0, .val false (.leaf (.slice rInt))), (1, .val false (.leaf (.slice rInt))), (2, .val false (.leaf (.slice .bool)))], [], [], 0⟩, out := ⟨[(0, .val false (.leaf .bool))], [], [], 0⟩, fn := fun (x : (List Int) × (List Int) × List Bool) => M.law14_RuletreeSelects N x.1 x.2.1 x.2.2 }
theorem W3 (N : Nat) : FnOK Try.prog 3 (S3 N) := fn_ok (E := ⟨tabs, [(6, S6 N), (7, S7 N), (8, S8 N), (9, S9 N), (10, S10 N)], (tabcons (W6 N) (tabcons (W7 N) (tabcons (W8 N) (tabcons (W9 N) (tabcons (W10 N) tabnil))))), mixed⟩) (N := N) (a := (.two .nil (.two (.meet ⟨[(25, .val false (.leaf .bool))], [], [], 16⟩ .nil .nil) (.two .nil (.two .nil (.meet ⟨[(6, .val false (.leaf .bool))], [], [], 368⟩ .nil .nil)))))) (sg := S3 N) (c := Try.f3.body.getD .skip) (rs := Try.f3.results.toList) Try.func3 (by kernel_rfl) (by kernel_rfl) rfl rfl rfl rfl (fun x => by kernel_rfl)
noncomputable def M.law14_RuletreeMonotone (N : Nat) (a0 : List Int) (a1 : List Int) (a2 : List Bool) (a3 : List Bool) : Option (Bool) :=
((if (decide ((100 : Int) < (a0.length : Int))) = true then
some true
else
(if (decide ((100 : Int) < (a1.length : Int))) = true then
some true
else
(if (decide ((100 : Int) < (a2.length : Int))) = true then
some true
else
some (decide ((100 : Int) < (a3.length : Int)))))) : Option (Bool)).bind fun j1 =>
(if j1 = true then
(M.law14_awake N).bind fun y2 =>
some y2
else
(M.ruletree_Select N a0 a1 a2).bind fun y3 =>
((if (decide (y3 = (-1 : Int))) = true then
some true
else
some (decide (y3 = (-2 : Int)))) : Option (Bool)).bind fun j4 =>
(if j4 = true then
(M.law14_awake N).bind fun y5 =>
some y5
else
((if (decide (y3 < (0 : Int))) = true then
some true
else
(if (decide ((a2.length : Int) ≤ y3)) = true then
some true
else
(idx a2 y3).bind fun x7 =>
some (!x7))) : Option (Bool)).bind fun j6 =>
(if j6 = true then
some false
else
(Loop (S := Int × List Bool) (X := List Bool) (fun s9 =>
(if (decide (s9.1 < (a2.length : Int))) = true then
((idx a2 s9.1).bind fun x11 =>
(if x11 = true then
(if (decide (s9.1 = y3)) = true then
(appA s9.2 ([true] : List Bool)).bind fun l12 =>
some l12
else
(if (decide ((a3.length : Int) ≤ s9.1)) = true then
(appA s9.2 ([true] : List Bool)).bind fun l13 =>
some l13
else
(idx a3 s9.1).bind fun x14 =>
(appA s9.2 ([!x14] : List Bool)).bind fun l15 =>
some l15))
else
(appA s9.2 ([false] : List Bool)).bind fun l16 =>
some l16) : Option (List Bool)).bind fun j10 =>
some (Sum.inl (IntKind.i64.wrap (s9.1 + (1 : Int)), j10))
else
some (Sum.inr s9.2))) N ((0 : Int), ([] : List Bool)) : Option (List Bool)).bind fun j8 =>
((M.ruletree_Select N a0 a1 j8).bind fun y18 =>
(if (decide (y18 = y3)) = true then
(M.law14_awake N).bind fun y19 =>
some y19
else
some false) : Option (Bool)).bind fun j17 =>
some j17)))
noncomputable def S4 (N : Nat) : Sig := { inn := ⟨[(0, .val false (.leaf (.slice rInt))), (1, .val false (.leaf (.slice rInt))), (2, .val false (.leaf (.slice .bool))), (3, .val false (.leaf (.slice .bool)))], [], [], 0⟩, out := ⟨[(0, .val false (.leaf .bool))], [], [], 0⟩, fn := fun (x : (List Int) × (List Int) × (List Bool) × List Bool) => M.law14_RuletreeMonotone N x.1 x.2.1 x.2.2.1 x.2.2.2 }
theorem W4 (N : Nat) : FnOK Try.prog 4 (S4 N) := fn_ok (E := ⟨tabs, [(6, S6 N), (9, S9 N)], (tabcons (W6 N) (tabcons (W9 N) tabnil)), mixed⟩) (N := N) (a := (.two .nil (.two (.meet ⟨[(29, .val false (.leaf .bool))], [], [], 16⟩ .nil .nil) (.two .nil (.two (.meet ⟨[(40, .val false (.leaf .bool))], [], [], 96⟩ .nil .nil) (.two (.meet ⟨[(56, .val false (.leaf .bool))], [], [], 96⟩ .nil .nil) (.two .nil (.meet ⟨[(10, .val false (.own 128))], [(128, .own 4 .bool)], [96], 129⟩ (.two .nil (.two (.loop ⟨[(10, .val false (.own 144)), (11, .val false (.leaf rInt))], [(144, .own 4 .bool)], [96], 145⟩ (.two .nil (.two (.meet ⟨[(10, .val false (.own 209))], [(209, .own 4 .bool)], [144], 210⟩ .nil .nil) .nil))) .nil)) (.meet ⟨[(8, .val false (.leaf .bool))], [], [], 129⟩ .nil .nil))))))))) (sg := S4 N) (c := Try.f4.body.getD .skip) (rs := Try.f4.results.toList) Try.func4 (by kernel_rfl) (by kernel_rfl) rfl rfl rfl rfl (fun x => by kernel_rfl)
noncomputable def M.law14_RuletreeExceptions (N : Nat) (a0 : List Int) (a1 : List Int) (a2 : Int) : Option (Bool) :=
((if (decide ((100 : Int) < (a0.length : Int))) = true then
some true
else
(if (decide ((100 : Int) < (a1.length : Int))) = true then
some true
else
(if (decide ((a0.length : Int) = (0 : Int))) = true then
some true
else
(M.ruletree_Validate N a0 a1).bind fun y2 =>
some (!decide (y2 = (0 : Int)))))) : Option (Bool)).bind fun j1 =>
(if j1 = true then
(M.law14_awake N).bind fun y3 =>
some y3
else
(mkL (a0.length : Int) false).bind fun l4 =>
(remA (IntKind.i64.wrap a2) (a0.length : Int)).bind fun x5 =>
(M.ruletree_Path N a0 x5).bind fun y6 =>
Join (J := List Bool) (R := Bool) (Loop (S := Int × List Bool) (X := (List Bool) ⊕ (Bool)) (fun s8 =>
(if (decide (s8.1 < (y6.length : Int))) = true then
((idx y6 s8.1).bind fun x10 =>
(if (decide (x10 < (0 : Int))) = true then
some true
else
(idx y6 s8.1).bind fun x11 =>
some (decide ((s8.2.length : Int) ≤ x11))) : Option (Bool)).bind fun j9 =>
(if j9 = true then
some (Sum.inr (Sum.inr false))
else
(idx y6 s8.1).bind fun x12 =>
(idx s8.2 x12).bind fun x13 =>
some (Sum.inl (IntKind.i64.wrap (s8.1 + (1 : Int)), setL s8.2 x12 true)))
else
some (Sum.inr (Sum.inl s8.2)))) N ((0 : Int), l4)) fun j7 =>
((if (decide ((0 : Int) < (y6.length : Int))) = true then
(idx y6 (0 : Int)).bind fun x15 =>
(if (decide (x15 = x5)) = true then
(M.ruletree_Select N a0 a1 j7).bind fun y16 =>
(if (decide (y16 = x5)) = true then
(M.law14_awake N).bind fun y17 =>
some y17
else
some false)
else
some false)
else
some false) : Option (Bool)).bind fun j14 =>
some j14)
noncomputable def S5 (N : Nat) : Sig := { inn := ⟨[(0, .val false (.leaf (.slice rInt))), (1, .val false (.leaf (.slice rInt))), (2, .val false (.leaf (.int .u8)))], [], [], 0⟩, out := ⟨[(0, .val false (.leaf .bool))], [], [], 0⟩, fn := fun (x : (List Int) × (List Int) × Int) => M.law14_RuletreeExceptions N x.1 x.2.1 x.2.2 }
theorem W5 (N : Nat) : FnOK Try.prog 5 (S5 N) := fn_ok (E := ⟨tabs, [(6, S6 N), (9, S9 N), (11, S11 N), (12, S12 N)], (tabcons (W6 N) (tabcons (W9 N) (tabcons (W11 N) (tabcons (W12 N) tabnil)))), mixed⟩) (N := N) (a := (.two .nil (.two (.meet ⟨[(29, .val false (.leaf .bool))], [], [], 16⟩ .nil .nil) (.two .nil (.two .nil (.two .nil (.join ⟨[], [(48, .own 4 .bool)], [], 241⟩ (.two .nil (.two (.loop ⟨[(10, .val false (.leaf rInt))], [(48, .own 4 .bool)], [], 257⟩ (.two .nil (.two (.two (.two (.meet ⟨[(61, .val false (.leaf .bool))], [], [], 321⟩ .nil .nil) .nil) .nil) .nil))) .nil)) (.meet ⟨[(6, .val false (.leaf .bool))], [], [], 241⟩ .nil .nil)))))))) (sg := S5 N) (c := Try.f5.body.getD .skip) (rs := Try.f5.results.toList) Try.func5 (by kernel_rfl) (by kernel_rfl) rfl rfl rfl rfl (fun x => by kernel_rfl)
end Go.Proofs.Ytkkinabadiaieaa
