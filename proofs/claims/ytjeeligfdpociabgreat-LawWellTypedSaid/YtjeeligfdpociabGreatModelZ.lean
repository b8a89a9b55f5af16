/- Written by refs.py: plain functions (models of the reference, for comparison alone). -/
import Derived.Test.YtjeeligfdpociabGreatModel
namespace Go.Proofs.YtjeeligfdpociabGreat
open Go Go.RowKit
set_option maxRecDepth 100000
set_option linter.unusedVariables false
noncomputable def M.ref08_lower (N : Nat) (a0 : Int) : Option (Bool) :=
((if (decide ((97 : Int) ≤ a0)) = true then
some (decide (a0 ≤ (122 : Int)))
else
some false) : Option (Bool)).bind fun j1 =>
some j1
noncomputable def M.ref08_digit (N : Nat) (a0 : Int) : Option (Bool) :=
((if (decide ((48 : Int) ≤ a0)) = true then
some (decide (a0 ≤ (57 : Int)))
else
some false) : Option (Bool)).bind fun j1 =>
some j1
noncomputable def M.ref08_word (N : Nat) (a0 : Int) : Option (Bool) :=
((M.ref08_lower N a0).bind fun y2 =>
(if y2 = true then
some true
else
(M.ref08_digit N a0).bind fun y3 =>
(if y3 = true then
some true
else
some (decide (a0 = (95 : Int))))) : Option (Bool)).bind fun j1 =>
some j1
noncomputable def M.ref08_Reserved (N : Nat) : Option (List ByteArray) :=
some ([(⟨#[105, 102]⟩ : ByteArray), (⟨#[116, 104, 101, 110]⟩ : ByteArray), (⟨#[101, 108, 115, 101]⟩ : ByteArray), (⟨#[111, 114]⟩ : ByteArray), (⟨#[97, 110, 100]⟩ : ByteArray), (⟨#[110, 111, 116]⟩ : ByteArray), (⟨#[116, 114, 117, 101]⟩ : ByteArray), (⟨#[102, 97, 108, 115, 101]⟩ : ByteArray), (⟨#[116, 111, 100, 97, 121]⟩ : ByteArray), (⟨#[115, 104, 97, 114, 101]⟩ : ByteArray), (⟨#[100, 105, 118]⟩ : ByteArray), (⟨#[114, 111, 117, 110, 100]⟩ : ByteArray), (⟨#[109, 105, 110]⟩ : ByteArray), (⟨#[109, 97, 120]⟩ : ByteArray), (⟨#[112, 108, 117, 115]⟩ : ByteArray), (⟨#[109, 111, 110, 116, 104, 115]⟩ : ByteArray), (⟨#[100, 97, 121, 115]⟩ : ByteArray), (⟨#[121, 101, 97, 114, 115]⟩ : ByteArray), (⟨#[121, 101, 97, 114]⟩ : ByteArray), (⟨#[109, 111, 110, 116, 104]⟩ : ByteArray), (⟨#[116, 97, 98]⟩ : ByteArray), (⟨#[98, 97, 110, 100]⟩ : ByteArray), (⟨#[99, 111, 117, 110, 116]⟩ : ByteArray), (⟨#[115, 117, 109]⟩ : ByteArray), (⟨#[97, 108, 108]⟩ : ByteArray), (⟨#[97, 110, 121]⟩ : ByteArray), (⟨#[109, 111, 115, 116]⟩ : ByteArray), (⟨#[101, 110, 117, 109]⟩ : ByteArray), (⟨#[116, 97, 98, 108, 101]⟩ : ByteArray), (⟨#[114, 111, 119]⟩ : ByteArray), (⟨#[115, 99, 111, 112, 101]⟩ : ByteArray), (⟨#[109, 101, 109, 98, 101, 114, 115]⟩ : ByteArray), (⟨#[105, 110, 112, 117, 116]⟩ : ByteArray), (⟨#[100, 101, 102]⟩ : ByteArray), (⟨#[114, 117, 108, 101]⟩ : ByteArray), (⟨#[111, 102]⟩ : ByteArray), (⟨#[111, 118, 101, 114]⟩ : ByteArray), (⟨#[112, 114, 105, 111]⟩ : ByteArray), (⟨#[102, 114, 111, 109]⟩ : ByteArray), (⟨#[116, 111]⟩ : ByteArray), (⟨#[101, 110, 100]⟩ : ByteArray), (⟨#[119, 104, 101, 110]⟩ : ByteArray), (⟨#[105, 115]⟩ : ByteArray), (⟨#[115, 114, 99]⟩ : ByteArray), (⟨#[98, 111, 111, 108]⟩ : ByteArray), (⟨#[105, 110, 116]⟩ : ByteArray), (⟨#[109, 111, 110, 101, 121]⟩ : ByteArray), (⟨#[114, 97, 116, 101]⟩ : ByteArray), (⟨#[100, 97, 116, 101]⟩ : ByteArray), (⟨#[100, 111, 119, 110]⟩ : ByteArray), (⟨#[117, 112]⟩ : ByteArray), (⟨#[122, 101, 114, 111]⟩ : ByteArray), (⟨#[97, 119, 97, 121]⟩ : ByteArray), (⟨#[104, 97, 108, 102]⟩ : ByteArray), (⟨#[101, 118, 101, 110]⟩ : ByteArray)] : List ByteArray)
noncomputable def M.ref08_IsIdentifier (N : Nat) (a0 : ByteArray) : Option (Bool) :=
((if (decide ((a0.size : Int) = (0 : Int))) = true then
some true
else
(if (decide ((16 : Int) < (a0.size : Int))) = true then
some true
else
(byteA a0 (0 : Int)).bind fun x2 =>
(M.ref08_lower N x2).bind fun y3 =>
some (!y3))) : Option (Bool)).bind fun j1 =>
(if j1 = true then
some false
else
Join (J := Unit) (R := Bool) (Loop (S := Int) (X := (Unit) ⊕ (Bool)) (fun s5 =>
(if (decide (s5 < (a0.size : Int))) = true then
(byteA a0 s5).bind fun x6 =>
(M.ref08_word N x6).bind fun y7 =>
(if (!y7) = true then
some (Sum.inr (Sum.inr false))
else
some (Sum.inl (IntKind.i64.wrap (s5 + (1 : Int)))))
else
some (Sum.inr (Sum.inl ())))) N (0 : Int)) fun j4 =>
(M.ref08_Reserved N).bind fun y8 =>
Loop (S := Int) (X := Bool) (fun s9 =>
(if (decide (s9 < (y8.length : Int))) = true then
(idx y8 s9).bind fun x10 =>
(if (decide (x10 = a0)) = true then
some (Sum.inr false)
else
some (Sum.inl (IntKind.i64.wrap (s9 + (1 : Int)))))
else
some (Sum.inr true))) N (0 : Int))
noncomputable def M.ref17_nameTaken (N : Nat) (a0 : rLaw.den) (a1 : Int) (a2 : Int) (a3 : ByteArray) : Option (Bool) :=
Join (J := Unit) (R := Bool) (Loop (S := Int) (X := (Unit) ⊕ (Bool)) (fun s2 =>
(if (decide (s2 < (a0.1.length : Int))) = true then
((if (decide ((1 : Int) < a1)) = true then
(idx a0.1 s2).bind fun x4 =>
some (decide (x4.1 = a3))
else
(if (decide (s2 < a2)) = true then
(idx a0.1 s2).bind fun x5 =>
some (decide (x5.1 = a3))
else
some false)) : Option (Bool)).bind fun j3 =>
(if j3 = true then
some (Sum.inr (Sum.inr true))
else
some (Sum.inl (IntKind.i64.wrap (s2 + (1 : Int)))))
else
some (Sum.inr (Sum.inl ())))) N (0 : Int)) fun j1 =>
Join (J := Unit) (R := Bool) (Loop (S := Int) (X := (Unit) ⊕ (Bool)) (fun s7 =>
(if (decide (s7 < (a0.2.1.length : Int))) = true then
((if (decide ((2 : Int) < a1)) = true then
(idx a0.2.1 s7).bind fun x9 =>
some (decide (x9.1 = a3))
else
(if (decide (a1 = (2 : Int))) = true then
(if (decide (s7 < a2)) = true then
(idx a0.2.1 s7).bind fun x10 =>
some (decide (x10.1 = a3))
else
some false)
else
some false)) : Option (Bool)).bind fun j8 =>
(if j8 = true then
some (Sum.inr (Sum.inr true))
else
some (Sum.inl (IntKind.i64.wrap (s7 + (1 : Int)))))
else
some (Sum.inr (Sum.inl ())))) N (0 : Int)) fun j6 =>
Loop (S := Int) (X := Bool) (fun s11 =>
(if (decide (s11 < (a0.2.2.length : Int))) = true then
((if (decide (a1 = (3 : Int))) = true then
(if (decide (s11 < a2)) = true then
(idx a0.2.2 s11).bind fun x13 =>
some (decide (x13.1 = a3))
else
some false)
else
some false) : Option (Bool)).bind fun j12 =>
(if j12 = true then
some (Sum.inr true)
else
some (Sum.inl (IntKind.i64.wrap (s11 + (1 : Int)))))
else
some (Sum.inr false))) N (0 : Int)
noncomputable def M.ref17_enumError (N : Nat) (a0 : rLaw.den) (a1 : Int) : Option (rLawError.den) :=
(idx a0.1 a1).bind fun x1 =>
(M.ref08_IsIdentifier N x1.1).bind fun y2 =>
(if (!y2) = true then
some ((2 : Int), ((1 : Int), (a1, (0 : Int))))
else
(M.ref17_nameTaken N a0 (1 : Int) a1 x1.1).bind fun y3 =>
(if y3 = true then
some ((7 : Int), ((1 : Int), (a1, (0 : Int))))
else
(if (decide ((x1.2.length : Int) = (0 : Int))) = true then
some ((5 : Int), ((1 : Int), (a1, (0 : Int))))
else
(if (decide ((16 : Int) < (x1.2.length : Int))) = true then
some ((4 : Int), ((1 : Int), (a1, (116 : Int))))
else
Join (J := rLawError.den) (R := rLawError.den) (Loop (S := Int × rLawError.den) (X := (rLawError.den) ⊕ (rLawError.den)) (fun s5 =>
(if (decide (s5.1 < (x1.2.length : Int))) = true then
Join (J := rLawError.den) (R := (Int × rLawError.den) ⊕ ((rLawError.den) ⊕ (rLawError.den))) ((idx x1.2 s5.1).bind fun x7 =>
(M.ref08_IsIdentifier N x7).bind fun y8 =>
(if (!y8) = true then
some (Sum.inr (Sum.inr (Sum.inr ((2 : Int), (s5.2.2.1, (s5.2.2.2.1, IntKind.i64.wrap ((100 : Int) + s5.1)))))))
else
Loop (S := Int) (X := (rLawError.den) ⊕ ((Int × rLawError.den) ⊕ ((rLawError.den) ⊕ (rLawError.den)))) (fun s9 =>
(if (decide (s9 < s5.1)) = true then
(idx x1.2 s9).bind fun x10 =>
(idx x1.2 s5.1).bind fun x11 =>
(if (decide (x10 = x11)) = true then
some (Sum.inr (Sum.inr (Sum.inr (Sum.inr ((7 : Int), (s5.2.2.1, (s5.2.2.2.1, IntKind.i64.wrap ((100 : Int) + s5.1))))))))
else
some (Sum.inl (IntKind.i64.wrap (s9 + (1 : Int)))))
else
some (Sum.inr (Sum.inl (s5.2.1, (s5.2.2.1, (s5.2.2.2.1, IntKind.i64.wrap ((100 : Int) + s5.1)))))))) N (0 : Int))) fun j6 =>
some (Sum.inl (IntKind.i64.wrap (s5.1 + (1 : Int)), j6))
else
some (Sum.inr (Sum.inl s5.2)))) N ((0 : Int), ((0 : Int), ((1 : Int), (a1, (0 : Int)))))) fun j4 =>
some ((0 : Int), ((0 : Int), ((0 : Int), (0 : Int))))))))
noncomputable def M.ref09_ValidType (N : Nat) (a0 : rType.den) (a1 : List rEnum.den) : Option (Bool) :=
(if (decide (a0.1 = (6 : Int))) = true then
((if (decide ((0 : Int) ≤ a0.2)) = true then
some (decide (a0.2 < (a1.length : Int)))
else
some false) : Option (Bool)).bind fun j1 =>
some j1
else
((if (decide ((1 : Int) ≤ a0.1)) = true then
(if (decide (a0.1 ≤ (5 : Int))) = true then
some (decide (a0.2 = (0 : Int)))
else
some false)
else
some false) : Option (Bool)).bind fun j2 =>
some j2)
noncomputable def M.ref05_Valid (N : Nat) (a0 : rType.den) : Option (Bool) :=
((if (decide ((0 : Int) ≤ a0.1)) = true then
(if (decide (a0.1 ≤ a0.2)) = true then
some (decide (a0.2 ≤ (109573 : Int)))
else
some false)
else
some false) : Option (Bool)).bind fun j1 =>
some j1
noncomputable def M.ref09_Bounds (N : Nat) (a0 : rType.den) (a1 : List rEnum.den) : Option (Int × Int) :=
(M.ref09_ValidType N a0 a1).bind fun y1 =>
(if (!y1) = true then
some ((0 : Int), (-1 : Int))
else
(if (decide (a0.1 = (1 : Int))) = true then
some ((0 : Int), (1 : Int))
else
(if (decide (a0.1 = (2 : Int))) = true then
some ((-1000000000000 : Int), (1000000000000 : Int))
else
(if (decide (a0.1 = (3 : Int))) = true then
some ((-1000000000000000 : Int), (1000000000000000 : Int))
else
(if (decide (a0.1 = (4 : Int))) = true then
some ((-1000000000 : Int), (1000000000 : Int))
else
(if (decide (a0.1 = (5 : Int))) = true then
some ((0 : Int), (109572 : Int))
else
(idx a1 a0.2).bind fun x2 =>
some ((0 : Int), IntKind.i64.wrap ((x2.2.length : Int) - (1 : Int)))))))))
noncomputable def M.ref09_In (N : Nat) (a0 : Int) (a1 : rType.den) (a2 : List rEnum.den) : Option (Bool) :=
(M.ref09_Bounds N a1 a2).bind fun y1 =>
((if (decide (y1.1 ≤ a0)) = true then
some (decide (a0 ≤ y1.2))
else
some false) : Option (Bool)).bind fun j2 =>
some j2
noncomputable def M.ref12_wrong (N : Nat) (a0 : rRow.den) (a1 : rTable.den) (a2 : List rEnum.den) : Option (Bool) :=
((M.ref05_Valid N a0.1).bind fun y2 =>
(if (!y2) = true then
some true
else
(if (decide (a0.1.1 = a0.1.2)) = true then
some true
else
some (decide (a0.2.2.1 ≤ a0.2.1)))) : Option (Bool)).bind fun j1 =>
(if j1 = true then
some true
else
((M.ref09_In N a0.2.1 a1.2.1 a2).bind fun y4 =>
(if (!y4) = true then
some true
else
(M.ref09_In N (IntKind.i64.wrap (a0.2.2.1 - (1 : Int))) a1.2.1 a2).bind fun y5 =>
(if (!y5) = true then
some true
else
(M.ref09_In N a0.2.2.2 a1.2.2.1 a2).bind fun y6 =>
some (!y6))) : Option (Bool)).bind fun j3 =>
some j3)
noncomputable def M.ref05_Intersect (N : Nat) (a0 : rType.den) (a1 : rType.den) : Option (rType.den × Bool) :=
((M.ref05_Valid N a0).bind fun y2 =>
(if (!y2) = true then
some true
else
(M.ref05_Valid N a1).bind fun y3 =>
some (!y3)) : Option (Bool)).bind fun j1 =>
(if j1 = true then
some (((0 : Int), (0 : Int)), false)
else
(if (decide ((if a1.2 < a0.2 then a1.2 else a0.2) ≤ (if a0.1 < a1.1 then a1.1 else a0.1))) = true then
some (((0 : Int), (0 : Int)), false)
else
some ((if a0.1 < a1.1 then a1.1 else a0.1, if a1.2 < a0.2 then a1.2 else a0.2), true)))
noncomputable def M.ref12_conflict (N : Nat) (a0 : rRow.den) (a1 : rRow.den) : Option (Bool) :=
(M.ref05_Intersect N a0.1 a1.1).bind fun y1 =>
((if y1.2 = true then
some (decide ((if a0.2.1 < a1.2.1 then a1.2.1 else a0.2.1) < (if a1.2.2.1 < a0.2.2.1 then a1.2.2.1 else a0.2.2.1)))
else
some false) : Option (Bool)).bind fun j2 =>
some j2
noncomputable def M.ref12_Validate (N : Nat) (a0 : rTable.den) (a1 : List rEnum.den) : Option (Int × Int) :=
(if (decide ((64 : Int) < (a0.2.2.2.length : Int))) = true then
some ((64 : Int), (4 : Int))
else
((M.ref09_ValidType N a0.2.1 a1).bind fun y2 =>
(if (!y2) = true then
some true
else
(M.ref09_ValidType N a0.2.2.1 a1).bind fun y3 =>
some (!y3)) : Option (Bool)).bind fun j1 =>
(if j1 = true then
some ((-1 : Int), (8 : Int))
else
Loop (S := Int) (X := Int × Int) (fun s4 =>
(if (decide (s4 < (a0.2.2.2.length : Int))) = true then
Join (J := Unit) (R := (Int) ⊕ (Int × Int)) ((idx a0.2.2.2 s4).bind fun x6 =>
(M.ref12_wrong N x6 a0 a1).bind fun y7 =>
(if y7 = true then
some (Sum.inr (Sum.inr (s4, (3 : Int))))
else
Loop (S := Int) (X := (Unit) ⊕ ((Int) ⊕ (Int × Int))) (fun s8 =>
(if (decide (s8 < s4)) = true then
(idx a0.2.2.2 s8).bind fun x9 =>
(idx a0.2.2.2 s4).bind fun x10 =>
(M.ref12_conflict N x9 x10).bind fun y11 =>
(if y11 = true then
some (Sum.inr (Sum.inr (Sum.inr (s4, (11 : Int)))))
else
some (Sum.inl (IntKind.i64.wrap (s8 + (1 : Int)))))
else
some (Sum.inr (Sum.inl ())))) N (0 : Int))) fun j5 =>
some (Sum.inl (IntKind.i64.wrap (s4 + (1 : Int))))
else
some (Sum.inr ((0 : Int), (0 : Int))))) N (0 : Int)))
noncomputable def M.ref17_tableError (N : Nat) (a0 : rLaw.den) (a1 : Int) : Option (rLawError.den) :=
(idx a0.2.1 a1).bind fun x1 =>
(M.ref08_IsIdentifier N x1.1).bind fun y2 =>
(if (!y2) = true then
some ((2 : Int), ((2 : Int), (a1, (0 : Int))))
else
(M.ref17_nameTaken N a0 (2 : Int) a1 x1.1).bind fun y3 =>
(if y3 = true then
some ((7 : Int), ((2 : Int), (a1, (0 : Int))))
else
(M.ref12_Validate N x1 a0.1).bind fun y4 =>
(if (decide (y4.2 = (0 : Int))) = true then
some ((0 : Int), ((0 : Int), ((0 : Int), (0 : Int))))
else
((if (decide ((0 : Int) ≤ y4.1)) = true then
some (y4.2, ((2 : Int), (a1, IntKind.i64.wrap ((100 : Int) + y4.1))))
else
some (y4.2, ((2 : Int), (a1, (0 : Int))))) : Option (rLawError.den)).bind fun j5 =>
some j5)))
noncomputable def M.ref17_hasField (N : Nat) (a0 : List rField.den) (a1 : Int) (a2 : ByteArray) : Option (Bool) :=
Loop (S := Int) (X := Bool) (fun s1 =>
((if (decide (s1 < a1)) = true then
some (decide (s1 < (a0.length : Int)))
else
some false) : Option (Bool)).bind fun j2 =>
(if j2 = true then
(idx a0 s1).bind fun x3 =>
(if (decide (x3.1 = a2)) = true then
some (Sum.inr true)
else
some (Sum.inl (IntKind.i64.wrap (s1 + (1 : Int)))))
else
some (Sum.inr false))) N (0 : Int)
noncomputable def M.ref17_fieldError (N : Nat) (a0 : rLaw.den) (a1 : Int) : Option (rLawError.den) :=
(idx a0.2.2 a1).bind fun x1 =>
Join (J := Unit) (R := rLawError.den) (Loop (S := Int) (X := (Unit) ⊕ (rLawError.den)) (fun s3 =>
(if (decide (s3 < (x1.2.2.1.length : Int))) = true then
((idx x1.2.2.1 s3).bind fun x5 =>
(M.ref08_IsIdentifier N x5.1).bind fun y6 =>
(if (!y6) = true then
some ((2 : Int), ((3 : Int), (a1, IntKind.i64.wrap ((100 : Int) + s3))))
else
(idx x1.2.2.1 s3).bind fun x7 =>
(M.ref17_hasField N x1.2.2.1 s3 x7.1).bind fun y8 =>
(if y8 = true then
some ((7 : Int), ((3 : Int), (a1, IntKind.i64.wrap ((100 : Int) + s3))))
else
(idx x1.2.2.1 s3).bind fun x9 =>
(M.ref09_ValidType N x9.2 a0.1).bind fun y10 =>
(if (!y10) = true then
some ((8 : Int), ((3 : Int), (a1, IntKind.i64.wrap ((100 : Int) + s3))))
else
some ((0 : Int), ((3 : Int), (a1, IntKind.i64.wrap ((100 : Int) + s3))))))) : Option (rLawError.den)).bind fun j4 =>
(if (!decide (j4.1 = (0 : Int))) = true then
some (Sum.inr (Sum.inr j4))
else
some (Sum.inl (IntKind.i64.wrap (s3 + (1 : Int)))))
else
some (Sum.inr (Sum.inl ())))) N (0 : Int)) fun j2 =>
Join (J := Unit) (R := rLawError.den) (Loop (S := Int) (X := (Unit) ⊕ (rLawError.den)) (fun s12 =>
(if (decide (s12 < (x1.2.2.2.1.length : Int))) = true then
((idx x1.2.2.2.1 s12).bind fun x14 =>
(M.ref08_IsIdentifier N x14.1).bind fun y15 =>
(if (!y15) = true then
some ((2 : Int), ((3 : Int), (a1, IntKind.i64.wrap ((200 : Int) + s12))))
else
((idx x1.2.2.2.1 s12).bind fun x17 =>
(M.ref17_hasField N x1.2.2.1 (x1.2.2.1.length : Int) x17.1).bind fun y18 =>
(if y18 = true then
some true
else
(idx x1.2.2.2.1 s12).bind fun x19 =>
(M.ref17_hasField N x1.2.2.2.1 s12 x19.1).bind fun y20 =>
some y20) : Option (Bool)).bind fun j16 =>
(if j16 = true then
some ((7 : Int), ((3 : Int), (a1, IntKind.i64.wrap ((200 : Int) + s12))))
else
(idx x1.2.2.2.1 s12).bind fun x21 =>
(M.ref09_ValidType N x21.2 a0.1).bind fun y22 =>
(if (!y22) = true then
some ((8 : Int), ((3 : Int), (a1, IntKind.i64.wrap ((200 : Int) + s12))))
else
some ((0 : Int), ((3 : Int), (a1, IntKind.i64.wrap ((200 : Int) + s12))))))) : Option (rLawError.den)).bind fun j13 =>
(if (!decide (j13.1 = (0 : Int))) = true then
some (Sum.inr (Sum.inr j13))
else
some (Sum.inl (IntKind.i64.wrap (s12 + (1 : Int)))))
else
some (Sum.inr (Sum.inl ())))) N (0 : Int)) fun j11 =>
some ((0 : Int), ((0 : Int), ((0 : Int), (0 : Int))))
noncomputable def M.ref17_fieldTypes (N : Nat) (a0 : List rField.den) : Option (List rType.den) :=
Loop (S := Int × List rType.den) (X := List rType.den) (fun s1 =>
(if (decide (s1.1 < (a0.length : Int))) = true then
(idx a0 s1.1).bind fun x2 =>
(appA s1.2 ([x2.2] : List rType.den)).bind fun l3 =>
some (Sum.inl (IntKind.i64.wrap (s1.1 + (1 : Int)), l3))
else
some (Sum.inr s1.2))) N ((0 : Int), ([] : List rType.den))
noncomputable def M.ref17_Signature (N : Nat) (a0 : rLaw.den) (a1 : Int) : Option ((List rEnum.den) × (List rTable.den) × Bool × (List rType.den) × (List rType.den) × List rType.den) :=
((if (decide (a1 < (0 : Int))) = true then
some true
else
some (decide ((a0.2.2.length : Int) ≤ a1))) : Option (Bool)).bind fun j1 =>
(if j1 = true then
some (([] : List rEnum.den), ([] : List rTable.den), false, ([] : List rType.den), ([] : List rType.den), ([] : List rType.den))
else
(idx a0.2.2 a1).bind fun x2 =>
(M.ref17_fieldTypes N x2.2.2.1).bind fun y3 =>
(M.ref17_fieldTypes N x2.2.2.2.1).bind fun y4 =>
(((if (decide ((0 : Int) ≤ x2.2.1)) = true then
some (decide (x2.2.1 < (a0.2.2.length : Int)))
else
some false) : Option (Bool)).bind fun j6 =>
(if j6 = true then
(idx a0.2.2 x2.2.1).bind fun x7 =>
(M.ref17_fieldTypes N x7.2.2.2.1).bind fun y8 =>
some (y3, y4, a0.1, a0.2.1, true, y8)
else
some (y3, y4, a0.1, a0.2.1, false, ([] : List rType.den))) : Option ((List rType.den) × (List rType.den) × (List rEnum.den) × (List rTable.den) × Bool × List rType.den)).bind fun j5 =>
some (j5.2.2.1, j5.2.2.2.1, j5.2.2.2.2.1, j5.1, j5.2.1, j5.2.2.2.2.2))
noncomputable def M.ref17_plainText (N : Nat) (a0 : ByteArray) : Option (Bool) :=
Loop (S := Int) (X := Bool) (fun s1 =>
(if (decide (s1 < (a0.size : Int))) = true then
((byteA a0 s1).bind fun x3 =>
(if (decide (x3 < (32 : Int))) = true then
some true
else
(byteA a0 s1).bind fun x4 =>
(if (decide ((126 : Int) < x4)) = true then
some true
else
(byteA a0 s1).bind fun x5 =>
some (decide (x5 = (34 : Int))))) : Option (Bool)).bind fun j2 =>
(if j2 = true then
some (Sum.inr false)
else
some (Sum.inl (IntKind.i64.wrap (s1 + (1 : Int)))))
else
some (Sum.inr (decide ((a0.size : Int) ≤ (64 : Int)))))) N (0 : Int)
noncomputable def M.ref10_Arity (N : Nat) (a0 : Int) : Option (Int) :=
((if (decide ((1 : Int) ≤ a0)) = true then
(if (decide (a0 ≤ (9 : Int))) = true then
some true
else
(if (decide ((35 : Int) ≤ a0)) = true then
some (decide (a0 ≤ (39 : Int)))
else
some false))
else
(if (decide ((35 : Int) ≤ a0)) = true then
some (decide (a0 ≤ (39 : Int)))
else
some false)) : Option (Bool)).bind fun j1 =>
(if j1 = true then
some (0 : Int)
else
((if (decide (a0 = (10 : Int))) = true then
some (decide (a0 = (10 : Int)))
else
(if (decide (a0 = (25 : Int))) = true then
some (decide (a0 = (25 : Int)))
else
(if (decide (a0 = (31 : Int))) = true then
some (decide (a0 = (31 : Int)))
else
(if (decide (a0 = (32 : Int))) = true then
some (decide (a0 = (32 : Int)))
else
(if (decide (a0 = (33 : Int))) = true then
some (decide (a0 = (33 : Int)))
else
some (decide (a0 = (34 : Int)))))))) : Option (Bool)).bind fun j2 =>
(if j2 = true then
some (1 : Int)
else
(if (decide (a0 = (26 : Int))) = true then
some (3 : Int)
else
((if (decide ((11 : Int) ≤ a0)) = true then
some (decide (a0 ≤ (30 : Int)))
else
some false) : Option (Bool)).bind fun j3 =>
(if j3 = true then
some (2 : Int)
else
some (-1 : Int)))))
noncomputable def M.ref10_structure (N : Nat) (a0 : List rType.den) : Option (Int × Int × List Int) :=
(if (decide ((48 : Int) < (a0.length : Int))) = true then
some ((0 : Int), (4 : Int), ([] : List Int))
else
(if (decide ((a0.length : Int) = (0 : Int))) = true then
some ((0 : Int), (5 : Int), ([] : List Int))
else
Join (J := (List Int) × List Int) (R := Int × Int × List Int) (Loop (S := Int × (List Int) × List Int) (X := ((List Int) × List Int) ⊕ (Int × Int × List Int)) (fun s2 =>
(if (decide (s2.1 < (a0.length : Int))) = true then
(idx a0 s2.1).bind fun x3 =>
(M.ref10_Arity N x3.1).bind fun y4 =>
(if (decide (y4 < (0 : Int))) = true then
some (Sum.inr (Sum.inr (s2.1, (2 : Int), ([] : List Int))))
else
(if (decide ((s2.2.2.length : Int) < y4)) = true then
some (Sum.inr (Sum.inr (s2.1, (5 : Int), ([] : List Int))))
else
((if (decide ((0 : Int) < y4)) = true then
(idx s2.2.2 (IntKind.i64.wrap ((s2.2.2.length : Int) - y4))).bind fun x6 =>
(cutA s2.2.2 (0 : Int) (IntKind.i64.wrap ((s2.2.2.length : Int) - y4))).bind fun l7 =>
some (x6, l7)
else
some (s2.1, s2.2.2)) : Option (Int × List Int)).bind fun j5 =>
(appA j5.2 ([j5.1] : List Int)).bind fun l8 =>
(appA s2.2.1 ([j5.1] : List Int)).bind fun l9 =>
(if (decide ((12 : Int) < (l8.length : Int))) = true then
some (Sum.inr (Sum.inr (s2.1, (16 : Int), ([] : List Int))))
else
some (Sum.inl (IntKind.i64.wrap (s2.1 + (1 : Int)), l9, l8)))))
else
some (Sum.inr (Sum.inl (s2.2.1, s2.2.2))))) N ((0 : Int), ([] : List Int), ([] : List Int))) fun j1 =>
(if (decide ((1 : Int) < (j1.2.length : Int))) = true then
some ((a0.length : Int), (4 : Int), ([] : List Int))
else
some ((0 : Int), (0 : Int), j1.1))))
noncomputable def M.ref10_meaning (N : Nat) (a0 : Int) : Option (Bool) :=
((if (decide ((1 : Int) ≤ a0)) = true then
(if (decide (a0 ≤ (8 : Int))) = true then
some true
else
(if (decide ((36 : Int) ≤ a0)) = true then
some (decide (a0 ≤ (39 : Int)))
else
some false))
else
(if (decide ((36 : Int) ≤ a0)) = true then
some (decide (a0 ≤ (39 : Int)))
else
some false)) : Option (Bool)).bind fun j1 =>
(if j1 = true then
some true
else
((if (decide (a0 = (14 : Int))) = true then
some true
else
(if (decide (a0 = (15 : Int))) = true then
some true
else
(if (decide (a0 = (16 : Int))) = true then
some true
else
(if (decide (a0 = (33 : Int))) = true then
some true
else
some (decide (a0 = (34 : Int))))))) : Option (Bool)).bind fun j2 =>
some j2)
noncomputable def M.ref10_kind (N : Nat) (a0 : Int) : Option (rType.den) :=
some (a0, (0 : Int))
noncomputable def M.ref10_ranged (N : Nat) (a0 : rType.den) (a1 : rSignature.den) : Option (Bool) :=
((if (decide (a0.1 = (1 : Int))) = true then
some (decide (a0.1 = (1 : Int)))
else
(if (decide (a0.1 = (2 : Int))) = true then
some (decide (a0.1 = (2 : Int)))
else
(if (decide (a0.1 = (3 : Int))) = true then
some (decide (a0.1 = (3 : Int)))
else
(if (decide (a0.1 = (4 : Int))) = true then
some (decide (a0.1 = (4 : Int)))
else
some (decide (a0.1 = (5 : Int))))))) : Option (Bool)).bind fun j1 =>
(if j1 = true then
(M.ref10_kind N a0.1).bind fun y2 =>
(M.ref09_Bounds N y2 a1.1).bind fun y3 =>
((if (decide (y3.1 ≤ a0.2)) = true then
some (decide (a0.2 ≤ y3.2))
else
some false) : Option (Bool)).bind fun j4 =>
some j4
else
((if (decide (a0.1 = (14 : Int))) = true then
some (decide (a0.1 = (14 : Int)))
else
(if (decide (a0.1 = (15 : Int))) = true then
some (decide (a0.1 = (15 : Int)))
else
some (decide (a0.1 = (16 : Int))))) : Option (Bool)).bind fun j5 =>
(if j5 = true then
((if (decide ((0 : Int) ≤ a0.2)) = true then
some (decide (a0.2 ≤ (5 : Int)))
else
some false) : Option (Bool)).bind fun j6 =>
some j6
else
(if (decide (a0.1 = (34 : Int))) = true then
((if (decide ((0 : Int) ≤ a0.2)) = true then
some (decide ((Int.tmod a0.2 (8 : Int)) ≤ (5 : Int)))
else
some false) : Option (Bool)).bind fun j7 =>
some j7
else
(if (decide (a0.1 = (6 : Int))) = true then
some (decide ((0 : Int) ≤ a0.2))
else
some true))))
noncomputable def M.ref10_found (N : Nat) (a0 : rType.den) (a1 : rSignature.den) : Option (Bool) :=
(if (decide (a0.1 = (6 : Int))) = true then
((if (decide ((IntKind.i64.wrap (Int.tdiv a0.2 (16 : Int))) < (a1.1.length : Int))) = true then
(idx a1.1 (IntKind.i64.wrap (Int.tdiv a0.2 (16 : Int)))).bind fun x2 =>
some (decide ((Int.tmod a0.2 (16 : Int)) < (x2.2.length : Int)))
else
some false) : Option (Bool)).bind fun j1 =>
some j1
else
(if (decide (a0.1 = (7 : Int))) = true then
((if (decide ((0 : Int) ≤ a0.2)) = true then
some (decide (a0.2 < (a1.2.2.1.length : Int)))
else
some false) : Option (Bool)).bind fun j3 =>
some j3
else
(if (decide (a0.1 = (8 : Int))) = true then
((if (decide ((0 : Int) ≤ a0.2)) = true then
some (decide (a0.2 < (a1.2.2.2.1.length : Int)))
else
some false) : Option (Bool)).bind fun j4 =>
some j4
else
(if (decide (a0.1 = (33 : Int))) = true then
((if (decide ((0 : Int) ≤ a0.2)) = true then
some (decide (a0.2 < (a1.2.1.length : Int)))
else
some false) : Option (Bool)).bind fun j5 =>
some j5
else
(if (decide (a0.1 = (34 : Int))) = true then
some (decide ((IntKind.i64.wrap (Int.tdiv a0.2 (8 : Int))) < (a1.2.1.length : Int)))
else
(if (decide (a0.1 = (35 : Int))) = true then
some a1.2.2.2.2.2
else
((if (decide (a0.1 = (36 : Int))) = true then
some (decide (a0.1 = (36 : Int)))
else
(if (decide (a0.1 = (37 : Int))) = true then
some (decide (a0.1 = (37 : Int)))
else
(if (decide (a0.1 = (38 : Int))) = true then
some (decide (a0.1 = (38 : Int)))
else
some (decide (a0.1 = (39 : Int)))))) : Option (Bool)).bind fun j6 =>
(if j6 = true then
((if a1.2.2.2.2.2 = true then
(if (decide ((0 : Int) ≤ a0.2)) = true then
some (decide (a0.2 < (a1.2.2.2.2.1.length : Int)))
else
some false)
else
some false) : Option (Bool)).bind fun j7 =>
some j7
else
some true)))))))
noncomputable def M.ref10_number (N : Nat) (a0 : Int) : Option (Bool) :=
((if (decide (a0 = (2 : Int))) = true then
some true
else
(if (decide (a0 = (3 : Int))) = true then
some true
else
some (decide (a0 = (4 : Int))))) : Option (Bool)).bind fun j1 =>
some j1
noncomputable def M.ref10_ordered (N : Nat) (a0 : Int) : Option (Bool) :=
((M.ref10_number N a0).bind fun y2 =>
(if y2 = true then
some true
else
some (decide (a0 = (5 : Int)))) : Option (Bool)).bind fun j1 =>
some j1
noncomputable def M.ref10_leaf (N : Nat) (a0 : rType.den) (a1 : rSignature.den) : Option (rType.den × Bool) :=
((if (decide (a0.1 = (6 : Int))) = true then
some ((6 : Int), IntKind.i64.wrap (Int.tdiv a0.2 (16 : Int)))
else
(if (decide (a0.1 = (7 : Int))) = true then
(idx a1.2.2.1 a0.2).bind fun x2 =>
some x2
else
(if (decide (a0.1 = (8 : Int))) = true then
(idx a1.2.2.2.1 a0.2).bind fun x3 =>
some x3
else
(if (decide (a0.1 = (9 : Int))) = true then
(M.ref10_kind N (5 : Int)).bind fun y4 =>
some y4
else
(if (decide (a0.1 = (35 : Int))) = true then
(M.ref10_kind N (2 : Int)).bind fun y5 =>
some y5
else
((if (decide (a0.1 = (36 : Int))) = true then
some (decide (a0.1 = (36 : Int)))
else
(if (decide (a0.1 = (37 : Int))) = true then
some (decide (a0.1 = (37 : Int)))
else
(if (decide (a0.1 = (38 : Int))) = true then
some (decide (a0.1 = (38 : Int)))
else
some (decide (a0.1 = (39 : Int)))))) : Option (Bool)).bind fun j6 =>
(if j6 = true then
(idx a1.2.2.2.2.1 a0.2).bind fun x7 =>
some x7
else
(M.ref10_kind N a0.1).bind fun y8 =>
some y8)))))) : Option (rType.den)).bind fun j1 =>
(M.ref09_ValidType N j1 a1.1).bind fun y9 =>
((if (decide (a0.1 = (36 : Int))) = true then
(if y9 = true then
(if (decide (j1.1 = (2 : Int))) = true then
some true
else
some (decide (j1.1 = (3 : Int))))
else
some false)
else
((if (decide (a0.1 = (37 : Int))) = true then
some (decide (a0.1 = (37 : Int)))
else
some (decide (a0.1 = (38 : Int)))) : Option (Bool)).bind fun j11 =>
(if j11 = true then
(if y9 = true then
some (decide (j1.1 = (1 : Int)))
else
some false)
else
(if (decide (a0.1 = (39 : Int))) = true then
(if y9 = true then
(M.ref10_ordered N j1.1).bind fun y12 =>
some y12
else
some false)
else
some y9))) : Option (Bool)).bind fun j10 =>
some (j1, j10)
noncomputable def M.ref10_single (N : Nat) (a0 : rType.den) (a1 : rType.den) (a2 : rSignature.den) : Option (rType.den × Bool) :=
(if (decide (a0.1 = (10 : Int))) = true then
(M.ref10_number N a1.1).bind fun y1 =>
some (a1, y1)
else
(if (decide (a0.1 = (25 : Int))) = true then
some (a1, decide (a1.1 = (1 : Int)))
else
((if (decide (a0.1 = (31 : Int))) = true then
some (decide (a0.1 = (31 : Int)))
else
some (decide (a0.1 = (32 : Int)))) : Option (Bool)).bind fun j2 =>
(if j2 = true then
(M.ref10_kind N (2 : Int)).bind fun y3 =>
some (y3, decide (a1.1 = (5 : Int)))
else
(if (decide (a0.1 = (33 : Int))) = true then
(idx a2.2.1 a0.2).bind fun x4 =>
((M.ref09_ValidType N x4.2.1 a2.1).bind fun y6 =>
(if y6 = true then
(M.ref09_ValidType N x4.2.2.1 a2.1).bind fun y7 =>
(if y7 = true then
some ((eqR rType a1 x4.2.1), x4.2.2.1)
else
some (false, x4.2.2.1))
else
some (false, x4.2.2.1)) : Option (Bool × rType.den)).bind fun j5 =>
some (j5.2, j5.1)
else
(idx a2.2.1 (IntKind.i64.wrap (Int.tdiv a0.2 (8 : Int)))).bind fun x8 =>
((if (decide (a1.1 = (3 : Int))) = true then
(M.ref10_kind N (3 : Int)).bind fun y10 =>
(if (eqR rType x8.2.1 y10) = true then
(M.ref10_kind N (4 : Int)).bind fun y11 =>
some ((eqR rType x8.2.2.1 y11), a1)
else
some (false, a1))
else
some (false, a1)) : Option (Bool × rType.den)).bind fun j9 =>
some (j9.2, j9.1)))))
noncomputable def M.ref10_scaled (N : Nat) (a0 : Int) (a1 : Int) (a2 : Int) : Option (rType.den × Bool) :=
(if (decide (a0 = (13 : Int))) = true then
((M.ref10_kind N a1).bind fun y2 =>
(if (decide (a2 = (2 : Int))) = true then
(if (decide (a1 = (2 : Int))) = true then
some (true, y2)
else
some (decide (a1 = (3 : Int)), y2))
else
some (false, y2)) : Option (Bool × rType.den)).bind fun j1 =>
some (j1.2, j1.1)
else
(if (decide (a0 = (14 : Int))) = true then
((M.ref10_kind N a1).bind fun y4 =>
(if (decide (a2 = (4 : Int))) = true then
(if (decide (a1 = (3 : Int))) = true then
some (true, y4)
else
some (decide (a1 = (4 : Int)), y4))
else
some (false, y4)) : Option (Bool × rType.den)).bind fun j3 =>
some (j3.2, j3.1)
else
((if (decide (a1 = (3 : Int))) = true then
some (decide (a2 = (3 : Int)))
else
some false) : Option (Bool)).bind fun j5 =>
(if j5 = true then
(M.ref10_kind N (4 : Int)).bind fun y6 =>
some (y6, true)
else
((M.ref10_kind N a1).bind fun y8 =>
(if (decide (a2 = (2 : Int))) = true then
(if (decide (a1 = (2 : Int))) = true then
some (true, y8)
else
some (decide (a1 = (3 : Int)), y8))
else
some (false, y8)) : Option (Bool × rType.den)).bind fun j7 =>
some (j7.2, j7.1))))
noncomputable def M.ref10_double (N : Nat) (a0 : Int) (a1 : rType.den) (a2 : rType.den) : Option (rType.den × Bool) :=
((if (decide (a0 = (11 : Int))) = true then
some (decide (a0 = (11 : Int)))
else
some (decide (a0 = (12 : Int)))) : Option (Bool)).bind fun j1 =>
(if j1 = true then
((if (eqR rType a1 a2) = true then
(M.ref10_number N a1.1).bind fun y3 =>
some (y3, a1)
else
some (false, a1)) : Option (Bool × rType.den)).bind fun j2 =>
some (j2.2, j2.1)
else
((if (decide (a0 = (13 : Int))) = true then
some (decide (a0 = (13 : Int)))
else
(if (decide (a0 = (14 : Int))) = true then
some (decide (a0 = (14 : Int)))
else
some (decide (a0 = (15 : Int))))) : Option (Bool)).bind fun j4 =>
(if j4 = true then
(M.ref10_scaled N a0 a1.1 a2.1).bind fun y5 =>
some (y5.1, y5.2)
else
(if (decide (a0 = (16 : Int))) = true then
((if (decide (a1.1 = (3 : Int))) = true then
some (decide (a2.1 = (3 : Int)), a1)
else
some (false, a1)) : Option (Bool × rType.den)).bind fun j6 =>
some (j6.2, j6.1)
else
((if (decide (a0 = (17 : Int))) = true then
some (decide (a0 = (17 : Int)))
else
some (decide (a0 = (18 : Int)))) : Option (Bool)).bind fun j7 =>
(if j7 = true then
((if (eqR rType a1 a2) = true then
(M.ref10_ordered N a1.1).bind fun y9 =>
some (y9, a1)
else
some (false, a1)) : Option (Bool × rType.den)).bind fun j8 =>
some (j8.2, j8.1)
else
((if (decide (a0 = (19 : Int))) = true then
some (decide (a0 = (19 : Int)))
else
some (decide (a0 = (20 : Int)))) : Option (Bool)).bind fun j10 =>
(if j10 = true then
(M.ref10_kind N (1 : Int)).bind fun y11 =>
some (y11, (eqR rType a1 a2))
else
((if (decide (a0 = (21 : Int))) = true then
some (decide (a0 = (21 : Int)))
else
some (decide (a0 = (22 : Int)))) : Option (Bool)).bind fun j12 =>
(if j12 = true then
((M.ref10_kind N (1 : Int)).bind fun y14 =>
(if (eqR rType a1 a2) = true then
(M.ref10_ordered N a1.1).bind fun y15 =>
some (y15, y14)
else
some (false, y14)) : Option (Bool × rType.den)).bind fun j13 =>
some (j13.2, j13.1)
else
((if (decide (a0 = (23 : Int))) = true then
some (decide (a0 = (23 : Int)))
else
some (decide (a0 = (24 : Int)))) : Option (Bool)).bind fun j16 =>
(if j16 = true then
((if (decide (a1.1 = (1 : Int))) = true then
some (decide (a2.1 = (1 : Int)), a1)
else
some (false, a1)) : Option (Bool × rType.den)).bind fun j17 =>
some (j17.2, j17.1)
else
((if (decide (a0 = (27 : Int))) = true then
some (decide (a0 = (27 : Int)))
else
some (decide (a0 = (28 : Int)))) : Option (Bool)).bind fun j18 =>
(if j18 = true then
((if (decide (a1.1 = (5 : Int))) = true then
some (decide (a2.1 = (2 : Int)), a1)
else
some (false, a1)) : Option (Bool × rType.den)).bind fun j19 =>
some (j19.2, j19.1)
else
((M.ref10_kind N (2 : Int)).bind fun y21 =>
(if (decide (a1.1 = (5 : Int))) = true then
some (decide (a2.1 = (5 : Int)), y21)
else
some (false, y21)) : Option (Bool × rType.den)).bind fun j20 =>
some (j20.2, j20.1)))))))))
noncomputable def M.ref10_Result (N : Nat) (a0 : rType.den) (a1 : List rType.den) (a2 : rSignature.den) : Option (rType.den × Int) :=
((if (!decide (a0.2 = (0 : Int))) = true then
(M.ref10_meaning N a0.1).bind fun y2 =>
some (!y2)
else
some false) : Option (Bool)).bind fun j1 =>
(if j1 = true then
some (((0 : Int), (0 : Int)), (2 : Int))
else
(M.ref10_ranged N a0 a2).bind fun y3 =>
(if (!y3) = true then
some (((0 : Int), (0 : Int)), (3 : Int))
else
(M.ref10_found N a0 a2).bind fun y4 =>
(if (!y4) = true then
some (((0 : Int), (0 : Int)), (6 : Int))
else
((if (decide ((a1.length : Int) = (0 : Int))) = true then
(M.ref10_leaf N a0 a2).bind fun y6 =>
some (y6.2, y6.1)
else
(if (decide ((a1.length : Int) = (1 : Int))) = true then
(idx a1 (0 : Int)).bind fun x7 =>
(M.ref10_single N a0 x7 a2).bind fun y8 =>
some (y8.2, y8.1)
else
(if (decide ((a1.length : Int) = (2 : Int))) = true then
(idx a1 (0 : Int)).bind fun x9 =>
(idx a1 (1 : Int)).bind fun x10 =>
(M.ref10_double N a0.1 x9 x10).bind fun y11 =>
some (y11.2, y11.1)
else
(idx a1 (1 : Int)).bind fun x12 =>
(idx a1 (0 : Int)).bind fun x13 =>
(if (decide (x13.1 = (1 : Int))) = true then
(idx a1 (1 : Int)).bind fun x14 =>
(idx a1 (2 : Int)).bind fun x15 =>
some ((eqR rType x14 x15), x12)
else
some (false, x12))))) : Option (Bool × rType.den)).bind fun j5 =>
(if (!j5.1) = true then
some (((0 : Int), (0 : Int)), (8 : Int))
else
some (j5.2, (0 : Int))))))
noncomputable def M.ref10_TypeOf (N : Nat) (a0 : List rType.den) (a1 : rSignature.den) : Option (rType.den × Int × Int) :=
(M.ref10_structure N a0).bind fun y1 =>
(if (!decide (y1.2.1 = (0 : Int))) = true then
some (((0 : Int), (0 : Int)), y1.1, y1.2.1)
else
Join (J := List rType.den) (R := rType.den × Int × Int) (Loop (S := Int × List rType.den) (X := (List rType.den) ⊕ (rType.den × Int × Int)) (fun s3 =>
(if (decide (s3.1 < (a0.length : Int))) = true then
(idx a0 s3.1).bind fun x4 =>
(M.ref10_Arity N x4.1).bind fun y5 =>
(idx a0 s3.1).bind fun x6 =>
(cutA s3.2 (IntKind.i64.wrap ((s3.2.length : Int) - y5)) (s3.2.length : Int)).bind fun l7 =>
(M.ref10_Result N x6 l7 a1).bind fun y8 =>
(if (!decide (y8.2 = (0 : Int))) = true then
some (Sum.inr (Sum.inr (((0 : Int), (0 : Int)), s3.1, y8.2)))
else
(cutA s3.2 (0 : Int) (IntKind.i64.wrap ((s3.2.length : Int) - y5))).bind fun l9 =>
(appA l9 ([y8.1] : List rType.den)).bind fun l10 =>
some (Sum.inl (IntKind.i64.wrap (s3.1 + (1 : Int)), l10)))
else
some (Sum.inr (Sum.inl s3.2)))) N ((0 : Int), ([] : List rType.den))) fun j2 =>
(idx j2 (0 : Int)).bind fun x11 =>
some (x11, (0 : Int), (0 : Int)))
noncomputable def M.ref17_exprError (N : Nat) (a0 : List rType.den) (a1 : rSignature.den) (a2 : rType.den) : Option (Int) :=
(M.ref10_TypeOf N a0 a1).bind fun y1 =>
(if (!decide (y1.2.2 = (0 : Int))) = true then
some y1.2.2
else
(if (!(eqR rType y1.1 a2)) = true then
some (8 : Int)
else
some (0 : Int)))
noncomputable def M.ref17_ruleError (N : Nat) (a0 : rLaw.den) (a1 : Int) (a2 : Int) : Option (Int) :=
(idx a0.2.2 a1).bind fun x1 =>
(idx x1.2.2.2.2 a2).bind fun x2 =>
(M.ref08_IsIdentifier N x2.1).bind fun y3 =>
(if (!y3) = true then
some (2 : Int)
else
Join (J := Int) (R := Int) (Loop (S := Int × Int) (X := (Int) ⊕ (Int)) (fun s5 =>
(if (decide (s5.2 < a2)) = true then
Join (J := Int) (R := (Int × Int) ⊕ ((Int) ⊕ (Int))) ((idx x1.2.2.2.2 s5.2).bind fun x7 =>
(if (decide (x7.1 = x2.1)) = true then
some (Sum.inr (Sum.inr (Sum.inr (7 : Int))))
else
(idx x1.2.2.2.2 s5.2).bind fun x8 =>
(if (decide (x8.2.1 = x2.2.1)) = true then
some (Sum.inl (IntKind.i64.wrap (s5.1 + (1 : Int))))
else
some (Sum.inl s5.1)))) fun j6 =>
some (Sum.inl (j6, IntKind.i64.wrap (s5.2 + (1 : Int))))
else
some (Sum.inr (Sum.inl s5.1)))) N ((0 : Int), (0 : Int))) fun j4 =>
((if (decide (x2.2.1 < (0 : Int))) = true then
some true
else
some (decide ((x1.2.2.2.1.length : Int) ≤ x2.2.1))) : Option (Bool)).bind fun j9 =>
(if j9 = true then
some (6 : Int)
else
((if (!decide (x2.2.2.1 = (-1 : Int))) = true then
(if (decide (x2.2.2.1 < (0 : Int))) = true then
some true
else
(if (decide (a2 ≤ x2.2.2.1)) = true then
some true
else
(idx x1.2.2.2.2 x2.2.2.1).bind fun x11 =>
some (!decide (x11.2.1 = x2.2.1))))
else
some false) : Option (Bool)).bind fun j10 =>
(if j10 = true then
some (9 : Int)
else
((if (decide (x2.2.2.2.1 < (0 : Int))) = true then
some true
else
(if (decide ((9 : Int) < x2.2.2.2.1)) = true then
some true
else
(M.ref05_Valid N x2.2.2.2.2.1).bind fun y13 =>
(if (!y13) = true then
some true
else
some (decide (x2.2.2.2.2.1.1 = x2.2.2.2.2.1.2))))) : Option (Bool)).bind fun j12 =>
(if j12 = true then
some (3 : Int)
else
(if (decide ((8 : Int) ≤ j4)) = true then
some (4 : Int)
else
(M.ref17_plainText N x2.2.2.2.2.2.2.2).bind fun y14 =>
(if (!y14) = true then
some (2 : Int)
else
(M.ref17_Signature N a0 a1).bind fun y15 =>
Join (J := Unit) (R := Int) ((if (decide ((0 : Int) < (x2.2.2.2.2.2.1.length : Int))) = true then
(M.ref17_exprError N x2.2.2.2.2.2.1 (y15.1, (y15.2.1, (y15.2.2.2.1, (y15.2.2.2.2.1, (y15.2.2.2.2.2, y15.2.2.1))))) ((1 : Int), (0 : Int))).bind fun y17 =>
(if (!decide (y17 = (0 : Int))) = true then
some (Sum.inr y17)
else
some (Sum.inl ()))
else
some (Sum.inl ()))) fun j16 =>
(idx x1.2.2.2.1 x2.2.1).bind fun x18 =>
(M.ref17_exprError N x2.2.2.2.2.2.2.1 (y15.1, (y15.2.1, (y15.2.2.2.1, (y15.2.2.2.2.1, (y15.2.2.2.2.2, y15.2.2.1))))) x18.2).bind fun y19 =>
some y19))))))
noncomputable def M.ref16_insert (N : Nat) (a0 : List Int) (a1 : Int) : Option (List Int) :=
(Loop (S := Bool × Int × List Int) (X := Bool × List Int) (fun s2 =>
(if (decide (s2.2.1 < (a0.length : Int))) = true then
(((if (!s2.1) = true then
(idx a0 s2.2.1).bind fun x5 =>
some (decide (a1 ≤ x5))
else
some false) : Option (Bool)).bind fun j4 =>
(if j4 = true then
((idx a0 s2.2.1).bind fun x7 =>
(if (decide (a1 < x7)) = true then
(appA s2.2.2 ([a1] : List Int)).bind fun l8 =>
some l8
else
some s2.2.2) : Option (List Int)).bind fun j6 =>
some (true, j6)
else
some (s2.1, s2.2.2)) : Option (Bool × List Int)).bind fun j3 =>
(idx a0 s2.2.1).bind fun x9 =>
(appA j3.2 ([x9] : List Int)).bind fun l10 =>
some (Sum.inl (j3.1, IntKind.i64.wrap (s2.2.1 + (1 : Int)), l10))
else
some (Sum.inr (s2.1, s2.2.2)))) N (false, (0 : Int), ([] : List Int)) : Option (Bool × List Int)).bind fun j1 =>
((if (!j1.1) = true then
(appA j1.2 ([a1] : List Int)).bind fun l12 =>
some l12
else
some j1.2) : Option (List Int)).bind fun j11 =>
some j11
noncomputable def M.ref16_is (N : Nat) (a0 : rScope.den) (a1 : Int) : Option (Bool) :=
((if (decide ((0 : Int) ≤ a1)) = true then
some (decide (a1 < (a0.2.2.2.1.length : Int)))
else
some false) : Option (Bool)).bind fun j1 =>
some j1
noncomputable def M.ref10_insert (N : Nat) (a0 : List Int) (a1 : Int) : Option (List Int) :=
(Loop (S := Bool × Int × List Int) (X := Bool × List Int) (fun s2 =>
(if (decide (s2.2.1 < (a0.length : Int))) = true then
(((if (!s2.1) = true then
(idx a0 s2.2.1).bind fun x5 =>
some (decide (a1 ≤ x5))
else
some false) : Option (Bool)).bind fun j4 =>
(if j4 = true then
((idx a0 s2.2.1).bind fun x7 =>
(if (decide (a1 < x7)) = true then
(appA s2.2.2 ([a1] : List Int)).bind fun l8 =>
some l8
else
some s2.2.2) : Option (List Int)).bind fun j6 =>
some (true, j6)
else
some (s2.1, s2.2.2)) : Option (Bool × List Int)).bind fun j3 =>
(idx a0 s2.2.1).bind fun x9 =>
(appA j3.2 ([x9] : List Int)).bind fun l10 =>
some (Sum.inl (j3.1, IntKind.i64.wrap (s2.2.1 + (1 : Int)), l10))
else
some (Sum.inr (s2.1, s2.2.2)))) N (false, (0 : Int), ([] : List Int)) : Option (Bool × List Int)).bind fun j1 =>
((if (!j1.1) = true then
(appA j1.2 ([a1] : List Int)).bind fun l12 =>
some l12
else
some j1.2) : Option (List Int)).bind fun j11 =>
some j11
noncomputable def M.ref10_References (N : Nat) (a0 : List rType.den) : Option ((List Int) × (List Int) × List Int) :=
(Loop (S := Int × (List Int) × (List Int) × List Int) (X := (List Int) × (List Int) × List Int) (fun s2 =>
(if (decide (s2.1 < (a0.length : Int))) = true then
((idx a0 s2.1).bind fun x4 =>
((if (decide (x4.1 = (7 : Int))) = true then
(idx a0 s2.1).bind fun x6 =>
(M.ref10_insert N s2.2.1 x6.2).bind fun y7 =>
some y7
else
some s2.2.1) : Option (List Int)).bind fun j5 =>
((if (decide (x4.1 = (8 : Int))) = true then
(idx a0 s2.1).bind fun x9 =>
(M.ref10_insert N s2.2.2.1 x9.2).bind fun y10 =>
some y10
else
some s2.2.2.1) : Option (List Int)).bind fun j8 =>
((if (decide ((36 : Int) ≤ x4.1)) = true then
some (decide (x4.1 ≤ (39 : Int)))
else
some false) : Option (Bool)).bind fun j11 =>
(if j11 = true then
(idx a0 s2.1).bind fun x12 =>
(M.ref10_insert N s2.2.2.2 x12.2).bind fun y13 =>
some (j5, j8, y13)
else
some (j5, j8, s2.2.2.2)) : Option ((List Int) × (List Int) × List Int)).bind fun j3 =>
some (Sum.inl (IntKind.i64.wrap (s2.1 + (1 : Int)), j3.1, j3.2.1, j3.2.2))
else
some (Sum.inr (s2.2.1, s2.2.2.1, s2.2.2.2)))) N ((0 : Int), ([] : List Int), ([] : List Int), ([] : List Int)) : Option ((List Int) × (List Int) × List Int)).bind fun j1 =>
some (j1.1, j1.2.1, j1.2.2)
noncomputable def M.ref16_Direct (N : Nat) (a0 : rScope.den) (a1 : Int) : Option (List Int) :=
(M.ref16_is N a0 a1).bind fun y1 =>
(if (!y1) = true then
some ([] : List Int)
else
Loop (S := Int × List Int) (X := List Int) (fun s2 =>
(if (decide (s2.1 < (a0.2.2.2.2.length : Int))) = true then
(((idx a0.2.2.2.2 s2.1).bind fun x5 =>
(if (!decide (x5.2.1 = a1)) = true then
some s2.2
else
(idx a0.2.2.2.2 s2.1).bind fun x6 =>
(M.ref10_References N x6.2.2.2.2.2.1).bind fun y7 =>
(idx a0.2.2.2.2 s2.1).bind fun x8 =>
(M.ref10_References N x8.2.2.2.2.2.2.1).bind fun y9 =>
(Loop (S := Int × List Int) (X := List Int) (fun s11 =>
(if (decide (s11.1 < (y7.2.1.length : Int))) = true then
((idx y7.2.1 s11.1).bind fun x13 =>
(M.ref16_is N a0 x13).bind fun y14 =>
(if y14 = true then
(idx y7.2.1 s11.1).bind fun x15 =>
(M.ref16_insert N s11.2 x15).bind fun y16 =>
some y16
else
some s11.2) : Option (List Int)).bind fun j12 =>
some (Sum.inl (IntKind.i64.wrap (s11.1 + (1 : Int)), j12))
else
some (Sum.inr s11.2))) N ((0 : Int), s2.2) : Option (List Int)).bind fun j10 =>
Loop (S := Int × List Int) (X := List Int) (fun s17 =>
(if (decide (s17.1 < (y9.2.1.length : Int))) = true then
((idx y9.2.1 s17.1).bind fun x19 =>
(M.ref16_is N a0 x19).bind fun y20 =>
(if y20 = true then
(idx y9.2.1 s17.1).bind fun x21 =>
(M.ref16_insert N s17.2 x21).bind fun y22 =>
some y22
else
some s17.2) : Option (List Int)).bind fun j18 =>
some (Sum.inl (IntKind.i64.wrap (s17.1 + (1 : Int)), j18))
else
some (Sum.inr s17.2))) N ((0 : Int), j10)) : Option (List Int)).bind fun j4 =>
some j4 : Option (List Int)).bind fun j3 =>
some (Sum.inl (IntKind.i64.wrap (s2.1 + (1 : Int)), j3))
else
some (Sum.inr s2.2))) N ((0 : Int), ([] : List Int)))
noncomputable def M.ref16_Transitive (N : Nat) (a0 : rScope.den) (a1 : Int) : Option (List Int) :=
(M.ref16_Direct N a0 a1).bind fun y1 =>
Loop (S := (List Int) × Int) (X := List Int) (fun s2 =>
(if (decide (s2.2 < (a0.2.2.2.1.length : Int))) = true then
(Loop (S := (List Int) × Int) (X := List Int) (fun s4 =>
(if (decide (s4.2 < (s2.1.length : Int))) = true then
((idx s2.1 s4.2).bind fun x6 =>
(M.ref16_Direct N a0 x6).bind fun y7 =>
Loop (S := (List Int) × Int) (X := List Int) (fun s8 =>
(if (decide (s8.2 < (y7.length : Int))) = true then
(idx y7 s8.2).bind fun x9 =>
(M.ref16_insert N s8.1 x9).bind fun y10 =>
some (Sum.inl (y10, IntKind.i64.wrap (s8.2 + (1 : Int))))
else
some (Sum.inr s8.1))) N (s4.1, (0 : Int)) : Option (List Int)).bind fun j5 =>
some (Sum.inl (j5, IntKind.i64.wrap (s4.2 + (1 : Int))))
else
some (Sum.inr s4.1))) N (s2.1, (0 : Int)) : Option (List Int)).bind fun j3 =>
some (Sum.inl (j3, IntKind.i64.wrap (s2.2 + (1 : Int))))
else
some (Sum.inr s2.1))) N (y1, (0 : Int))
noncomputable def M.ref17_scopeError (N : Nat) (a0 : rLaw.den) (a1 : Int) : Option (rLawError.den) :=
(idx a0.2.2 a1).bind fun x1 =>
(M.ref08_IsIdentifier N x1.1).bind fun y2 =>
(if (!y2) = true then
some ((2 : Int), ((3 : Int), (a1, (0 : Int))))
else
(M.ref17_nameTaken N a0 (3 : Int) a1 x1.1).bind fun y3 =>
(if y3 = true then
some ((7 : Int), ((3 : Int), (a1, (0 : Int))))
else
((if (!decide (x1.2.1 = (-1 : Int))) = true then
(if (decide (x1.2.1 < (0 : Int))) = true then
some true
else
(if (decide (a1 ≤ x1.2.1)) = true then
some true
else
(idx a0.2.2 x1.2.1).bind fun x5 =>
some (!decide (x5.2.1 = (-1 : Int)))))
else
some false) : Option (Bool)).bind fun j4 =>
(if j4 = true then
some ((6 : Int), ((3 : Int), (a1, (0 : Int))))
else
(if (decide ((12 : Int) < (x1.2.2.1.length : Int))) = true then
some ((4 : Int), ((3 : Int), (a1, (112 : Int))))
else
(if (decide ((12 : Int) < (x1.2.2.2.1.length : Int))) = true then
some ((4 : Int), ((3 : Int), (a1, (212 : Int))))
else
(M.ref17_fieldError N a0 a1).bind fun y6 =>
(if (!decide (y6.1 = (0 : Int))) = true then
some y6
else
Join (J := Unit) (R := rLawError.den) (Loop (S := Int) (X := (Unit) ⊕ (rLawError.den)) (fun s8 =>
(if (decide (s8 < (x1.2.2.2.2.length : Int))) = true then
(M.ref17_ruleError N a0 a1 s8).bind fun y9 =>
(if (!decide (y9 = (0 : Int))) = true then
some (Sum.inr (Sum.inr (y9, ((3 : Int), (a1, IntKind.i64.wrap ((300 : Int) + s8))))))
else
some (Sum.inl (IntKind.i64.wrap (s8 + (1 : Int)))))
else
some (Sum.inr (Sum.inl ())))) N (0 : Int)) fun j7 =>
Join (J := Unit) (R := rLawError.den) (Loop (S := Int) (X := (Unit) ⊕ (rLawError.den)) (fun s11 =>
(if (decide (s11 < (x1.2.2.2.1.length : Int))) = true then
Join (J := Unit) (R := (Int) ⊕ ((Unit) ⊕ (rLawError.den))) ((M.ref16_Transitive N x1 s11).bind fun y13 =>
Loop (S := Int) (X := (Unit) ⊕ ((Int) ⊕ ((Unit) ⊕ (rLawError.den)))) (fun s14 =>
(if (decide (s14 < (y13.length : Int))) = true then
(idx y13 s14).bind fun x15 =>
(if (decide (x15 = s11)) = true then
some (Sum.inr (Sum.inr (Sum.inr (Sum.inr ((9 : Int), ((3 : Int), (a1, IntKind.i64.wrap ((200 : Int) + s11))))))))
else
some (Sum.inl (IntKind.i64.wrap (s14 + (1 : Int)))))
else
some (Sum.inr (Sum.inl ())))) N (0 : Int)) fun j12 =>
some (Sum.inl (IntKind.i64.wrap (s11 + (1 : Int))))
else
some (Sum.inr (Sum.inl ())))) N (0 : Int)) fun j10 =>
some ((0 : Int), ((0 : Int), ((0 : Int), (0 : Int))))))))))
noncomputable def M.ref17_Validate (N : Nat) (a0 : rLaw.den) : Option (rLawError.den) :=
(if (decide ((8 : Int) < (a0.1.length : Int))) = true then
some ((4 : Int), ((1 : Int), ((8 : Int), (0 : Int))))
else
Join (J := Unit) (R := rLawError.den) (Loop (S := Int) (X := (Unit) ⊕ (rLawError.den)) (fun s2 =>
(if (decide (s2 < (a0.1.length : Int))) = true then
(M.ref17_enumError N a0 s2).bind fun y3 =>
(if (!decide (y3.1 = (0 : Int))) = true then
some (Sum.inr (Sum.inr y3))
else
some (Sum.inl (IntKind.i64.wrap (s2 + (1 : Int)))))
else
some (Sum.inr (Sum.inl ())))) N (0 : Int)) fun j1 =>
(if (decide ((8 : Int) < (a0.2.1.length : Int))) = true then
some ((4 : Int), ((2 : Int), ((8 : Int), (0 : Int))))
else
Join (J := Unit) (R := rLawError.den) (Loop (S := Int) (X := (Unit) ⊕ (rLawError.den)) (fun s5 =>
(if (decide (s5 < (a0.2.1.length : Int))) = true then
(M.ref17_tableError N a0 s5).bind fun y6 =>
(if (!decide (y6.1 = (0 : Int))) = true then
some (Sum.inr (Sum.inr y6))
else
some (Sum.inl (IntKind.i64.wrap (s5 + (1 : Int)))))
else
some (Sum.inr (Sum.inl ())))) N (0 : Int)) fun j4 =>
(if (decide ((4 : Int) < (a0.2.2.length : Int))) = true then
some ((4 : Int), ((3 : Int), ((4 : Int), (0 : Int))))
else
Join (J := Unit) (R := rLawError.den) (Loop (S := Int) (X := (Unit) ⊕ (rLawError.den)) (fun s8 =>
(if (decide (s8 < (a0.2.2.length : Int))) = true then
(M.ref17_scopeError N a0 s8).bind fun y9 =>
(if (!decide (y9.1 = (0 : Int))) = true then
some (Sum.inr (Sum.inr y9))
else
some (Sum.inl (IntKind.i64.wrap (s8 + (1 : Int)))))
else
some (Sum.inr (Sum.inl ())))) N (0 : Int)) fun j7 =>
some ((0 : Int), ((0 : Int), ((0 : Int), (0 : Int)))))))
end Go.Proofs.YtjeeligfdpociabGreat
