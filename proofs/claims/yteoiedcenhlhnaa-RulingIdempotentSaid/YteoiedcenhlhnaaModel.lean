/- The models of the functions, by program (gen.py). -/
import Derived.Test.YteoiedcenhlhnaaLit
namespace Go.Proofs.Yteoiedcenhlhnaa
open Go Go.RowKit

@[reducible] def rInt : Row := .int .i64
@[reducible] def rAppeal : Row := .pair rInt (.pair rInt (.pair rInt (.pair rInt (.pair rInt (.pair rInt (rInt))))))
@[reducible] def rAward : Row := .pair rInt (.pair rInt (rInt))

def M.ruling_Granted_k1 (_N : Nat) : Option (Int × Bool) :=
some (((0 : Int), false))
def M.ruling_Granted_k3 (_N : Nat) (a113 : Int) (x128 : rAppeal.den) (a149 : Bool) : Option (Int ⊕ (Unit ⊕ (Int × Bool))) :=
(if a149 = true then
some (.inr (.inr (x128.2.2.2.2.2.2, true)))
else
some (.inl (IntKind.i64.wrap (a113 - (1 : Int)))))
def M.ruling_Granted_k2 (N : Nat) (p0_l : List rAppeal.den) (p1_m : Int) (a113 : Int) : Option (Int ⊕ (Unit ⊕ (Int × Bool))) :=
(if (decide ((0 : Int) ≤ a113)) = true then
(idx p0_l a113).bind fun x128 =>
(if (decide (x128.2.2.2.2.2.1 = (3 : Int))) = true then
(if (decide (x128.2.1 ≤ p1_m)) = true then
M.ruling_Granted_k3 N a113 x128 (decide (p1_m < x128.2.2.1))
else
M.ruling_Granted_k3 N a113 x128 false)
else
M.ruling_Granted_k3 N a113 x128 false)
else
some (.inr (.inl ())))
def M.ruling_Granted (N : Nat) (p0_l : List rAppeal.den) (p1_m : Int) : Option (Int × Bool) :=
(Loop (S := Int) (X := (Unit ⊕ (Int × Bool))) (fun s => M.ruling_Granted_k2 N p0_l p1_m s) N (IntKind.i64.wrap ((p0_l.length : Int) - (1 : Int)))).bind fun x120 => Sum.elim (fun _ => M.ruling_Granted_k1 N) (fun q124 => some q124) x120

def M.ruling_Apply_k1 (_N : Nat) (a444 : List rAward.den) : Option (List rAward.den) :=
some (a444)
def M.ruling_Apply_k2 (N : Nat) (p0_a : List rAward.den) (p1_l : List rAppeal.den) (a618 : List rAward.den) (a621 : Int) : Option ((List rAward.den × Int) ⊕ (List rAward.den)) :=
(if (decide (a621 < (p0_a.length : Int))) = true then
(idx p0_a a621).bind fun x636 =>
(M.ruling_Granted N p1_l x636.1).bind fun y657 =>
(if y657.2 = true then
(appA a618 ([(x636.1, y657.1, (0 : Int))])).bind fun l688 =>
some (.inl (l688, IntKind.i64.wrap (a621 + (1 : Int))))
else
(appA a618 ([x636])).bind fun l705 =>
some (.inl (l705, IntKind.i64.wrap (a621 + (1 : Int)))))
else
some (.inr a618))
def M.ruling_Apply (N : Nat) (p0_a : List rAward.den) (p1_l : List rAppeal.den) : Option (List rAward.den) :=
(Loop (S := List rAward.den × Int) (X := (List rAward.den)) (fun s => M.ruling_Apply_k2 N p0_a p1_l s.1 s.2) N ([], (0 : Int))).bind fun x630 => M.ruling_Apply_k1 N x630

def M.ruling_StayedMonths_k5 (_N : Nat) (a892 : List Int) (a1240 : List Int) (a1243 : Int) (a1244 : Int) : Option ((List Int × Int × Int) ⊕ (List Int)) :=
(if (decide (a1244 < (3600 : Int))) = true then
(idx a892 a1244).bind fun x1259 =>
(if (decide ((0 : Int) < (IntKind.i64.wrap (a1243 + x1259)))) = true then
(appA a1240 ([a1244])).bind fun l1272 =>
some (.inl (l1272, IntKind.i64.wrap (a1243 + x1259), IntKind.i64.wrap (a1244 + (1 : Int))))
else
some (.inl (a1240, IntKind.i64.wrap (a1243 + x1259), IntKind.i64.wrap (a1244 + (1 : Int)))))
else
some (.inr a1240))
def M.ruling_StayedMonths_k4 (_N : Nat) (a1169 : List Int) : Option (List Int) :=
some (a1169)
def M.ruling_StayedMonths_k1 (N : Nat) (a892 : List Int) : Option (List Int) :=
(Loop (S := List Int × Int × Int) (X := (List Int)) (fun s => M.ruling_StayedMonths_k5 N a892 s.1 s.2.1 s.2.2) N ([], (0 : Int), (0 : Int))).bind fun x1253 => M.ruling_StayedMonths_k4 N x1253
def M.ruling_StayedMonths_k3 (_N : Nat) (a997 : List Int) (a999 : Int) (x1013 : rAppeal.den) : Option ((List Int × Int) ⊕ (List Int)) :=
(if (decide ((if x1013.2.1 < (0 : Int) then (0 : Int) else x1013.2.1) < (if (3600 : Int) < x1013.2.2.1 then (3600 : Int) else x1013.2.2.1))) = true then
(idx a997 (if x1013.2.1 < (0 : Int) then (0 : Int) else x1013.2.1)).bind fun x1055 =>
(idx a997 (if x1013.2.1 < (0 : Int) then (0 : Int) else x1013.2.1)).bind fun _ =>
(idx (setL a997 (if x1013.2.1 < (0 : Int) then (0 : Int) else x1013.2.1) (IntKind.i64.wrap (x1055 + (1 : Int)))) (if (3600 : Int) < x1013.2.2.1 then (3600 : Int) else x1013.2.2.1)).bind fun x1071 =>
(idx (setL a997 (if x1013.2.1 < (0 : Int) then (0 : Int) else x1013.2.1) (IntKind.i64.wrap (x1055 + (1 : Int)))) (if (3600 : Int) < x1013.2.2.1 then (3600 : Int) else x1013.2.2.1)).bind fun _ =>
some (.inl (setL (setL a997 (if x1013.2.1 < (0 : Int) then (0 : Int) else x1013.2.1) (IntKind.i64.wrap (x1055 + (1 : Int)))) (if (3600 : Int) < x1013.2.2.1 then (3600 : Int) else x1013.2.2.1) (IntKind.i64.wrap (x1071 - (1 : Int))), IntKind.i64.wrap (a999 + (1 : Int))))
else
some (.inl (a997, IntKind.i64.wrap (a999 + (1 : Int)))))
def M.ruling_StayedMonths_k2 (N : Nat) (p0_l : List rAppeal.den) (a997 : List Int) (a999 : Int) : Option ((List Int × Int) ⊕ (List Int)) :=
(if (decide (a999 < (p0_l.length : Int))) = true then
(idx p0_l a999).bind fun x1013 =>
(if (!decide (x1013.2.2.2.2.2.1 = (1 : Int))) = true then
(if (!decide (x1013.2.2.2.2.2.1 = (2 : Int))) = true then
some (.inl (a997, IntKind.i64.wrap (a999 + (1 : Int))))
else
M.ruling_StayedMonths_k3 N a997 a999 x1013)
else
M.ruling_StayedMonths_k3 N a997 a999 x1013)
else
some (.inr a997))
def M.ruling_StayedMonths (N : Nat) (p0_l : List rAppeal.den) : Option (List Int) :=
(mkL (3601 : Int) (0 : Int)).bind fun l735 =>
(Loop (S := List Int × Int) (X := (List Int)) (fun s => M.ruling_StayedMonths_k2 N p0_l s.1 s.2) N (l735, (0 : Int))).bind fun x1007 => M.ruling_StayedMonths_k1 N x1007

def M.same_Ints_k1 (_N : Nat) : Option Bool :=
some (true)
def M.same_Ints_k3 (_N : Nat) (p0_a : List Int) (p1_b : List Int) (a1354 : Int) : Option (Int ⊕ (Unit ⊕ Bool)) :=
(idx p0_a a1354).bind fun x1378 =>
(idx p1_b a1354).bind fun x1383 =>
(if (!decide (x1378 = x1383)) = true then
some (.inr (.inr false))
else
some (.inl (IntKind.i64.wrap (a1354 + (1 : Int)))))
def M.same_Ints_k2 (N : Nat) (p0_a : List Int) (p1_b : List Int) (a1354 : Int) : Option (Int ⊕ (Unit ⊕ Bool)) :=
(if (decide (a1354 < (p0_a.length : Int))) = true then
(if (decide (a1354 < (p1_b.length : Int))) = true then
M.same_Ints_k3 N p0_a p1_b a1354
else
some (.inr (.inl ())))
else
some (.inr (.inl ())))
def M.same_Ints (N : Nat) (p0_a : List Int) (p1_b : List Int) : Option Bool :=
(if (!decide ((p0_a.length : Int) = (p1_b.length : Int))) = true then
some (false)
else
(Loop (S := Int) (X := (Unit ⊕ Bool)) (fun s => M.same_Ints_k2 N p0_a p1_b s) N (0 : Int)).bind fun x1361 => Sum.elim (fun _ => M.same_Ints_k1 N) (fun q1365 => some q1365) x1361)

def M.same_Awards_k1 (_N : Nat) : Option Bool :=
some (true)
def M.same_Awards_k3 (_N : Nat) (p0_a : List rAward.den) (p1_b : List rAward.den) (a1492 : Int) : Option (Int ⊕ (Unit ⊕ Bool)) :=
(idx p0_a a1492).bind fun x1516 =>
(idx p1_b a1492).bind fun x1523 =>
(if (!(eqR rAward x1516 x1523)) = true then
some (.inr (.inr false))
else
some (.inl (IntKind.i64.wrap (a1492 + (1 : Int)))))
def M.same_Awards_k2 (N : Nat) (p0_a : List rAward.den) (p1_b : List rAward.den) (a1492 : Int) : Option (Int ⊕ (Unit ⊕ Bool)) :=
(if (decide (a1492 < (p0_a.length : Int))) = true then
(if (decide (a1492 < (p1_b.length : Int))) = true then
M.same_Awards_k3 N p0_a p1_b a1492
else
some (.inr (.inl ())))
else
some (.inr (.inl ())))
def M.same_Awards (N : Nat) (p0_a : List rAward.den) (p1_b : List rAward.den) : Option Bool :=
(if (!decide ((p0_a.length : Int) = (p1_b.length : Int))) = true then
some (false)
else
(Loop (S := Int) (X := (Unit ⊕ Bool)) (fun s => M.same_Awards_k2 N p0_a p1_b s) N (0 : Int)).bind fun x1499 => Sum.elim (fun _ => M.same_Awards_k1 N) (fun q1503 => some q1503) x1499)

def M.law42_awake (N : Nat) : Option Bool :=
(M.ruling_Granted N ([((0 : Int), (3 : Int), (6 : Int), (0 : Int), (0 : Int), (3 : Int), (500 : Int)), ((0 : Int), (5 : Int), (8 : Int), (0 : Int), (0 : Int), (3 : Int), (700 : Int)), ((0 : Int), (5 : Int), (7 : Int), (0 : Int), (0 : Int), (2 : Int), (0 : Int))] : List rAppeal.den) (4 : Int)).bind fun y169 =>
(M.ruling_Granted N ([((0 : Int), (3 : Int), (6 : Int), (0 : Int), (0 : Int), (3 : Int), (500 : Int)), ((0 : Int), (5 : Int), (8 : Int), (0 : Int), (0 : Int), (3 : Int), (700 : Int)), ((0 : Int), (5 : Int), (7 : Int), (0 : Int), (0 : Int), (2 : Int), (0 : Int))] : List rAppeal.den) (5 : Int)).bind fun y184 =>
(M.ruling_Granted N ([((0 : Int), (3 : Int), (6 : Int), (0 : Int), (0 : Int), (3 : Int), (500 : Int)), ((0 : Int), (5 : Int), (8 : Int), (0 : Int), (0 : Int), (3 : Int), (700 : Int)), ((0 : Int), (5 : Int), (7 : Int), (0 : Int), (0 : Int), (2 : Int), (0 : Int))] : List rAppeal.den) (8 : Int)).bind fun y199 =>
(M.ruling_Apply N ([((2 : Int), (100 : Int), (0 : Int)), ((5 : Int), (0 : Int), (10 : Int))] : List rAward.den) ([((0 : Int), (3 : Int), (6 : Int), (0 : Int), (0 : Int), (3 : Int), (500 : Int)), ((0 : Int), (5 : Int), (8 : Int), (0 : Int), (0 : Int), (3 : Int), (700 : Int)), ((0 : Int), (5 : Int), (7 : Int), (0 : Int), (0 : Int), (2 : Int), (0 : Int))] : List rAppeal.den)).bind fun y718 =>
(if (decide (y169.1 = (500 : Int))) = true then
(if y169.2 = true then
(if (decide (y184.1 = (700 : Int))) = true then
(if y184.2 = true then
(if (!y199.2) = true then
(M.ruling_StayedMonths N ([((0 : Int), (3 : Int), (6 : Int), (0 : Int), (0 : Int), (3 : Int), (500 : Int)), ((0 : Int), (5 : Int), (8 : Int), (0 : Int), (0 : Int), (3 : Int), (700 : Int)), ((0 : Int), (5 : Int), (7 : Int), (0 : Int), (0 : Int), (2 : Int), (0 : Int))] : List rAppeal.den)).bind fun y1281 =>
(M.same_Ints N y1281 ([(5 : Int), (6 : Int)] : List Int)).bind fun y1397 =>
(if y1397 = true then
(M.same_Awards N y718 ([((2 : Int), (100 : Int), (0 : Int)), ((5 : Int), (700 : Int), (0 : Int))] : List rAward.den)).bind fun y1539 =>
some (y1539)
else
some (false))
else
some (false))
else
some (false))
else
some (false))
else
some (false))
else
some (false))

def M.ref42_Pending (_N : Nat) (p0_x : rAppeal.den) : Option Bool :=
(if (decide (p0_x.2.2.2.2.2.1 = (1 : Int))) = true then
some (true)
else
some (decide (p0_x.2.2.2.2.2.1 = (2 : Int))))

def M.ref42_Covers (_N : Nat) (p0_x : rAppeal.den) (p1_m : Int) : Option Bool :=
(if (decide (p0_x.2.1 ≤ p1_m)) = true then
some (decide (p1_m < p0_x.2.2.1))
else
some (false))

def M.ref42_StayedMonths_k1 (_N : Nat) (a2036 : List Int) : Option (List Int) :=
some (a2036)
def M.ref42_StayedMonths_k4 (N : Nat) (p0_l : List rAppeal.den) (a2381 : Int) (a2566 : Bool) (a2567 : Int) : Option ((Bool × Int) ⊕ Bool) :=
(if (decide (a2567 < (p0_l.length : Int))) = true then
(if a2566 = true then
some (.inl (true, IntKind.i64.wrap (a2567 + (1 : Int))))
else
(idx p0_l a2567).bind fun x2583 =>
(M.ref42_Pending N x2583).bind fun y2590 =>
(if y2590 = true then
(idx p0_l a2567).bind fun x2600 =>
(M.ref42_Covers N x2600 a2381).bind fun y2607 =>
some (.inl (y2607, IntKind.i64.wrap (a2567 + (1 : Int))))
else
some (.inl (false, IntKind.i64.wrap (a2567 + (1 : Int))))))
else
some (.inr a2566))
def M.ref42_StayedMonths_k3 (_N : Nat) (a2378 : List Int) (a2381 : Int) (a2492 : Bool) : Option ((List Int × Int) ⊕ (List Int)) :=
(if a2492 = true then
(appA a2378 ([a2381])).bind fun l2625 =>
some (.inl (l2625, IntKind.i64.wrap (a2381 + (1 : Int))))
else
some (.inl (a2378, IntKind.i64.wrap (a2381 + (1 : Int)))))
def M.ref42_StayedMonths_k2 (N : Nat) (p0_l : List rAppeal.den) (a2378 : List Int) (a2381 : Int) : Option ((List Int × Int) ⊕ (List Int)) :=
(if (decide (a2381 ≤ (3599 : Int))) = true then
(Loop (S := Bool × Int) (X := Bool) (fun s => M.ref42_StayedMonths_k4 N p0_l a2381 s.1 s.2) N (false, (0 : Int))).bind fun x2576 => M.ref42_StayedMonths_k3 N a2378 a2381 x2576
else
some (.inr a2378))
def M.ref42_StayedMonths (N : Nat) (p0_l : List rAppeal.den) : Option (List Int) :=
(Loop (S := List Int × Int) (X := (List Int)) (fun s => M.ref42_StayedMonths_k2 N p0_l s.1 s.2) N ([], (0 : Int))).bind fun x2388 => M.ref42_StayedMonths_k1 N x2388

def M.law42_RulingStayed (N : Nat) (p0_l : List rAppeal.den) : Option Bool :=
(if (decide ((30 : Int) < (p0_l.length : Int))) = true then
(M.law42_awake N).bind fun y1548 =>
some (y1548)
else
(M.ruling_StayedMonths N p0_l).bind fun y1557 =>
(M.ref42_StayedMonths N p0_l).bind fun y2634 =>
(M.same_Ints N y1557 y2634).bind fun y2650 =>
(if y2650 = true then
(M.law42_awake N).bind fun y2660 =>
some (y2660)
else
some (false)))

def M.law42_RulingStayedMonth_k5 (N : Nat) (p0_l : List rAppeal.den) (p1_m : Int) (a3005 : Bool) (a3006 : Int) : Option ((Bool × Int) ⊕ Bool) :=
(if (decide (a3006 < (p0_l.length : Int))) = true then
(if a3005 = true then
some (.inl (true, IntKind.i64.wrap (a3006 + (1 : Int))))
else
(idx p0_l a3006).bind fun x3022 =>
(M.ref42_Pending N x3022).bind fun y3029 =>
(if y3029 = true then
(idx p0_l a3006).bind fun x3039 =>
(M.ref42_Covers N x3039 p1_m).bind fun y3046 =>
some (.inl (y3046, IntKind.i64.wrap (a3006 + (1 : Int))))
else
some (.inl (false, IntKind.i64.wrap (a3006 + (1 : Int))))))
else
some (.inr a3005))
def M.law42_RulingStayedMonth_k4 (N : Nat) (p1_m : Int) (a2736 : Bool) (a2934 : Bool) : Option Bool :=
(if a2934 = true then
(if (decide ((0 : Int) ≤ p1_m)) = true then
(if (decide (a2736 = (decide (p1_m ≤ (3599 : Int))))) = true then
(M.law42_awake N).bind fun y3059 =>
some (y3059)
else
some (false))
else
(if (decide (a2736 = false)) = true then
(M.law42_awake N).bind fun y3069 =>
some (y3069)
else
some (false)))
else
(if (decide (a2736 = false)) = true then
(M.law42_awake N).bind fun y3079 =>
some (y3079)
else
some (false)))
def M.law42_RulingStayedMonth_k1 (N : Nat) (p0_l : List rAppeal.den) (p1_m : Int) (a2736 : Bool) : Option Bool :=
(Loop (S := Bool × Int) (X := Bool) (fun s => M.law42_RulingStayedMonth_k5 N p0_l p1_m s.1 s.2) N (false, (0 : Int))).bind fun x3015 => M.law42_RulingStayedMonth_k4 N p1_m a2736 x3015
def M.law42_RulingStayedMonth_k3 (_N : Nat) (y2679 : List Int) (a2777 : Int) (a2802 : Bool) : Option ((Bool × Int) ⊕ (Bool ⊕ Bool)) :=
(if (decide ((0 : Int) < a2777)) = true then
(idx y2679 (IntKind.i64.wrap (a2777 - (1 : Int)))).bind fun x2819 =>
(idx y2679 a2777).bind fun x2824 =>
(if (decide (x2824 ≤ x2819)) = true then
some (.inr (.inr false))
else
some (.inl (a2802, IntKind.i64.wrap (a2777 + (1 : Int)))))
else
some (.inl (a2802, IntKind.i64.wrap (a2777 + (1 : Int)))))
def M.law42_RulingStayedMonth_k2 (N : Nat) (p1_m : Int) (y2679 : List Int) (a2776 : Bool) (a2777 : Int) : Option ((Bool × Int) ⊕ (Bool ⊕ Bool)) :=
(if (decide (a2777 < (y2679.length : Int))) = true then
(if a2776 = true then
M.law42_RulingStayedMonth_k3 N y2679 a2777 true
else
(idx y2679 a2777).bind fun x2813 =>
M.law42_RulingStayedMonth_k3 N y2679 a2777 (decide (x2813 = p1_m)))
else
some (.inr (.inl a2776)))
def M.law42_RulingStayedMonth (N : Nat) (p0_l : List rAppeal.den) (p1_m : Int) : Option Bool :=
(if (decide ((30 : Int) < (p0_l.length : Int))) = true then
(M.law42_awake N).bind fun y2670 =>
some (y2670)
else
(M.ruling_StayedMonths N p0_l).bind fun y2679 =>
(Loop (S := Bool × Int) (X := (Bool ⊕ Bool)) (fun s => M.law42_RulingStayedMonth_k2 N p1_m y2679 s.1 s.2) N (false, (0 : Int))).bind fun x2787 => Sum.elim (fun q2790 => M.law42_RulingStayedMonth_k1 N p0_l p1_m q2790) (fun q2791 => some q2791) x2787)

def M.ref42_Granted_k1 (_N : Nat) : Option (Int × Bool) :=
some (((0 : Int), false))
def M.ref42_Granted_k3 (_N : Nat) (p0_l : List rAppeal.den) (a3279 : Int) (a3316 : Bool) : Option (Int ⊕ (Unit ⊕ (Int × Bool))) :=
(if a3316 = true then
(idx p0_l a3279).bind fun x3348 =>
some (.inr (.inr (x3348.2.2.2.2.2.2, true)))
else
some (.inl (IntKind.i64.wrap (a3279 - (1 : Int)))))
def M.ref42_Granted_k2 (N : Nat) (p0_l : List rAppeal.den) (p1_m : Int) (a3279 : Int) : Option (Int ⊕ (Unit ⊕ (Int × Bool))) :=
(if (decide ((0 : Int) ≤ a3279)) = true then
(idx p0_l a3279).bind fun x3324 =>
(if (decide (x3324.2.2.2.2.2.1 = (3 : Int))) = true then
(idx p0_l a3279).bind fun x3331 =>
(M.ref42_Covers N x3331 p1_m).bind fun y3338 =>
M.ref42_Granted_k3 N p0_l a3279 y3338
else
M.ref42_Granted_k3 N p0_l a3279 false)
else
some (.inr (.inl ())))
def M.ref42_Granted (N : Nat) (p0_l : List rAppeal.den) (p1_m : Int) : Option (Int × Bool) :=
(Loop (S := Int) (X := (Unit ⊕ (Int × Bool))) (fun s => M.ref42_Granted_k2 N p0_l p1_m s) N (IntKind.i64.wrap ((p0_l.length : Int) - (1 : Int)))).bind fun x3286 => Sum.elim (fun _ => M.ref42_Granted_k1 N) (fun q3290 => some q3290) x3286

def M.ref42_Apply_k1 (_N : Nat) (a3640 : List rAward.den) : Option (List rAward.den) :=
some (a3640)
def M.ref42_Apply_k2 (N : Nat) (p0_a : List rAward.den) (p1_l : List rAppeal.den) (a3842 : List rAward.den) (a3845 : Int) : Option ((List rAward.den × Int) ⊕ (List rAward.den)) :=
(if (decide (a3845 < (p0_a.length : Int))) = true then
(idx p0_a a3845).bind fun x3859 =>
(M.ref42_Granted N p1_l x3859.1).bind fun y3865 =>
(if y3865.2 = true then
(idx p0_a a3845).bind fun x3879 =>
(appA a3842 ([(x3879.1, y3865.1, (0 : Int))])).bind fun l3894 =>
some (.inl (l3894, IntKind.i64.wrap (a3845 + (1 : Int))))
else
(idx p0_a a3845).bind fun x3902 =>
(appA a3842 ([x3902])).bind fun l3916 =>
some (.inl (l3916, IntKind.i64.wrap (a3845 + (1 : Int)))))
else
some (.inr a3842))
def M.ref42_Apply (N : Nat) (p0_a : List rAward.den) (p1_l : List rAppeal.den) : Option (List rAward.den) :=
(Loop (S := List rAward.den × Int) (X := (List rAward.den)) (fun s => M.ref42_Apply_k2 N p0_a p1_l s.1 s.2) N ([], (0 : Int))).bind fun x3853 => M.ref42_Apply_k1 N x3853

def M.law42_RulingApply_k1 (N : Nat) (p0_a : List rAward.den) (p1_l : List rAppeal.den) (p2_m : Int) : Option Bool :=
(M.ruling_Granted N p1_l p2_m).bind fun y3123 =>
(M.ref42_Granted N p1_l p2_m).bind fun y3356 =>
(if (decide (y3123.1 = y3356.1)) = true then
(if (decide (y3123.2 = y3356.2)) = true then
(M.ruling_Apply N p0_a p1_l).bind fun y3371 =>
(M.ref42_Apply N p0_a p1_l).bind fun y3925 =>
(M.same_Awards N y3371 y3925).bind fun y3941 =>
(if y3941 = true then
(M.law42_awake N).bind fun y3951 =>
some (y3951)
else
some (false))
else
some (false))
else
some (false))
def M.law42_RulingApply (N : Nat) (p0_a : List rAward.den) (p1_l : List rAppeal.den) (p2_m : Int) : Option Bool :=
(if (decide ((200 : Int) < (p0_a.length : Int))) = true then
(M.law42_awake N).bind fun y3104 =>
some (y3104)
else
(if (decide ((100 : Int) < (p1_l.length : Int))) = true then
(M.law42_awake N).bind fun y3114 =>
some (y3114)
else
M.law42_RulingApply_k1 N p0_a p1_l p2_m))

def M.law42_RulingIdempotent_k4 (_N : Nat) (a4332 : Int) (a4407 : Bool) : Option (Int ⊕ (Unit ⊕ Bool)) :=
(if a4407 = true then
some (.inr (.inr false))
else
some (.inl (IntKind.i64.wrap (a4332 + (1 : Int)))))
def M.law42_RulingIdempotent_k3 (N : Nat) (p0_a : List rAward.den) (p1_l : List rAppeal.den) (y4025 : List rAward.den) (a4332 : Int) : Option (Int ⊕ (Unit ⊕ Bool)) :=
(if (decide (a4332 < (p0_a.length : Int))) = true then
(idx p0_a a4332).bind fun x4348 =>
(M.ruling_Granted N p1_l x4348.1).bind fun y4354 =>
(idx y4025 a4332).bind fun x4416 =>
(idx p0_a a4332).bind fun x4422 =>
(if (!decide (x4416.1 = x4422.1)) = true then
M.law42_RulingIdempotent_k4 N a4332 true
else
(if (!y4354.2) = true then
(idx y4025 a4332).bind fun x4433 =>
(idx p0_a a4332).bind fun x4440 =>
(if (!(eqR rAward x4433 x4440)) = true then
M.law42_RulingIdempotent_k4 N a4332 true
else
(if y4354.2 = true then
(idx y4025 a4332).bind fun x4452 =>
(if (!decide (x4452.2.1 = y4354.1)) = true then
M.law42_RulingIdempotent_k4 N a4332 true
else
(idx y4025 a4332).bind fun x4462 =>
M.law42_RulingIdempotent_k4 N a4332 (!decide (x4462.2.2 = (0 : Int))))
else
M.law42_RulingIdempotent_k4 N a4332 false))
else
(if y4354.2 = true then
(idx y4025 a4332).bind fun x4475 =>
(if (!decide (x4475.2.1 = y4354.1)) = true then
M.law42_RulingIdempotent_k4 N a4332 true
else
(idx y4025 a4332).bind fun x4485 =>
M.law42_RulingIdempotent_k4 N a4332 (!decide (x4485.2.2 = (0 : Int))))
else
M.law42_RulingIdempotent_k4 N a4332 false)))
else
some (.inr (.inl ())))
def M.law42_RulingIdempotent_k2 (N : Nat) (p1_l : List rAppeal.den) (y4025 : List rAward.den) : Option Bool :=
(M.ruling_Apply N y4025 p1_l).bind fun y4502 =>
(M.same_Awards N y4502 y4025).bind fun y4516 =>
(if y4516 = true then
(M.law42_awake N).bind fun y4526 =>
some (y4526)
else
some (false))
def M.law42_RulingIdempotent_k1 (N : Nat) (p0_a : List rAward.den) (p1_l : List rAppeal.den) : Option Bool :=
(M.ruling_Apply N p0_a p1_l).bind fun y4025 =>
(if (!decide ((y4025.length : Int) = (p0_a.length : Int))) = true then
some (false)
else
(Loop (S := Int) (X := (Unit ⊕ Bool)) (fun s => M.law42_RulingIdempotent_k3 N p0_a p1_l y4025 s) N (0 : Int)).bind fun x4340 => Sum.elim (fun _ => M.law42_RulingIdempotent_k2 N p1_l y4025) (fun q4344 => some q4344) x4340)
def M.law42_RulingIdempotent (N : Nat) (p0_a : List rAward.den) (p1_l : List rAppeal.den) : Option Bool :=
(if (decide ((200 : Int) < (p0_a.length : Int))) = true then
(M.law42_awake N).bind fun y4006 =>
some (y4006)
else
(if (decide ((100 : Int) < (p1_l.length : Int))) = true then
(M.law42_awake N).bind fun y4016 =>
some (y4016)
else
M.law42_RulingIdempotent_k1 N p0_a p1_l))

end Go.Proofs.Yteoiedcenhlhnaa
