/- The models of the functions, by program (gen.py). -/
import Derived.Test.YtncajogcgkmpmaaFam
namespace Go.Proofs.Ytncajogcgkmpmaa
open Go Go.RowKit
noncomputable section

@[reducible] def rInt : Row := .int .i64
@[reducible] def rValue : Row := .pair rInt (.pair rInt (rInt))
@[reducible] def rDateRange : Row := .pair rInt (rInt)
@[reducible] def rFact : Row := .pair rInt (.pair rInt (.pair rInt (.pair rValue (.pair rDateRange (rInt)))))
@[reducible] def rHousehold : Row := .pair rInt (.pair rInt (.pair rInt ((Row.slice rFact))))
@[reducible] def rPosting : Row := .pair rInt (.pair rInt (.pair rInt (rInt)))
@[reducible] def rAppeal : Row := .pair rInt (.pair rInt (.pair rInt (.pair rInt (.pair rInt (.pair rInt (rInt))))))
@[reducible] def rAccount : Row := .pair rHousehold (.pair (Row.slice rPosting) (.pair (Row.slice rAppeal) (.pair rInt (rInt))))

def M.shard_Of (_N : Nat) (p0_household : Int) (p1_n : Int) : Option Int :=
(if (((decide (p1_n < (1 : Int))) || (decide ((65536 : Int) < p1_n))) || (decide (p0_household < (0 : Int)))) = true then
some ((0 : Int))
else
some (IntKind.i64.wrap (Int.tdiv (IntKind.i64.wrap ((Int.tmod (IntKind.i64.wrap ((Int.tmod p0_household (1048576 : Int)) * (40503 : Int))) (65536 : Int)) * p1_n)) (65536 : Int))))

def M.ref48_Of (_N : Nat) (p0_household : Int) (p1_n : Int) : Option Int :=
(if (((decide (p1_n < (1 : Int))) || (decide ((65536 : Int) < p1_n))) || (decide (p0_household < (0 : Int)))) = true then
some ((0 : Int))
else
some (IntKind.i64.wrap (Int.tdiv (IntKind.i64.wrap ((Int.tmod (IntKind.i64.wrap ((Int.tmod p0_household (1048576 : Int)) * (40503 : Int))) (65536 : Int)) * p1_n)) (65536 : Int))))

def M.shard_Partition_k1 (_N : Nat) (a709 : List (List Int)) : Option (List (List Int)) :=
some (a709)
def M.shard_Partition_k2 (N : Nat) (p0_l : List rAccount.den) (p1_n : Int) (a841 : List (List Int)) (a843 : Int) : Option ((List (List Int) × Int) ⊕ (List (List Int))) :=
(if (decide (a843 < (p0_l.length : Int))) = true then
(idx p0_l a843).bind fun x858 =>
(M.shard_Of N x858.1.1 p1_n).bind fun y880 =>
(idx a841 y880).bind fun x889 =>
(appA x889 ([a843])).bind fun l906 =>
(idx (setL a841 y880 l906) y880).bind fun _ =>
some (.inl (setL a841 y880 l906, IntKind.i64.wrap (a843 + (1 : Int))))
else
some (.inr a841))
def M.shard_Partition (N : Nat) (p0_l : List rAccount.den) (p1_n : Int) : Option (List (List Int)) :=
(if ((decide (p1_n < (1 : Int))) || (decide ((8 : Int) < p1_n))) = true then
some ([])
else
(mkL p1_n ([] : List Int)).bind fun l511 =>
(Loop (S := List (List Int) × Int) (X := (List (List Int))) (fun s => M.shard_Partition_k2 N p0_l p1_n s.1 s.2) N (l511, (0 : Int))).bind fun x852 => M.shard_Partition_k1 N x852)

def M.same_Ints_k1 (_N : Nat) : Option Bool :=
some (true)
def M.same_Ints_k3 (_N : Nat) (p0_a : List Int) (p1_b : List Int) (a1032 : Int) : Option (Int ⊕ (Unit ⊕ Bool)) :=
(idx p0_a a1032).bind fun x1056 =>
(idx p1_b a1032).bind fun x1061 =>
(if (!decide (x1056 = x1061)) = true then
some (.inr (.inr false))
else
some (.inl (IntKind.i64.wrap (a1032 + (1 : Int)))))
def M.same_Ints_k2 (N : Nat) (p0_a : List Int) (p1_b : List Int) (a1032 : Int) : Option (Int ⊕ (Unit ⊕ Bool)) :=
(if (decide (a1032 < (p0_a.length : Int))) = true then
(if (decide (a1032 < (p1_b.length : Int))) = true then
M.same_Ints_k3 N p0_a p1_b a1032
else
some (.inr (.inl ())))
else
some (.inr (.inl ())))
def M.same_Ints (N : Nat) (p0_a : List Int) (p1_b : List Int) : Option Bool :=
(if (!decide ((p0_a.length : Int) = (p1_b.length : Int))) = true then
some (false)
else
(Loop (S := Int) (X := (Unit ⊕ Bool)) (fun s => M.same_Ints_k2 N p0_a p1_b s) N (0 : Int)).bind fun x1039 => Sum.elim (fun _ => M.same_Ints_k1 N) (fun q1043 => some q1043) x1039)

def M.same_IntLists_k1 (_N : Nat) : Option Bool :=
some (true)
def M.same_IntLists_k3 (N : Nat) (p0_a : List (List Int)) (p1_b : List (List Int)) (a1175 : Int) : Option (Int ⊕ (Unit ⊕ Bool)) :=
(idx p0_a a1175).bind fun x1199 =>
(idx p1_b a1175).bind fun x1206 =>
(M.same_Ints N x1199 x1206).bind fun y1213 =>
(if (!y1213) = true then
some (.inr (.inr false))
else
some (.inl (IntKind.i64.wrap (a1175 + (1 : Int)))))
def M.same_IntLists_k2 (N : Nat) (p0_a : List (List Int)) (p1_b : List (List Int)) (a1175 : Int) : Option (Int ⊕ (Unit ⊕ Bool)) :=
(if (decide (a1175 < (p0_a.length : Int))) = true then
(if (decide (a1175 < (p1_b.length : Int))) = true then
M.same_IntLists_k3 N p0_a p1_b a1175
else
some (.inr (.inl ())))
else
some (.inr (.inl ())))
def M.same_IntLists (N : Nat) (p0_a : List (List Int)) (p1_b : List (List Int)) : Option Bool :=
(if (!decide ((p0_a.length : Int) = (p1_b.length : Int))) = true then
some (false)
else
(Loop (S := Int) (X := (Unit ⊕ Bool)) (fun s => M.same_IntLists_k2 N p0_a p1_b s) N (0 : Int)).bind fun x1182 => Sum.elim (fun _ => M.same_IntLists_k1 N) (fun q1186 => some q1186) x1182)

def M.law48_awake (N : Nat) : Option Bool :=
(mkL (3 : Int) (((0 : Int), (0 : Int), (0 : Int), ([] : List rFact.den)), ([] : List rPosting.den), ([] : List rAppeal.den), (0 : Int), (0 : Int))).bind fun l32 =>
(idx l32 (0 : Int)).bind fun x41 =>
(idx (setL l32 (0 : Int) (((1 : Int), x41.1.2), x41.2)) (1 : Int)).bind fun x52 =>
(idx (setL (setL l32 (0 : Int) (((1 : Int), x41.1.2), x41.2)) (1 : Int) (((2 : Int), x52.1.2), x52.2)) (2 : Int)).bind fun x63 =>
(M.shard_Of N (1 : Int) (2 : Int)).bind fun y74 =>
(if (decide (y74 = (1 : Int))) = true then
(M.shard_Of N (2 : Int) (2 : Int)).bind fun y84 =>
(if (decide (y84 = (0 : Int))) = true then
(M.shard_Partition N (setL (setL (setL l32 (0 : Int) (((1 : Int), x41.1.2), x41.2)) (1 : Int) (((2 : Int), x52.1.2), x52.2)) (2 : Int) (((1 : Int), x63.1.2), x63.2)) (2 : Int)).bind fun y930 =>
(M.same_IntLists N y930 ([[(1 : Int)], ([(0 : Int), (2 : Int)] : List Int)] : List (List Int))).bind fun y1222 =>
some (y1222)
else
some (false))
else
some (false))

def M.law48_ShardOf_k1 (N : Nat) (p0_household : Int) (p1_n : Int) (y2 : Int) : Option Bool :=
(M.ref48_Of N p0_household p1_n).bind fun y22 =>
(if (decide (y2 = y22)) = true then
(M.law48_awake N).bind fun y1231 =>
some (y1231)
else
some (false))
def M.law48_ShardOf (N : Nat) (p0_household : Int) (p1_n : Int) : Option Bool :=
(M.shard_Of N p0_household p1_n).bind fun y2 =>
(if (decide ((1 : Int) ≤ p1_n)) = true then
(if (decide (p1_n ≤ (65536 : Int))) = true then
(if (decide (y2 < (0 : Int))) = true then
some (false)
else
(if (decide (p1_n ≤ y2)) = true then
some (false)
else
M.law48_ShardOf_k1 N p0_household p1_n y2))
else
M.law48_ShardOf_k1 N p0_household p1_n y2)
else
M.law48_ShardOf_k1 N p0_household p1_n y2)

def M.law48_accounts_k1 (_N : Nat) (a1335 : List rAccount.den) : Option (List rAccount.den) :=
some (a1335)
def M.law48_accounts_k2 (_N : Nat) (p0_ids : List Int) (a1392 : List rAccount.den) (a1394 : Int) : Option ((List rAccount.den × Int) ⊕ (List rAccount.den)) :=
(if (decide (a1394 < (p0_ids.length : Int))) = true then
(idx p0_ids a1394).bind fun x1407 =>
(idx a1392 a1394).bind fun x1412 =>
(idx (setL a1392 a1394 ((x1407, x1412.1.2), x1412.2)) a1394).bind fun x1423 =>
some (.inl (setL (setL a1392 a1394 ((x1407, x1412.1.2), x1412.2)) a1394 (x1423.1, (x1423.2.1, (x1423.2.2.1, (a1394, x1423.2.2.2.2)))), IntKind.i64.wrap (a1394 + (1 : Int))))
else
some (.inr a1392))
def M.law48_accounts (N : Nat) (p0_ids : List Int) : Option (List rAccount.den) :=
(mkL (p0_ids.length : Int) (((0 : Int), (0 : Int), (0 : Int), ([] : List rFact.den)), ([] : List rPosting.den), ([] : List rAppeal.den), (0 : Int), (0 : Int))).bind fun l1250 =>
(Loop (S := List rAccount.den × Int) (X := (List rAccount.den)) (fun s => M.law48_accounts_k2 N p0_ids s.1 s.2) N (l1250, (0 : Int))).bind fun x1401 => M.law48_accounts_k1 N x1401

def M.ref48_Partition_k1 (_N : Nat) (a2023 : List (List Int)) : Option (List (List Int)) :=
some (a2023)
def M.ref48_Partition_k4 (N : Nat) (p0_l : List rAccount.den) (p1_n : Int) (a2458 : Int) (a2708 : List Int) (a2711 : Int) : Option ((List Int × Int) ⊕ (List Int)) :=
(if (decide (a2711 < (p0_l.length : Int))) = true then
(idx p0_l a2711).bind fun x2728 =>
(M.ref48_Of N x2728.1.1 p1_n).bind fun y2735 =>
(if (decide (y2735 = a2458)) = true then
(appA a2708 ([a2711])).bind fun l2752 =>
some (.inl (l2752, IntKind.i64.wrap (a2711 + (1 : Int))))
else
some (.inl (a2708, IntKind.i64.wrap (a2711 + (1 : Int)))))
else
some (.inr a2708))
def M.ref48_Partition_k3 (_N : Nat) (a2455 : List (List Int)) (a2458 : Int) (a2599 : List Int) : Option ((List (List Int) × Int) ⊕ (List (List Int))) :=
(appA a2455 ([a2599])).bind fun l2770 =>
some (.inl (l2770, IntKind.i64.wrap (a2458 + (1 : Int))))
def M.ref48_Partition_k2 (N : Nat) (p0_l : List rAccount.den) (p1_n : Int) (a2455 : List (List Int)) (a2458 : Int) : Option ((List (List Int) × Int) ⊕ (List (List Int))) :=
(if (decide (a2458 < p1_n)) = true then
(Loop (S := List Int × Int) (X := (List Int)) (fun s => M.ref48_Partition_k4 N p0_l p1_n a2458 s.1 s.2) N ([], (0 : Int))).bind fun x2722 => M.ref48_Partition_k3 N a2455 a2458 x2722
else
some (.inr a2455))
def M.ref48_Partition (N : Nat) (p0_l : List rAccount.den) (p1_n : Int) : Option (List (List Int)) :=
(if ((decide (p1_n < (1 : Int))) || (decide ((8 : Int) < p1_n))) = true then
some ([])
else
(Loop (S := List (List Int) × Int) (X := (List (List Int))) (fun s => M.ref48_Partition_k2 N p0_l p1_n s.1 s.2) N ([], (0 : Int))).bind fun x2466 => M.ref48_Partition_k1 N x2466)

def M.law48_ShardLists (N : Nat) (p0_ids : List Int) (p1_n : Int) : Option Bool :=
(if (decide ((200 : Int) < (p0_ids.length : Int))) = true then
(M.law48_awake N).bind fun y1241 =>
some (y1241)
else
(M.law48_accounts N p0_ids).bind fun y1435 =>
(M.shard_Partition N y1435 p1_n).bind fun y1449 =>
(M.ref48_Partition N y1435 p1_n).bind fun y2779 =>
(M.same_IntLists N y1449 y2779).bind fun y2793 =>
(if y2793 = true then
(M.law48_awake N).bind fun y2803 =>
some (y2803)
else
some (false)))

def M.ref48_Light_k3 (_N : Nat) (p1_parts : List (List Int)) (a2859 : Int) : Option (Int ⊕ (Unit ⊕ Bool)) :=
(if (decide (a2859 < (p1_parts.length : Int))) = true then
(idx p1_parts a2859).bind fun x2874 =>
(if (decide ((40 : Int) < (x2874.length : Int))) = true then
some (.inr (.inr false))
else
some (.inl (IntKind.i64.wrap (a2859 + (1 : Int)))))
else
some (.inr (.inl ())))
def M.ref48_Light_k5 (_N : Nat) (p2_done : List (List rAccount.den)) (a2922 : Int) : Option (Int ⊕ (Unit ⊕ Bool)) :=
(if (decide (a2922 < (p2_done.length : Int))) = true then
(idx p2_done a2922).bind fun x2936 =>
(if (decide ((40 : Int) < (x2936.length : Int))) = true then
some (.inr (.inr false))
else
some (.inl (IntKind.i64.wrap (a2922 + (1 : Int)))))
else
some (.inr (.inl ())))
def M.ref48_Light_k4 (_N : Nat) : Option Bool :=
some (true)
def M.ref48_Light_k2 (N : Nat) (p2_done : List (List rAccount.den)) : Option Bool :=
(Loop (S := Int) (X := (Unit ⊕ Bool)) (fun s => M.ref48_Light_k5 N p2_done s) N (0 : Int)).bind fun x2928 => Sum.elim (fun _ => M.ref48_Light_k4 N) (fun q2932 => some q2932) x2928
def M.ref48_Light_k1 (N : Nat) (p1_parts : List (List Int)) (p2_done : List (List rAccount.den)) : Option Bool :=
(Loop (S := Int) (X := (Unit ⊕ Bool)) (fun s => M.ref48_Light_k3 N p1_parts s) N (0 : Int)).bind fun x2866 => Sum.elim (fun _ => M.ref48_Light_k2 N p2_done) (fun q2870 => some q2870) x2866
def M.ref48_Light (N : Nat) (p0_l : List rAccount.den) (p1_parts : List (List Int)) (p2_done : List (List rAccount.den)) : Option Bool :=
(if (decide ((40 : Int) < (p0_l.length : Int))) = true then
some (false)
else
(if (decide ((12 : Int) < (p1_parts.length : Int))) = true then
some (false)
else
(if (decide ((12 : Int) < (p2_done.length : Int))) = true then
some (false)
else
M.ref48_Light_k1 N p1_parts p2_done)))

def M.shard_clone (_N : Nat) (p0_s : rAccount.den) : Option rAccount.den :=
(appA ([] : List rFact.den) p0_s.1.2.2.2).bind fun l4175 =>
(appA ([] : List rPosting.den) (((p0_s.1.1, (p0_s.1.2.1, (p0_s.1.2.2.1, l4175))), p0_s.2).2.1)).bind fun l4196 =>
(appA ([] : List rAppeal.den) ((((p0_s.1.1, (p0_s.1.2.1, (p0_s.1.2.2.1, l4175))), p0_s.2).1, (l4196, (((p0_s.1.1, (p0_s.1.2.1, (p0_s.1.2.2.1, l4175))), p0_s.2).2).2)).2.2.1)).bind fun l4217 =>
some (((((p0_s.1.1, (p0_s.1.2.1, (p0_s.1.2.2.1, l4175))), p0_s.2).1, (l4196, (((p0_s.1.1, (p0_s.1.2.1, (p0_s.1.2.2.1, l4175))), p0_s.2).2).2)).1, (((((p0_s.1.1, (p0_s.1.2.1, (p0_s.1.2.2.1, l4175))), p0_s.2).1, (l4196, (((p0_s.1.1, (p0_s.1.2.1, (p0_s.1.2.2.1, l4175))), p0_s.2).2).2)).2).1, (l4217, (((((p0_s.1.1, (p0_s.1.2.1, (p0_s.1.2.2.1, l4175))), p0_s.2).1, (l4196, (((p0_s.1.1, (p0_s.1.2.1, (p0_s.1.2.2.1, l4175))), p0_s.2).2).2)).2).2).2))))

def M.shard_Merge_k9 (N : Nat) (a3428 : List rAccount.den) (a4434 : List rAccount.den) (a4436 : Int) : Option ((List rAccount.den × Int) ⊕ (List rAccount.den)) :=
(if (decide (a4436 < (a3428.length : Int))) = true then
(idx a4434 a4436).bind fun x4450 =>
(M.shard_clone N x4450).bind fun y4472 =>
(idx a4434 a4436).bind fun _ =>
some (.inl (setL a4434 a4436 y4472, IntKind.i64.wrap (a4436 + (1 : Int))))
else
some (.inr a4434))
def M.shard_Merge_k8 (_N : Nat) (a4345 : List rAccount.den) : Option (List rAccount.den) :=
some (a4345)
def M.shard_Merge_k1 (N : Nat) (a3428 : List rAccount.den) : Option (List rAccount.den) :=
(Loop (S := List rAccount.den × Int) (X := (List rAccount.den)) (fun s => M.shard_Merge_k9 N a3428 s.1 s.2) N (a3428, (0 : Int))).bind fun x4444 => M.shard_Merge_k8 N x4444
def M.shard_Merge_k7 (_N : Nat) (p2_done : List (List rAccount.den)) (a3737 : Int) (a4024 : List rAccount.den) (a4026 : Int) (x4089 : Int) (a4096 : Bool) : Option ((List rAccount.den × Int) ⊕ (List rAccount.den)) :=
(if a4096 = true then
(idx p2_done a3737).bind fun x4109 =>
(idx x4109 a4026).bind fun x4116 =>
(idx a4024 x4089).bind fun _ =>
some (.inl (setL a4024 x4089 x4116, IntKind.i64.wrap (a4026 + (1 : Int))))
else
some (.inl (a4024, IntKind.i64.wrap (a4026 + (1 : Int)))))
def M.shard_Merge_k6 (N : Nat) (p1_parts : List (List Int)) (p2_done : List (List rAccount.den)) (a3737 : Int) (a4024 : List rAccount.den) (a4026 : Int) : Option ((List rAccount.den × Int) ⊕ (List rAccount.den)) :=
(idx p1_parts a3737).bind fun x4082 =>
(idx x4082 a4026).bind fun x4089 =>
(if (decide ((0 : Int) ≤ x4089)) = true then
M.shard_Merge_k7 N p2_done a3737 a4024 a4026 x4089 (decide (x4089 < (a4024.length : Int)))
else
M.shard_Merge_k7 N p2_done a3737 a4024 a4026 x4089 false)
def M.shard_Merge_k5 (N : Nat) (p1_parts : List (List Int)) (p2_done : List (List rAccount.den)) (a3737 : Int) (a4024 : List rAccount.den) (a4026 : Int) : Option ((List rAccount.den × Int) ⊕ (List rAccount.den)) :=
(idx p1_parts a3737).bind fun x4064 =>
(if (decide (a4026 < (x4064.length : Int))) = true then
(idx p2_done a3737).bind fun x4072 =>
(if (decide (a4026 < (x4072.length : Int))) = true then
M.shard_Merge_k6 N p1_parts p2_done a3737 a4024 a4026
else
some (.inr a4024))
else
some (.inr a4024))
def M.shard_Merge_k4 (_N : Nat) (a3737 : Int) (a3914 : List rAccount.den) : Option ((List rAccount.den × Int) ⊕ (List rAccount.den)) :=
some (.inl (a3914, IntKind.i64.wrap (a3737 + (1 : Int))))
def M.shard_Merge_k3 (N : Nat) (p1_parts : List (List Int)) (p2_done : List (List rAccount.den)) (a3735 : List rAccount.den) (a3737 : Int) : Option ((List rAccount.den × Int) ⊕ (List rAccount.den)) :=
(Loop (S := List rAccount.den × Int) (X := (List rAccount.den)) (fun s => M.shard_Merge_k5 N p1_parts p2_done a3737 s.1 s.2) N (a3735, (0 : Int))).bind fun x4035 => M.shard_Merge_k4 N a3737 x4035
def M.shard_Merge_k2 (N : Nat) (p1_parts : List (List Int)) (p2_done : List (List rAccount.den)) (a3735 : List rAccount.den) (a3737 : Int) : Option ((List rAccount.den × Int) ⊕ (List rAccount.den)) :=
(if (decide (a3737 < (p1_parts.length : Int))) = true then
(if (decide (a3737 < (p2_done.length : Int))) = true then
M.shard_Merge_k3 N p1_parts p2_done a3735 a3737
else
some (.inr a3735))
else
some (.inr a3735))
def M.shard_Merge (N : Nat) (p0_l : List rAccount.den) (p1_parts : List (List Int)) (p2_done : List (List rAccount.den)) : Option (List rAccount.den) :=
(if (decide ((p0_l.length : Int) = (0 : Int))) = true then
some ([])
else
(appA ([] : List rAccount.den) p0_l).bind fun l2966 =>
(Loop (S := List rAccount.den × Int) (X := (List rAccount.den)) (fun s => M.shard_Merge_k2 N p1_parts p2_done s.1 s.2) N (l2966, (0 : Int))).bind fun x3745 => M.shard_Merge_k1 N x3745)

def M.ref48_Merge_k1 (_N : Nat) (a4968 : List rAccount.den) : Option (List rAccount.den) :=
some (a4968)
def M.ref48_Merge_k7 (_N : Nat) (p2_done : List (List rAccount.den)) (a5277 : Int) (a5564 : List rAccount.den) (a5566 : Int) (x5629 : Int) (a5636 : Bool) : Option ((List rAccount.den × Int) ⊕ (List rAccount.den)) :=
(if a5636 = true then
(idx p2_done a5277).bind fun x5649 =>
(idx x5649 a5566).bind fun x5656 =>
(idx a5564 x5629).bind fun _ =>
some (.inl (setL a5564 x5629 x5656, IntKind.i64.wrap (a5566 + (1 : Int))))
else
some (.inl (a5564, IntKind.i64.wrap (a5566 + (1 : Int)))))
def M.ref48_Merge_k6 (N : Nat) (p1_parts : List (List Int)) (p2_done : List (List rAccount.den)) (a5277 : Int) (a5564 : List rAccount.den) (a5566 : Int) : Option ((List rAccount.den × Int) ⊕ (List rAccount.den)) :=
(idx p1_parts a5277).bind fun x5622 =>
(idx x5622 a5566).bind fun x5629 =>
(if (decide ((0 : Int) ≤ x5629)) = true then
M.ref48_Merge_k7 N p2_done a5277 a5564 a5566 x5629 (decide (x5629 < (a5564.length : Int)))
else
M.ref48_Merge_k7 N p2_done a5277 a5564 a5566 x5629 false)
def M.ref48_Merge_k5 (N : Nat) (p1_parts : List (List Int)) (p2_done : List (List rAccount.den)) (a5277 : Int) (a5564 : List rAccount.den) (a5566 : Int) : Option ((List rAccount.den × Int) ⊕ (List rAccount.den)) :=
(idx p1_parts a5277).bind fun x5604 =>
(if (decide (a5566 < (x5604.length : Int))) = true then
(idx p2_done a5277).bind fun x5612 =>
(if (decide (a5566 < (x5612.length : Int))) = true then
M.ref48_Merge_k6 N p1_parts p2_done a5277 a5564 a5566
else
some (.inr a5564))
else
some (.inr a5564))
def M.ref48_Merge_k4 (_N : Nat) (a5277 : Int) (a5454 : List rAccount.den) : Option ((List rAccount.den × Int) ⊕ (List rAccount.den)) :=
some (.inl (a5454, IntKind.i64.wrap (a5277 + (1 : Int))))
def M.ref48_Merge_k3 (N : Nat) (p1_parts : List (List Int)) (p2_done : List (List rAccount.den)) (a5275 : List rAccount.den) (a5277 : Int) : Option ((List rAccount.den × Int) ⊕ (List rAccount.den)) :=
(Loop (S := List rAccount.den × Int) (X := (List rAccount.den)) (fun s => M.ref48_Merge_k5 N p1_parts p2_done a5277 s.1 s.2) N (a5275, (0 : Int))).bind fun x5575 => M.ref48_Merge_k4 N a5277 x5575
def M.ref48_Merge_k2 (N : Nat) (p1_parts : List (List Int)) (p2_done : List (List rAccount.den)) (a5275 : List rAccount.den) (a5277 : Int) : Option ((List rAccount.den × Int) ⊕ (List rAccount.den)) :=
(if (decide (a5277 < (p1_parts.length : Int))) = true then
(if (decide (a5277 < (p2_done.length : Int))) = true then
M.ref48_Merge_k3 N p1_parts p2_done a5275 a5277
else
some (.inr a5275))
else
some (.inr a5275))
def M.ref48_Merge (N : Nat) (p0_l : List rAccount.den) (p1_parts : List (List Int)) (p2_done : List (List rAccount.den)) : Option (List rAccount.den) :=
(appA ([] : List rAccount.den) p0_l).bind fun l4506 =>
(Loop (S := List rAccount.den × Int) (X := (List rAccount.den)) (fun s => M.ref48_Merge_k2 N p1_parts p2_done s.1 s.2) N (l4506, (0 : Int))).bind fun x5285 => M.ref48_Merge_k1 N x5285

def M.same_Facts_k1 (_N : Nat) : Option Bool :=
some (true)
def M.same_Facts_k3 (_N : Nat) (p0_a : List rFact.den) (p1_b : List rFact.den) (a5828 : Int) : Option (Int ⊕ (Unit ⊕ Bool)) :=
(idx p0_a a5828).bind fun x5852 =>
(idx p1_b a5828).bind fun x5859 =>
(if (!(eqR rFact x5852 x5859)) = true then
some (.inr (.inr false))
else
some (.inl (IntKind.i64.wrap (a5828 + (1 : Int)))))
def M.same_Facts_k2 (N : Nat) (p0_a : List rFact.den) (p1_b : List rFact.den) (a5828 : Int) : Option (Int ⊕ (Unit ⊕ Bool)) :=
(if (decide (a5828 < (p0_a.length : Int))) = true then
(if (decide (a5828 < (p1_b.length : Int))) = true then
M.same_Facts_k3 N p0_a p1_b a5828
else
some (.inr (.inl ())))
else
some (.inr (.inl ())))
def M.same_Facts (N : Nat) (p0_a : List rFact.den) (p1_b : List rFact.den) : Option Bool :=
(if (!decide ((p0_a.length : Int) = (p1_b.length : Int))) = true then
some (false)
else
(Loop (S := Int) (X := (Unit ⊕ Bool)) (fun s => M.same_Facts_k2 N p0_a p1_b s) N (0 : Int)).bind fun x5835 => Sum.elim (fun _ => M.same_Facts_k1 N) (fun q5839 => some q5839) x5835)

def M.same_Household (N : Nat) (p0_a : rHousehold.den) (p1_b : rHousehold.den) : Option Bool :=
(if (decide (p0_a.1 = p1_b.1)) = true then
(if (decide (p0_a.2.1 = p1_b.2.1)) = true then
(if (decide (p0_a.2.2.1 = p1_b.2.2.1)) = true then
(M.same_Facts N p0_a.2.2.2 p1_b.2.2.2).bind fun y5871 =>
some (y5871)
else
some (false))
else
some (false))
else
some (false))

def M.same_Postings_k1 (_N : Nat) : Option Bool :=
some (true)
def M.same_Postings_k3 (_N : Nat) (p0_a : List rPosting.den) (p1_b : List rPosting.den) (a5970 : Int) : Option (Int ⊕ (Unit ⊕ Bool)) :=
(idx p0_a a5970).bind fun x5994 =>
(idx p1_b a5970).bind fun x6001 =>
(if (!(eqR rPosting x5994 x6001)) = true then
some (.inr (.inr false))
else
some (.inl (IntKind.i64.wrap (a5970 + (1 : Int)))))
def M.same_Postings_k2 (N : Nat) (p0_a : List rPosting.den) (p1_b : List rPosting.den) (a5970 : Int) : Option (Int ⊕ (Unit ⊕ Bool)) :=
(if (decide (a5970 < (p0_a.length : Int))) = true then
(if (decide (a5970 < (p1_b.length : Int))) = true then
M.same_Postings_k3 N p0_a p1_b a5970
else
some (.inr (.inl ())))
else
some (.inr (.inl ())))
def M.same_Postings (N : Nat) (p0_a : List rPosting.den) (p1_b : List rPosting.den) : Option Bool :=
(if (!decide ((p0_a.length : Int) = (p1_b.length : Int))) = true then
some (false)
else
(Loop (S := Int) (X := (Unit ⊕ Bool)) (fun s => M.same_Postings_k2 N p0_a p1_b s) N (0 : Int)).bind fun x5977 => Sum.elim (fun _ => M.same_Postings_k1 N) (fun q5981 => some q5981) x5977)

def M.same_Appeals_k1 (_N : Nat) : Option Bool :=
some (true)
def M.same_Appeals_k3 (_N : Nat) (p0_a : List rAppeal.den) (p1_b : List rAppeal.den) (a6103 : Int) : Option (Int ⊕ (Unit ⊕ Bool)) :=
(idx p0_a a6103).bind fun x6127 =>
(idx p1_b a6103).bind fun x6134 =>
(if (!(eqR rAppeal x6127 x6134)) = true then
some (.inr (.inr false))
else
some (.inl (IntKind.i64.wrap (a6103 + (1 : Int)))))
def M.same_Appeals_k2 (N : Nat) (p0_a : List rAppeal.den) (p1_b : List rAppeal.den) (a6103 : Int) : Option (Int ⊕ (Unit ⊕ Bool)) :=
(if (decide (a6103 < (p0_a.length : Int))) = true then
(if (decide (a6103 < (p1_b.length : Int))) = true then
M.same_Appeals_k3 N p0_a p1_b a6103
else
some (.inr (.inl ())))
else
some (.inr (.inl ())))
def M.same_Appeals (N : Nat) (p0_a : List rAppeal.den) (p1_b : List rAppeal.den) : Option Bool :=
(if (!decide ((p0_a.length : Int) = (p1_b.length : Int))) = true then
some (false)
else
(Loop (S := Int) (X := (Unit ⊕ Bool)) (fun s => M.same_Appeals_k2 N p0_a p1_b s) N (0 : Int)).bind fun x6110 => Sum.elim (fun _ => M.same_Appeals_k1 N) (fun q6114 => some q6114) x6110)

def M.same_Account (N : Nat) (p0_a : rAccount.den) (p1_b : rAccount.den) : Option Bool :=
(M.same_Household N p0_a.1 p1_b.1).bind fun y5880 =>
(if y5880 = true then
(M.same_Postings N p0_a.2.1 p1_b.2.1).bind fun y6013 =>
(if y6013 = true then
(M.same_Appeals N p0_a.2.2.1 p1_b.2.2.1).bind fun y6146 =>
(if y6146 = true then
(if (decide (p0_a.2.2.2.1 = p1_b.2.2.2.1)) = true then
some (decide (p0_a.2.2.2.2 = p1_b.2.2.2.2))
else
some (false))
else
some (false))
else
some (false))
else
some (false))

def M.same_Accounts_k1 (_N : Nat) : Option Bool :=
some (true)
def M.same_Accounts_k3 (N : Nat) (p0_a : List rAccount.den) (p1_b : List rAccount.den) (a6265 : Int) : Option (Int ⊕ (Unit ⊕ Bool)) :=
(idx p0_a a6265).bind fun x6289 =>
(idx p1_b a6265).bind fun x6296 =>
(M.same_Account N x6289 x6296).bind fun y6303 =>
(if (!y6303) = true then
some (.inr (.inr false))
else
some (.inl (IntKind.i64.wrap (a6265 + (1 : Int)))))
def M.same_Accounts_k2 (N : Nat) (p0_a : List rAccount.den) (p1_b : List rAccount.den) (a6265 : Int) : Option (Int ⊕ (Unit ⊕ Bool)) :=
(if (decide (a6265 < (p0_a.length : Int))) = true then
(if (decide (a6265 < (p1_b.length : Int))) = true then
M.same_Accounts_k3 N p0_a p1_b a6265
else
some (.inr (.inl ())))
else
some (.inr (.inl ())))
def M.same_Accounts (N : Nat) (p0_a : List rAccount.den) (p1_b : List rAccount.den) : Option Bool :=
(if (!decide ((p0_a.length : Int) = (p1_b.length : Int))) = true then
some (false)
else
(Loop (S := Int) (X := (Unit ⊕ Bool)) (fun s => M.same_Accounts_k2 N p0_a p1_b s) N (0 : Int)).bind fun x6272 => Sum.elim (fun _ => M.same_Accounts_k1 N) (fun q6276 => some q6276) x6272)

def M.law48_ShardMerge (N : Nat) (p0_l : List rAccount.den) (p1_parts : List (List Int)) (p2_done : List (List rAccount.den)) : Option Bool :=
(M.ref48_Light N p0_l p1_parts p2_done).bind fun y2946 =>
(if (!y2946) = true then
(M.law48_awake N).bind fun y2956 =>
some (y2956)
else
(M.shard_Merge N p0_l p1_parts p2_done).bind fun y4494 =>
(M.ref48_Merge N p0_l p1_parts p2_done).bind fun y5674 =>
(M.same_Accounts N y4494 y5674).bind fun y6314 =>
(if y6314 = true then
(M.law48_awake N).bind fun y6324 =>
some (y6324)
else
some (false)))

def M.law48_ShardPartition_k8 (_N : Nat) (a10468 : Int) (a10521 : Bool) : Option (Int ⊕ (Unit ⊕ Bool)) :=
(if a10521 = true then
some (.inr (.inr false))
else
some (.inl (IntKind.i64.wrap (a10468 + (1 : Int)))))
def M.law48_ShardPartition_k7 (N : Nat) (p0_ids : List Int) (y6343 : List rAccount.den) (a8048 : List Int) (y10301 : List rAccount.den) (a10468 : Int) : Option (Int ⊕ (Unit ⊕ Bool)) :=
(if (decide (a10468 < (y6343.length : Int))) = true then
(idx a8048 a10468).bind fun x10532 =>
(if (!decide (x10532 = (1 : Int))) = true then
M.law48_ShardPartition_k8 N a10468 true
else
(idx y10301 a10468).bind fun x10541 =>
(if (!decide (x10541.2.2.2.1 = (IntKind.i64.wrap (a10468 + (1000 : Int))))) = true then
M.law48_ShardPartition_k8 N a10468 true
else
(idx y10301 a10468).bind fun x10551 =>
(idx p0_ids a10468).bind fun x10558 =>
(if (!decide (x10551.1.1 = x10558)) = true then
M.law48_ShardPartition_k8 N a10468 true
else
(idx y6343 a10468).bind fun x10567 =>
M.law48_ShardPartition_k8 N a10468 (!decide (x10567.2.2.2.1 = a10468)))))
else
some (.inr (.inl ())))
def M.law48_ShardPartition_k6 (N : Nat) : Option Bool :=
(M.law48_awake N).bind fun y10579 =>
some (y10579)
def M.law48_ShardPartition_k1 (N : Nat) (p0_ids : List Int) (y6343 : List rAccount.den) (y6357 : List (List Int)) (a8048 : List Int) (a8051 : List (List rAccount.den)) : Option Bool :=
(M.shard_Merge N y6343 y6357 a8051).bind fun y10301 =>
(if (!decide ((y10301.length : Int) = (y6343.length : Int))) = true then
some (false)
else
(Loop (S := Int) (X := (Unit ⊕ Bool)) (fun s => M.law48_ShardPartition_k7 N p0_ids y6343 a8048 y10301 s) N (0 : Int)).bind fun x10478 => Sum.elim (fun _ => M.law48_ShardPartition_k6 N) (fun q10482 => some q10482) x10478)
def M.law48_ShardPartition_k5 (_N : Nat) (y6343 : List rAccount.den) (a10079 : List Int) (a10084 : List rAccount.den) (a10087 : Int) (x10125 : Int) : Option ((List Int × List rAccount.den × Int) ⊕ ((List Int × List rAccount.den) ⊕ Bool)) :=
(idx a10079 x10125).bind fun x10221 =>
(idx a10079 x10125).bind fun _ =>
(idx y6343 x10125).bind fun x10237 =>
(appA a10084 ([(x10237.1, (x10237.2.1, (x10237.2.2.1, (IntKind.i64.wrap (x10237.2.2.2.1 + (1000 : Int)), x10237.2.2.2.2))))])).bind fun l10272 =>
some (.inl (setL a10079 x10125 (IntKind.i64.wrap (x10221 + (1 : Int))), l10272, IntKind.i64.wrap (a10087 + (1 : Int))))
def M.law48_ShardPartition_k4 (N : Nat) (p0_ids : List Int) (p1_n : Int) (y6343 : List rAccount.den) (y6357 : List (List Int)) (a9326 : Int) (a10079 : List Int) (a10084 : List rAccount.den) (a10087 : Int) : Option ((List Int × List rAccount.den × Int) ⊕ ((List Int × List rAccount.den) ⊕ Bool)) :=
(idx y6357 a9326).bind fun x10110 =>
(if (decide (a10087 < (x10110.length : Int))) = true then
(idx y6357 a9326).bind fun x10118 =>
(idx x10118 a10087).bind fun x10125 =>
(if (decide (x10125 < (0 : Int))) = true then
some (.inr (.inr false))
else
(if (decide ((y6343.length : Int) ≤ x10125)) = true then
some (.inr (.inr false))
else
(idx p0_ids x10125).bind fun x10188 =>
(M.shard_Of N x10188 p1_n).bind fun y10193 =>
(if (!decide (y10193 = a9326)) = true then
some (.inr (.inr false))
else
(if (decide ((0 : Int) < a10087)) = true then
(idx y6357 a9326).bind fun x10206 =>
(idx x10206 (IntKind.i64.wrap (a10087 - (1 : Int)))).bind fun x10213 =>
(if (decide (x10125 ≤ x10213)) = true then
some (.inr (.inr false))
else
M.law48_ShardPartition_k5 N y6343 a10079 a10084 a10087 x10125)
else
M.law48_ShardPartition_k5 N y6343 a10079 a10084 a10087 x10125))))
else
some (.inr (.inl (a10079, a10084))))
def M.law48_ShardPartition_k3 (_N : Nat) (a9323 : List (List rAccount.den)) (a9326 : Int) (a9751 : List Int) (a9756 : List rAccount.den) : Option ((List Int × List (List rAccount.den) × Int) ⊕ ((List Int × List (List rAccount.den)) ⊕ Bool)) :=
(appA a9323 ([a9756])).bind fun l10290 =>
some (.inl (a9751, l10290, IntKind.i64.wrap (a9326 + (1 : Int))))
def M.law48_ShardPartition_k2 (N : Nat) (p0_ids : List Int) (p1_n : Int) (y6343 : List rAccount.den) (y6357 : List (List Int)) (a9320 : List Int) (a9323 : List (List rAccount.den)) (a9326 : Int) : Option ((List Int × List (List rAccount.den) × Int) ⊕ ((List Int × List (List rAccount.den)) ⊕ Bool)) :=
(if (decide (a9326 < p1_n)) = true then
(Loop (S := List Int × List rAccount.den × Int) (X := ((List Int × List rAccount.den) ⊕ Bool)) (fun s => M.law48_ShardPartition_k4 N p0_ids p1_n y6343 y6357 a9326 s.1 s.2.1 s.2.2) N (a9320, [], (0 : Int))).bind fun x10103 => Sum.elim (fun q10106 => M.law48_ShardPartition_k3 N a9323 a9326 q10106.1 q10106.2) (fun q10107 => some (.inr (.inr q10107))) x10103
else
some (.inr (.inl (a9320, a9323))))
def M.law48_ShardPartition (N : Nat) (p0_ids : List Int) (p1_n : Int) : Option Bool :=
(if (((decide ((200 : Int) < (p0_ids.length : Int))) || (decide (p1_n < (1 : Int)))) || (decide ((8 : Int) < p1_n))) = true then
(M.law48_awake N).bind fun y6334 =>
some (y6334)
else
(M.law48_accounts N p0_ids).bind fun y6343 =>
(M.shard_Partition N y6343 p1_n).bind fun y6357 =>
(if (!decide ((y6357.length : Int) = p1_n)) = true then
some (false)
else
(mkL (y6343.length : Int) (0 : Int)).bind fun l6366 =>
(Loop (S := List Int × List (List rAccount.den) × Int) (X := ((List Int × List (List rAccount.den)) ⊕ Bool)) (fun s => M.law48_ShardPartition_k2 N p0_ids p1_n y6343 y6357 s.1 s.2.1 s.2.2) N (l6366, [], (0 : Int))).bind fun x9338 => Sum.elim (fun q9341 => M.law48_ShardPartition_k1 N p0_ids y6343 y6357 q9341.1 q9341.2) (fun q9342 => some q9342) x9338))

end
end Go.Proofs.Ytncajogcgkmpmaa
