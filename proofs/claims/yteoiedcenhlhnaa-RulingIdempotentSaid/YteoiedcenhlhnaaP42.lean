/- Chapter 42: what the models compute (plain laws). -/
import Derived.Test.YteoiedcenhlhnaaModel
import Derived.Test.YteoiedcenhlhnaaPlain
import Derived.Test.YteoiedcenhlhnaaOpen
namespace Go.Proofs.Yteoiedcenhlhnaa
open Go Go.RowKit
namespace L

abbrev Ap : Type := Int × Int × Int × Int × Int × Int × Int
def pend (a : Ap) : Bool := decide (a.2.2.2.2.2.1 = 1) || decide (a.2.2.2.2.2.1 = 2)
def cov (a : Ap) (m : Int) : Bool := decide (a.2.1 ≤ m) && decide (m < a.2.2.1)
def from' (a : Ap) : Int := if a.2.1 < 0 then 0 else a.2.1
def to' (a : Ap) : Int := if 3600 < a.2.2.1 then 3600 else a.2.2.1
def act (a : Ap) : Bool := pend a && decide (from' a < to' a)
/-- What an appeal adds to the change of a month. -/
def dl (a : Ap) (m : Nat) : Int := if act a then (if from' a = m then 1 else 0) - (if to' a = m then 1 else 0) else 0
def dls : List Ap → Nat → Int
  | [], _ => 0
  | a :: l, m => dl a m + dls l m
/-- How many hold in a month. -/
def held (a : Ap) (m : Nat) : Int := if pend a && cov a m then 1 else 0
def helds : List Ap → Nat → Int
  | [], _ => 0
  | a :: l, m => held a m + helds l m
def stayed (l : List Ap) (m : Int) : Bool := l.any fun a => pend a && cov a m
def months (l : List Ap) : List Int := ((List.range 3600).filter fun m : Nat => stayed l m).map (fun m : Nat => (m : Int))

theorem dls_append (l : List Ap) (a : Ap) (m : Nat) : dls (l ++ [a]) m = dls l m + dl a m := by
  induction l with
  | nil => simp [dls]
  | cons b l ih => simp only [List.cons_append, dls, ih]; omega
theorem dl_bound (a : Ap) (m : Nat) : -1 ≤ dl a m ∧ dl a m ≤ 1 := by
  unfold dl; split <;> (try split) <;> (try split) <;> omega
theorem dls_bound (l : List Ap) (m : Nat) : -(l.length : Int) ≤ dls l m ∧ dls l m ≤ l.length := by
  induction l with
  | nil => simp [dls]
  | cons a l ih => have := dl_bound a m; simp only [dls, List.length_cons]; omega
theorem helds_bound (l : List Ap) (m : Nat) : 0 ≤ helds l m ∧ helds l m ≤ l.length := by
  induction l with
  | nil => simp [helds]
  | cons a l ih => have : 0 ≤ held a m ∧ held a m ≤ 1 := by { unfold held; split <;> omega }
                   simp only [helds, List.length_cons]; omega
theorem helds_pos (l : List Ap) (m : Nat) : 0 < helds l m ↔ stayed l m = true := by
  induction l with
  | nil => simp [helds, stayed]
  | cons a l ih =>
    have h0 := helds_bound l m
    have : 0 ≤ held a m ∧ (0 < held a m ↔ (pend a && cov a m) = true) := by { unfold held; split <;> simp_all }
    unfold stayed at ih ⊢
    rw [List.any_cons, Bool.or_eq_true, ← ih, ← this.2]
    simp only [helds]
    omega
/-- The step of the number that hold. -/
theorem held_step (a : Ap) (m : Nat) (hm : m < 3600) : held a m = (if m = 0 then 0 else held a (m - 1)) + dl a m := by
  have hF : (a.2.1 < 0 ∧ from' a = 0) ∨ (0 ≤ a.2.1 ∧ from' a = a.2.1) := by unfold from'; split <;> omega
  have hT : (3600 < a.2.2.1 ∧ to' a = 3600) ∨ (a.2.2.1 ≤ 3600 ∧ to' a = a.2.2.1) := by unfold to'; split <;> omega
  unfold held dl act
  cases hp : pend a
  · simp
  · simp only [Bool.true_and, cov, Bool.and_eq_true, decide_eq_true_eq]
    generalize from' a = F at *
    generalize to' a = T at *
    by_cases h0 : m = 0
    · subst h0
      simp only [if_true]
      repeat' split
      all_goals omega
    · simp only [if_neg h0]
      have : ((m - 1 : Nat) : Int) = (m : Int) - 1 := by omega
      rw [this]
      repeat' split
      all_goals omega
theorem helds_step (l : List Ap) (m : Nat) (hm : m < 3600) : helds l m = (if m = 0 then 0 else helds l (m - 1)) + dls l m := by
  induction l with
  | nil => simp [helds, dls]
  | cons a l ih =>
    have := held_step a m hm
    simp only [helds, dls]
    by_cases h0 : m = 0
    · simp only [h0, if_true] at *; omega
    · simp only [h0, if_false] at *; omega

theorem k3_eq {N : Nat} {l : List Ap} {a : Ap} {i : Nat} (hp : pend a = true) (hl : l.length ≤ 1000) (hi : i ≤ 1000) :
    M.ruling_StayedMonths_k3 N ((List.range 3601).map (dls l)) (i : Int) a = some (.inl ((List.range 3601).map (dls (l ++ [a])), ((i + 1 : Nat) : Int))) := by
  have hw : IntKind.i64.wrap ((i : Int) + 1) = ((i + 1 : Nat) : Int) := by rw [wrap_id] <;> omega
  have hb := dls_bound l
  unfold M.ruling_StayedMonths_k3
  rw [show (if a.2.1 < 0 then (0 : Int) else a.2.1) = from' a from rfl, show (if (3600 : Int) < a.2.2.1 then (3600 : Int) else a.2.2.1) = to' a from rfl]
  by_cases h : from' a < to' a
  · rw [if_pos (by simpa using h)]
    have h0 : 0 ≤ from' a := by unfold from'; split <;> omega
    have h1 : to' a ≤ 3600 := by unfold to'; split <;> omega
    obtain ⟨f, hf⟩ := Int.eq_ofNat_of_zero_le h0
    obtain ⟨t, ht⟩ := Int.eq_ofNat_of_zero_le (show 0 ≤ to' a by omega)
    have hf' : f < 3601 := by omega
    have ht' : t < 3601 := by omega
    have hft : t ≠ f := by omega
    rw [hf, ht, idx_nat (by simpa using hf')]
    simp only [Option.bind_some, List.getElem_map, List.getElem_range]
    unfold setL
    simp only [Int.toNat_natCast, set_map_range]
    rw [idx_nat (by simpa using ht')]
    simp only [Option.bind_some, List.getElem_map, List.getElem_range, if_neg hft, hw]
    have hbf := hb f
    have hbt := hb t
    refine congrArg (fun L : List Int => some (Sum.inl (L, ((i + 1 : Nat) : Int)))) (List.map_congr_left fun m _ => ?_)
    rw [dls_append]
    unfold dl act
    rw [hp, hf, ht, wrap_id (by omega) (by omega), wrap_id (by omega) (by omega)]
    simp only [Bool.true_and, decide_eq_true_eq]
    rw [if_pos (show (f : Int) < t by omega)]
    by_cases e1 : m = t
    · subst e1; simp only [if_true]; rw [if_neg (by omega)]; omega
    · rw [if_neg e1]
      by_cases e2 : m = f
      · subst e2; simp only [if_true]; rw [if_neg (by omega)]; omega
      · rw [if_neg e2, if_neg (by omega), if_neg (by omega)]; omega
  · rw [if_neg (by simpa using h), hw]
    refine congrArg (fun L : List Int => some (Sum.inl (L, ((i + 1 : Nat) : Int)))) (List.map_congr_left fun m _ => ?_)
    rw [dls_append]
    unfold dl act
    rw [hp]
    simp [h]

theorem changes_eq {N : Nat} (l : List Ap) (hl : l.length ≤ 1000) (hN : 10000 ≤ N) :
    Loop (S := List Int × Int) (X := List Int) (fun s => M.ruling_StayedMonths_k2 N l s.1 s.2) N (List.replicate 3601 0, 0) = some ((List.range 3601).map (dls l)) := by
  have h0 : (List.replicate 3601 (0 : Int), (0 : Int)) = (fun i : Nat => ((List.range 3601).map (dls (l.take i)), (i : Int))) 0 := by
    simp only [List.take_zero, dls, List.map_const', List.length_range]; rfl
  rw [h0]
  refine Loop_count (fun i : Nat => ((List.range 3601).map (dls (l.take i)), (i : Int))) l.length ?_ ?_ (by omega)
  · intro i hi
    have hw : IntKind.i64.wrap ((i : Int) + 1) = ((i + 1 : Nat) : Int) := by rw [wrap_id] <;> omega
    simp only [M.ruling_StayedMonths_k2]
    rw [if_pos (by simpa using hi), idx_nat hi, Option.bind_some, hw]
    have ht : l.take (i + 1) = l.take i ++ [l[i]] := List.take_succ_eq_append_getElem hi
    have hk := fun (hp : pend l[i] = true) => k3_eq (N := N) (l := l.take i) (a := l[i]) (i := i) hp (by simp; omega) (by omega)
    rw [← ht] at hk
    by_cases e1 : l[i].2.2.2.2.2.1 = 1
    · rw [if_neg (by simp [e1]), hk (by simp [pend, e1])]
    · rw [if_pos (by simp [e1])]
      by_cases e2 : l[i].2.2.2.2.2.1 = 2
      · rw [if_neg (by simp [e2]), hk (by simp [pend, e2])]
      · rw [if_pos (by simp [e2])]
        refine congrArg (fun L : List Int => some (Sum.inl (L, ((i + 1 : Nat) : Int)))) (List.map_congr_left fun m _ => ?_)
        rw [ht, dls_append]
        simp [dl, act, pend, e1, e2]
  · simp only [M.ruling_StayedMonths_k2]
    rw [if_neg (by simp), List.take_length]

theorem StayedMonths_eq {N : Nat} (l : List Ap) (hl : l.length ≤ 1000) (hN : 10000 ≤ N) : M.ruling_StayedMonths N l = some (months l) := by
  unfold M.ruling_StayedMonths
  rw [show mkL (3601 : Int) (0 : Int) = some (List.replicate 3601 0) from rfl, Option.bind_some, changes_eq l hl hN, Option.bind_some]
  unfold M.ruling_StayedMonths_k1
  have hloop : Loop (S := List Int × Int × Int) (X := List Int) (fun s => M.ruling_StayedMonths_k5 N ((List.range 3601).map (dls l)) s.1 s.2.1 s.2.2) N ([], 0, 0) = some (months l) := by
    have h0 : (([] : List Int), (0 : Int), (0 : Int)) = (fun i : Nat => ((((List.range i).filter fun m : Nat => stayed l m).map (fun m : Nat => (m : Int)) : List Int), (if i = 0 then 0 else helds l (i - 1)), (i : Int))) 0 := rfl
    rw [h0]
    refine Loop_count (fun i : Nat => ((((List.range i).filter fun m : Nat => stayed l m).map (fun m : Nat => (m : Int)) : List Int), (if i = 0 then 0 else helds l (i - 1)), (i : Int))) 3600 ?_ ?_ (by omega)
    · intro i hi
      have hw : IntKind.i64.wrap ((i : Int) + 1) = ((i + 1 : Nat) : Int) := by rw [wrap_id] <;> omega
      simp only [M.ruling_StayedMonths_k5]
      rw [if_pos (by simp; omega), idx_nat (by simp; omega), Option.bind_some, hw]
      simp only [List.getElem_map, List.getElem_range]
      have hs := helds_step l i hi
      have hb := helds_bound l i
      rw [← hs, wrap_id (by omega) (by omega)]
      have hp := helds_pos l i
      by_cases h : stayed l i = true
      · rw [if_pos (by simpa using hp.2 h), appA_some, Option.bind_some, filter_range_succ, if_pos h]
        · simp
        · simp only [List.length_map, List.length_cons, List.length_nil]
          have := List.length_filter_le (fun m : Nat => stayed l m) (List.range i)
          simp at this; omega
      · rw [if_neg (by simpa using fun hh => h (hp.1 hh)), filter_range_succ, if_neg h]
        simp
    · simp only [M.ruling_StayedMonths_k5]
      rw [if_neg (by simp)]
      rfl
  rw [hloop]
  rfl

theorem stayed_take {l : List Ap} {m : Int} {i : Nat} (hi : i < l.length) : stayed (l.take (i + 1)) m = (stayed (l.take i) m || (pend l[i] && cov l[i] m)) := by
  unfold stayed
  rw [List.take_succ_eq_append_getElem hi, List.any_append]
  simp

theorem ref_inner {N : Nat} (l : List Ap) (m : Int) (hl : l.length ≤ 1000) (hN : 10000 ≤ N) :
    Loop (S := Bool × Int) (X := Bool) (fun s => M.ref42_StayedMonths_k4 N l m s.1 s.2) N (false, 0) = some (stayed l m) := by
  have h0 : (false, (0 : Int)) = (fun i : Nat => (stayed (l.take i) m, (i : Int))) 0 := rfl
  rw [h0]
  refine Loop_count (fun i : Nat => (stayed (l.take i) m, (i : Int))) l.length ?_ ?_ (by omega)
  · intro i hi
    have hw : IntKind.i64.wrap ((i : Int) + 1) = ((i + 1 : Nat) : Int) := by rw [wrap_id] <;> omega
    simp only [M.ref42_StayedMonths_k4]
    rw [if_pos (by simpa using hi), hw, stayed_take hi]
    cases hs : stayed (l.take i) m
    · rw [if_neg (by simp), idx_nat hi]
      simp only [Option.bind_some, M.ref42_Pending, M.ref42_Covers]
      by_cases e1 : l[i].2.2.2.2.2.1 = 1 <;> by_cases e2 : l[i].2.2.2.2.2.1 = 2 <;> by_cases e3 : l[i].2.1 ≤ m <;> simp [e1, e2, e3, pend, cov]
    · simp
  · simp only [M.ref42_StayedMonths_k4]
    rw [if_neg (by simp), List.take_length]

theorem ref_StayedMonths_eq {N : Nat} (l : List Ap) (hl : l.length ≤ 1000) (hN : 10000 ≤ N) : M.ref42_StayedMonths N l = some (months l) := by
  unfold M.ref42_StayedMonths
  have hloop : Loop (S := List Int × Int) (X := List Int) (fun s => M.ref42_StayedMonths_k2 N l s.1 s.2) N ([], 0) = some (months l) := by
    have h0 : (([] : List Int), (0 : Int)) = (fun i : Nat => ((((List.range i).filter fun m : Nat => stayed l m).map (fun m : Nat => (m : Int)) : List Int), (i : Int))) 0 := rfl
    rw [h0]
    refine Loop_count (fun i : Nat => ((((List.range i).filter fun m : Nat => stayed l m).map (fun m : Nat => (m : Int)) : List Int), (i : Int))) 3600 ?_ ?_ (by omega)
    · intro i hi
      have hw : IntKind.i64.wrap ((i : Int) + 1) = ((i + 1 : Nat) : Int) := by rw [wrap_id] <;> omega
      simp only [M.ref42_StayedMonths_k2]
      rw [if_pos (by simp; omega), ref_inner l i hl hN, Option.bind_some]
      simp only [M.ref42_StayedMonths_k3, hw]
      by_cases h : stayed l i = true
      · rw [if_pos h, appA_some, Option.bind_some, filter_range_succ, if_pos h]
        · simp
        · simp only [List.length_map, List.length_cons, List.length_nil]
          have := List.length_filter_le (fun m : Nat => stayed l m) (List.range i)
          simp at this; omega
      · rw [if_neg h, filter_range_succ, if_neg h]
        simp
    · simp only [M.ref42_StayedMonths_k2]
      rw [if_neg (by simp)]
      rfl
  rw [hloop]
  rfl

theorem Ints_refl {N : Nat} (l : List Int) (hl : l.length < N) (hl2 : l.length ≤ 4294967296) : M.same_Ints N l l = some true := by
  unfold M.same_Ints
  rw [if_neg (by simp)]
  have : Loop (S := Int) (X := Unit ⊕ Bool) (fun s => M.same_Ints_k2 N l l s) N 0 = some (.inl ()) := by
    refine Loop_count (fun i : Nat => (i : Int)) l.length ?_ ?_ hl
    · intro i hi
      have hw : IntKind.i64.wrap ((i : Int) + 1) = ((i + 1 : Nat) : Int) := by rw [wrap_id] <;> omega
      simp only [M.same_Ints_k2, M.same_Ints_k3]
      rw [if_pos (by simpa using hi), if_pos (by simpa using hi), idx_nat hi]
      simp [hw]
    · simp only [M.same_Ints_k2]
      rw [if_neg (by simp)]
  rw [this]
  rfl
theorem months_length (l : List Ap) : (months l).length ≤ 3600 := by
  unfold months
  have := List.length_filter_le (fun m : Nat => stayed l m) (List.range 3600)
  simpa using this

set_option maxRecDepth 100000 in
theorem awake_true : M.law42_awake big = some true := by
  have h1 := StayedMonths_eq (N := big) ([((0 : Int), (3 : Int), (6 : Int), (0 : Int), (0 : Int), (3 : Int), (500 : Int)), ((0 : Int), (5 : Int), (8 : Int), (0 : Int), (0 : Int), (3 : Int), (700 : Int)), ((0 : Int), (5 : Int), (7 : Int), (0 : Int), (0 : Int), (2 : Int), (0 : Int))] : List Ap) (by decide) (by decide)
  have h2 : months ([((0 : Int), (3 : Int), (6 : Int), (0 : Int), (0 : Int), (3 : Int), (500 : Int)), ((0 : Int), (5 : Int), (8 : Int), (0 : Int), (0 : Int), (3 : Int), (700 : Int)), ((0 : Int), (5 : Int), (7 : Int), (0 : Int), (0 : Int), (2 : Int), (0 : Int))] : List Ap) = [5, 6] := by kernel_rfl
  rw [h2] at h1
  unfold M.law42_awake
  rw [h1]
  show (_ : Option Bool) = some true
  kernel_rfl

theorem RulingStayed_true (l : List Ap) (_ : WF (.slice rAppeal) l) : M.law42_RulingStayed big l = some true := by
  have ha := awake_true
  have hN : 10000 ≤ big := by decide
  have hm := months_length l
  unfold M.law42_RulingStayed
  by_cases h : (30 : Int) < (l.length : Int)
  · rw [if_pos (by simpa using h), ha]; rfl
  · rw [if_neg (by simpa using h), StayedMonths_eq l (by omega) hN, Option.bind_some, ref_StayedMonths_eq l (by omega) hN, Option.bind_some, Ints_refl _ (by omega) (by omega), Option.bind_some, if_pos rfl, ha]
    rfl

/-! ## Granted and Apply -/
abbrev Aw : Type := Int × Int × Int
def hit (a : Ap) (m : Int) : Bool := decide (a.2.2.2.2.2.1 = 3) && cov a m
def gr (l : List Ap) (m : Int) : Int × Bool := l.foldl (fun r a => if hit a m then (a.2.2.2.2.2.2, true) else r) (0, false)
def app1 (l : List Ap) (w : Aw) : Aw := if (gr l w.1).2 = true then (w.1, (gr l w.1).1, 0) else w

theorem gr_take {l : List Ap} {m : Int} {k : Nat} (h : k < l.length) : gr (l.take (k + 1)) m = if hit l[k] m then (l[k].2.2.2.2.2.2, true) else gr (l.take k) m := by
  unfold gr
  rw [List.take_succ_eq_append_getElem h, List.foldl_append]
  rfl
theorem gr_app (l : List Ap) (x : Ap) (m : Int) : gr (l ++ [x]) m = if hit x m then (x.2.2.2.2.2.2, true) else gr l m := by
  unfold gr
  rw [List.foldl_append]
  rfl

theorem Granted_eq {N : Nat} (l : List Ap) (m : Int) (hl : l.length ≤ 1000000000) (hN : l.length < N) : M.ruling_Granted N l m = some (gr l m) := by
  unfold M.ruling_Granted
  rw [wrap_id (by omega) (by omega)]
  obtain ⟨x, hx, hq⟩ := Loop_rule (S := Int) (X := Unit ⊕ (Int × Bool)) (body := fun s => M.ruling_Granted_k2 N l m s) (fun s => ∃ k : Nat, k ≤ l.length ∧ s = (k : Int) - 1 ∧ gr l m = gr (l.take k) m) (fun s => (s + 1).toNat)
    (fun x => Sum.elim (fun _ => (0, false)) id x = gr l m) (by
      rintro s ⟨k, hk, rfl, he⟩
      rcases k with _ | k
      · refine Or.inr ⟨.inl (), ?_, ?_⟩
        · simp [M.ruling_Granted_k2]
        · rw [he]; rfl
      · have e1 : ((k + 1 : Nat) : Int) - 1 = (k : Int) := by omega
        have e2 : IntKind.i64.wrap ((k : Int) - 1) = (k : Int) - 1 := wrap_id (by omega) (by omega)
        rw [e1]
        have hk' : k < l.length := by omega
        rw [gr_take hk'] at he
        simp only [M.ruling_Granted_k2]
        rw [if_pos (by simp), idx_nat hk', Option.bind_some]
        by_cases h : hit l[k] m = true
        · refine Or.inr ⟨.inr (l[k].2.2.2.2.2.2, true), ?_, ?_⟩
          · simp only [hit, cov, Bool.and_eq_true, decide_eq_true_eq] at h
            rw [if_pos (by simpa using h.1), if_pos (by simpa using h.2.1)]
            simp [M.ruling_Granted_k3, h.2.2]
          · rw [he, if_pos h]; rfl
        · refine Or.inl ⟨(k : Int) - 1, ?_, ⟨k, by omega, rfl, by rw [he, if_neg h]⟩, by omega⟩
          simp only [hit, cov, Bool.and_eq_true, decide_eq_true_eq] at h
          by_cases h1 : l[k].2.2.2.2.2.1 = 3
          · rw [if_pos (by simpa using h1)]
            by_cases h2 : l[k].2.1 ≤ m
            · rw [if_pos (by simpa using h2)]
              have h3 : ¬ m < l[k].2.2.1 := fun h3 => h ⟨h1, h2, h3⟩
              simp [M.ruling_Granted_k3, h3, e2]
            · rw [if_neg (by simpa using h2)]
              simp [M.ruling_Granted_k3, e2]
          · rw [if_neg (by simpa using h1)]
            simp [M.ruling_Granted_k3, e2]) N _ ⟨l.length, Nat.le_refl _, rfl, by rw [List.take_length]⟩ (by omega)
  rw [hx, Option.bind_some, ← hq]
  cases x <;> rfl

theorem ref_Granted_eq {N : Nat} (l : List Ap) (m : Int) (hl : l.length ≤ 1000000000) (hN : l.length < N) : M.ref42_Granted N l m = some (gr l m) := by
  unfold M.ref42_Granted
  rw [wrap_id (by omega) (by omega)]
  obtain ⟨x, hx, hq⟩ := Loop_rule (S := Int) (X := Unit ⊕ (Int × Bool)) (body := fun s => M.ref42_Granted_k2 N l m s) (fun s => ∃ k : Nat, k ≤ l.length ∧ s = (k : Int) - 1 ∧ gr l m = gr (l.take k) m) (fun s => (s + 1).toNat)
    (fun x => Sum.elim (fun _ => (0, false)) id x = gr l m) (by
      rintro s ⟨k, hk, rfl, he⟩
      rcases k with _ | k
      · refine Or.inr ⟨.inl (), ?_, ?_⟩
        · simp [M.ref42_Granted_k2]
        · rw [he]; rfl
      · have e1 : ((k + 1 : Nat) : Int) - 1 = (k : Int) := by omega
        have e2 : IntKind.i64.wrap ((k : Int) - 1) = (k : Int) - 1 := wrap_id (by omega) (by omega)
        rw [e1]
        have hk' : k < l.length := by omega
        rw [gr_take hk'] at he
        simp only [M.ref42_Granted_k2]
        rw [if_pos (by simp), idx_nat hk', Option.bind_some, Option.bind_some]
        by_cases h : hit l[k] m = true
        · refine Or.inr ⟨.inr (l[k].2.2.2.2.2.2, true), ?_, ?_⟩
          · simp only [hit, cov, Bool.and_eq_true, decide_eq_true_eq] at h
            rw [if_pos (by simpa using h.1)]
            simp [M.ref42_Granted_k3, M.ref42_Covers, h.2.1, h.2.2, idx_nat hk']
          · rw [he, if_pos h]; rfl
        · refine Or.inl ⟨(k : Int) - 1, ?_, ⟨k, by omega, rfl, by rw [he, if_neg h]⟩, by omega⟩
          simp only [hit, cov, Bool.and_eq_true, decide_eq_true_eq] at h
          by_cases h1 : l[k].2.2.2.2.2.1 = 3
          · rw [if_pos (by simpa using h1)]
            by_cases h2 : l[k].2.1 ≤ m
            · have h3 : ¬ m < l[k].2.2.1 := fun h3 => h ⟨h1, h2, h3⟩
              simp [M.ref42_Granted_k3, M.ref42_Covers, h2, h3, e2]
            · simp [M.ref42_Granted_k3, M.ref42_Covers, h2, e2]
          · rw [if_neg (by simpa using h1)]
            simp [M.ref42_Granted_k3, e2]) N _ ⟨l.length, Nat.le_refl _, rfl, by rw [List.take_length]⟩ (by omega)
  rw [hx, Option.bind_some, ← hq]
  cases x <;> rfl

theorem map_take_succ {α β : Type} (f : α → β) {l : List α} {i : Nat} (h : i < l.length) : (l.take (i + 1)).map f = (l.take i).map f ++ [f l[i]] := by
  rw [List.take_succ_eq_append_getElem h, List.map_append]
  rfl

theorem Apply_eq {N : Nat} (a : List Aw) (l : List Ap) (ha : a.length ≤ 1000000000) (hl : l.length ≤ 1000000000) (hN : l.length < N) (hN2 : a.length < N) : M.ruling_Apply N a l = some (a.map (app1 l)) := by
  unfold M.ruling_Apply
  have hloop : Loop (S := List Aw × Int) (X := List Aw) (fun s => M.ruling_Apply_k2 N a l s.1 s.2) N ([], 0) = some (a.map (app1 l)) := by
    refine Loop_count (fun i : Nat => ((a.take i).map (app1 l), (i : Int))) a.length ?_ ?_ hN2
    · intro i hi
      have hw : IntKind.i64.wrap ((i : Int) + 1) = ((i + 1 : Nat) : Int) := by rw [wrap_id] <;> omega
      simp only [M.ruling_Apply_k2]
      rw [if_pos (by simpa using hi), idx_nat hi, Option.bind_some, Granted_eq l _ hl hN, Option.bind_some, hw, map_take_succ _ hi]
      have hlen : ((a.take i).map (app1 l)).length + 1 ≤ 4294967296 := by simp; omega
      by_cases h : (gr l a[i].1).2 = true
      · rw [if_pos h, appA_some (by simpa using hlen), Option.bind_some, show app1 l a[i] = _ from if_pos h]
      · rw [if_neg h, appA_some (by simpa using hlen), Option.bind_some, show app1 l a[i] = _ from if_neg h]
    · simp only [M.ruling_Apply_k2]
      rw [if_neg (by simp), List.take_length]
  rw [hloop]
  rfl
theorem ref_Apply_eq {N : Nat} (a : List Aw) (l : List Ap) (ha : a.length ≤ 1000000000) (hl : l.length ≤ 1000000000) (hN : l.length < N) (hN2 : a.length < N) : M.ref42_Apply N a l = some (a.map (app1 l)) := by
  unfold M.ref42_Apply
  have hloop : Loop (S := List Aw × Int) (X := List Aw) (fun s => M.ref42_Apply_k2 N a l s.1 s.2) N ([], 0) = some (a.map (app1 l)) := by
    refine Loop_count (fun i : Nat => ((a.take i).map (app1 l), (i : Int))) a.length ?_ ?_ hN2
    · intro i hi
      have hw : IntKind.i64.wrap ((i : Int) + 1) = ((i + 1 : Nat) : Int) := by rw [wrap_id] <;> omega
      simp only [M.ref42_Apply_k2]
      rw [if_pos (by simpa using hi), idx_nat hi, Option.bind_some, ref_Granted_eq l _ hl hN, Option.bind_some, hw, map_take_succ _ hi]
      have hlen : ((a.take i).map (app1 l)).length + 1 ≤ 4294967296 := by simp; omega
      by_cases h : (gr l a[i].1).2 = true
      · rw [if_pos h, Option.bind_some, appA_some (by simpa using hlen), Option.bind_some, show app1 l a[i] = _ from if_pos h]
      · rw [if_neg h, Option.bind_some, appA_some (by simpa using hlen), Option.bind_some, show app1 l a[i] = _ from if_neg h]
    · simp only [M.ref42_Apply_k2]
      rw [if_neg (by simp), List.take_length]
  rw [hloop]
  rfl

theorem Awards_refl {N : Nat} (l : List Aw) (hl : l.length < N) (hl2 : l.length ≤ 4294967296) : M.same_Awards N l l = some true := by
  unfold M.same_Awards
  rw [if_neg (by simp)]
  have : Loop (S := Int) (X := Unit ⊕ Bool) (fun s => M.same_Awards_k2 N l l s) N 0 = some (.inl ()) := by
    refine Loop_count (fun i : Nat => (i : Int)) l.length ?_ ?_ hl
    · intro i hi
      have hw : IntKind.i64.wrap ((i : Int) + 1) = ((i + 1 : Nat) : Int) := by rw [wrap_id] <;> omega
      simp only [M.same_Awards_k2, M.same_Awards_k3]
      rw [if_pos (by simpa using hi), if_pos (by simpa using hi), idx_nat hi, Option.bind_some, Option.bind_some, hw]
      have : eqR rAward l[i] l[i] = true := eqR_iff.2 rfl
      rw [this]
      rfl
    · simp only [M.same_Awards_k2]
      rw [if_neg (by simp)]
  rw [this]
  rfl

theorem RulingApply_true (a : List Aw) (l : List Ap) (m : Int) (_ : WF (.slice rAward) a) (_ : WF (.slice rAppeal) l) (_ : WF rInt m) : M.law42_RulingApply big a l m = some true := by
  have hy := awake_true
  have hN : 10000 ≤ big := by decide
  unfold M.law42_RulingApply
  by_cases h1 : (200 : Int) < (a.length : Int)
  · rw [if_pos (by simpa using h1), hy]; rfl
  · rw [if_neg (by simpa using h1)]
    by_cases h2 : (100 : Int) < (l.length : Int)
    · rw [if_pos (by simpa using h2), hy]; rfl
    · rw [if_neg (by simpa using h2)]
      unfold M.law42_RulingApply_k1
      rw [Granted_eq l m (by omega) (by omega), Option.bind_some, ref_Granted_eq l m (by omega) (by omega), Option.bind_some, if_pos (by simp), if_pos (by simp),
        Apply_eq a l (by omega) (by omega) (by omega) (by omega), Option.bind_some, ref_Apply_eq a l (by omega) (by omega) (by omega) (by omega), Option.bind_some,
        Awards_refl _ (by simp; omega) (by simp; omega), Option.bind_some, if_pos rfl, hy]
      rfl

theorem app1_twice (l : List Ap) (w : Aw) : app1 l (app1 l w) = app1 l w := by
  unfold app1
  by_cases h : (gr l w.1).2 = true
  · rw [if_pos h]; simp [h]
  · rw [if_neg h, if_neg h]

theorem RulingIdempotent_true (a : List Aw) (l : List Ap) (_ : WF (.slice rAward) a) (_ : WF (.slice rAppeal) l) : M.law42_RulingIdempotent big a l = some true := by
  have hy := awake_true
  have hN : 10000 ≤ big := by decide
  unfold M.law42_RulingIdempotent
  by_cases h1 : (200 : Int) < (a.length : Int)
  · rw [if_pos (by simpa using h1), hy]; rfl
  · rw [if_neg (by simpa using h1)]
    by_cases h2 : (100 : Int) < (l.length : Int)
    · rw [if_pos (by simpa using h2), hy]; rfl
    · rw [if_neg (by simpa using h2)]
      unfold M.law42_RulingIdempotent_k1
      rw [Apply_eq a l (by omega) (by omega) (by omega) (by omega), Option.bind_some, if_neg (by simp)]
      have hloop : Loop (S := Int) (X := Unit ⊕ Bool) (fun s => M.law42_RulingIdempotent_k3 big a l (a.map (app1 l)) s) big 0 = some (.inl ()) := by
        refine Loop_count (fun i : Nat => (i : Int)) a.length ?_ ?_ (by omega)
        · intro i hi
          have hw : IntKind.i64.wrap ((i : Int) + 1) = ((i + 1 : Nat) : Int) := by rw [wrap_id] <;> omega
          simp only [M.law42_RulingIdempotent_k3]
          rw [if_pos (by simpa using hi), idx_nat hi, Option.bind_some, Granted_eq l _ (by omega) (by omega), Option.bind_some, idx_nat (by simpa using hi)]
          simp only [Option.bind_some, List.getElem_map, M.law42_RulingIdempotent_k4, hw]
          unfold app1
          cases h : (gr l a[i].1).2
          · have hself : eqR rAward a[i] a[i] = true := eqR_iff.2 rfl
            simp [hself]
          · simp
        · simp only [M.law42_RulingIdempotent_k3]
          rw [if_neg (by simp)]
      rw [hloop, Option.bind_some, Sum.elim_inl]
      unfold M.law42_RulingIdempotent_k2
      rw [Apply_eq _ l (by simp; omega) (by omega) (by omega) (by simp; omega), Option.bind_some, List.map_map]
      have : a.map (app1 l ∘ app1 l) = a.map (app1 l) := List.map_congr_left fun w _ => app1_twice l w
      rw [this, Awards_refl _ (by simp; omega) (by simp; omega), Option.bind_some, if_pos rfl, hy]
      rfl

/-! ## A month is stayed -/
theorem months_mem (l : List Ap) (m : Int) : m ∈ months l ↔ 0 ≤ m ∧ m ≤ 3599 ∧ stayed l m = true := by
  unfold months
  simp only [List.mem_map, List.mem_filter, List.mem_range]
  constructor
  · rintro ⟨k, ⟨hk, hs⟩, rfl⟩
    exact ⟨by omega, by omega, hs⟩
  · rintro ⟨h0, h1, hs⟩
    obtain ⟨k, rfl⟩ := Int.eq_ofNat_of_zero_le h0
    exact ⟨k, ⟨by omega, hs⟩, rfl⟩
theorem months_sorted (l : List Ap) : (months l).Pairwise (· < ·) := by
  unfold months
  rw [List.pairwise_map]
  refine List.Pairwise.imp (R := (· < ·)) (fun h => by omega) (List.Pairwise.filter _ List.pairwise_lt_range)

theorem RulingStayedMonth_true (l : List Ap) (m : Int) (_ : WF (.slice rAppeal) l) (_ : WF rInt m) : M.law42_RulingStayedMonth big l m = some true := by
  have hy := awake_true
  have hN : 10000 ≤ big := by decide
  unfold M.law42_RulingStayedMonth
  by_cases h : (30 : Int) < (l.length : Int)
  · rw [if_pos (by simpa using h), hy]; rfl
  · rw [if_neg (by simpa using h), StayedMonths_eq l (by omega) hN, Option.bind_some]
    have hlen := months_length l
    have hsort := List.pairwise_iff_getElem.1 (months_sorted l)
    have hmem := months_mem l m
    generalize months l = x at *
    have hloop : Loop (S := Bool × Int) (X := Bool ⊕ Bool) (fun s => M.law42_RulingStayedMonth_k2 big m x s.1 s.2) big (false, 0) = some (.inl (decide (m ∈ x))) := by
      refine Loop_count (fun i : Nat => (decide (m ∈ x.take i), (i : Int))) x.length ?_ ?_ (by omega)
      · intro i hi
        have hw : IntKind.i64.wrap ((i : Int) + 1) = ((i + 1 : Nat) : Int) := by rw [wrap_id] <;> omega
        have hk3 : ∀ b, M.law42_RulingStayedMonth_k3 big x (i : Int) b = some (.inl (b, ((i + 1 : Nat) : Int))) := by
          intro b
          simp only [M.law42_RulingStayedMonth_k3]
          by_cases hp : (0 : Int) < (i : Int)
          · rw [if_pos (by simpa using hp), wrap_id (by omega) (by omega), show (i : Int) - 1 = ((i - 1 : Nat) : Int) by omega, idx_nat (by omega), Option.bind_some, idx_nat hi, Option.bind_some, hw]
            have := hsort (i - 1) i (by omega) hi (by omega)
            rw [if_neg (by simpa using this)]
          · rw [if_neg (by simpa using hp), hw]
        simp only [M.law42_RulingStayedMonth_k2]
        rw [if_pos (by simpa using hi), hk3, idx_nat hi, Option.bind_some, hk3]
        have ht : (m ∈ x.take (i + 1)) ↔ (m ∈ x.take i ∨ x[i] = m) := by
          rw [List.take_succ_eq_append_getElem hi, List.mem_append, List.mem_singleton, eq_comm (a := m)]
        by_cases h1 : m ∈ x.take i
        · simp [h1, ht]
        · simp [h1, ht]
      · simp only [M.law42_RulingStayedMonth_k2]
        rw [if_neg (by simp), List.take_length]
    rw [hloop, Option.bind_some, Sum.elim_inl]
    unfold M.law42_RulingStayedMonth_k1
    have hin : Loop (S := Bool × Int) (X := Bool) (fun s => M.law42_RulingStayedMonth_k5 big l m s.1 s.2) big (false, 0) = some (stayed l m) := ref_inner (N := big) l m (by omega) hN
    rw [hin, Option.bind_some]
    unfold M.law42_RulingStayedMonth_k4
    rw [hy]
    cases hs : stayed l m
    · have : m ∉ x := fun hh => by simp [hs] at hmem; exact hmem hh
      simp [this]
    · rw [if_pos rfl]
      by_cases h0 : 0 ≤ m
      · rw [if_pos (by simpa using h0)]
        by_cases h3 : m ≤ 3599
        · have : m ∈ x := hmem.2 ⟨h0, h3, hs⟩
          simp [this, h3]
        · have : m ∉ x := fun hh => h3 (hmem.1 hh).2.1
          simp [this, h3]
      · rw [if_neg (by simpa using h0)]
        have : m ∉ x := fun hh => h0 (hmem.1 hh).1
        simp [this]
end L
end Go.Proofs.Yteoiedcenhlhnaa
