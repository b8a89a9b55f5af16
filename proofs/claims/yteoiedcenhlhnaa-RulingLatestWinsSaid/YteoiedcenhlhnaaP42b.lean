/- Chapter 42: the latest upheld appeal determines the amount (plain law). -/
import Derived.Test.YteoiedcenhlhnaaModel
import Derived.Test.YteoiedcenhlhnaaPlain
import Derived.Test.YteoiedcenhlhnaaOpen
namespace Go.Proofs.Yteoiedcenhlhnaa
open Go Go.RowKit
namespace L

abbrev Ap : Type := Int × Int × Int × Int × Int × Int × Int
def pend (a : Ap) : Bool := decide (a.2.2.2.2.2.1 = 1) || decide (a.2.2.2.2.2.1 = 2)
def cov (a : Ap) (m : Int) : Bool := decide (a.2.1 ≤ m) && decide (m < a.2.2.1)
def from' (a : Ap) : Int := if a.2.1 < 0 then 0 else a.2.1
def to' (a : Ap) : Int := if 3600 < a.2.2.1 then 3600 else a.2.2.1
def act (a : Ap) : Bool := pend a && decide (from' a < to' a)
/-- What an appeal adds to the change of a month. -/
def dl (a : Ap) (m : Nat) : Int := if act a then (if from' a = m then 1 else 0) - (if to' a = m then 1 else 0) else 0
def dls : List Ap → Nat → Int
  | [], _ => 0
  | a :: l, m => dl a m + dls l m
/-- How many hold in a month. -/
def held (a : Ap) (m : Nat) : Int := if pend a && cov a m then 1 else 0
def helds : List Ap → Nat → Int
  | [], _ => 0
  | a :: l, m => held a m + helds l m
def stayed (l : List Ap) (m : Int) : Bool := l.any fun a => pend a && cov a m
def months (l : List Ap) : List Int := ((List.range 3600).filter fun m : Nat => stayed l m).map (fun m : Nat => (m : Int))

theorem dls_append (l : List Ap) (a : Ap) (m : Nat) : dls (l ++ [a]) m = dls l m + dl a m := by
  induction l with
  | nil => simp [dls]
  | cons b l ih => simp only [List.cons_append, dls, ih]; omega
theorem dl_bound (a : Ap) (m : Nat) : -1 ≤ dl a m ∧ dl a m ≤ 1 := by
  unfold dl; split <;> (try split) <;> (try split) <;> omega
theorem dls_bound (l : List Ap) (m : Nat) : -(l.length : Int) ≤ dls l m ∧ dls l m ≤ l.length := by
  induction l with
  | nil => simp [dls]
  | cons a l ih => have := dl_bound a m; simp only [dls, List.length_cons]; omega
theorem helds_bound (l : List Ap) (m : Nat) : 0 ≤ helds l m ∧ helds l m ≤ l.length := by
  induction l with
  | nil => simp [helds]
  | cons a l ih => have : 0 ≤ held a m ∧ held a m ≤ 1 := by { unfold held; split <;> omega }
                   simp only [helds, List.length_cons]; omega
theorem helds_pos (l : List Ap) (m : Nat) : 0 < helds l m ↔ stayed l m = true := by
  induction l with
  | nil => simp [helds, stayed]
  | cons a l ih =>
    have h0 := helds_bound l m
    have : 0 ≤ held a m ∧ (0 < held a m ↔ (pend a && cov a m) = true) := by { unfold held; split <;> simp_all }
    unfold stayed at ih ⊢
    rw [List.any_cons, Bool.or_eq_true, ← ih, ← this.2]
    simp only [helds]
    omega
/-- The step of the number that hold. -/
theorem held_step (a : Ap) (m : Nat) (hm : m < 3600) : held a m = (if m = 0 then 0 else held a (m - 1)) + dl a m := by
  have hF : (a.2.1 < 0 ∧ from' a = 0) ∨ (0 ≤ a.2.1 ∧ from' a = a.2.1) := by unfold from'; split <;> omega
  have hT : (3600 < a.2.2.1 ∧ to' a = 3600) ∨ (a.2.2.1 ≤ 3600 ∧ to' a = a.2.2.1) := by unfold to'; split <;> omega
  unfold held dl act
  cases hp : pend a
  · simp
  · simp only [Bool.true_and, cov, Bool.and_eq_true, decide_eq_true_eq]
    generalize from' a = F at *
    generalize to' a = T at *
    by_cases h0 : m = 0
    · subst h0
      simp only [if_true]
      repeat' split
      all_goals omega
    · simp only [if_neg h0]
      have : ((m - 1 : Nat) : Int) = (m : Int) - 1 := by omega
      rw [this]
      repeat' split
      all_goals omega
theorem helds_step (l : List Ap) (m : Nat) (hm : m < 3600) : helds l m = (if m = 0 then 0 else helds l (m - 1)) + dls l m := by
  induction l with
  | nil => simp [helds, dls]
  | cons a l ih =>
    have := held_step a m hm
    simp only [helds, dls]
    by_cases h0 : m = 0
    · simp only [h0, if_true] at *; omega
    · simp only [h0, if_false] at *; omega

def gm (m : Int) (x : Ap) : Bool := decide (x.2.2.2.2.2.1 = 3) && (decide (x.2.1 ≤ m) && decide (m < x.2.2.1))
def granted (m : Int) : List Ap → Int × Bool
  | [] => (0, false)
  | x :: l => if gm m x = true then (x.2.2.2.2.2.2, true) else granted m l

theorem if3 {α : Type} (p q r : Bool) (f : Bool → Option α) : ((if p = true then (if q = true then some r else some false) else some false) : Option Bool).bind f = f (p && (q && r)) := by
  cases p <;> cases q <;> rfl

theorem Granted_loop (l : List Ap) (m : Int) (hl : l.length ≤ 1000) : ∀ k, k ≤ l.length → ∀ N, k < N → M.ruling_Granted N l m = M.ruling_Granted N l m → Loop (S := Int) (X := Int × Bool) (fun s1 =>
(if (decide ((0 : Int) ≤ s1)) = true then
(idx l s1).bind fun x2 =>
((if (decide (x2.2.2.2.2.2.1 = (3 : Int))) = true then
(if (decide (x2.2.1 ≤ m)) = true then
some (decide (m < x2.2.2.1))
else
some false)
else
some false) : Option (Bool)).bind fun j3 =>
(if j3 = true then
some (Sum.inr (x2.2.2.2.2.2.2, true))
else
some (Sum.inl (IntKind.i64.wrap (s1 - (1 : Int)))))
else
some (Sum.inr ((0 : Int), false)))) N ((k : Int) - 1) = some (granted m (l.take k).reverse)
  | 0, _, N, hN, _ => by
    obtain ⟨N, rfl⟩ : ∃ n, N = n + 1 := ⟨N - 1, by omega⟩
    unfold Loop
    rw [if_neg (by simp)]
    rfl
  | k + 1, hk, N, hN, _ => by
    obtain ⟨N, rfl⟩ : ∃ n, N = n + 1 := ⟨N - 1, by omega⟩
    have e : ((k + 1 : Nat) : Int) - 1 = (k : Int) := by omega
    rw [e]
    unfold Loop
    rw [if_pos (by simp), idx_nat (by omega)]
    simp only [Option.bind_some]
    rw [if3]
    have ht : (l.take (k + 1)).reverse = l[k] :: (l.take k).reverse := by
      rw [List.take_succ_eq_append_getElem (by omega), List.reverse_append]
      rfl
    rw [ht]
    unfold granted
    by_cases h : gm m l[k] = true
    · rw [if_pos h]
      unfold gm at h
      rw [if_pos h]
    · rw [if_neg h]
      unfold gm at h
      rw [if_neg h, wrap_id (by omega) (by omega)]
      exact Granted_loop l m hl k (by omega) N (by omega) rfl

theorem Granted_eq {l : List Ap} {m : Int} (hl : l.length ≤ 1000) : M.ruling_Granted big l m = some (granted m l.reverse) := by
  have := Granted_loop l m hl l.length (Nat.le_refl _) big (by have : big = 18446744073709551616 := rfl; omega) rfl
  rw [List.take_length] at this
  unfold M.ruling_Granted
  rw [wrap_id (by omega) (by omega)]
  exact this


theorem StayedMonths_eq {N : Nat} (l : List Ap) (hl : l.length ≤ 1000) (hN : 10000 ≤ N) : M.ruling_StayedMonths N l = some (months l) := by
  unfold M.ruling_StayedMonths
  rw [show mkL (3601 : Int) (0 : Int) = some (List.replicate 3601 0) from rfl, Option.bind_some]
  refine Loop_bind (fun i : Nat => ((i : Int), (List.range 3601).map (dls (l.take i)))) l.length ((List.range 3601).map (dls l)) ?_ ?_ ?_ (by omega) ?_
  · simp only [List.take_zero, dls, List.map_const', List.length_range]; rfl
  · intro i hi
    have hw : IntKind.i64.wrap ((i : Int) + 1) = ((i + 1 : Nat) : Int) := by rw [wrap_id] <;> omega
    have ht : l.take (i + 1) = l.take i ++ [l[i]] := List.take_succ_eq_append_getElem hi
    simp only
    rw [if_pos (by simpa using hi), idx_nat hi, Option.bind_some, hw]
    have hj : ∀ (a : Ap) (k : Bool → Option (List Int)), ((if (!decide (a.2.2.2.2.2.1 = (1 : Int))) = true then some (!decide (a.2.2.2.2.2.1 = (2 : Int))) else some false) : Option Bool).bind k = k (!pend a) := by
      intro a k
      unfold pend
      cases decide (a.2.2.2.2.2.1 = 1) <;> cases decide (a.2.2.2.2.2.1 = 2) <;> rfl
    rw [hj]
    have hb := dls_bound (l.take i)
    have hlen : (l.take i).length ≤ 1000 := by simp; omega
    have fin : ∀ L : List Int, L = (List.range 3601).map (dls (l.take (i + 1))) → ((some L : Option (List Int)).bind fun j4 => some (Sum.inl ((((i + 1 : Nat) : Int), j4)) : (Int × List Int) ⊕ List Int)) = some (Sum.inl (((i + 1 : Nat) : Int), (List.range 3601).map (dls (l.take (i + 1))))) := by
      intro L h; rw [h]; rfl
    cases hp : pend l[i] with
    | false =>
      simp only [Bool.not_false, if_true]
      refine fin _ (List.map_congr_left fun m _ => ?_)
      rw [ht, dls_append]
      simp [dl, act, hp]
    | true =>
      simp only [Bool.not_true, Bool.false_eq_true, if_false]
      rw [show (if l[i].2.1 < 0 then (0 : Int) else l[i].2.1) = from' l[i] from rfl, show (if (3600 : Int) < l[i].2.2.1 then (3600 : Int) else l[i].2.2.1) = to' l[i] from rfl]
      by_cases h : from' l[i] < to' l[i]
      · rw [if_pos (by simpa using h)]
        have h0 : 0 ≤ from' l[i] := by unfold from'; split <;> omega
        have h1 : to' l[i] ≤ 3600 := by unfold to'; split <;> omega
        obtain ⟨f, hf⟩ := Int.eq_ofNat_of_zero_le h0
        obtain ⟨t, ht'⟩ := Int.eq_ofNat_of_zero_le (show 0 ≤ to' l[i] by omega)
        have hft : t ≠ f := by omega
        rw [hf, ht', idx_nat (by simp; omega)]
        simp only [Option.bind_some, List.getElem_map, List.getElem_range]
        unfold setL
        simp only [Int.toNat_natCast, set_map_range]
        rw [idx_nat (by simp; omega)]
        simp only [List.getElem_map, List.getElem_range, if_neg hft]
        have hbf := hb f
        have hbt := hb t
        refine fin _ (List.map_congr_left fun m _ => ?_)
        rw [ht, dls_append]
        unfold dl act
        rw [hp, hf, ht', wrap_id (by omega) (by omega), wrap_id (by omega) (by omega)]
        simp only [Bool.true_and, decide_eq_true_eq]
        rw [if_pos (show (f : Int) < t by omega)]
        by_cases e1 : m = t
        · subst e1; simp only [if_true]; rw [if_neg (by omega)]; omega
        · rw [if_neg e1]
          by_cases e2 : m = f
          · subst e2; simp only [if_true]; rw [if_neg (by omega)]; omega
          · rw [if_neg e2, if_neg (by omega), if_neg (by omega)]; omega
      · rw [if_neg (by simpa using h)]
        refine fin _ (List.map_congr_left fun m _ => ?_)
        rw [ht, dls_append]
        unfold dl act
        rw [hp]
        simp [h]
  · simp only
    rw [if_neg (by simp), List.take_length]
  · refine Loop_eq (fun i : Nat => ((if i = 0 then 0 else helds l (i - 1)), (i : Int), (((List.range i).filter fun m : Nat => stayed l m).map (fun m : Nat => (m : Int)) : List Int))) 3600 _ rfl ?_ ?_ (by omega)
    · intro i hi
      have hw : IntKind.i64.wrap ((i : Int) + 1) = ((i + 1 : Nat) : Int) := by rw [wrap_id] <;> omega
      simp only
      rw [if_pos (by simp; omega), idx_nat (by simp; omega), Option.bind_some, hw]
      simp only [List.getElem_map, List.getElem_range]
      have hs := helds_step l i hi
      have hb := helds_bound l i
      rw [← hs, wrap_id (by omega) (by omega)]
      have hp := helds_pos l i
      by_cases h : stayed l i = true
      · rw [if_pos (by simpa using hp.2 h), appA_some, Option.bind_some, filter_range_succ, if_pos h]
        · simp
        · simp only [List.length_map, List.length_cons, List.length_nil]
          have := List.length_filter_le (fun m : Nat => stayed l m) (List.range i)
          simp at this; omega
      · rw [if_neg (by simpa using fun hh => h (hp.1 hh)), filter_range_succ, if_neg h]
        simp
    · simp only
      rw [if_neg (by simp)]
      rfl

set_option maxRecDepth 100000 in
theorem awake : M.law42_awake big = some true := by
  have h1 := StayedMonths_eq (N := big) ([((0 : Int), (3 : Int), (6 : Int), (0 : Int), (0 : Int), (3 : Int), (500 : Int)), ((0 : Int), (5 : Int), (8 : Int), (0 : Int), (0 : Int), (3 : Int), (700 : Int)), ((0 : Int), (5 : Int), (7 : Int), (0 : Int), (0 : Int), (2 : Int), (0 : Int))] : List Ap) (by decide) (by decide)
  have h2 : months ([((0 : Int), (3 : Int), (6 : Int), (0 : Int), (0 : Int), (3 : Int), (500 : Int)), ((0 : Int), (5 : Int), (8 : Int), (0 : Int), (0 : Int), (3 : Int), (700 : Int)), ((0 : Int), (5 : Int), (7 : Int), (0 : Int), (0 : Int), (2 : Int), (0 : Int))] : List Ap) = [5, 6] := by kernel_rfl
  rw [h2] at h1
  unfold M.law42_awake
  rw [h1]
  show (_ : Option Bool) = some true
  kernel_rfl

theorem RulingLatestWins_true (l : List Ap) (x : Ap) (m : Int) (_ : WF (.slice rAppeal) l) (_ : WF rAppeal x) (_ : WF rInt m) : M.law42_RulingLatestWins big l x m = some true := by
  unfold M.law42_RulingLatestWins
  rw [awake]
  by_cases h : (100 : Int) < (l.length : Int)
  · rw [if_pos (by simpa using h)]; rfl
  · rw [if_neg (by simpa using h), Granted_eq (by omega)]
    simp only [Option.bind_some]
    rw [appA_some (by simp; omega), Option.bind_some, appA_some (by simp; omega), Option.bind_some, List.nil_append, Granted_eq (by simp; omega), Option.bind_some]
    have hc : M.ref42_Covers big x m = some (decide (x.2.1 ≤ m) && decide (m < x.2.2.1)) := by
      unfold M.ref42_Covers
      cases decide (x.2.1 ≤ m) <;> rfl
    have hj : ((if decide (x.2.2.2.2.2.1 = 3) = true then (M.ref42_Covers big x m).bind fun y7 => some y7 else some false) : Option Bool) = some (gm m x) := by
      rw [hc]
      unfold gm
      cases decide (x.2.2.2.2.2.1 = 3) <;> rfl
    rw [hj, Option.bind_some]
    have hr : granted m (l ++ [x]).reverse = if gm m x = true then (x.2.2.2.2.2.2, true) else granted m l.reverse := by
      rw [List.reverse_append]
      rfl
    rw [hr]
    by_cases hg : gm m x = true
    · simp [hg]
    · simp [hg]
end L
end Go.Proofs.Yteoiedcenhlhnaa
