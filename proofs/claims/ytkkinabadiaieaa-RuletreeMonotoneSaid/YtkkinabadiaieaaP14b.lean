/- Chapter 14: the selected rule stays; an exception takes precedence (plain laws). -/
import Derived.Test.YtkkinabadiaieaaP14
namespace Go.Proofs.Ytkkinabadiaieaa
open Go Go.RowKit
namespace L

/-- Fewer rules apply, the rule s among them. -/
structure Fewer (p : List Int) (a a' : List Bool) (s : Int) : Prop where
  sub : ∀ i : Int, 0 ≤ i → i < p.length → at' false a' i = true → at' false a i = true
  same : at' false a s = true → at' false a' s = true

theorem come_neg {o : Int → Int} {b : List Int} (hb : ∀ c, c ∈ b → o c ≠ -1) : come o b = -1 ↔ b = [] := by
  cases b with
  | nil => simp [come]
  | cons x b =>
    have h1 : ¬ ((x :: b).length : Int) = 0 := by simp only [List.length_cons]; omega
    have := hb x (by simp)
    unfold come
    rw [if_neg h1, at_zero]
    constructor
    · intro h; split at h <;> omega
    · intro h; cases h
theorem C_neg {p q : List Int} {a : List Bool} {i : Int} : C p q a i = -1 ↔ ∀ c, c ∈ ch p i → O p q a c = -1 := by
  unfold C
  rw [come_neg (inv_best _ _ _).live, best_nil]
/-- A rule selected among the children: it is the outcome of the one best child. -/
theorem C_pos {p q : List Int} {a : List Bool} {i s : Int} (h : C p q a i = s) (hs : 0 ≤ s) : ∃ c, best (O p q a) q (ch p i) = [c] ∧ O p q a c = s := by
  unfold C at h
  cases hb : best (O p q a) q (ch p i) with
  | nil => rw [hb] at h; simp [come] at h; omega
  | cons x b =>
    rw [hb] at h
    cases b with
    | cons y b => simp [come] at h; split at h <;> omega
    | nil => exact ⟨x, rfl, h⟩
theorem C_of_one {p q : List Int} {a : List Bool} {i c : Int} (h : best (O p q a) q (ch p i) = [c]) : C p q a i = O p q a c := by
  unfold C
  rw [h]
  rfl

theorem O_dead {p q : List Int} (hv : V p q) {a a' : List Bool} (hsub : ∀ i : Int, 0 ≤ i → i < p.length → at' false a' i = true → at' false a i = true) : ∀ (d : Nat) (i : Int), 0 ≤ i → i < p.length → 8 ≤ i + d → O p q a i = -1 → O p q a' i = -1
  | 0, i, h0, h1, h, _ => by have := hv.n8; omega
  | d + 1, i, h0, h1, h, hO => by
    rw [O_eq hv a (by omega)] at hO
    have hc : C p q a i = -1 ∧ ¬ at' false a i = true := by
      split at hO
      · omega
      · rename_i hh
        exact ⟨hO, fun e => hh ⟨hO, e⟩⟩
    have hc' : C p q a' i = -1 := C_neg.2 fun c hm => by
      have := ch_gt hv hm
      exact O_dead hv hsub d c (by omega) (by omega) (by omega) (C_neg.1 hc.1 c hm)
    rw [O_eq hv a' (by omega), if_neg, hc']
    exact fun e => hc.2 (hsub i h0 h1 e.2)

theorem C_keep {p q : List Int} (hv : V p q) {a a' : List Bool} {s i : Int} (hs : 0 ≤ s) (hsub : ∀ i : Int, 0 ≤ i → i < p.length → at' false a' i = true → at' false a i = true) (hk : ∀ c, c ∈ ch p i → O p q a c = s → O p q a' c = s) (h : C p q a i = s) : C p q a' i = s := by
  obtain ⟨c, h1, h2⟩ := C_pos h hs
  obtain ⟨h3, h4, h5⟩ := (best_one (nodup_ch p i)).1 h1
  have h6 := hk c h3 h2
  rw [C_of_one ((best_one (nodup_ch p i)).2 ⟨h3, by omega, fun d hd hl hne => h5 d hd (fun e => hl ?_) hne⟩), h6]
  have := ch_gt hv hd
  exact O_dead hv hsub 8 d (by omega) (by omega) (by omega) e

theorem O_keep {p q : List Int} (hv : V p q) {a a' : List Bool} {s : Int} (hs : 0 ≤ s) (hF : Fewer p a a' s) : ∀ (d : Nat) (i : Int), 0 ≤ i → i < p.length → 8 ≤ i + d → O p q a i = s → O p q a' i = s
  | 0, i, h0, h1, h, _ => by have := hv.n8; omega
  | d + 1, i, h0, h1, h, hO => by
    rw [O_eq hv a (by omega)] at hO
    rw [O_eq hv a' (by omega)]
    split at hO
    · rename_i hh
      subst hO
      have hc' : C p q a' i = -1 := C_neg.2 fun c hm => by
        have := ch_gt hv hm
        exact O_dead hv hF.sub 8 c (by omega) (by omega) (by omega) (C_neg.1 hh.1 c hm)
      rw [if_pos ⟨hc', hF.same hh.2⟩]
    · have hc := C_keep hv hs hF.sub (fun c hm => by
        have := ch_gt hv hm
        exact O_keep hv hs hF d c (by omega) (by omega) (by omega)) hO
      rw [if_neg (by omega), hc]

/-- A selected rule applies. -/
theorem O_applies {p q : List Int} (hv : V p q) {a : List Bool} {s : Int} (hs : 0 ≤ s) : ∀ (d : Nat) (i : Int), 0 ≤ i → i < p.length → 8 ≤ i + d → O p q a i = s → s < p.length ∧ at' false a s = true
  | 0, i, h0, h1, h, _ => by have := hv.n8; omega
  | d + 1, i, h0, h1, h, hO => by
    rw [O_eq hv a (by omega)] at hO
    split at hO
    · rename_i hh
      subst hO
      exact ⟨h1, hh.2⟩
    · obtain ⟨c, h2, h3⟩ := C_pos hO hs
      have := best_in hv (o := O p q a) (i := i) (c := c) (by rw [h2]; simp)
      exact O_applies hv hs d c (by omega) (by omega) (by omega) h3
theorem C_applies {p q : List Int} (hv : V p q) {a : List Bool} {s : Int} (hs : 0 ≤ s) (h : C p q a (-1) = s) : s < p.length ∧ at' false a s = true := by
  obtain ⟨c, h2, h3⟩ := C_pos h hs
  have := best_in hv (o := O p q a) (i := -1) (c := c) (by rw [h2]; simp)
  exact O_applies hv hs 8 c (by omega) (by omega) (by omega) h3
theorem C_ge {p q : List Int} (hv : V p q) {a : List Bool} : ∀ (d : Nat) (i : Int), -1 ≤ i → 8 ≤ i + d → -2 ≤ C p q a i
  | 0, i, h0, h => by
    have : C p q a i = -1 := C_neg.2 fun c hm => by
      have := ch_gt hv hm; omega
    omega
  | d + 1, i, h0, h => by
    cases hb : best (O p q a) q (ch p i) with
    | nil => unfold C come; rw [hb]; simp
    | cons x b =>
      cases b with
      | cons y b => unfold C come; rw [hb]; simp; split <;> omega
      | nil =>
        rw [C_of_one hb]
        have := best_in hv (o := O p q a) (i := i) (c := x) (by rw [hb]; simp)
        rw [O_eq hv a (by omega)]
        split
        · omega
        · exact C_ge hv d x (by omega) (by omega)

/-- The rules that still apply. -/
def few (a off : List Bool) (s : Int) (n : Nat) : List Bool := (List.range n).map fun i : Nat => at' false a (i : Int) && (decide ((i : Int) = s) || (decide ((off.length : Int) ≤ i) || !at' false off (i : Int)))
theorem few_succ (a off : List Bool) (s : Int) (n : Nat) : few a off s (n + 1) = few a off s n ++ [at' false a (n : Int) && (decide ((n : Int) = s) || (decide ((off.length : Int) ≤ n) || !at' false off (n : Int)))] := by
  unfold few
  rw [List.range_succ, List.map_append]
  rfl
theorem few_len (a off : List Bool) (s : Int) (n : Nat) : (few a off s n).length = n := by simp [few]
theorem few_at {a off : List Bool} {s : Int} {n : Nat} {i : Int} (h0 : 0 ≤ i) (h : i < n) : at' false (few a off s n) i = (at' false a i && (decide (i = s) || (decide ((off.length : Int) ≤ i) || !at' false off i))) := by
  obtain ⟨k, rfl⟩ := Int.eq_ofNat_of_zero_le h0
  unfold few
  rw [at_nat (by simp; omega), List.getElem_map, List.getElem_range]

theorem or3 (x y z : Bool) {α : Type} (k : Bool → Option α) : ((if x = true then some true else (if y = true then some true else some z) : Option Bool).bind k) = k (x || y || z) := by
  cases x <;> cases y <;> rfl
theorem or4 (x y z u : Bool) {α : Type} (k : Bool → Option α) : ((if x = true then some true else (if y = true then some true else (if z = true then some true else some u)) : Option Bool).bind k) = k (x || y || z || u) := by
  cases x <;> cases y <;> cases z <;> rfl

theorem Validate_of {N : Nat} (hN : 20 ≤ N) {p q : List Int} {a : List Bool} {s : Int} (h : M.ruletree_Select N p q a = some s) (hs : s ≠ -1) : M.ruletree_Validate N p q = some 0 := by
  obtain ⟨e, he, _⟩ := Validate_ok (N := N) p q (by omega)
  unfold M.ruletree_Select at h
  rw [he, Option.bind_some, if_or] at h
  by_cases h0 : e = 0
  · rw [he, h0]
  · rw [if_pos (by simp [h0])] at h
    exact absurd (Option.some.inj h).symm hs

theorem RuletreeMonotone_true (p q : List Int) (a off : List Bool) (_ : WF (.slice rInt) p) (_ : WF (.slice rInt) q) (_ : WF (.slice .bool) a) (_ : WF (.slice .bool) off) : M.law14_RuletreeMonotone big p q a off = some true := by
  unfold M.law14_RuletreeMonotone
  rw [awake, or4]
  by_cases hbig : (decide ((100 : Int) < (p.length : Int)) || decide ((100 : Int) < (q.length : Int)) || decide ((100 : Int) < (a.length : Int)) || decide ((100 : Int) < (off.length : Int))) = true
  · rw [if_pos hbig]; rfl
  rw [if_neg hbig]
  rcases Select_cases (N := big) (by decide) p q a with ⟨h1, h2⟩ | ⟨hv, ha, h1, h2⟩
  · rw [h1]; rfl
  · rw [h1, Option.bind_some]
    generalize hs : C p q a (-1) = s
    by_cases e1 : s = -1
    · subst e1; rfl
    by_cases e2 : s = -2
    · subst e2; rfl
    have h8 := hv.n8
    have hge := C_ge hv (a := a) 9 (-1) (by omega) (by omega)
    have h0 : 0 ≤ s := by omega
    obtain ⟨h3, h4⟩ := C_applies hv h0 hs
    have e3 : ¬ s < 0 := by omega
    have e4 : ¬ (a.length : Int) ≤ s := by omega
    simp only [e1, e2, decide_false, Bool.false_eq_true, if_false, Option.bind_some, e3, e4, idx_at false h0 (show s < (a.length : Int) by omega), h4, Bool.not_true]
    refine Loop_bind (fun k : Nat => ((k : Int), few a off s k)) a.length (few a off s a.length) rfl ?_ ?_ (by have : big = 18446744073709551616 := rfl; omega) ?_
    · intro k hk
      have hw : IntKind.i64.wrap ((k : Int) + 1) = ((k + 1 : Nat) : Int) := by rw [wrap_id] <;> omega
      have happ : ∀ y : Bool, appA (few a off s k) [y] = some (few a off s k ++ [y]) := fun y => appA_some (by rw [few_len]; simp; omega)
      simp only
      rw [if_pos (by simp; omega), idx_at false (by omega) (by omega), Option.bind_some, hw, few_succ]
      simp only [happ, Option.bind_some]
      by_cases b1 : at' false a (k : Int) = true
      · rw [if_pos b1, b1]
        by_cases b2 : (k : Int) = s
        · simp [b2]
        · by_cases b3 : (off.length : Int) ≤ k
          · simp [b2, b3]
          · rw [idx_at false (by omega) (by omega)]
            simp [b2, b3]
      · rw [if_neg b1]
        simp [b1]
    · simp only
      rw [if_neg (by simp)]
    · have hF : Fewer p a (few a off s a.length) s := ⟨fun i hi hi' h => by
        rw [few_at hi (by omega), Bool.and_eq_true] at h
        exact h.1, fun h => by
        rw [few_at h0 (by omega), h]
        simp⟩
      have hkeep : C p q (few a off s a.length) (-1) = s := C_keep hv h0 hF.sub (fun c hm => by
        have := ch_gt hv hm
        exact O_keep hv h0 hF 8 c (by omega) (by omega) (by omega)) hs
      rw [Select_valid (by decide) (Validate_of (by decide) h1 (by omega)) (by rw [few_len]; exact ha), hkeep]
      simp
end L
end Go.Proofs.Ytkkinabadiaieaa
