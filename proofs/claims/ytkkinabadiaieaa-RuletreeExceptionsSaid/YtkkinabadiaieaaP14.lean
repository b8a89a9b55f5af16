/- Chapter 14: rule trees (plain laws). -/
import Derived.Test.YtkkinabadiaieaaModel
import Derived.Test.YtkkinabadiaieaaPlain
import Derived.Test.YtkkinabadiaieaaOpen
namespace Go.Proofs.Ytkkinabadiaieaa
open Go Go.RowKit
namespace L

def at' {α : Type} (d : α) (l : List α) (i : Int) : α := (l[i.toNat]?).getD d

theorem idx_at {α : Type} (d : α) {l : List α} {i : Int} (h0 : 0 ≤ i) (h : i < l.length) : idx l i = some (at' d l i) := by
  unfold idx at'
  rw [if_pos h0, List.getElem?_eq_getElem (by omega)]
  rfl
theorem at_nat {α : Type} {d : α} {l : List α} {k : Nat} (h : k < l.length) : at' d l (k : Int) = l[k] := by
  unfold at'
  simp [h]

structure V (p q : List Int) : Prop where
  len : p.length = q.length
  n8 : p.length ≤ 8
  par : ∀ i : Nat, i < p.length → -1 ≤ at' 0 p i ∧ at' 0 p i < i

theorem Validate_ref (N : Nat) (p q : List Int) : M.ref14_Validate N p q = M.ruletree_Validate N p q := by
  unfold M.ref14_Validate M.ruletree_Validate
  congr 3
  funext s
  congr 1
  cases hp : idx p s <;> cases hq : idx q s <;> rfl

theorem Validate_ok {N : Nat} (p q : List Int) (hN : 10 ≤ N) : ∃ e, M.ruletree_Validate N p q = some e ∧ (e = 0 → V p q) := by
  unfold M.ruletree_Validate
  by_cases h1 : (p.length : Int) = q.length
  · rw [if_neg (by simpa using h1)]
    by_cases h2 : 8 < (p.length : Int)
    · rw [if_pos (by simpa using h2)]; exact ⟨_, rfl, by omega⟩
    · rw [if_neg (by simpa using h2)]
      refine Loop_rule (I := fun s : Int => 0 ≤ s ∧ s ≤ p.length ∧ ∀ i : Nat, (i : Int) < s → -1 ≤ at' 0 p i ∧ at' 0 p i < i) (μ := fun s => (p.length - s).toNat) (Q := fun e => e = 0 → V p q) ?_ N 0 ⟨by omega, by omega, fun i hi => by omega⟩ (by omega)
      rintro s ⟨h3, h4, h5⟩
      by_cases h6 : s < (p.length : Int)
      · rw [if_pos (by simpa using h6), idx_at 0 h3 h6, idx_at 0 h3 (by omega)]
        simp only [Option.bind_some]
        by_cases h7 : at' 0 p s < -1
        · rw [if_pos (by simpa using h7)]; exact .inr ⟨9, rfl, by omega⟩
        · rw [if_neg (by simpa using h7)]
          by_cases h8 : s ≤ at' 0 p s
          · simp only [Option.bind_some, h8, decide_true, if_true]; exact .inr ⟨9, rfl, by omega⟩
          · simp only [Option.bind_some, h8, decide_false, Bool.false_eq_true, if_false]
            have fin : (∃ s', (some (Sum.inl (IntKind.i64.wrap (s + 1))) : Option (Int ⊕ Int)) = some (.inl s') ∧ (0 ≤ s' ∧ s' ≤ p.length ∧ ∀ i : Nat, (i : Int) < s' → -1 ≤ at' 0 p i ∧ at' 0 p i < i) ∧ ((p.length : Int) - s').toNat < ((p.length : Int) - s).toNat) := by
              rw [wrap_id (by omega) (by omega)]
              refine ⟨s + 1, rfl, ⟨by omega, by omega, fun i hi => ?_⟩, by omega⟩
              by_cases e : (i : Int) < s
              · exact h5 i e
              · have : (i : Int) = s := by omega
                rw [this]; omega
            by_cases h9 : at' 0 q s < 0
            · simp only [h9, decide_true, if_true, Option.bind_some]; exact .inr ⟨3, rfl, by omega⟩
            · simp only [h9, decide_false, Bool.false_eq_true, if_false, Option.bind_some]
              by_cases h10 : 9 < at' 0 q s
              · simp only [h10, decide_true, if_true]; exact .inr ⟨3, rfl, by omega⟩
              · simp only [h10, decide_false, Bool.false_eq_true, if_false]; exact .inl fin
      · rw [if_neg (by simpa using h6)]
        exact .inr ⟨0, rfl, fun _ => ⟨by omega, by omega, fun i hi => h5 i (by omega)⟩⟩
  · rw [if_pos (by simpa using h1)]; exact ⟨_, rfl, by omega⟩

/-- The children of a rule, in order. -/
def ch (p : List Int) (i : Int) : List Int := ((List.range p.length).filter fun j : Nat => decide (at' 0 p (j : Int) = i)).map (fun j : Nat => (j : Int))

theorem mem_ch {p : List Int} {i c : Int} : c ∈ ch p i ↔ 0 ≤ c ∧ c < p.length ∧ at' 0 p c = i := by
  unfold ch
  simp only [List.mem_map, List.mem_filter, List.mem_range, decide_eq_true_eq]
  constructor
  · rintro ⟨j, ⟨h1, h2⟩, rfl⟩; exact ⟨by omega, by omega, h2⟩
  · rintro ⟨h1, h2, h3⟩
    obtain ⟨j, rfl⟩ := Int.eq_ofNat_of_zero_le h1
    exact ⟨j, ⟨by omega, h3⟩, rfl⟩
theorem nodup_ch (p : List Int) (i : Int) : (ch p i).Nodup := by
  unfold ch
  refine List.Pairwise.map _ (fun a b (h : a ≠ b) => by omega) ?_
  exact List.Pairwise.filter _ List.nodup_range
theorem len_ch (p : List Int) (i : Int) : (ch p i).length ≤ p.length := by
  unfold ch
  rw [List.length_map]
  have := List.length_filter_le (fun j : Nat => decide (at' 0 p (j : Int) = i)) (List.range p.length)
  simpa using this

theorem Children_eq {N : Nat} {p : List Int} (i : Int) (hn : p.length ≤ 8) (hN : 10 ≤ N) : M.ruletree_Children N p i = some (ch p i) := by
  unfold M.ruletree_Children
  refine Loop_eq (fun k : Nat => ((k : Int), (((List.range k).filter fun j : Nat => decide (at' 0 p (j : Int) = i)).map (fun j : Nat => (j : Int)) : List Int))) p.length _ rfl ?_ ?_ (by omega)
  · intro k hk
    have hw : IntKind.i64.wrap ((k : Int) + 1) = ((k + 1 : Nat) : Int) := by rw [wrap_id] <;> omega
    simp only
    rw [if_pos (by simp; omega), idx_at 0 (by omega) (by omega), Option.bind_some, hw, filter_range_succ]
    by_cases h : at' 0 p (k : Int) = i
    · rw [if_pos (by simpa using h), appA_some, Option.bind_some, if_pos (by simpa using h)]
      · simp
      · simp only [List.length_map, List.length_cons, List.length_nil]
        have := List.length_filter_le (fun j : Nat => decide (at' 0 p (j : Int) = i)) (List.range k)
        simp at this; omega
    · rw [if_neg (by simpa using h), if_neg (by simpa using h)]
      simp
  · simp only
    rw [if_neg (by simp)]
    rfl
theorem Children_ref (N : Nat) (p : List Int) (i : Int) : M.ref14_Children N p i = M.ruletree_Children N p i := rfl

/-- A child among the best. -/
def step (o : Int → Int) (q : List Int) (b : List Int) (c : Int) : List Int :=
  if o c = -1 then b else
  match b with
  | [] => [c]
  | x :: r => if at' 0 q x < at' 0 q c then [c] else if at' 0 q c = at' 0 q x then (x :: r) ++ [c] else x :: r
def best (o : Int → Int) (q : List Int) (l : List Int) : List Int := l.foldl (step o q) []

structure Inv (o : Int → Int) (q : List Int) (l b : List Int) : Prop where
  sub : b.Sublist l
  live : ∀ c, c ∈ b → o c ≠ -1
  max : ∀ d, d ∈ l → o d ≠ -1 → b ≠ [] ∧ ∀ c, c ∈ b → at' 0 q d ≤ at' 0 q c
  all : ∀ d, d ∈ l → o d ≠ -1 → (∀ c, c ∈ b → at' 0 q d = at' 0 q c) → d ∈ b

theorem at_zero {α : Type} {d a : α} {l : List α} : at' d (a :: l) 0 = a := rfl

theorem inv_step {o : Int → Int} {q l b : List Int} {c : Int} (h : Inv o q l b) : Inv o q (l ++ [c]) (step o q b c) := by
  obtain ⟨h1, h2, h3, h4⟩ := h
  have heq : ∀ x ∈ b, ∀ y ∈ b, at' 0 q x = at' 0 q y := fun x hx y hy => by
    have a1 := (h3 x (h1.subset hx) (h2 x hx)).2 y hy
    have a2 := (h3 y (h1.subset hy) (h2 y hy)).2 x hx
    omega
  unfold step
  by_cases hd : o c = -1
  · rw [if_pos hd]
    refine ⟨h1.trans (List.sublist_append_left _ _), h2, fun d hm hl => ?_, fun d hm hl => ?_⟩
    · rcases List.mem_append.1 hm with hm | hm
      · exact h3 d hm hl
      · rw [List.mem_singleton.1 hm] at hl; exact absurd hd hl
    · rcases List.mem_append.1 hm with hm | hm
      · exact h4 d hm hl
      · rw [List.mem_singleton.1 hm] at hl; exact absurd hd hl
  · rw [if_neg hd]
    cases b with
    | nil =>
      have hdead : ∀ d, d ∈ l → ¬ o d ≠ -1 := fun d hm hl => (h3 d hm hl).1 rfl
      refine ⟨(List.sublist_append_right _ _), ?_, fun d hm hl => ⟨by simp, ?_⟩, fun d hm hl hh => ?_⟩
      · intro x hx; rw [List.mem_singleton.1 hx]; exact hd
      · intro x hx; rw [List.mem_singleton.1 hx]
        rcases List.mem_append.1 hm with hm | hm
        · exact absurd hl (hdead d hm)
        · rw [List.mem_singleton.1 hm]; exact Int.le_refl _
      · rcases List.mem_append.1 hm with hm | hm
        · exact absurd hl (hdead d hm)
        · exact hm
    | cons a b =>
      simp only
      by_cases hlt : at' 0 q a < at' 0 q c
      · rw [if_pos hlt]
        refine ⟨(List.sublist_append_right _ _), ?_, fun d hm hl => ⟨by simp, ?_⟩, fun d hm hl hh => ?_⟩
        · intro x hx; rw [List.mem_singleton.1 hx]; exact hd
        · intro x hx; rw [List.mem_singleton.1 hx]
          rcases List.mem_append.1 hm with hm | hm
          · have := (h3 d hm hl).2 a (by simp); omega
          · rw [List.mem_singleton.1 hm]; exact Int.le_refl _
        · rcases List.mem_append.1 hm with hm | hm
          · have := (h3 d hm hl).2 a (by simp)
            have := hh c (by simp)
            omega
          · exact hm
      · rw [if_neg hlt]
        by_cases he : at' 0 q c = at' 0 q a
        · rw [if_pos he]
          refine ⟨List.Sublist.append h1 (List.Sublist.refl _), ?_, fun d hm hl => ⟨by simp, ?_⟩, fun d hm hl hh => ?_⟩
          · intro x hx
            rcases List.mem_append.1 hx with hx | hx
            · exact h2 x hx
            · rw [List.mem_singleton.1 hx]; exact hd
          · intro x hx
            have hx' : at' 0 q x = at' 0 q a := by
              rcases List.mem_append.1 hx with hx | hx
              · exact heq x hx a (by simp)
              · rw [List.mem_singleton.1 hx]; exact he
            rcases List.mem_append.1 hm with hm | hm
            · have := (h3 d hm hl).2 a (by simp); omega
            · rw [List.mem_singleton.1 hm]; omega
          · rcases List.mem_append.1 hm with hm | hm
            · exact List.mem_append_left _ (h4 d hm hl fun x hx => hh x (List.mem_append_left _ hx))
            · exact List.mem_append_right _ hm
        · rw [if_neg he]
          refine ⟨h1.trans (List.sublist_append_left _ _), h2, fun d hm hl => ⟨by simp, ?_⟩, fun d hm hl hh => ?_⟩
          · intro x hx
            rcases List.mem_append.1 hm with hm | hm
            · exact (h3 d hm hl).2 x hx
            · rw [List.mem_singleton.1 hm, heq x hx a (by simp)]; omega
          · rcases List.mem_append.1 hm with hm | hm
            · exact h4 d hm hl hh
            · have := hh a (by simp)
              rw [List.mem_singleton.1 hm] at this
              exact absurd this he

theorem inv_fold {o : Int → Int} {q : List Int} : ∀ (m l b : List Int), Inv o q l b → Inv o q (l ++ m) (m.foldl (step o q) b)
  | [], l, b, h => by simpa using h
  | c :: m, l, b, h => by
    have := inv_fold m (l ++ [c]) _ (inv_step (c := c) h)
    rw [List.append_assoc] at this
    exact this
theorem inv_best (o : Int → Int) (q l : List Int) : Inv o q l (best o q l) := by
  have := inv_fold (o := o) (q := q) l [] [] ⟨List.Sublist.refl _, by simp, by simp, by simp⟩
  rw [List.nil_append] at this
  exact this

theorem best_nil {o : Int → Int} {q l : List Int} : best o q l = [] ↔ ∀ d, d ∈ l → o d = -1 := by
  have h := inv_best o q l
  constructor
  · intro e d hd
    by_cases hl : o d = -1
    · exact hl
    · exact absurd e (h.max d hd hl).1
  · intro hd
    cases hb : best o q l with
    | nil => rfl
    | cons a b =>
      rw [hb] at h
      exact absurd (hd a (h.sub.subset (by simp))) (h.live a (by simp))
theorem best_one {o : Int → Int} {q l : List Int} {a : Int} (hn : l.Nodup) : best o q l = [a] ↔ a ∈ l ∧ o a ≠ -1 ∧ ∀ d, d ∈ l → o d ≠ -1 → d ≠ a → at' 0 q d < at' 0 q a := by
  have h := inv_best o q l
  constructor
  · intro e
    rw [e] at h
    refine ⟨h.sub.subset (by simp), h.live a (by simp), fun d hd hl hne => ?_⟩
    have h1 := (h.max d hd hl).2 a (by simp)
    by_cases he : at' 0 q d = at' 0 q a
    · have := h.all d hd hl (fun c hc => by rw [List.mem_singleton.1 hc]; exact he)
      exact absurd (List.mem_singleton.1 this) hne
    · omega
  · rintro ⟨h1, h2, h3⟩
    have h4 := (h.max a h1 h2).1
    have h5 : ∀ c, c ∈ best o q l → c = a := fun c hc => by
      by_cases e : c = a
      · exact e
      · have a1 := h3 c (h.sub.subset hc) (h.live c hc) e
        have a2 := (h.max a h1 h2).2 c hc
        omega
    have h6 : (best o q l).Nodup := h.sub.nodup hn
    cases hb : best o q l with
    | nil => exact absurd hb h4
    | cons b m =>
      rw [hb] at h5 h6
      have e1 := h5 b (by simp)
      cases m with
      | nil => rw [e1]
      | cons c m =>
        have e2 := h5 c (by simp)
        rw [List.nodup_cons] at h6
        exact absurd (by rw [e1, e2]; simp) h6.1

theorem best_congr {o o' : Int → Int} {q : List Int} : ∀ (l b : List Int), (∀ c, c ∈ l → o c = o' c) → l.foldl (step o q) b = l.foldl (step o' q) b
  | [], _, _ => rfl
  | c :: l, b, h => by
    have : step o q b c = step o' q b c := by unfold step; rw [h c (by simp)]
    rw [List.foldl_cons, List.foldl_cons, this]
    exact best_congr l _ fun d hd => h d (by simp [hd])

/-- What the best children come to. -/
def come (o : Int → Int) (b : List Int) : Int := if (b.length : Int) = 0 then -1 else if (b.length : Int) = 1 then o (at' 0 b 0) else -2

/-- The outcome of a rule's subtree, to a depth. -/
def out (p q : List Int) (a : List Bool) : Nat → Int → Int
  | 0, _ => -1
  | k + 1, i =>
    let c := come (out p q a k) (best (out p q a k) q (ch p i))
    if c = -1 ∧ at' false a i = true then i else c
/-- The outcome of the children. -/
def cout (p q : List Int) (a : List Bool) (k : Nat) (i : Int) : Int := come (out p q a k) (best (out p q a k) q (ch p i))

theorem out_succ (p q : List Int) (a : List Bool) (k : Nat) (i : Int) : out p q a (k + 1) i = if cout p q a k i = -1 ∧ at' false a i = true then i else cout p q a k i := rfl

theorem ch_gt {p q : List Int} (hv : V p q) {i c : Int} (h : c ∈ ch p i) : i < c ∧ 0 ≤ c ∧ c < 8 ∧ c < p.length := by
  obtain ⟨h1, h2, h3⟩ := mem_ch.1 h
  have := hv.n8
  obtain ⟨j, rfl⟩ := Int.eq_ofNat_of_zero_le h1
  have := (hv.par j (by omega)).2
  omega

theorem come_congr {o o' : Int → Int} {b : List Int} (h : ∀ c, c ∈ b → o c = o' c) : come o b = come o' b := by
  cases b with
  | nil => rfl
  | cons x b => unfold come; rw [at_zero, h x (by simp)]

theorem cout_congr {p q : List Int} {a : List Bool} {k k' : Nat} {i : Int} (h : ∀ c, c ∈ ch p i → out p q a k c = out p q a k' c) : cout p q a k i = cout p q a k' i := by
  unfold cout
  have : best (out p q a k) q (ch p i) = best (out p q a k') q (ch p i) := best_congr _ _ h
  rw [this]
  exact come_congr fun c hc => h c ((inv_best _ _ _).sub.subset hc)

theorem out_stable {p q : List Int} (hv : V p q) (a : List Bool) : ∀ (k : Nat) (i : Int), 8 < k + i → out p q a k i = out p q a (k + 1) i ∨ 8 ≤ i
  | 0, i, h => .inr (by omega)
  | k + 1, i, h => by
    by_cases h8 : 8 ≤ i
    · exact .inr h8
    · left
      rw [out_succ, out_succ p q a (k + 1), cout_congr (k := k) (k' := k + 1)]
      intro c hc
      have := ch_gt hv hc
      exact (out_stable hv a k c (by omega)).resolve_right (by omega)

/-- The outcome. -/
def O (p q : List Int) (a : List Bool) (i : Int) : Int := out p q a 16 i
/-- The outcome of the children. -/
def C (p q : List Int) (a : List Bool) (i : Int) : Int := come (O p q a) (best (O p q a) q (ch p i))

theorem out_O {p q : List Int} (hv : V p q) (a : List Bool) : ∀ (d k : Nat) (i : Int), 8 < k + i → i < 8 → d + k = 16 → out p q a k i = O p q a i
  | 0, k, i, _, _, hd => by
    obtain rfl : k = 16 := by omega
    rfl
  | d + 1, k, i, h, h8, hd => by
    rw [(out_stable hv a k i h).resolve_right (by omega)]
    exact out_O hv a d (k + 1) i (by omega) h8 (by omega)
theorem out_C {p q : List Int} (hv : V p q) (a : List Bool) {k : Nat} {i : Int} (h : 7 < k + i) (hk : k ≤ 16) : cout p q a k i = C p q a i := by
  show _ = cout p q a 16 i
  refine cout_congr fun c hc => ?_
  have := ch_gt hv hc
  exact out_O hv a (16 - k) k c (by omega) (by omega) (by omega)
theorem O_eq {p q : List Int} (hv : V p q) (a : List Bool) {i : Int} (h0 : -1 ≤ i) : O p q a i = if C p q a i = -1 ∧ at' false a i = true then i else C p q a i := by
  unfold O
  rw [out_succ, out_C hv a (by omega) (by omega)]

theorem body_prog {q b : List Int} {c y : Int} {o : Int → Int} (hy : o c = y) (hb : ∀ x, x ∈ b → 0 ≤ x ∧ x < q.length) (hl : b.length ≤ 8) (hc : 0 ≤ c ∧ c < q.length) :
    (if (decide (y = (-1 : Int))) = true then
some b
else
(((if (decide ((0 : Int) < (b.length : Int))) = true then
(idx q c).bind fun x8 =>
(idx b (0 : Int)).bind fun x9 =>
(idx q x9).bind fun x10 =>
some (decide (x10 < x8))
else
some false) : Option (Bool)).bind fun j7 =>
(if j7 = true then
(cutA b (0 : Int) (0 : Int)).bind fun l11 =>
some l11
else
some b) : Option (List Int)).bind fun j6 =>
((if (decide ((j6.length : Int) = (0 : Int))) = true then
some true
else
(idx q c).bind fun x13 =>
(idx j6 (0 : Int)).bind fun x14 =>
(idx q x14).bind fun x15 =>
some (decide (x13 = x15))) : Option (Bool)).bind fun j12 =>
(if j12 = true then
(appA j6 ([c] : List Int)).bind fun l16 =>
some l16
else
some j6)) = some (step o q b c) := by
  subst hy
  unfold step
  by_cases h : o c = -1
  · simp only [h, decide_true, if_true]
  · simp only [h, decide_false, Bool.false_eq_true, if_false]
    rw [idx_at 0 hc.1 hc.2]
    cases b with
    | nil => simp [appA]
    | cons x r =>
      have hx := hb x (by simp)
      have h0 : (0 : Int) < ((x :: r).length : Int) := by simp only [List.length_cons]; omega
      have h1 : ¬ ((x :: r).length : Int) = 0 := by omega
      simp only [h0, decide_true, if_true, Option.bind_some, idx_zero, idx_at 0 hx.1 hx.2]
      have hcut : cutA (x :: r) (0 : Int) (0 : Int) = some [] := by
        unfold cutA
        rw [if_pos (by omega)]
        rfl
      by_cases hlt : at' 0 q x < at' 0 q c
      · rw [hcut]
        simp [hlt, appA]
      · simp only [hlt, decide_false, Bool.false_eq_true, if_false, Option.bind_some, h1, idx_zero, idx_at 0 hx.1 hx.2]
        by_cases he : at' 0 q c = at' 0 q x
        · simp only [he, decide_true, if_true]
          rw [appA_some (by simp at hl ⊢; omega)]
          rfl
        · simp only [he, decide_false, Bool.false_eq_true, if_false]
theorem body_ref {q b : List Int} {c y : Int} {o : Int → Int} (hy : o c = y) (hb : ∀ x, x ∈ b → 0 ≤ x ∧ x < q.length) (hl : b.length ≤ 8) (hc : 0 ≤ c ∧ c < q.length) :
    (if (decide (y = (-1 : Int))) = true then
some b
else
(((if (decide ((0 : Int) < (b.length : Int))) = true then
(idx q c).bind fun x8 =>
(idx b (0 : Int)).bind fun x9 =>
(idx q x9).bind fun x10 =>
some (decide (x10 < x8))
else
some false) : Option (Bool)).bind fun j7 =>
(if j7 = true then
some ([] : List Int)
else
some b) : Option (List Int)).bind fun j6 =>
((if (decide ((j6.length : Int) = (0 : Int))) = true then
some true
else
(idx q c).bind fun x13 =>
(idx j6 (0 : Int)).bind fun x14 =>
(idx q x14).bind fun x15 =>
some (decide (x13 = x15))) : Option (Bool)).bind fun j12 =>
(if j12 = true then
(appA j6 ([c] : List Int)).bind fun l16 =>
some l16
else
some j6)) = some (step o q b c) := by
  rw [← body_prog hy hb hl hc]
  rfl

theorem take_mem {l : List Int} {o : Int → Int} {q : List Int} {k : Nat} : ((l.take k).foldl (step o q) []).Sublist l := (inv_best o q (l.take k)).sub.trans (List.take_sublist _ _)

theorem best_eq {N : Nat} {p q r : List Int} (hv : V p q) (hr : r.length = p.length) (i : Int) (hN : 20 ≤ N) : M.ruletree_tree_best N (p, (q, r)) i = some (best (at' 0 r) q (ch p i)) := by
  have h8 := hv.n8
  have hl := len_ch p i
  unfold M.ruletree_tree_best
  simp only
  rw [Children_eq i h8 (by omega), Option.bind_some]
  refine Loop_eq (fun k : Nat => ((k : Int), ((ch p i).take k).foldl (step (at' 0 r) q) [])) (ch p i).length _ rfl ?_ ?_ (by omega)
  · intro k hk
    have hw : IntKind.i64.wrap ((k : Int) + 1) = ((k + 1 : Nat) : Int) := by rw [wrap_id] <;> omega
    have hc := ch_gt hv (List.getElem_mem hk)
    have hq := hv.len
    simp only
    rw [if_pos (by simp; omega), idx_nat hk, Option.bind_some, idx_at 0 hc.2.1 (by omega), Option.bind_some, hw]
    have hb := body_prog (q := q) (b := ((ch p i).take k).foldl (step (at' 0 r) q) []) (c := (ch p i)[k]) (o := at' 0 r) rfl (fun x hx => by have := ch_gt hv (take_mem.subset hx); omega) (by have := (take_mem (l := ch p i) (o := at' 0 r) (q := q) (k := k)).length_le; omega) ⟨hc.2.1, by omega⟩
    rw [hb, Option.bind_some, List.take_succ_eq_append_getElem hk, List.foldl_append]
    rfl
  · simp only
    rw [if_neg (by simp), List.take_length]
    rfl

theorem best_in {p q : List Int} (hv : V p q) {o : Int → Int} {i c : Int} (h : c ∈ best o q (ch p i)) : i < c ∧ 0 ≤ c ∧ c < 8 ∧ c < p.length := ch_gt hv ((inv_best o q _).sub.subset h)

theorem ofChildren_eq {N : Nat} {p q r : List Int} (hv : V p q) (hr : r.length = p.length) (i : Int) (hN : 20 ≤ N) : M.ruletree_tree_ofChildren N (p, (q, r)) i = some (come (at' 0 r) (best (at' 0 r) q (ch p i))) := by
  unfold M.ruletree_tree_ofChildren come
  rw [best_eq hv hr i hN, Option.bind_some]
  cases hb : best (at' 0 r) q (ch p i) with
  | nil => simp
  | cons x b =>
    have hx := best_in hv (o := at' 0 r) (i := i) (c := x) (by rw [hb]; simp)
    have h1 : ¬ ((x :: b).length : Int) = 0 := by simp; omega
    simp only [h1, decide_false, Bool.false_eq_true, if_false, idx_zero, Option.bind_some, at_zero, idx_at 0 hx.2.1 (show x < (r.length : Int) by omega)]
    by_cases h2 : ((x :: b).length : Int) = 1
    · simp only [h2, decide_true, if_true]
    · simp only [h2, decide_false, Bool.false_eq_true, if_false]

theorem come_at {p q r : List Int} (hv : V p q) {a : List Bool} {i : Int} (h : ∀ c, i < c → 0 ≤ c → c < p.length → at' 0 r c = O p q a c) : come (at' 0 r) (best (at' 0 r) q (ch p i)) = C p q a i := by
  unfold C
  have h' : ∀ c, c ∈ ch p i → at' 0 r c = O p q a c := fun c hc => by
    have := ch_gt hv hc
    exact h c this.1 this.2.1 this.2.2.2
  have : best (at' 0 r) q (ch p i) = best (O p q a) q (ch p i) := best_congr _ _ h'
  rw [this]
  exact come_congr fun c hc => h' c ((inv_best _ _ _).sub.subset hc)

/-- The outcomes while they are worked out. -/
def outs (p q : List Int) (a : List Bool) (k : Nat) : List Int := (List.range p.length).map fun j => if p.length ≤ j + k then O p q a (j : Int) else 0
theorem at_map {n : Nat} {f : Nat → Int} {c : Int} (h0 : 0 ≤ c) (h : c < n) : at' 0 ((List.range n).map f) c = f c.toNat := by
  unfold at'
  rw [List.getElem?_map, List.getElem?_range (by omega)]
  rfl

theorem outcomes_eq {N : Nat} {p q : List Int} {a : List Bool} (hv : V p q) (ha : a.length = p.length) (hN : 20 ≤ N) : M.ruletree_outcomes N p q a = some (outs p q a p.length) := by
  have h8 := hv.n8
  unfold M.ruletree_outcomes
  have h0 : mkL (p.length : Int) (0 : Int) = some (List.replicate p.length 0) := by
    unfold mkL
    rw [if_pos (by omega)]
    simp
  rw [h0, Option.bind_some]
  refine Loop_eq (fun k : Nat => ((p.length : Int) - 1 - (k : Int), outs p q a k)) p.length _ ?_ ?_ ?_ (by omega)
  · rw [wrap_id (by omega) (by omega)]
    have : outs p q a 0 = List.replicate p.length 0 := by
      unfold outs
      refine List.ext_getElem (by simp) fun j h1 h2 => ?_
      simp at h2
      rw [List.getElem_map, List.getElem_range, List.getElem_replicate, if_neg (by omega)]
    rw [this]
    simp
  · intro k hk
    have hlen : (outs p q a k).length = p.length := by simp [outs]
    have hO := O_eq hv a (i := (p.length : Int) - 1 - (k : Int)) (by omega)
    generalize hi : (p.length : Int) - 1 - (k : Int) = i at *
    have hc : come (at' 0 (outs p q a k)) (best (at' 0 (outs p q a k)) q (ch p i)) = C p q a i := come_at hv fun c h1 h2 h3 => by
      unfold outs
      rw [at_map h2 h3, if_pos (by omega), Int.toNat_of_nonneg h2]
    simp only
    rw [if_pos (by simp; omega), ofChildren_eq hv hlen i hN, Option.bind_some, hc, idx_at 0 (by omega) (by omega), Option.bind_some]
    have hset : ∀ v, setL (setL (outs p q a k) i v) i (O p q a i) = outs p q a (k + 1) ∧ (v = O p q a i → setL (outs p q a k) i v = outs p q a (k + 1)) := by
      intro v
      have e : setL (outs p q a k) i (O p q a i) = outs p q a (k + 1) := by
        unfold setL outs
        rw [set_map_range]
        refine List.map_congr_left fun j hj => ?_
        have := List.mem_range.1 hj
        by_cases h : j = i.toNat
        · rw [if_pos h, if_pos (by omega), h, Int.toNat_of_nonneg (by omega)]
        · rw [if_neg h]
          by_cases h' : p.length ≤ j + k
          · rw [if_pos h', if_pos (by omega)]
          · rw [if_neg h', if_neg (by omega)]
      refine ⟨?_, fun h => h ▸ e⟩
      unfold setL at e ⊢
      rw [List.set_set]
      exact e
    have hidx : ∀ v, idx (setL (outs p q a k) i v) i = some v := by
      intro v
      unfold setL
      rw [idx_at v (by omega) (by simp; omega)]
      unfold at'
      rw [List.getElem?_set_self (by omega)]
      rfl
    have hw : IntKind.i64.wrap (i - 1) = (p.length : Int) - 1 - ((k + 1 : Nat) : Int) := by rw [wrap_id] <;> omega
    rw [hidx, hw]
    simp only [Option.bind_some]
    rw [idx_at false (by omega) (by omega)]
    simp only [Option.bind_some]
    by_cases h1 : C p q a i = -1
    · rw [if_pos (by simpa using h1), Option.bind_some]
      by_cases h2 : at' false a i = true
      · rw [if_pos h2]
        rw [if_pos ⟨h1, h2⟩] at hO
        have := (hset (C p q a i)).1
        rw [hO] at this
        rw [this]
        rfl
      · rw [if_neg h2]
        rw [if_neg (fun h => h2 h.2)] at hO
        rw [(hset (C p q a i)).2 hO.symm]
        rfl
    · rw [if_neg (by simpa using h1), Option.bind_some, if_neg (by simp)]
      rw [if_neg (fun h => h1 h.1)] at hO
      rw [(hset (C p q a i)).2 hO.symm]
      rfl
  · simp only
    rw [if_neg (by simp; omega)]

theorem outs_at {p q : List Int} {a : List Bool} {c : Int} (h0 : 0 ≤ c) (h : c < p.length) : at' 0 (outs p q a p.length) c = O p q a c := by
  unfold outs
  rw [at_map h0 h, if_pos (by omega), Int.toNat_of_nonneg h0]
theorem best_outs {p q : List Int} {a : List Bool} (hv : V p q) (i : Int) : best (at' 0 (outs p q a p.length)) q (ch p i) = best (O p q a) q (ch p i) := best_congr _ _ fun c hc => by
  have := ch_gt hv hc
  exact outs_at this.2.1 this.2.2.2
theorem outs_len {p q : List Int} {a : List Bool} {k : Nat} : (outs p q a k).length = p.length := by simp [outs]

theorem if_or (e : Int) (y : Bool) {α : Type} (k : Bool → Option α) : ((if (!decide (e = (0 : Int))) = true then some true else some y : Option Bool).bind k) = k (!decide (e = 0) || y) := by
  cases decide (e = 0) <;> rfl

/-- Whether a tree is judged at all: then all is well with it. -/
theorem Select_cases {N : Nat} (hN : 20 ≤ N) (p q : List Int) (a : List Bool) : (M.ruletree_Select N p q a = some (-1) ∧ M.ref14_Select N p q a = some (-1)) ∨
    (V p q ∧ a.length = p.length ∧ M.ruletree_Select N p q a = some (C p q a (-1)) ∧ M.ref14_Select N p q a = M.ref14_children N p q a (-1)) := by
  obtain ⟨e, he, hv⟩ := Validate_ok (N := N) p q (by omega)
  unfold M.ruletree_Select M.ref14_Select
  rw [Validate_ref, he]
  simp only [Option.bind_some]
  rw [if_or, if_or]
  by_cases h : (!decide (e = 0) || (!decide ((a.length : Int) = (p.length : Int)))) = true
  · left
    rw [if_pos h, if_pos h]
    exact ⟨rfl, rfl⟩
  · right
    have h1 : e = 0 := by simp at h; exact h.1
    have h2 : a.length = p.length := by simp at h; omega
    have hv := hv h1
    rw [if_neg h, if_neg h, outcomes_eq hv h2 hN]
    simp only [Option.bind_some]
    rw [ofChildren_eq hv outs_len (-1) hN]
    refine ⟨hv, h2, ?_, ?_⟩
    · exact congrArg some (come_at hv fun c _ h0 h => outs_at h0 h)
    · cases M.ref14_children N p q a (-1) <;> rfl
theorem Select_valid {N : Nat} (hN : 20 ≤ N) {p q : List Int} {a : List Bool} (he : M.ruletree_Validate N p q = some 0) (ha : a.length = p.length) : M.ruletree_Select N p q a = some (C p q a (-1)) := by
  obtain ⟨e, he', hv⟩ := Validate_ok (N := N) p q (by omega)
  obtain rfl : 0 = e := Option.some.inj (he.symm.trans he')
  have hv := hv rfl
  unfold M.ruletree_Select
  rw [he, Option.bind_some, if_or, if_neg (by simp [ha]), outcomes_eq hv ha hN]
  simp only [Option.bind_some]
  rw [ofChildren_eq hv outs_len (-1) hN]
  exact congrArg some (come_at hv fun c _ h0 h => outs_at h0 h)

/- The reference. -/
section
variable {p q : List Int} {a : List Bool} (hv : V p q) (ha : a.length = p.length)
include hv ha

theorem rbest {N : Nat} {o : Int → Int} {i : Int} (hN : 20 ≤ N) (ho : ∀ c, c ∈ ch p i → M.ref14_outcome N p q a c = some (o c)) : M.ref14_best (N + 1) p q a i = some (best o q (ch p i)) := by
  have h8 := hv.n8
  have hl := len_ch p i
  unfold M.ref14_best
  rw [Children_ref, Children_eq i h8 (by omega), Option.bind_some]
  refine Loop_eq (fun k : Nat => ((k : Int), ((ch p i).take k).foldl (step o q) [])) (ch p i).length _ rfl ?_ ?_ (by omega)
  · intro k hk
    have hw : IntKind.i64.wrap ((k : Int) + 1) = ((k + 1 : Nat) : Int) := by rw [wrap_id] <;> omega
    have hc := ch_gt hv (List.getElem_mem hk)
    have hq := hv.len
    simp only
    rw [if_pos (by simp; omega), idx_nat hk, Option.bind_some, ho _ (List.getElem_mem hk), Option.bind_some, hw]
    have hb := body_ref (q := q) (b := ((ch p i).take k).foldl (step o q) []) (c := (ch p i)[k]) (o := o) rfl (fun x hx => by have := ch_gt hv (take_mem.subset hx); omega) (by have := (take_mem (l := ch p i) (o := o) (q := q) (k := k)).length_le; omega) ⟨hc.2.1, by omega⟩
    simp only [Option.bind_some]
    rw [hb, Option.bind_some, List.take_succ_eq_append_getElem hk, List.foldl_append]
    rfl
  · simp only
    rw [if_neg (by simp), List.take_length]
    rfl
theorem rchildren {N : Nat} {o : Int → Int} {i : Int} (hN : 20 ≤ N) (ho : ∀ c, c ∈ ch p i → M.ref14_outcome N p q a c = some (o c)) (ho' : ∀ c, c ∈ ch p i → M.ref14_outcome (N + 1) p q a c = some (o c)) : M.ref14_children (N + 2) p q a i = some (come o (best o q (ch p i))) := by
  unfold M.ref14_children
  rw [rbest hv ha hN ho, Option.bind_some]
  unfold come
  cases hb : best o q (ch p i) with
  | nil => simp
  | cons x b =>
    have hx := (inv_best o q (ch p i)).sub.subset (show x ∈ best o q (ch p i) by rw [hb]; simp)
    have h1 : ¬ ((x :: b).length : Int) = 0 := by simp only [List.length_cons]; omega
    simp only [h1, decide_false, Bool.false_eq_true, if_false, idx_zero, Option.bind_some, at_zero]
    by_cases h2 : 1 < ((x :: b).length : Int)
    · simp only [h2, decide_true, if_true]; rw [if_neg (by omega)]
    · simp only [h2, decide_false, Bool.false_eq_true, if_false]; rw [ho' x hx, if_pos (by simp only [List.length_cons] at h1 h2 ⊢; omega)]; rfl
theorem routcome : ∀ (k N : Nat) (i : Int), 8 < k + i → 0 ≤ i → i < p.length → 3 * k + 30 ≤ N → M.ref14_outcome N p q a i = some (out p q a k i)
  | 0, N, i, h, _, h2, _ => by have := hv.n8; omega
  | k + 1, N, i, h, h0, h2, hN => by
    obtain ⟨N, rfl⟩ : ∃ n, N = n + 3 := ⟨N - 3, by omega⟩
    unfold M.ref14_outcome
    rw [rchildren hv ha (o := out p q a k) (by omega) (fun c hc => ?_) (fun c hc => ?_), Option.bind_some, out_succ]
    · show _ = some (if cout p q a k i = -1 ∧ at' false a i = true then i else cout p q a k i)
      show Option.bind (if decide (cout p q a k i = -1) = true then _ else _) _ = _
      rw [idx_at false h0 (by omega)]
      simp only [Option.bind_some]
      by_cases h1 : cout p q a k i = -1
      · simp only [h1, decide_true, if_true, Option.bind_some, true_and]
        by_cases h3 : at' false a i = true
        · rw [if_pos h3, if_pos h3]
        · rw [if_neg h3, if_neg h3]
          exact congrArg some h1
      · simp only [h1, decide_false, Bool.false_eq_true, if_false, Option.bind_some, false_and]
        rfl
    · have := ch_gt hv hc
      exact routcome k N c (by omega) (by omega) (by omega) (by omega)
    · have := ch_gt hv hc
      exact routcome k (N + 1) c (by omega) (by omega) (by omega) (by omega)
theorem rout {N : Nat} {i : Int} (h0 : 0 ≤ i) (h : i < p.length) (hN : 90 ≤ N) : M.ref14_outcome N p q a i = some (O p q a i) := routcome hv ha 16 N i (by omega) h0 h (by omega)
theorem rbest_eq {N : Nat} {i : Int} (hN : 100 ≤ N) : M.ref14_best N p q a i = some (best (O p q a) q (ch p i)) := by
  obtain ⟨N, rfl⟩ : ∃ n, N = n + 1 := ⟨N - 1, by omega⟩
  refine rbest hv ha (by omega) fun c hc => ?_
  have := ch_gt hv hc
  exact rout hv ha (by omega) (by omega) (by omega)
theorem rchildren_eq {N : Nat} {i : Int} (hN : 100 ≤ N) : M.ref14_children N p q a i = some (C p q a i) := by
  obtain ⟨N, rfl⟩ : ∃ n, N = n + 2 := ⟨N - 2, by omega⟩
  refine rchildren hv ha (by omega) (fun c hc => ?_) fun c hc => ?_
  all_goals
    have := ch_gt hv hc
    exact rout hv ha (by omega) (by omega) (by omega)
omit ha
theorem C_two {i : Int} (h : C p q a i = -2) : ∃ b, best (O p q a) q (ch p i) = b ∧ (2 ≤ b.length ∨ ∃ j, b = [j] ∧ i < j ∧ 0 ≤ j ∧ j < 8 ∧ C p q a j = -2) := by
  refine ⟨_, rfl, ?_⟩
  unfold C at h
  have hin := fun c => best_in (c := c) hv (o := O p q a) (i := i)
  cases hb : best (O p q a) q (ch p i) with
  | nil => rw [hb] at h; cases h
  | cons x b =>
    rw [hb] at h hin
    cases b with
    | cons y b => left; simp
    | nil =>
      right
      have hx := hin x (by simp)
      refine ⟨x, rfl, hx.1, hx.2.1, hx.2.2.1, ?_⟩
      have e : O p q a x = -2 := h
      rw [O_eq hv a (by omega)] at e
      split at e
      · omega
      · exact e
end

theorem conflict {N : Nat} {p q : List Int} {a : List Bool} (hv : V p q) (ha : a.length = p.length) (hN : 100 ≤ N) : ∀ (d M1 M2 : Nat) (i : Int), -1 ≤ i → 8 ≤ i + d → C p q a i = -2 → d + 10 ≤ M1 → d + 10 ≤ M2 →
    ∃ l : List Int, 2 ≤ l.length ∧ Loop (S := List Int) (X := List Int) (fun s5 =>
(if (decide ((s5.length : Int) = (1 : Int))) = true then
(idx s5 (0 : Int)).bind fun x6 =>
(M.ruletree_tree_best N (p, (q, outs p q a p.length)) x6).bind fun y7 =>
some (Sum.inl y7)
else
some (Sum.inr s5))) M1 (best (O p q a) q (ch p i)) = some l ∧ Loop (S := Int) (X := Int × Int × Bool) (fun s2 =>
(M.ref14_best N p q a s2).bind fun y3 =>
(if (decide ((1 : Int) < (y3.length : Int))) = true then
(idx y3 (0 : Int)).bind fun x4 =>
(idx y3 (1 : Int)).bind fun x5 =>
some (Sum.inr (x4, x5, true))
else
(idx y3 (0 : Int)).bind fun x6 =>
some (Sum.inl x6))) M2 i = some (at' 0 l 0, at' 0 l 1, true) := by
  intro d
  induction d with
  | zero =>
    intro M1 M2 i h1 h2 h3 h4 h5
    obtain ⟨b, hb, hh⟩ := C_two hv h3
    rcases hh with hh | ⟨j, _, h6, h7, h8, _⟩
    · obtain ⟨M1, rfl⟩ : ∃ n, M1 = n + 1 := ⟨M1 - 1, by omega⟩
      obtain ⟨M2, rfl⟩ : ∃ n, M2 = n + 1 := ⟨M2 - 1, by omega⟩
      refine ⟨b, hh, ?_, ?_⟩
      · unfold Loop
        rw [hb, if_neg (by simp; omega)]
      · unfold Loop
        rw [rbest_eq hv ha hN, hb]
        simp only [Option.bind_some]
        rw [if_pos (by simp; omega), idx_at 0 (by omega) (by omega), idx_at 0 (by omega) (by omega)]
        rfl
    · omega
  | succ d ih =>
    intro M1 M2 i h1 h2 h3 h4 h5
    obtain ⟨b, hb, hh⟩ := C_two hv h3
    obtain ⟨M1, rfl⟩ : ∃ n, M1 = n + 1 := ⟨M1 - 1, by omega⟩
    obtain ⟨M2, rfl⟩ : ∃ n, M2 = n + 1 := ⟨M2 - 1, by omega⟩
    rcases hh with hh | ⟨j, rfl, h6, h7, h8, h9⟩
    · refine ⟨b, hh, ?_, ?_⟩
      · unfold Loop
        rw [hb, if_neg (by simp; omega)]
      · unfold Loop
        rw [rbest_eq hv ha hN, hb]
        simp only [Option.bind_some]
        rw [if_pos (by simp; omega), idx_at 0 (by omega) (by omega), idx_at 0 (by omega) (by omega)]
        rfl
    · obtain ⟨l, h10, h11, h12⟩ := ih M1 M2 j (by omega) (by omega) h9 (by omega) (by omega)
      refine ⟨l, h10, ?_, ?_⟩
      · unfold Loop
        rw [hb, if_pos (by simp), idx_zero]
        simp only [Option.bind_some]
        rw [best_eq hv outs_len j (by omega), best_outs hv]
        exact h11
      · unfold Loop
        rw [rbest_eq hv ha hN, hb]
        simp only [Option.bind_some]
        rw [if_neg (by simp), idx_zero]
        exact h12

/-- Program and reference agree. -/
theorem agree {N : Nat} (hN : 100 ≤ N) (p q : List Int) (a : List Bool) : ∃ s c, M.ruletree_Select N p q a = some s ∧ M.ref14_Select N p q a = some s ∧ M.ruletree_FindConflict N p q a = some c ∧ M.ref14_FindConflict N p q a = some c := by
  rcases Select_cases (N := N) (by omega) p q a with ⟨h1, h2⟩ | ⟨hv, ha, h1, h2⟩
  · refine ⟨_, (0, 0, false), h1, h2, ?_, ?_⟩
    · unfold M.ruletree_FindConflict; rw [h1]; rfl
    · unfold M.ref14_FindConflict; rw [h2]; rfl
  · rw [rchildren_eq hv ha hN] at h2
    by_cases h : C p q a (-1) = -2
    · obtain ⟨l, h3, h4, h5⟩ := conflict hv ha hN 9 N N (-1) (by omega) (by omega) h (by omega) (by omega)
      refine ⟨_, (at' 0 l 0, at' 0 l 1, true), h1, h2, ?_, ?_⟩
      · unfold M.ruletree_FindConflict
        rw [h1, Option.bind_some, if_neg (by simp [h]), outcomes_eq hv ha (by omega)]
        simp only [Option.bind_some]
        rw [best_eq hv outs_len (-1) (by omega), best_outs hv]
        simp only [Option.bind_some]
        rw [h4]
        simp only [Option.bind_some]
        rw [if_neg (by simp; omega), idx_at 0 (by omega) (by omega), idx_at 0 (by omega) (by omega)]
        rfl
      · unfold M.ref14_FindConflict
        rw [h2, Option.bind_some, if_neg (by simp [h])]
        exact h5
    · refine ⟨_, (0, 0, false), h1, h2, ?_, ?_⟩
      · unfold M.ruletree_FindConflict; rw [h1, Option.bind_some, if_pos (by simpa using h)]
      · unfold M.ref14_FindConflict; rw [h2, Option.bind_some, if_pos (by simpa using h)]

theorem awake : M.law14_awake big = some true := by kernel_rfl

theorem RuletreeSelects_true (p q : List Int) (a : List Bool) (_ : WF (.slice rInt) p) (_ : WF (.slice rInt) q) (_ : WF (.slice .bool) a) : M.law14_RuletreeSelects big p q a = some true := by
  unfold M.law14_RuletreeSelects
  obtain ⟨s, c, h1, h2, h3, h4⟩ := agree (N := big) (by decide) p q a
  rw [awake, h1, h2, h3, h4]
  simp only [Option.bind_some, decide_true, if_true]
  generalize decide ((100 : Int) < (p.length : Int)) = b1
  generalize decide ((100 : Int) < (q.length : Int)) = b2
  generalize decide ((100 : Int) < (a.length : Int)) = b3
  cases b1 <;> cases b2 <;> cases b3 <;> rfl
end L
end Go.Proofs.Ytkkinabadiaieaa
