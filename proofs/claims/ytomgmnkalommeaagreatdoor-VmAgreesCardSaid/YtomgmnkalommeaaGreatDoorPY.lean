/- Types of nodes (plain laws). -/
import Derived.Test.YtomgmnkalommeaaGreatDoorPX5
import Derived.Test.YtomgmnkalommeaaGreatDoorPS
namespace Go.Proofs.YtomgmnkalommeaaGreatDoor
open Go Go.RowKit
set_option maxRecDepth 100000
namespace L

abbrev Sg : Type := rSignature.den
def us (op : Int) : Prop := (1 ≤ op ∧ op ≤ 8) ∨ (14 ≤ op ∧ op ≤ 16) ∨ op = 33 ∨ op = 34 ∨ (36 ≤ op ∧ op ≤ 39)
theorem uses_wp (N : Nat) (op : Int) : Wp (M.expr_UsesN N op) fun b => b = true ↔ us op := by
  by_cases h : us op
  · have : op = 1 ∨ op = 2 ∨ op = 3 ∨ op = 4 ∨ op = 5 ∨ op = 6 ∨ op = 7 ∨ op = 8 ∨ op = 14 ∨ op = 15 ∨ op = 16 ∨ op = 33 ∨ op = 34 ∨ op = 36 ∨ op = 37 ∨ op = 38 ∨ op = 39 := by unfold us at h; omega
    refine ⟨true, ?_, by simp [h]⟩
    rcases this with rfl | rfl | rfl | rfl | rfl | rfl | rfl | rfl | rfl | rfl | rfl | rfl | rfl | rfl | rfl | rfl | rfl <;> (show (_ : Option Bool) = _; kernel_rfl)
  · refine ⟨false, ?_, by simp [h]⟩
    have ne : ∀ k : Int, us k → decide (op = k) = false := fun k hk => by simp; rintro rfl; exact h hk
    unfold M.expr_UsesN
    rw [ne 1 (by unfold us; omega), ne 2 (by unfold us; omega), ne 3 (by unfold us; omega), ne 4 (by unfold us; omega), ne 5 (by unfold us; omega), ne 6 (by unfold us; omega), ne 7 (by unfold us; omega), ne 8 (by unfold us; omega), ne 14 (by unfold us; omega), ne 15 (by unfold us; omega), ne 16 (by unfold us; omega), ne 33 (by unfold us; omega), ne 34 (by unfold us; omega), ne 36 (by unfold us; omega), ne 37 (by unfold us; omega), ne 38 (by unfold us; omega), ne 39 (by unfold us; omega)]
    rfl

abbrev Num (k : Int) : Prop := k = 2 ∨ k = 3 ∨ k = 4
theorem isNum_eq (N : Nat) (k : Int) : M.expr_isNumber N k = some (decide (Num k)) := by
  unfold M.expr_isNumber Num
  by_cases h : k = 2
  · simp [h]
  · by_cases h2 : k = 3
    · simp [h2]
    · simp [h, h2]
theorem mode_eq (N : Nat) (m : Int) : M.expr_validMode N m = some (decide (0 ≤ m ∧ m ≤ 5)) := by
  unfold M.expr_validMode
  by_cases h : 0 ≤ m <;> simp [h]

def RT (op : Int) (ts : List Ty) (t : Ty) : Prop :=
  (op = 10 ∧ ∃ a : Ty, ts = [a] ∧ Num a.1 ∧ t = a) ∨
  (op = 25 ∧ ∃ a : Ty, ts = [a] ∧ (a.1 : Int) = 1 ∧ t = ((1 : Int), (0 : Int))) ∨
  ((op = 31 ∨ op = 32) ∧ ∃ a : Ty, ts = [a] ∧ (a.1 : Int) = 5 ∧ t = ((2 : Int), (0 : Int))) ∨
  ((op = 11 ∨ op = 12) ∧ ∃ a : Ty, ts = [a, a] ∧ Num a.1 ∧ t = a) ∨
  (op = 13 ∧ ∃ a b : Ty, ts = [a, b] ∧ (b.1 : Int) = 2 ∧ ((a.1 : Int) = 2 ∨ (a.1 : Int) = 3) ∧ t = (a.1, (0 : Int))) ∨
  (op = 14 ∧ ∃ a b : Ty, ts = [a, b] ∧ (b.1 : Int) = 4 ∧ ((a.1 : Int) = 3 ∨ (a.1 : Int) = 4) ∧ t = (a.1, (0 : Int))) ∨
  (op = 15 ∧ ∃ a b : Ty, ts = [a, b] ∧ (((b.1 : Int) = 2 ∧ ((a.1 : Int) = 2 ∨ (a.1 : Int) = 3) ∧ t = (a.1, (0 : Int))) ∨ ((a.1 : Int) = 3 ∧ (b.1 : Int) = 3 ∧ t = ((4 : Int), (0 : Int))))) ∨
  (op = 16 ∧ ∃ a b : Ty, ts = [a, b] ∧ (a.1 : Int) = 3 ∧ (b.1 : Int) = 3 ∧ t = a) ∨
  ((op = 17 ∨ op = 18) ∧ ∃ a : Ty, ts = [a, a] ∧ (Num a.1 ∨ (a.1 : Int) = 5) ∧ t = a) ∨
  ((op = 19 ∨ op = 20) ∧ ∃ a : Ty, ts = [a, a] ∧ t = ((1 : Int), (0 : Int))) ∨
  ((op = 21 ∨ op = 22) ∧ ∃ a : Ty, ts = [a, a] ∧ (Num a.1 ∨ (a.1 : Int) = 5) ∧ t = ((1 : Int), (0 : Int))) ∨
  ((op = 23 ∨ op = 24) ∧ ∃ a b : Ty, ts = [a, b] ∧ (a.1 : Int) = 1 ∧ (b.1 : Int) = 1 ∧ t = ((1 : Int), (0 : Int))) ∨
  (op = 26 ∧ ∃ a b : Ty, ts = [a, b, b] ∧ (a.1 : Int) = 1 ∧ t = b) ∨
  ((op = 27 ∨ op = 28) ∧ ∃ a b : Ty, ts = [a, b] ∧ (a.1 : Int) = 5 ∧ (b.1 : Int) = 2 ∧ t = a) ∨
  ((op = 29 ∨ op = 30) ∧ ∃ a b : Ty, ts = [a, b] ∧ (a.1 : Int) = 5 ∧ (b.1 : Int) = 5 ∧ t = ((2 : Int), (0 : Int)))

theorem eqT (a b : Ty) : eqR rType a b = decide (a = b) := by
  obtain ⟨a1, a2⟩ := a
  obtain ⟨b1, b2⟩ := b
  rw [Bool.eq_iff_iff]
  simp [eqR]
theorem idx0 {α : Type} {a : α} {l : List α} : idx (a :: l) (0 : Int) = some a := rfl
theorem idx1 {α : Type} {a b : α} {l : List α} : idx (a :: b :: l) (1 : Int) = some b := rfl
theorem idx2 {α : Type} {a b c : α} {l : List α} : idx (a :: b :: c :: l) (2 : Int) = some c := rfl
theorem len1 {α : Type} {l : List α} (h : l.length = 1) : ∃ a, l = [a] := by
  match l, h with
  | [a], _ => exact ⟨a, rfl⟩
theorem len2 {α : Type} {l : List α} (h : l.length = 2) : ∃ a b, l = [a, b] := by
  match l, h with
  | [a, b], _ => exact ⟨a, b, rfl⟩
theorem len3 {α : Type} {l : List α} (h : l.length = 3) : ∃ a b c, l = [a, b, c] := by
  match l, h with
  | [a, b, c], _ => exact ⟨a, b, c, rfl⟩

theorem product_ty (N : Nat) (op : Int) (a b : Int) : Wp (M.expr_productType N op a b) fun r => r.2 = true → (op = 14 ∧ b = 4 ∧ (a = 3 ∨ a = 4) ∧ r.1 = (a, (0 : Int))) ∨ (op ≠ 14 ∧ b = 2 ∧ (a = 2 ∨ a = 3) ∧ r.1 = (a, (0 : Int))) ∨ (op = 15 ∧ a = 3 ∧ b = 3 ∧ r.1 = ((4 : Int), (0 : Int))) := by
  unfold M.expr_productType
  refine Wp.dec (fun h => ?_) fun h => ?_
  · by_cases h1 : b = 4
    · by_cases h2 : a = 3
      · simp only [decide_eq_true h1, decide_eq_true h2, if_true, Option.bind_some]; exact .some fun _ => .inl ⟨h, h1, .inl h2, rfl⟩
      · simp only [decide_eq_true h1, decide_eq_false h2, if_true, Bool.false_eq_true, if_false, Option.bind_some]; exact .some fun h3 => .inl ⟨h, h1, .inr (by simpa using h3), rfl⟩
    · simp only [decide_eq_false h1, Bool.false_eq_true, if_false, Option.bind_some]; exact .some fun h => by cases h
  · refine Wp.dec (fun h1 => ?_) fun h1 => ?_
    · by_cases h2 : a = 2
      · simp only [decide_eq_true h2, if_true, Option.bind_some]; exact .some fun _ => .inr (.inl ⟨h, h1, .inl h2, rfl⟩)
      · simp only [decide_eq_false h2, Bool.false_eq_true, if_false, Option.bind_some]; exact .some fun h3 => .inr (.inl ⟨h, h1, .inr (by simpa using h3), rfl⟩)
    · by_cases h3 : op = 15 ∧ a = 3 ∧ b = 3
      · obtain ⟨g1, g2, g3⟩ := h3
        simp only [decide_eq_true g1, decide_eq_true g2, decide_eq_true g3, if_true, Option.bind_some]
        exact .some fun _ => .inr (.inr ⟨g1, g2, g3, rfl⟩)
      · have : (if decide (op = 15) = true then (if decide (a = 3) = true then some (decide (b = 3)) else some false) else some false) = some false := by
          by_cases g1 : op = 15 <;> by_cases g2 : a = 3 <;> by_cases g3 : b = 3 <;> simp_all
        rw [this]
        exact .some fun h => by cases h

theorem result_ty (N : Nat) (op : Int) (ts : List Ty) (hl : (ts.length : Int) = ar op) : Wp (M.expr_resultType N op ts) fun r => r.2 = true → RT op ts r.1 := by
  unfold M.expr_resultType
  have one : ar op = 1 → ∃ a, ts = [a] := fun h => len1 (by omega)
  have two : ar op = 2 → ∃ a b, ts = [a, b] := fun h => len2 (by omega)
  refine Wp.dec (fun h => ?_) fun h1 => ?_
  · obtain ⟨a, rfl⟩ := one (by rw [h]; rfl)
    simp only [idx0, Option.bind_some, isNum_eq]
    exact .some fun h' => .inl ⟨h, a, rfl, by simpa using h', rfl⟩
  refine Wp.dec (fun h => ?_) fun h2 => ?_
  · obtain ⟨a, rfl⟩ := one (by rw [h]; rfl)
    simp only [idx0, Option.bind_some]
    exact .some fun h' => .inr (.inl ⟨h, a, rfl, by simpa using h', rfl⟩)
  rw [or2c]
  simp only [Option.bind_some]
  refine Wp.dec (fun h => ?_) fun h3 => ?_
  · obtain ⟨a, b, rfl⟩ := two (by rcases h with h | h <;> rw [h] <;> rfl)
    simp only [idx0, idx1, Option.bind_some, isNum_eq, eqT]
    by_cases hab : a = b
    · subst hab
      simp only [decide_true, if_true, Option.bind_some]
      exact .some fun h' => .inr (.inr (.inr (.inl ⟨h, a, rfl, by simpa using h', rfl⟩)))
    · simp only [decide_eq_false hab, Bool.false_eq_true, if_false, Option.bind_some]
      exact .some fun h' => by cases h'
  rw [or3c]
  simp only [Option.bind_some]
  refine Wp.dec (fun h => ?_) fun h4 => ?_
  · obtain ⟨a, b, rfl⟩ := two (by rcases h with h | h | h <;> rw [h] <;> rfl)
    simp only [idx0, idx1, Option.bind_some]
    refine Wp.seq _ (product_ty ..) fun r hr => .some fun h' => ?_
    rcases hr h' with ⟨g1, g2, g3, g4⟩ | ⟨g1, g2, g3, g4⟩ | ⟨g1, g2, g3, g4⟩
    · exact .inr (.inr (.inr (.inr (.inr (.inl ⟨g1, a, b, rfl, g2, g3, g4⟩)))))
    · rcases h with h | h | h
      · exact .inr (.inr (.inr (.inr (.inl ⟨h, a, b, rfl, g2, g3, g4⟩))))
      · exact absurd h g1
      · exact .inr (.inr (.inr (.inr (.inr (.inr (.inl ⟨h, a, b, rfl, .inl ⟨g2, g3, g4⟩⟩))))))
    · exact .inr (.inr (.inr (.inr (.inr (.inr (.inl ⟨g1, a, b, rfl, .inr ⟨g2, g3, g4⟩⟩))))))
  refine Wp.dec (fun h => ?_) fun h5 => ?_
  · obtain ⟨a, b, rfl⟩ := two (by rw [h]; rfl)
    simp only [idx0, idx1, Option.bind_some]
    by_cases g1 : (a.1 : Int) = 3
    · simp only [decide_eq_true g1, if_true, Option.bind_some]
      exact .some fun h' => .inr (.inr (.inr (.inr (.inr (.inr (.inr (.inl ⟨h, a, b, rfl, g1, by simpa using h', rfl⟩)))))))
    · simp only [decide_eq_false g1, Bool.false_eq_true, if_false, Option.bind_some]
      exact .some fun h' => by cases h'
  rw [or2c]
  simp only [Option.bind_some]
  refine Wp.dec (fun h => ?_) fun h6 => ?_
  · obtain ⟨a, b, rfl⟩ := two (by rcases h with h | h <;> rw [h] <;> rfl)
    simp only [idx0, idx1, Option.bind_some, isNum_eq, eqT]
    by_cases hab : a = b
    · subst hab
      simp only [decide_true, if_true]
      have mk : (Num a.1 ∨ (a.1 : Int) = 5) → RT op [a, a] a := fun h' => .inr (.inr (.inr (.inr (.inr (.inr (.inr (.inr (.inl ⟨h, a, rfl, h', rfl⟩))))))))
      by_cases hn : Num a.1
      · simp only [decide_eq_true hn, if_true, Option.bind_some]
        exact .some fun _ => mk (.inl hn)
      · simp only [decide_eq_false hn, Bool.false_eq_true, if_false, Option.bind_some]
        exact .some fun h' => mk (.inr (by simpa using h'))
    · simp only [decide_eq_false hab, Bool.false_eq_true, if_false, Option.bind_some]
      exact .some fun h' => by cases h'
  rw [or2c]
  simp only [Option.bind_some]
  refine Wp.dec (fun h => ?_) fun h7 => ?_
  · obtain ⟨a, b, rfl⟩ := two (by rcases h with h | h <;> rw [h] <;> rfl)
    simp only [idx0, idx1, Option.bind_some, eqT]
    refine .some fun h' => .inr (.inr (.inr (.inr (.inr (.inr (.inr (.inr (.inr (.inl ⟨h, a, ?_, rfl⟩)))))))))
    have : a = b := by simpa using h'
    rw [this]
  rw [or2c]
  simp only [Option.bind_some]
  refine Wp.dec (fun h => ?_) fun h8 => ?_
  · obtain ⟨a, b, rfl⟩ := two (by rcases h with h | h <;> rw [h] <;> rfl)
    simp only [idx0, idx1, Option.bind_some, isNum_eq, eqT]
    by_cases hab : a = b
    · subst hab
      simp only [decide_true, if_true]
      have mk : (Num a.1 ∨ (a.1 : Int) = 5) → RT op [a, a] ((1 : Int), (0 : Int)) := fun h' => .inr (.inr (.inr (.inr (.inr (.inr (.inr (.inr (.inr (.inr (.inl ⟨h, a, rfl, h', rfl⟩))))))))))
      by_cases hn : Num a.1
      · simp only [decide_eq_true hn, if_true, Option.bind_some]
        exact .some fun _ => mk (.inl hn)
      · simp only [decide_eq_false hn, Bool.false_eq_true, if_false, Option.bind_some]
        exact .some fun h' => mk (.inr (by simpa using h'))
    · simp only [decide_eq_false hab, Bool.false_eq_true, if_false, Option.bind_some]
      exact .some fun h' => by cases h'
  rw [or2c]
  simp only [Option.bind_some]
  refine Wp.dec (fun h => ?_) fun h9 => ?_
  · obtain ⟨a, b, rfl⟩ := two (by rcases h with h | h <;> rw [h] <;> rfl)
    simp only [idx0, idx1, Option.bind_some]
    by_cases g1 : (a.1 : Int) = 1
    · simp only [decide_eq_true g1, if_true, Option.bind_some]
      exact .some fun h' => .inr (.inr (.inr (.inr (.inr (.inr (.inr (.inr (.inr (.inr (.inr (.inl ⟨h, a, b, rfl, g1, by simpa using h', rfl⟩)))))))))))
    · simp only [decide_eq_false g1, Bool.false_eq_true, if_false, Option.bind_some]
      exact .some fun h' => by cases h'
  refine Wp.dec (fun h => ?_) fun h10 => ?_
  · obtain ⟨a, b, c, rfl⟩ := len3 (l := ts) (by rw [h] at hl; have : ar 26 = 3 := rfl; omega)
    simp only [idx0, idx1, idx2, Option.bind_some, eqT]
    by_cases g1 : (a.1 : Int) = 1
    · simp only [decide_eq_true g1, if_true, Option.bind_some]
      refine .some fun h' => .inr (.inr (.inr (.inr (.inr (.inr (.inr (.inr (.inr (.inr (.inr (.inr (.inl ⟨h, a, b, ?_, g1, rfl⟩))))))))))))
      have : b = c := by simpa using h'
      rw [this]
    · simp only [decide_eq_false g1, Bool.false_eq_true, if_false, Option.bind_some]
      exact .some fun h' => by cases h'
  rw [or2c]
  simp only [Option.bind_some]
  refine Wp.dec (fun h => ?_) fun h11 => ?_
  · obtain ⟨a, b, rfl⟩ := two (by rcases h with h | h <;> rw [h] <;> rfl)
    simp only [idx0, idx1, Option.bind_some]
    by_cases g1 : (a.1 : Int) = 5
    · simp only [decide_eq_true g1, if_true, Option.bind_some]
      exact .some fun h' => .inr (.inr (.inr (.inr (.inr (.inr (.inr (.inr (.inr (.inr (.inr (.inr (.inr (.inl ⟨h, a, b, rfl, g1, by simpa using h', rfl⟩)))))))))))))
    · simp only [decide_eq_false g1, Bool.false_eq_true, if_false, Option.bind_some]
      exact .some fun h' => by cases h'
  rw [or2c]
  simp only [Option.bind_some]
  refine Wp.dec (fun h => ?_) fun h12 => ?_
  · obtain ⟨a, b, rfl⟩ := two (by rcases h with h | h <;> rw [h] <;> rfl)
    simp only [idx0, idx1, Option.bind_some]
    by_cases g1 : (a.1 : Int) = 5
    · simp only [decide_eq_true g1, if_true, Option.bind_some]
      exact .some fun h' => .inr (.inr (.inr (.inr (.inr (.inr (.inr (.inr (.inr (.inr (.inr (.inr (.inr (.inr ⟨h, a, b, rfl, g1, by simpa using h', rfl⟩)))))))))))))
    · simp only [decide_eq_false g1, Bool.false_eq_true, if_false, Option.bind_some]
      exact .some fun h' => by cases h'
  rw [or2c]
  simp only [Option.bind_some]
  refine Wp.dec (fun h => ?_) fun h13 => .some fun h' => by cases h'
  · obtain ⟨a, rfl⟩ := one (by rcases h with h | h <;> rw [h] <;> rfl)
    simp only [idx0, Option.bind_some]
    exact .some fun h' => .inr (.inr (.inl ⟨h, a, rfl, by simpa using h', rfl⟩))

def VTp (t : Ty) (n : Nat) : Prop := (1 ≤ (t.1 : Int) ∧ (t.1 : Int) ≤ 5 ∧ (t.2 : Int) = 0) ∨ ((t.1 : Int) = 6 ∧ 0 ≤ (t.2 : Int) ∧ (t.2 : Int) < n)
instance (t : Ty) (n : Nat) : Decidable (VTp t n) := by unfold VTp; exact inferInstance
theorem valid_eq (N : Nat) (t : Ty) (E : List rEnum.den) : M.value_ValidType N t E = some (decide (VTp t E.length)) := by
  obtain ⟨(k : Int), (u : Int)⟩ := t
  unfold M.value_ValidType
  dsimp only [rInt, Row.den]
  rw [or5c]
  simp only [Option.bind_some]
  have cast : ∀ {p q : Prop} [Decidable p] [Decidable q], (p ↔ q) → some (decide p) = some (decide q) := fun h => by simp [h]
  have no : ¬ ((1 ≤ k ∧ k ≤ 5 ∧ u = 0) ∨ (k = 6 ∧ 0 ≤ u ∧ u < (E.length : Int))) → some false = some (decide (VTp (k, u) E.length)) := fun h => by rw [decide_eq_false (p := VTp (k, u) E.length) h]
  by_cases h : k = 1 ∨ k = 2 ∨ k = 3 ∨ k = 4 ∨ k = 5
  · rw [decide_eq_true h, if_pos rfl]
    exact cast (show (u = 0 ↔ (1 ≤ k ∧ k ≤ 5 ∧ u = 0) ∨ (k = 6 ∧ 0 ≤ u ∧ u < (E.length : Int))) by omega)
  · rw [decide_eq_false h, if_neg (by simp)]
    by_cases h6 : k = 6
    · rw [decide_eq_true h6, if_pos rfl]
      by_cases hu : 0 ≤ u
      · rw [decide_eq_true hu, if_pos rfl, Option.bind_some]
        exact cast (show (u < (E.length : Int) ↔ (1 ≤ k ∧ k ≤ 5 ∧ u = 0) ∨ (k = 6 ∧ 0 ≤ u ∧ u < (E.length : Int))) by omega)
      · rw [decide_eq_false hu, if_neg (by simp), Option.bind_some]
        exact no (by omega)
    · rw [decide_eq_false h6, if_neg (by simp)]
      exact no (by omega)

theorem literal_ty (N : Nat) (n k : Int) (s : Sg) (hk : 1 ≤ k ∧ k ≤ 5) : Wp (M.expr_literalType N n k s) fun r => r.2 = 0 → r.1 = (k, (0 : Int)) := by
  unfold M.expr_literalType
  refine Wp.seq (fun _ => True) ?_ fun y _ => ?_
  · unfold M.value_Bounds
    dsimp only [rInt, Row.den]
    rw [valid_eq]
    simp only [Option.bind_some]
    refine Wp.ite (fun _ => .some trivial) fun _ => ?_
    refine Wp.dec (fun _ => .some trivial) fun _ => ?_
    refine Wp.dec (fun _ => .some trivial) fun _ => ?_
    refine Wp.dec (fun _ => .some trivial) fun _ => ?_
    refine Wp.dec (fun _ => .some trivial) fun _ => ?_
    refine Wp.dec (fun _ => .some trivial) fun _ => by omega
  refine Wp.seq (fun _ => True) (Wp.ite (fun _ => .some trivial) fun _ => .some trivial) fun j _ => ?_
  refine Wp.ite (fun _ => .some ?_) fun _ => .some ?_
  · exact fun h => by cases h
  · exact fun _ => rfl

theorem enum_ty (N : Nat) (m : Int) (hm : m ≤ 9223372036854775807) (s : Sg) : Wp (M.expr_enumType N m s) fun r => r.2 = 0 → 0 ≤ m ∧ r.1 = ((6 : Int), IntKind.i64.wrap (Int.tdiv m 16)) := by
  unfold M.expr_enumType
  refine Wp.dec (fun _ => .some fun h => by cases h) fun h0 => ?_
  have e : Int.tdiv m 16 = m / 16 := Int.tdiv_eq_ediv_of_nonneg (by omega)
  have w : IntKind.i64.wrap (Int.tdiv m 16) = m / 16 := by rw [e, wrap_id (by omega) (by omega)]
  refine Wp.seq (fun _ => True) ?_ fun j _ => Wp.ite (fun _ => .some fun h => by cases h) fun _ => .some fun _ => ⟨by omega, rfl⟩
  refine Wp.dec (fun _ => .some trivial) fun h1 => ?_
  rw [w] at h1 ⊢
  exact Wp.seq (fun _ => True) (Wp.idxI (by omega) (by omega) fun _ _ _ => trivial) fun _ _ => .some trivial

def Lst (n : Int) (ts : List Ty) (s : Sg) (t : Ty) : Prop := ∃ k : Nat, n = k ∧ ts[k]? = some t ∧ VTp t s.1.length
theorem listed_ty (N : Nat) (n : Int) (ts : List Ty) (s : Sg) : Wp (M.expr_listedType N n ts s) fun r => r.2 = 0 → Lst n ts s r.1 := by
  unfold M.expr_listedType
  simp only [ite_some, Option.bind_some, or_b]
  refine Wp.ite (fun _ => .some fun h => by cases h) fun h => ?_
  simp only [Bool.or_eq_true, decide_eq_true_eq, not_or] at h
  obtain ⟨k, rfl⟩ : ∃ k : Nat, n = k := ⟨n.toNat, by omega⟩
  have hk : k < ts.length := by omega
  rw [idx_nat hk]
  simp only [Option.bind_some, valid_eq]
  refine Wp.ite (fun _ => .some fun h => by cases h) fun hv => .some fun _ => ⟨k, rfl, List.getElem?_eq_getElem hk, by rw [Bool.not_eq_true', Bool.not_eq_false] at hv; exact of_decide_eq_true hv⟩

def Tb (op m : Int) (a : Ty) (s : Sg) (t : Ty) : Prop := ∃ (k : Nat) (T : rTable.den), s.2.1[k]? = some T ∧ VTp T.2.1 s.1.length ∧ VTp T.2.2.1 s.1.length ∧ a = T.2.1 ∧ ((op = 34 ∧ 0 ≤ m ∧ 0 ≤ Int.tmod m 8 ∧ Int.tmod m 8 ≤ 5 ∧ IntKind.i64.wrap (Int.tdiv m 8) = k ∧ (T.2.1.1 : Int) = 3 ∧ (T.2.2.1.1 : Int) = 4 ∧ t = T.2.1) ∨ (op ≠ 34 ∧ m = k ∧ t = T.2.2.1))
theorem table_ty (N : Nat) (op m : Int) (a : Ty) (s : Sg) : Wp (M.expr_tableType N (op, m) a s) fun r => r.2 = 0 → Tb op m a s r.1 := by
  unfold M.expr_tableType
  dsimp only [rInt, Row.den]
  refine Wp.join (Wp.mono (Q := fun x => (∃ j, x = Sum.inl j ∧ ((op = 34 ∧ 0 ≤ m ∧ 0 ≤ Int.tmod m 8 ∧ Int.tmod m 8 ≤ 5 ∧ IntKind.i64.wrap (Int.tdiv m 8) = j) ∨ (op ≠ 34 ∧ m = j))) ∨ ∃ r, x = Sum.inr r ∧ r.2 ≠ 0) ?_ ?_)
  · refine Wp.dec (fun h => ?_) fun h => .some (.inl ⟨_, rfl, .inr ⟨h, rfl⟩⟩)
    rw [mode_eq]
    simp only [Option.bind_some]
    refine Wp.seq (fun j => j = false → 0 ≤ m ∧ 0 ≤ Int.tmod m 8 ∧ Int.tmod m 8 ≤ 5) ?_ fun j hj => ?_
    · refine Wp.dec (fun _ => .some fun h => by cases h) fun h => .some fun h' => ⟨by omega, ?_⟩
      rw [Bool.not_eq_false'] at h'
      exact of_decide_eq_true h'
    · refine Wp.ite (fun _ => .some (.inr ⟨_, rfl, by simp⟩)) fun hc => ?_
      obtain ⟨g1, g2, g3⟩ := hj (by simpa using hc)
      exact .some (.inl ⟨_, rfl, .inl ⟨h, g1, g2, g3, rfl⟩⟩)
  rintro _ (⟨j, rfl, hj⟩ | ⟨r, rfl, hr⟩)
  case inr => exact fun h => absurd h hr
  show Wp _ _
  refine Wp.seq (fun b => b = false → 0 ≤ j ∧ j < s.2.1.length) ?_ fun b hb => ?_
  · exact Wp.dec (fun _ => .some fun h => by cases h) fun h => .some fun h' => by simp at h'; omega
  refine Wp.ite (fun _ => .some fun h => by cases h) fun hc => ?_
  obtain ⟨j0, j1⟩ := hb (by simpa using hc)
  obtain ⟨k, rfl⟩ : ∃ k : Nat, j = k := ⟨j.toNat, by omega⟩
  have hk : k < s.2.1.length := by omega
  have get := List.getElem?_eq_getElem hk
  rw [idx_nat hk]
  generalize s.2.1[k] = T at get
  simp only [Option.bind_some, valid_eq, eqT]
  refine Wp.seq (fun b => b = false → VTp T.2.1 s.1.length ∧ VTp T.2.2.1 s.1.length ∧ a = T.2.1) ?_ fun b hb => ?_
  · refine Wp.ite (fun _ => .some fun h => by cases h) fun h1 => ?_
    refine Wp.ite (fun _ => .some fun h => by cases h) fun h2 => .some fun h3 => ⟨by simpa using h1, by simpa using h2, by simpa using h3⟩
  refine Wp.ite (fun _ => .some fun h => by cases h) fun hc => ?_
  obtain ⟨v1, v2, v3⟩ := hb (by simpa using hc)
  refine Wp.dec (fun h34 => ?_) fun h34 => .some fun _ => ?_
  · refine Wp.seq (fun b => b = false → (T.2.1.1 : Int) = 3 ∧ (T.2.2.1.1 : Int) = 4) ?_ fun b hb => ?_
    · exact Wp.ndec (fun _ => .some fun h => by cases h) fun h => .some fun h' => ⟨h, by simpa using h'⟩
    refine Wp.ite (fun _ => .some fun h => by cases h) fun hc => .some fun _ => ?_
    obtain ⟨w1, w2⟩ := hb (by simpa using hc)
    rcases hj with ⟨_, g1, g2, g3, g4⟩ | ⟨g, _⟩
    · exact ⟨k, T, get, v1, v2, v3, .inl ⟨h34, g1, g2, g3, g4, w1, w2, rfl⟩⟩
    · exact absurd h34 g
  · rcases hj with ⟨g, _⟩ | ⟨_, g⟩
    · exact absurd g h34
    · exact ⟨k, T, get, v1, v2, v3, .inr ⟨h34, g, rfl⟩⟩

def Mb (op m : Int) (s : Sg) (t : Ty) : Prop := Lst m s.2.2.2.2.1 s t ∧ (op = 36 → (t.1 : Int) = 2 ∨ (t.1 : Int) = 3) ∧ (op = 37 ∨ op = 38 → (t.1 : Int) = 1) ∧ (op = 39 → Num t.1 ∨ (t.1 : Int) = 5)
theorem member_ty (N : Nat) (op m : Int) (s : Sg) : Wp (M.expr_memberType N (op, m) s) fun r => r.2 = 0 → (op = 35 ∧ r.1 = ((2 : Int), (0 : Int))) ∨ (op ≠ 35 ∧ Mb op m s r.1) := by
  unfold M.expr_memberType
  dsimp only [rInt, Row.den]
  simp only [or2c, isNum_eq, Option.bind_some]
  refine Wp.ite (fun _ => .some fun h => by cases h) fun _ => ?_
  refine Wp.dec (fun h => .some fun _ => .inl ⟨h, rfl⟩) fun h35 => ?_
  refine Wp.seq _ (listed_ty ..) fun y hy => ?_
  refine Wp.ndec (fun h => .some ?_) fun h0 => ?_
  · exact fun h' => absurd h' h
  have hL := hy h0
  refine Wp.seq (fun b => b = true → (op = 36 → (y.1.1 : Int) = 2 ∨ (y.1.1 : Int) = 3) ∧ (op = 37 ∨ op = 38 → (y.1.1 : Int) = 1) ∧ (op = 39 → Num y.1.1 ∨ (y.1.1 : Int) = 5)) ?_ fun b hb => ?_
  · refine Wp.dec (fun h => ?_) fun h36 => ?_
    · refine Wp.dec (fun h2 => .some fun _ => ⟨fun _ => .inl h2, fun g => by omega, fun g => by omega⟩) fun _ => .some fun h3 => ⟨fun _ => .inr (by simpa using h3), fun g => by omega, fun g => by omega⟩
    refine Wp.dec (fun h => .some fun h1 => ⟨fun g => absurd g h36, fun _ => by simpa using h1, fun g => by omega⟩) fun h37 => ?_
    refine Wp.dec (fun h => ?_) fun _ => .some fun h => by cases h
    refine Wp.dec (fun h2 => .some fun _ => ⟨fun g => absurd g h36, fun g => absurd g h37, fun _ => .inl h2⟩) fun _ => .some fun h3 => ⟨fun g => absurd g h36, fun g => absurd g h37, fun _ => .inr (by simpa using h3)⟩
  refine Wp.ite (fun _ => .some fun h => by cases h) fun hc => .some fun _ => .inr ⟨h35, hL, hb (by simpa using hc)⟩

def NT (op m : Int) (ts : List Ty) (s : Sg) (t : Ty) : Prop :=
  ((1 ≤ op ∧ op ≤ 5) ∧ t = (op, (0 : Int))) ∨
  (op = 6 ∧ 0 ≤ m ∧ t = ((6 : Int), IntKind.i64.wrap (Int.tdiv m 16))) ∨
  (op = 7 ∧ Lst m s.2.2.1 s t) ∨
  (op = 8 ∧ Lst m s.2.2.2.1 s t) ∨
  (op = 9 ∧ t = ((5 : Int), (0 : Int))) ∨
  ((op = 33 ∨ op = 34) ∧ ∃ a, ts = [a] ∧ Tb op m a s t) ∨
  (op = 35 ∧ t = ((2 : Int), (0 : Int))) ∨
  ((op = 36 ∨ op = 37 ∨ op = 38 ∨ op = 39) ∧ Mb op m s t) ∨
  ((op = 14 ∨ op = 15 ∨ op = 16 → 0 ≤ m ∧ m ≤ 5) ∧ RT op ts t)

theorem node_ty (N : Nat) (op m : Int) (hm : m ≤ 9223372036854775807) (ts : List Ty) (s : Sg) (hl : (ts.length : Int) = ar op) : Wp (M.expr_nodeType N (op, m) ts s) fun r => r.2 = 0 → NT op m ts s r.1 := by
  unfold M.expr_nodeType
  dsimp only [rInt, Row.den]
  simp only [or2c op 33 34, or3c op 14 15 16, or5c op 35 36 37 38 39, mode_eq, Option.bind_some]
  have fin : ∀ Q : Ty × Int → Prop, ((op = 14 ∨ op = 15 ∨ op = 16 → 0 ≤ m ∧ m ≤ 5) → ∀ t, RT op ts t → Q (t, 0)) → Q (((0 : Int), (0 : Int)), 8) → ((op = 14 ∨ op = 15 ∨ op = 16) → 0 ≤ m ∧ m ≤ 5) → Wp ((M.expr_resultType N op ts).bind fun y17 => if (!y17.2) = true then some (((0 : Int), (0 : Int)), (8 : Int)) else some (y17.1, (0 : Int))) Q := by
    intro Q hq h8 hmm
    refine Wp.seq _ (result_ty N op ts hl) fun y hy => ?_
    refine Wp.ite (fun _ => .some h8) fun h => .some (hq hmm _ (hy (by simpa using h)))
  refine Wp.join ?_
  refine Wp.dec (fun h => Wp.seq _ (literal_ty _ _ 1 _ (by omega)) fun r hr => .some fun h' => .inl ⟨by omega, by rw [h]; exact hr h'⟩) fun h1 => ?_
  refine Wp.dec (fun h => Wp.seq _ (literal_ty _ _ 2 _ (by omega)) fun r hr => .some fun h' => .inl ⟨by omega, by rw [h]; exact hr h'⟩) fun h2 => ?_
  refine Wp.dec (fun h => Wp.seq _ (literal_ty _ _ 3 _ (by omega)) fun r hr => .some fun h' => .inl ⟨by omega, by rw [h]; exact hr h'⟩) fun h3 => ?_
  refine Wp.dec (fun h => Wp.seq _ (literal_ty _ _ 4 _ (by omega)) fun r hr => .some fun h' => .inl ⟨by omega, by rw [h]; exact hr h'⟩) fun h4 => ?_
  refine Wp.dec (fun h => Wp.seq _ (literal_ty _ _ 5 _ (by omega)) fun r hr => .some fun h' => .inl ⟨by omega, by rw [h]; exact hr h'⟩) fun h5 => ?_
  refine Wp.dec (fun h => Wp.seq _ (enum_ty _ _ hm _) fun r hr => .some fun h' => .inr (.inl ⟨h, hr h'⟩)) fun h6 => ?_
  refine Wp.dec (fun h => Wp.seq _ (listed_ty ..) fun r hr => .some fun h' => .inr (.inr (.inl ⟨h, hr h'⟩))) fun h7 => ?_
  refine Wp.dec (fun h => Wp.seq _ (listed_ty ..) fun r hr => .some fun h' => .inr (.inr (.inr (.inl ⟨h, hr h'⟩)))) fun h8 => ?_
  refine Wp.dec (fun h => .some fun h' => .inr (.inr (.inr (.inr (.inl ⟨h, rfl⟩))))) fun h9 => ?_
  refine Wp.dec (fun h => ?_) fun h33 => ?_
  · obtain ⟨a, rfl⟩ := len1 (l := ts) (by have : ar op = 1 := by rcases h with h | h <;> rw [h] <;> rfl
                                          omega)
    simp only [idx0, Option.bind_some]
    exact Wp.seq _ (table_ty ..) fun r hr => .some fun h' => .inr (.inr (.inr (.inr (.inr (.inl ⟨h, a, rfl, hr h'⟩)))))
  refine Wp.dec (fun h => ?_) fun h35 => ?_
  · refine Wp.seq _ (member_ty ..) fun r hr => .some fun h' => ?_
    rcases hr h' with ⟨g1, g2⟩ | ⟨g1, g2⟩
    · exact .inr (.inr (.inr (.inr (.inr (.inr (.inl ⟨g1, g2⟩))))))
    · exact .inr (.inr (.inr (.inr (.inr (.inr (.inr (.inl ⟨by omega, g2⟩)))))))
  refine Wp.dec (fun h => ?_) fun h14 => ?_
  · refine Wp.ite (fun _ => .some fun h => by cases h) fun hmo => .some ?_
    exact fin _ (fun hmm t ht _ => .inr (.inr (.inr (.inr (.inr (.inr (.inr (.inr ⟨hmm, ht⟩)))))))) (fun h => by cases h) fun _ => by simpa using hmo
  · refine .some ?_
    exact fin _ (fun hmm t ht _ => .inr (.inr (.inr (.inr (.inr (.inr (.inr (.inr ⟨hmm, ht⟩)))))))) (fun h => by cases h) fun h => absurd h h14
end L
end Go.Proofs.YtomgmnkalommeaaGreatDoor
