/- Chapter 17: the example that must be answered; searching loops; LawFind (plain law). -/
import Derived.Test.YtjeeligfdpociaaGreatRF
namespace Go.Proofs.YtjeeligfdpociaaGreat
open Go Go.RowKit
set_option maxRecDepth 100000
set_option linter.unusedSimpArgs false
namespace L

theorem awake17 : M.law17_awake big = some true := by kernel_rfl

/-! ## The first place -/
def idxI {α : Type} (p : α → Bool) (l : List α) : Int := if l.findIdx p < l.length then ((l.findIdx p : Nat) : Int) else -1
theorem idxI_at {α : Type} {p : α → Bool} {l : List α} {k : Nat} (hk : k < l.length) (hp : p l[k] = true) (hn : ∀ j, j < k → ∀ h : j < l.length, p l[j] = false) : idxI p l = (k : Int) := by
  have h1 : l.findIdx p = k := by
    rcases Nat.lt_trichotomy (l.findIdx p) k with h | h | h
    · have := hn _ h (by omega)
      have h2 := List.findIdx_getElem (xs := l) (p := p) (w := by omega)
      rw [this] at h2; cases h2
    · exact h
    · have := List.not_of_lt_findIdx h
      rw [hp] at this; cases this
  unfold idxI
  rw [if_pos (by omega), h1]
theorem idxI_none {α : Type} {p : α → Bool} {l : List α} (hn : ∀ j, ∀ h : j < l.length, p l[j] = false) : idxI p l = -1 := by
  unfold idxI
  rw [if_neg fun h => ?_]
  have h2 := List.findIdx_getElem (xs := l) (p := p) (w := h)
  rw [hn _ h] at h2; cases h2
theorem idxI_nonneg {α : Type} {p : α → Bool} {l : List α} : 0 ≤ idxI p l ↔ ∃ x ∈ l, p x = true := by
  unfold idxI
  rw [← List.findIdx_lt_length]
  split <;> simp_all
theorem idxI_lt {α : Type} {p : α → Bool} {l : List α} (h : 0 ≤ idxI p l) : (idxI p l).toNat < l.length := by
  unfold idxI at h ⊢
  split <;> rename_i g
  · simpa using g
  · rw [if_neg g] at h; omega
theorem idxI_congr {α : Type} {p q : α → Bool} {l : List α} (h : ∀ x ∈ l, p x = q x) : idxI p l = idxI q l := by
  have : l.findIdx p = l.findIdx q := by
    induction l with
    | nil => rfl
    | cons x l ih =>
      rw [List.findIdx_cons, List.findIdx_cons, h x (by simp), ih fun y hy => h y (by simp [hy])]
  unfold idxI
  rw [this]
theorem indexF {α Y : Type} {l : List α} {y : Y} {p : α → Bool} {body : Int × Y → Option ((Int × Y) ⊕ (Int × Y))} (hl : l.length ≤ maxLen)
    (hb : ∀ k, ∀ h : k < l.length, body ((k : Int), y) = if p l[k] = true then some (.inr ((k : Int), y)) else some (.inl (IntKind.i64.wrap ((k : Int) + 1), y)))
    (he : body ((l.length : Int), y) = some (.inr ((-1 : Int), y))) : Loop body big ((0 : Int), y) = some (idxI p l, y) := by
  apply Wp.eq
  refine Wp.count (fun s => s.1) l.length (fun k s => s.2 = y ∧ ∀ j, j < k → ∀ h : j < l.length, p l[j] = false) hl rfl ⟨rfl, fun j hj => by omega⟩ fun k c hk hs hJ => ?_
  obtain ⟨c1, c2⟩ := c
  obtain ⟨h1, hJ⟩ := hJ
  obtain rfl : c2 = y := h1
  obtain rfl : c1 = _ := hs
  rcases Nat.lt_or_ge k l.length with hlt | hge
  · rw [hb k hlt]
    simp only [Classical.not_not, wp_some, wp_bind, wp_dec, wp_ndec, wp_not, wp_ite, wp_join, joinQ_inl, joinQ_inr, if_true, if_false, ite_true, ite_false, Bool.false_eq_true, Bool.true_eq_false, decide_true, decide_false, decide_eq_decide, true_eq_decide_iff, false_eq_decide_iff, decide_eq_true_eq, decide_eq_false_iff_not, true_implies, false_implies, implies_true, and_true, true_and, and_false, false_and, or_true, true_or, or_false, false_or, not_true_eq_false, not_false_eq_true, Bool.not_true, Bool.not_false, Bool.not_eq_true, Bool.not_eq_false, Bool.not_eq_eq_eq_not, forall_const, reduceCtorEq, countQ_inl, countQ_inr, wrapS hl hlt]
    exact ⟨fun h => by rw [idxI_at hlt h hJ], fun h => ⟨hlt, pre_succ hJ fun _ => by simpa using h⟩⟩
  · obtain rfl : k = l.length := by omega
    rw [he]
    simp only [Classical.not_not, wp_some, wp_bind, wp_dec, wp_ndec, wp_not, wp_ite, wp_join, joinQ_inl, joinQ_inr, if_true, if_false, ite_true, ite_false, Bool.false_eq_true, Bool.true_eq_false, decide_true, decide_false, decide_eq_decide, true_eq_decide_iff, false_eq_decide_iff, decide_eq_true_eq, decide_eq_false_iff_not, true_implies, false_implies, implies_true, and_true, true_and, and_false, false_and, or_true, true_or, or_false, false_or, not_true_eq_false, not_false_eq_true, Bool.not_true, Bool.not_false, Bool.not_eq_true, Bool.not_eq_false, Bool.not_eq_eq_eq_not, forall_const, reduceCtorEq, countQ_inr]
    rw [idxI_none fun j h => hJ j h h]
theorem indexF0 {α : Type} {l : List α} {p : α → Bool} {body : Int → Option (Int ⊕ Int)} (hl : l.length ≤ maxLen)
    (hb : ∀ k, ∀ h : k < l.length, body (k : Int) = if p l[k] = true then some (.inr (k : Int)) else some (.inl (IntKind.i64.wrap ((k : Int) + 1))))
    (he : body (l.length : Int) = some (.inr (-1 : Int))) : Loop body big (0 : Int) = some (idxI p l) := by
  apply Wp.eq
  refine Wp.count (fun s => s) l.length (fun k _ => ∀ j, j < k → ∀ h : j < l.length, p l[j] = false) hl rfl (fun j hj => by omega) fun k c hk hs hJ => ?_
  obtain rfl : c = _ := hs
  rcases Nat.lt_or_ge k l.length with hlt | hge
  · rw [hb k hlt]
    simp only [Classical.not_not, wp_some, wp_bind, wp_dec, wp_ndec, wp_not, wp_ite, wp_join, joinQ_inl, joinQ_inr, if_true, if_false, ite_true, ite_false, Bool.false_eq_true, Bool.true_eq_false, decide_true, decide_false, decide_eq_decide, true_eq_decide_iff, false_eq_decide_iff, decide_eq_true_eq, decide_eq_false_iff_not, true_implies, false_implies, implies_true, and_true, true_and, and_false, false_and, or_true, true_or, or_false, false_or, not_true_eq_false, not_false_eq_true, Bool.not_true, Bool.not_false, Bool.not_eq_true, Bool.not_eq_false, Bool.not_eq_eq_eq_not, forall_const, reduceCtorEq, countQ_inl, countQ_inr, wrapS hl hlt]
    exact ⟨fun h => by rw [idxI_at hlt h hJ], fun h => ⟨hlt, pre_succ hJ fun _ => by simpa using h⟩⟩
  · obtain rfl : k = l.length := by omega
    rw [he]
    simp only [Classical.not_not, wp_some, wp_bind, wp_dec, wp_ndec, wp_not, wp_ite, wp_join, joinQ_inl, joinQ_inr, if_true, if_false, ite_true, ite_false, Bool.false_eq_true, Bool.true_eq_false, decide_true, decide_false, decide_eq_decide, true_eq_decide_iff, false_eq_decide_iff, decide_eq_true_eq, decide_eq_false_iff_not, true_implies, false_implies, implies_true, and_true, true_and, and_false, false_and, or_true, true_or, or_false, false_or, not_true_eq_false, not_false_eq_true, Bool.not_true, Bool.not_false, Bool.not_eq_true, Bool.not_eq_false, Bool.not_eq_eq_eq_not, forall_const, reduceCtorEq, countQ_inr]
    rw [idxI_none fun j h => hJ j h h]

/-! ## LawFind -/
theorem idxScope_eq (l : List Scp) (nm : ByteArray) (hl : l.length ≤ maxLen) : M.slices_IndexFunc_guerdon_api_Scope_guerdon_api_Scope_v2 big l nm = some (idxI (fun x => decide (x.1 = nm)) l, nm) := by
  unfold M.slices_IndexFunc_guerdon_api_Scope_guerdon_api_Scope_v2 M.law_Find_c1_v1
  exact indexF hl (fun k h => by simp only [idx_nat h, lt_dec' h, Option.bind_some, if_true]) (by simp only [nlt_self, decide_false, Bool.false_eq_true, if_false])
theorem idxField_eq (l : List Fd) (nm : ByteArray) (hl : l.length ≤ maxLen) : M.slices_IndexFunc_guerdon_api_Field_guerdon_api_Field_v2 big l nm = some (idxI (fun x => decide (x.1 = nm)) l, nm) := by
  unfold M.slices_IndexFunc_guerdon_api_Field_guerdon_api_Field_v2 M.law_Find_c2_v1
  exact indexF hl (fun k h => by simp only [idx_nat h, lt_dec' h, Option.bind_some, if_true]) (by simp only [nlt_self, decide_false, Bool.false_eq_true, if_false])
theorem fieldIndex_eq (l : List Fd) (nm : ByteArray) (hl : l.length ≤ maxLen) : M.ref17_fieldIndex big l nm = some (idxI (fun x => decide (x.1 = nm)) l) := by
  unfold M.ref17_fieldIndex
  exact indexF0 hl (fun k h => by simp only [idx_nat h, lt_dec' h, Option.bind_some, if_true]) (by simp only [nlt_self, decide_false, Bool.false_eq_true, if_false])
noncomputable def findS (l : List Scp) (sc nm : ByteArray) : Int × Int × Int :=
  match l[(idxI (fun x : Scp => decide (x.1 = sc)) l).toNat]? with
  | some x => if 0 ≤ idxI (fun x : Scp => decide (x.1 = sc)) l then (idxI (fun x : Scp => decide (x.1 = sc)) l, idxI (fun y : Fd => decide (y.1 = nm)) x.2.2.2.1, idxI (fun y : Fd => decide (y.1 = nm)) x.2.2.1) else (-1, -1, -1)
  | none => (-1, -1, -1)
theorem find_eq (l : Lw) (sc nm : ByteArray) (hw : WF rLaw l) : M.law_Find big l sc nm = some (findS l.2.2 sc nm) := by
  have w3 := hw.2.2.1
  have ws : ∀ s ∈ l.2.2, WF rScope s := hw.2.2.2
  unfold M.law_Find
  rw [idxScope_eq _ _ w3, Option.bind_some]
  unfold findS
  by_cases h : 0 ≤ idxI (fun x : Scp => decide (x.1 = sc)) l.2.2
  · have hlt := idxI_lt h
    have hx := ws _ (List.getElem_mem hlt)
    generalize idxI (fun x : Scp => decide (x.1 = sc)) l.2.2 = i at *
    obtain ⟨k, rfl⟩ := Int.eq_ofNat_of_zero_le h
    have hlt : k < l.2.2.length := hlt
    rw [if_neg (by simp), idx_nat hlt, Option.bind_some]
    simp only [Int.toNat_natCast] at hx ⊢
    rw [idxField_eq _ _ hx.2.2.2.1.1, Option.bind_some, idxField_eq _ _ hx.2.2.1.1, Option.bind_some, List.getElem?_eq_getElem hlt]
    simp only [if_pos h]
  · rw [if_pos (decide_eq_true (by omega))]
    split
    · rw [if_neg h]
    · rfl
theorem rfind_eq (l : Lw) (sc nm : ByteArray) (hw : WF rLaw l) : M.ref17_Find big l sc nm = some (findS l.2.2 sc nm) := by
  have w3 := hw.2.2.1
  have ws : ∀ s ∈ l.2.2, WF rScope s := hw.2.2.2
  unfold M.ref17_Find
  apply Wp.eq
  refine Wp.count (fun s => s) l.2.2.length (fun k _ => ∀ j, j < k → ∀ h : j < l.2.2.length, ¬ l.2.2[j].1 = sc) w3 rfl (fun j hj => by omega) fun k c hk hs hJ => ?_
  obtain rfl : c = _ := hs
  rcases Nat.lt_or_ge k l.2.2.length with hlt | hge
  · have hx := ws _ (List.getElem_mem hlt)
    simp only [idx_nat hlt, lt_nat hlt, fieldIndex_eq _ _ hx.2.2.2.1.1, fieldIndex_eq _ _ hx.2.2.1.1, wrapS w3 hlt, Classical.not_not, wp_some, wp_bind, wp_dec, wp_ndec, wp_not, wp_ite, wp_join, joinQ_inl, joinQ_inr, if_true, if_false, ite_true, ite_false, Bool.false_eq_true, Bool.true_eq_false, decide_true, decide_false, decide_eq_decide, true_eq_decide_iff, false_eq_decide_iff, decide_eq_true_eq, decide_eq_false_iff_not, true_implies, false_implies, implies_true, and_true, true_and, and_false, false_and, or_true, true_or, or_false, false_or, not_true_eq_false, not_false_eq_true, Bool.not_true, Bool.not_false, Bool.not_eq_true, Bool.not_eq_false, Bool.not_eq_eq_eq_not, forall_const, reduceCtorEq, countQ_inl, countQ_inr]
    refine ⟨fun h => ?_, fun h => ⟨hlt, pre_succ hJ fun _ => h⟩⟩
    unfold findS
    rw [idxI_at (p := fun x : Scp => decide (x.1 = sc)) hlt (decide_eq_true h) (fun j hj h => decide_eq_false (hJ j hj h))]
    simp only [Int.toNat_natCast, List.getElem?_eq_getElem hlt]
    rw [if_pos (by omega)]
  · obtain rfl : k = l.2.2.length := by omega
    simp only [nlt_self, Classical.not_not, wp_some, wp_bind, wp_dec, wp_ndec, wp_not, wp_ite, wp_join, joinQ_inl, joinQ_inr, if_true, if_false, ite_true, ite_false, Bool.false_eq_true, Bool.true_eq_false, decide_true, decide_false, decide_eq_decide, true_eq_decide_iff, false_eq_decide_iff, decide_eq_true_eq, decide_eq_false_iff_not, true_implies, false_implies, implies_true, and_true, true_and, and_false, false_and, or_true, true_or, or_false, false_or, not_true_eq_false, not_false_eq_true, Bool.not_true, Bool.not_false, Bool.not_eq_true, Bool.not_eq_false, Bool.not_eq_eq_eq_not, forall_const, reduceCtorEq, countQ_inr]
    unfold findS
    rw [idxI_none (p := fun x : Scp => decide (x.1 = sc)) fun j h => decide_eq_false (hJ j h h)]
    split
    · rfl
    · rfl
theorem LawFind_true (l : Lw) (sc nm : ByteArray) (hw : WF rLaw l) (_ : WF .str sc) (_ : WF .str nm) : M.law17_LawFind big l sc nm = some true := by
  apply Wp.eq
  unfold M.law17_LawFind
  simp only [awake17, find_eq l sc nm hw, rfind_eq l sc nm hw, Classical.not_not, wp_some, wp_bind, wp_dec, wp_ndec, wp_not, wp_ite, wp_join, joinQ_inl, joinQ_inr, if_true, if_false, ite_true, ite_false, Bool.false_eq_true, Bool.true_eq_false, decide_true, decide_false, decide_eq_decide, true_eq_decide_iff, false_eq_decide_iff, decide_eq_true_eq, decide_eq_false_iff_not, true_implies, false_implies, implies_true, and_true, true_and, and_false, false_and, or_true, true_or, or_false, false_or, not_true_eq_false, not_false_eq_true, Bool.not_true, Bool.not_false, Bool.not_eq_true, Bool.not_eq_false, Bool.not_eq_eq_eq_not, forall_const, reduceCtorEq]
  exact (smallL_wp l hw).mono fun _ _ => trivial
end L
end Go.Proofs.YtjeeligfdpociaaGreat
