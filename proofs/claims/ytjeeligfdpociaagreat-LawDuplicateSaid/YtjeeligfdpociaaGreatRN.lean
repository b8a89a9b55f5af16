/- Chapter 17: when tables and rules have no error; parents; moderate lengths (plain). -/
import Derived.Test.YtjeeligfdpociaaGreatRM
namespace Go.Proofs.YtjeeligfdpociaaGreat
open Go Go.RowKit
set_option maxRecDepth 100000
set_option linter.unusedSimpArgs false
namespace L

/-- A restricted table has no errors where the table has none. -/
theorem tabE_ok {t : Tab} {E : List En} : (tabE t E).2 = 0 ↔ t.2.2.2.length ≤ 64 ∧ (VTp t.2.1 E.length ∧ VTp t.2.2.1 E.length) ∧ ∀ k, ∀ h : k < t.2.2.2.length, ¬ Wrong t.2.2.2[k] t E ∧ ¬ ∃ y ∈ t.2.2.2.take k, Confl y t.2.2.2[k] := by
  have hrow : ∀ k e, rowE t E k = some e → e.2 ≠ 0 := fun k e he => by
    unfold rowE at he
    split at he
    · cases he
    split at he
    · cases he; simp
    split at he
    · cases he; simp
    · cases he
  unfold tabE
  by_cases h1 : 64 < t.2.2.2.length
  · rw [if_pos h1]
    exact iff_of_false (by decide) fun g => by omega
  rw [if_neg h1]
  by_cases h2 : ¬ (VTp t.2.1 E.length ∧ VTp t.2.2.1 E.length)
  · rw [if_pos h2]
    exact iff_of_false (by decide) fun g => h2 g.2.1
  rw [if_neg h2]
  have key : firstE (rowE t E) t.2.2.2.length = none ↔ ∀ k, ∀ h : k < t.2.2.2.length, ¬ Wrong t.2.2.2[k] t E ∧ ¬ ∃ y ∈ t.2.2.2.take k, Confl y t.2.2.2[k] := by
    rw [firstE_none]
    refine forall_congr' fun k => ⟨fun g h => ?_, fun g h => ?_⟩
    · have := g h
      unfold rowE at this
      rw [List.getElem?_eq_getElem h] at this
      dsimp only at this
      split at this
      · cases this
      split at this
      · cases this
      · exact ⟨‹_›, ‹_›⟩
    · unfold rowE
      rw [List.getElem?_eq_getElem h]
      dsimp only
      rw [if_neg (g h).1, if_neg (g h).2]
  cases hf : firstE (rowE t E) t.2.2.2.length with
  | none => exact iff_of_true rfl ⟨by omega, Classical.not_not.1 h2, key.1 hf⟩
  | some e =>
    obtain ⟨k, _, he, _⟩ := firstE_some hf
    exact iff_of_false (hrow k e he) fun g => by rw [key.2 g.2.2] at hf; cases hf
/-- The parent of a rule comes ahead of it and is of the same definition. -/
def ParOK (rules : List Rul) : Prop := ∀ i, ∀ h : i < rules.length, (rules[i].2.2.1 : Int) = -1 ∨ ∃ p, ∃ hp : p < i, (rules[i].2.2.1 : Int) = (p : Int) ∧ ((rules[p]'(by omega)).2.1 : Int) = rules[i].2.1
/-- When a rule has no error. -/
theorem rulE_ok {l : Lw} {x : Scp} {k : Nat} {r : Rul} : rulE l x k r = 0 ↔ isId r.1 = true ∧ ¬ hasN (x.2.2.2.2.take k) r.1 ∧ (0 ≤ (r.2.1 : Int) ∧ (r.2.1 : Int) < (x.2.2.2.1.length : Int)) ∧ ¬ badPar x k r ∧
    ¬ ((r.2.2.2.1 : Int) < 0 ∨ 9 < (r.2.2.2.1 : Int) ∨ ¬ VR r.2.2.2.2.1 ∨ (r.2.2.2.2.1.1 : Int) = r.2.2.2.2.1.2) ∧ sibs x k r.2.1 < 8 ∧ plain r.2.2.2.2.2.2.2 ∧
    (0 < r.2.2.2.2.2.1.length → expE r.2.2.2.2.2.1 (sigS l x) ((1 : Int), (0 : Int)) = 0) ∧ (match x.2.2.2.1[(r.2.1 : Int).toNat]? with
      | some d => expE r.2.2.2.2.2.2.1 (sigS l x) d.2
      | none => 0) = 0 := by
  unfold rulE
  by_cases h1 : isId r.1 = false
  · rw [if_pos h1]
    exact iff_of_false (by decide) fun g => by rw [h1] at g; cases g.1
  rw [if_neg h1]
  by_cases h2 : hasN (x.2.2.2.2.take k) r.1
  · rw [if_pos h2]
    exact iff_of_false (by decide) fun g => g.2.1 h2
  rw [if_neg h2]
  by_cases h3 : 0 ≤ (r.2.1 : Int) ∧ (r.2.1 : Int) < (x.2.2.2.1.length : Int)
  case neg =>
    rw [if_pos h3]
    exact iff_of_false (by decide) fun g => h3 g.2.2.1
  rw [if_neg (fun g => g h3)]
  by_cases h4 : badPar x k r
  · rw [if_pos h4]
    exact iff_of_false (by decide) fun g => g.2.2.2.1 h4
  rw [if_neg h4]
  by_cases h5 : (r.2.2.2.1 : Int) < 0 ∨ 9 < (r.2.2.2.1 : Int) ∨ ¬ VR r.2.2.2.2.1 ∨ (r.2.2.2.2.1.1 : Int) = r.2.2.2.2.1.2
  · rw [if_pos h5]
    exact iff_of_false (by decide) fun g => g.2.2.2.2.1 h5
  rw [if_neg h5]
  by_cases h6 : 8 ≤ sibs x k r.2.1
  · rw [if_pos h6]
    exact iff_of_false (by decide) fun g => by have := g.2.2.2.2.2.1; omega
  rw [if_neg h6]
  by_cases h7 : plain r.2.2.2.2.2.2.2
  case neg =>
    rw [if_pos h7]
    exact iff_of_false (by decide) fun g => h7 g.2.2.2.2.2.2.1
  rw [if_neg (fun g => g h7)]
  by_cases h8 : 0 < r.2.2.2.2.2.1.length ∧ expE r.2.2.2.2.2.1 (sigS l x) ((1 : Int), (0 : Int)) ≠ 0
  · rw [if_pos h8]
    exact iff_of_false h8.2 fun g => h8.2 (g.2.2.2.2.2.2.2.1 h8.1)
  rw [if_neg h8]
  exact ⟨fun g => ⟨by simpa using h1, h2, h3, h4, h5, by omega, h7, fun a => Classical.not_not.1 fun b => h8 ⟨a, b⟩, g⟩, fun g => g.2.2.2.2.2.2.2.2⟩
theorem par_ok {l : Lw} {x : Scp} (h : ∀ i, ∀ hi : i < x.2.2.2.2.length, rulE l x i x.2.2.2.2[i] = 0) : ParOK x.2.2.2.2 := fun i hi => by
  have hb := (rulE_ok.1 (h i hi)).2.2.2.1
  unfold badPar at hb
  generalize x.2.2.2.2[i] = r at *
  obtain ⟨nm, (df : Int), (p : Int), z⟩ := r
  dsimp only [rInt, Row.den] at *
  by_cases h1 : p = -1
  · exact .inl h1
  right
  have h2 : 0 ≤ p := Classical.not_not.1 fun g => hb ⟨h1, .inl (by omega)⟩
  have h3 : p < (i : Int) := Classical.not_not.1 fun g => hb ⟨h1, .inr (.inl (by omega))⟩
  obtain ⟨q, rfl⟩ := Int.eq_ofNat_of_zero_le h2
  have hq : q < i := Int.ofNat_lt.1 h3
  refine ⟨q, hq, rfl, Classical.not_not.1 fun g => hb ⟨h1, .inr (.inr ⟨_, ?_, g⟩)⟩⟩
  rw [Int.toNat_natCast]
  exact List.getElem?_eq_getElem (by omega)
/-- A valid law that is small is moderate in all its parts. -/
theorem Valid.mild {l : Lw} (h : Valid l) (hsm : SmallL l) : Mild l := by
  obtain ⟨a1, a2, a3, a4, a5, a6⟩ := h.scopes
  obtain ⟨b1, b2, b3, b4, b5, b6⟩ := hsm
  refine ⟨fun e he => ?_, fun t ht => ?_, fun s hs r hr => ?_, by omega, by omega, by omega, fun s hs => ?_⟩
  · have := (b4 e he).2.1
    omega
  · obtain ⟨k, hk, rfl⟩ := List.getElem_of_mem ht
    have := a5 k hk
    unfold tabS at this
    rw [List.getElem?_eq_getElem hk] at this
    dsimp only at this
    split at this
    · cases this
    split at this
    · cases this
    split at this
    case isFalse => cases this
    rename_i h0
    have := (tabE_ok.1 h0).1
    omega
  · have := (b6 s hs).2.2.2.2.2.2 r hr
    omega
  · have h1 := (b6 s hs).2.1
    have h2 := (b6 s hs).2.2.1
    have h3 := (b6 s hs).2.2.2.1
    omega
end L
end Go.Proofs.YtjeeligfdpociaaGreat
