/- Plain lemmas about the models: loops, indices, lists. -/
import Derived.Test.YtjeeligfdpociaaGreatLit
namespace Go.Proofs.YtjeeligfdpociaaGreat
open Go Go.RowKit

theorem wrap_id {n : Int} (h0 : -9223372036854775808 ≤ n) (h1 : n ≤ 9223372036854775807) : IntKind.i64.wrap n = n := by
  simp [IntKind.wrap, IntKind.bits, IntKind.signed]
  omega

theorem idx_nat {α : Type} {l : List α} {k : Nat} (h : k < l.length) : idx l (k : Int) = some l[k] := by
  unfold idx
  rw [if_pos (by omega)]
  simp [h]
theorem idx_zero {α : Type} {a : α} {l : List α} : idx (a :: l) 0 = some a := rfl

theorem appA_some {α : Type} {l m : List α} (h : l.length + m.length ≤ 4294967296) : appA l m = some (l ++ m) := if_pos h

/-- A loop by an invariant and a measure. -/
theorem Loop_rule {S X : Type} {body : S → Option (S ⊕ X)} (I : S → Prop) (μ : S → Nat) (Q : X → Prop)
    (step : ∀ s, I s → (∃ s', body s = some (.inl s') ∧ I s' ∧ μ s' < μ s) ∨ ∃ x, body s = some (.inr x) ∧ Q x) :
    ∀ N s, I s → μ s < N → ∃ x, Loop body N s = some x ∧ Q x
  | 0, _, _, h => absurd h (by omega)
  | N + 1, s, hi, hlt => by
    rcases step s hi with ⟨s', hb, hi', hm⟩ | ⟨x, hb, hq⟩
    · obtain ⟨x, hx, hq⟩ := Loop_rule I μ Q step N s' hi' (by omega)
      exact ⟨x, by unfold Loop; rw [hb]; exact hx, hq⟩
    · exact ⟨x, by unfold Loop; rw [hb], hq⟩

/-- A loop whose states are known: m rounds, then out. -/
theorem Loop_count {S X : Type} {body : S → Option (S ⊕ X)} (st : Nat → S) {x : X} (m : Nat) (hs : ∀ i, i < m → body (st i) = some (.inl (st (i + 1)))) (he : body (st m) = some (.inr x)) {N : Nat} (hN : m < N) : Loop body N (st 0) = some x := by
  have : ∀ k i N, i + k = m → k < N → Loop body N (st i) = some x := by
    intro k
    induction k with
    | zero => rintro i (_ | N) hi hN; · omega
              obtain rfl : i = m := by omega
              unfold Loop; rw [he]
    | succ k ih =>
      rintro i (_ | N) hi hN
      · omega
      · unfold Loop; rw [hs i (by omega)]; exact ih (i + 1) N (by omega) (by omega)
  exact this m 0 N (by omega) hN

/-- A loop whose states are known, as it stands in a model. -/
theorem Loop_eq {S X : Type} {body : S → Option (S ⊕ X)} {N : Nat} {s0 : S} (st : Nat → S) (m : Nat) (x : X) (h0 : s0 = st 0) (hs : ∀ i, i < m → body (st i) = some (.inl (st (i + 1)))) (he : body (st m) = some (.inr x)) (hN : m < N) : Loop body N s0 = some x := by
  rw [h0]
  exact Loop_count st m hs he hN
theorem Loop_bind {S X Y : Type} {body : S → Option (S ⊕ X)} {N : Nat} {s0 : S} {k : X → Option Y} {r : Option Y} (st : Nat → S) (m : Nat) (x : X) (h0 : s0 = st 0) (hs : ∀ i, i < m → body (st i) = some (.inl (st (i + 1)))) (he : body (st m) = some (.inr x)) (hN : m < N) (hk : k x = r) : (Loop body N s0).bind k = r := by
  rw [Loop_eq st m x h0 hs he hN]
  exact hk

/-- The fuel that is enough for all. -/
def big : Nat := 18446744073709551616

section
variable {α : Type}
theorem set_map_range (n : Nat) (C : Nat → α) (k : Nat) (v : α) : ((List.range n).map C).set k v = (List.range n).map (fun j => if j = k then v else C j) := by
  apply List.ext_getElem (by simp)
  intro i h1 h2
  simp only [List.length_set, List.length_map, List.length_range] at h1
  rw [List.getElem_set]
  simp only [List.getElem_map, List.getElem_range]
  by_cases h : k = i
  · subst h; simp
  · rw [if_neg h, if_neg (Ne.symm h)]
theorem filter_range_succ (n : Nat) (p : Nat → Bool) : (List.range (n + 1)).filter p = (List.range n).filter p ++ (if p n = true then [n] else []) := by
  rw [List.range_succ, List.filter_append]
  cases h : p n <;> simp [h]
end
end Go.Proofs.YtjeeligfdpociaaGreat
