/- Total correctness of models: a small calculus. -/
import Derived.Test.YtjeeligfdpociaaGreatPlain
import Derived.Test.YtjeeligfdpociaaGreatCode
namespace Go.Proofs.YtjeeligfdpociaaGreat
open Go Go.RowKit

/-- m comes to an end, and what it yields is as Q says. -/
def Wp {α : Type} (m : Option α) (Q : α → Prop) : Prop := ∃ x, m = some x ∧ Q x

theorem Wp.some {α : Type} {x : α} {Q : α → Prop} (h : Q x) : Wp (some x) Q := ⟨x, rfl, h⟩
theorem Wp.of {α : Type} {m : Option α} {x : α} {Q : α → Prop} (e : m = Option.some x) (h : Q x) : Wp m Q := ⟨x, e, h⟩
theorem Wp.eq {α : Type} {m : Option α} {x : α} (h : Wp m (· = x)) : m = Option.some x := by obtain ⟨y, e, rfl⟩ := h; exact e
theorem Wp.mono {α : Type} {m : Option α} {Q Q' : α → Prop} (h : Wp m Q) (hq : ∀ x, Q x → Q' x) : Wp m Q' := by obtain ⟨x, e, h⟩ := h; exact ⟨x, e, hq x h⟩
theorem Wp.bind {α β : Type} {m : Option α} {k : α → Option β} {Q : β → Prop} (h : Wp m fun x => Wp (k x) Q) : Wp (m.bind k) Q := by
  obtain ⟨x, e, h⟩ := h
  rw [e]; exact h
theorem Wp.bindOf {α β : Type} {m : Option α} {k : α → Option β} {Q : β → Prop} {x : α} (e : m = Option.some x) (h : Wp (k x) Q) : Wp (m.bind k) Q := by
  rw [e]; exact h
/-- By what is known of the part. -/
theorem Wp.seq {α β : Type} {m : Option α} {k : α → Option β} {Q : β → Prop} (A : α → Prop) (h : Wp m A) (hk : ∀ x, A x → Wp (k x) Q) : Wp (m.bind k) Q := .bind (h.mono hk)
theorem Wp.map {α β : Type} {m : Option α} {f : α → β} {Q : β → Prop} (h : Wp m fun x => Q (f x)) : Wp (m.map f) Q := by
  obtain ⟨x, e, h⟩ := h
  rw [e]; exact ⟨_, rfl, h⟩
theorem Wp.ite {α : Type} {c : Prop} [Decidable c] {a b : Option α} {Q : α → Prop} (ha : c → Wp a Q) (hb : ¬ c → Wp b Q) : Wp (if c then a else b) Q := by
  split
  · exact ha ‹_›
  · exact hb ‹_›
/-- A decision. -/
theorem Wp.dec {α : Type} {c : Prop} [Decidable c] {a b : Option α} {Q : α → Prop} (ha : c → Wp a Q) (hb : ¬ c → Wp b Q) : Wp (if decide c = true then a else b) Q := by
  by_cases h : c
  · rw [if_pos (decide_eq_true h)]; exact ha h
  · rw [if_neg (by simpa using h)]; exact hb h
theorem Wp.ndec {α : Type} {c : Prop} [Decidable c] {a b : Option α} {Q : α → Prop} (ha : ¬ c → Wp a Q) (hb : c → Wp b Q) : Wp (if (!decide c) = true then a else b) Q := by
  by_cases h : c
  · rw [if_neg (by simp [h])]; exact hb h
  · rw [if_pos (by simp [h])]; exact ha h
def JoinQ {J R : Type} (k : J → Option R) (Q : R → Prop) : J ⊕ R → Prop
  | .inl j => Wp (k j) Q
  | .inr r => Q r
theorem Wp.join {J R : Type} {m : Option (J ⊕ R)} {k : J → Option R} {Q : R → Prop} (h : Wp m (JoinQ k Q)) : Wp (Join m k) Q := by
  obtain ⟨x, e, h⟩ := h
  unfold Join
  rw [e]
  cases x with
  | inl j => exact h
  | inr r => exact ⟨r, rfl, h⟩
def LoopW {S X : Type} (I : S → Prop) (μ : S → Nat) (s : S) (Q : X → Prop) : S ⊕ X → Prop
  | .inl s' => I s' ∧ μ s' < μ s
  | .inr x => Q x
theorem Wp.loop {S X : Type} {body : S → Option (S ⊕ X)} {N : Nat} {s0 : S} {Q : X → Prop} (I : S → Prop) (μ : S → Nat) (h0 : I s0) (hN : μ s0 < N) (step : ∀ s, I s → Wp (body s) (LoopW I μ s Q)) : Wp (Loop body N s0) Q :=
  Loop_rule I μ Q (fun s hs => by
    obtain ⟨x, e, h⟩ := step s hs
    cases x with
    | inl s' => exact .inl ⟨s', e, h⟩
    | inr x => exact .inr ⟨x, e, h⟩) N s0 h0 hN
theorem Wp.idx {α : Type} {l : List α} {i : Int} {Q : α → Prop} (k : Nat) (hi : i = k) (hk : k < l.length) (h : Q l[k]) : Wp (idx l i) Q := by
  subst hi
  exact ⟨_, idx_nat hk, h⟩
theorem Wp.app {α : Type} {l m : List α} {Q : List α → Prop} (hl : l.length + m.length ≤ 4294967296) (h : Q (l ++ m)) : Wp (appA l m) Q := ⟨_, appA_some hl, h⟩
theorem cutA_eq {α : Type} {l : List α} {i j : Int} (a b : Nat) (hi : i = a) (hj : j = b) (h : a ≤ b) (hb : b ≤ l.length) : cutA l i j = Option.some ((l.take b).drop a) := by
  subst hi; subst hj
  unfold cutA
  rw [if_pos (by omega)]
  simp
theorem Wp.cut {α : Type} {l : List α} {i j : Int} {Q : List α → Prop} (a b : Nat) (hi : i = a) (hj : j = b) (h : a ≤ b) (hb : b ≤ l.length) (hq : Q ((l.take b).drop a)) : Wp (cutA l i j) Q := ⟨_, cutA_eq a b hi hj h hb, hq⟩
theorem cutA_zero {α : Type} {l : List α} {b : Nat} (hb : b ≤ l.length) : cutA l 0 (b : Int) = Option.some (l.take b) := by
  have := cutA_eq (l := l) 0 b rfl rfl (Nat.zero_le _) hb
  simpa using this
theorem wrap_succ {k : Nat} (h : k < 9223372036854775807) : IntKind.i64.wrap ((k : Int) + 1) = ((k + 1 : Nat) : Int) := by rw [wrap_id] <;> omega
theorem wrap_nat {k : Nat} (h : k ≤ 9223372036854775807) : IntKind.i64.wrap (k : Int) = (k : Int) := by rw [wrap_id] <;> omega
end Go.Proofs.YtjeeligfdpociaaGreat
