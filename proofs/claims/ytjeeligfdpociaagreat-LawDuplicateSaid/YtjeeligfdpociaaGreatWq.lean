/- Total correctness of models: a small calculus. -/
/- Models by rewriting: what it is that a model comes to an end with a property, as a plain proposition; counting loops; the first failure of a loop. -/
import Derived.Test.YtjeeligfdpociaaGreatPlain
import Derived.Test.YtjeeligfdpociaaGreatFn
namespace Go.Proofs.YtjeeligfdpociaaGreat
open Go Go.RowKit

/-- m comes to an end, and what it yields is as Q says. -/
def Wp {α : Type} (m : Option α) (Q : α → Prop) : Prop := ∃ x, m = some x ∧ Q x

theorem Wp.some {α : Type} {x : α} {Q : α → Prop} (h : Q x) : Wp (some x) Q := ⟨x, rfl, h⟩
theorem Wp.of {α : Type} {m : Option α} {x : α} {Q : α → Prop} (e : m = Option.some x) (h : Q x) : Wp m Q := ⟨x, e, h⟩
theorem Wp.eq {α : Type} {m : Option α} {x : α} (h : Wp m (· = x)) : m = Option.some x := by obtain ⟨y, e, rfl⟩ := h; exact e
theorem Wp.mono {α : Type} {m : Option α} {Q Q' : α → Prop} (h : Wp m Q) (hq : ∀ x, Q x → Q' x) : Wp m Q' := by obtain ⟨x, e, h⟩ := h; exact ⟨x, e, hq x h⟩
theorem Wp.bind {α β : Type} {m : Option α} {k : α → Option β} {Q : β → Prop} (h : Wp m fun x => Wp (k x) Q) : Wp (m.bind k) Q := by
  obtain ⟨x, e, h⟩ := h
  rw [e]; exact h
theorem Wp.bindOf {α β : Type} {m : Option α} {k : α → Option β} {Q : β → Prop} {x : α} (e : m = Option.some x) (h : Wp (k x) Q) : Wp (m.bind k) Q := by
  rw [e]; exact h
/-- By what is known of the part. -/
theorem Wp.seq {α β : Type} {m : Option α} {k : α → Option β} {Q : β → Prop} (A : α → Prop) (h : Wp m A) (hk : ∀ x, A x → Wp (k x) Q) : Wp (m.bind k) Q := .bind (h.mono hk)
theorem Wp.map {α β : Type} {m : Option α} {f : α → β} {Q : β → Prop} (h : Wp m fun x => Q (f x)) : Wp (m.map f) Q := by
  obtain ⟨x, e, h⟩ := h
  rw [e]; exact ⟨_, rfl, h⟩
theorem Wp.ite {α : Type} {c : Prop} [Decidable c] {a b : Option α} {Q : α → Prop} (ha : c → Wp a Q) (hb : ¬ c → Wp b Q) : Wp (if c then a else b) Q := by
  split
  · exact ha ‹_›
  · exact hb ‹_›
/-- A decision. -/
theorem Wp.dec {α : Type} {c : Prop} [Decidable c] {a b : Option α} {Q : α → Prop} (ha : c → Wp a Q) (hb : ¬ c → Wp b Q) : Wp (if decide c = true then a else b) Q := by
  by_cases h : c
  · rw [if_pos (decide_eq_true h)]; exact ha h
  · rw [if_neg (by simpa using h)]; exact hb h
theorem Wp.ndec {α : Type} {c : Prop} [Decidable c] {a b : Option α} {Q : α → Prop} (ha : ¬ c → Wp a Q) (hb : c → Wp b Q) : Wp (if (!decide c) = true then a else b) Q := by
  by_cases h : c
  · rw [if_neg (by simp [h])]; exact hb h
  · rw [if_pos (by simp [h])]; exact ha h
def JoinQ {J R : Type} (k : J → Option R) (Q : R → Prop) : J ⊕ R → Prop
  | .inl j => Wp (k j) Q
  | .inr r => Q r
theorem Wp.join {J R : Type} {m : Option (J ⊕ R)} {k : J → Option R} {Q : R → Prop} (h : Wp m (JoinQ k Q)) : Wp (Join m k) Q := by
  obtain ⟨x, e, h⟩ := h
  unfold Join
  rw [e]
  cases x with
  | inl j => exact h
  | inr r => exact ⟨r, rfl, h⟩
def LoopW {S X : Type} (I : S → Prop) (μ : S → Nat) (s : S) (Q : X → Prop) : S ⊕ X → Prop
  | .inl s' => I s' ∧ μ s' < μ s
  | .inr x => Q x
theorem Wp.loop {S X : Type} {body : S → Option (S ⊕ X)} {N : Nat} {s0 : S} {Q : X → Prop} (I : S → Prop) (μ : S → Nat) (h0 : I s0) (hN : μ s0 < N) (step : ∀ s, I s → Wp (body s) (LoopW I μ s Q)) : Wp (Loop body N s0) Q :=
  Loop_rule I μ Q (fun s hs => by
    obtain ⟨x, e, h⟩ := step s hs
    cases x with
    | inl s' => exact .inl ⟨s', e, h⟩
    | inr x => exact .inr ⟨x, e, h⟩) N s0 h0 hN
theorem Wp.idx {α : Type} {l : List α} {i : Int} {Q : α → Prop} (k : Nat) (hi : i = k) (hk : k < l.length) (h : Q l[k]) : Wp (idx l i) Q := by
  subst hi
  exact ⟨_, idx_nat hk, h⟩
theorem Wp.app {α : Type} {l m : List α} {Q : List α → Prop} (hl : l.length + m.length ≤ 4294967296) (h : Q (l ++ m)) : Wp (appA l m) Q := ⟨_, appA_some hl, h⟩
theorem cutA_eq {α : Type} {l : List α} {i j : Int} (a b : Nat) (hi : i = a) (hj : j = b) (h : a ≤ b) (hb : b ≤ l.length) : cutA l i j = Option.some ((l.take b).drop a) := by
  subst hi; subst hj
  unfold cutA
  rw [if_pos (by omega)]
  simp
theorem Wp.cut {α : Type} {l : List α} {i j : Int} {Q : List α → Prop} (a b : Nat) (hi : i = a) (hj : j = b) (h : a ≤ b) (hb : b ≤ l.length) (hq : Q ((l.take b).drop a)) : Wp (cutA l i j) Q := ⟨_, cutA_eq a b hi hj h hb, hq⟩
theorem cutA_zero {α : Type} {l : List α} {b : Nat} (hb : b ≤ l.length) : cutA l 0 (b : Int) = Option.some (l.take b) := by
  have := cutA_eq (l := l) 0 b rfl rfl (Nat.zero_le _) hb
  simpa using this
theorem wrap_succ {k : Nat} (h : k < 9223372036854775807) : IntKind.i64.wrap ((k : Int) + 1) = ((k + 1 : Nat) : Int) := by rw [wrap_id] <;> omega
theorem wrap_nat {k : Nat} (h : k ≤ 9223372036854775807) : IntKind.i64.wrap (k : Int) = (k : Int) := by rw [wrap_id] <;> omega
end Go.Proofs.YtjeeligfdpociaaGreat

namespace Go.Proofs.YtjeeligfdpociaaGreat
open Go Go.RowKit

section
variable {α β : Type}
theorem wp_some {x : α} {Q : α → Prop} : Wp (some x) Q ↔ Q x := ⟨fun ⟨y, e, h⟩ => by cases e; exact h, fun h => ⟨x, rfl, h⟩⟩
theorem wp_none {Q : α → Prop} : Wp (none : Option α) Q ↔ False := ⟨fun ⟨y, e, h⟩ => (by cases e), False.elim⟩
theorem wp_bind {m : Option α} {k : α → Option β} {Q : β → Prop} : Wp (m.bind k) Q ↔ Wp m fun x => Wp (k x) Q := by
  cases m with
  | none => simp only [Option.bind_none, wp_none]
  | some x => simp only [Option.bind_some, wp_some]
theorem wp_ite {c : Prop} [Decidable c] {a b : Option α} {Q : α → Prop} : Wp (if c then a else b) Q ↔ (c → Wp a Q) ∧ (¬ c → Wp b Q) := by
  split <;> simp [*]
theorem wp_dec {c : Prop} [Decidable c] {a b : Option α} {Q : α → Prop} : Wp (if decide c = true then a else b) Q ↔ (c → Wp a Q) ∧ (¬ c → Wp b Q) := by
  by_cases h : c <;> simp [*]
theorem wp_ndec {c : Prop} [Decidable c] {a b : Option α} {Q : α → Prop} : Wp (if (!decide c) = true then a else b) Q ↔ (¬ c → Wp a Q) ∧ (c → Wp b Q) := by
  by_cases h : c <;> simp [*]
theorem wp_not {c : Bool} {a b : Option α} {Q : α → Prop} : Wp (if (!c) = true then a else b) Q ↔ (c = false → Wp a Q) ∧ (c = true → Wp b Q) := by
  cases c <;> simp
theorem wp_map {m : Option α} {f : α → β} {Q : β → Prop} : Wp (m.map f) Q ↔ Wp m fun x => Q (f x) := by
  cases m with
  | none => simp only [Option.map_none, wp_none]
  | some x => simp only [Option.map_some, wp_some]
theorem wp_join {J R : Type} {m : Option (J ⊕ R)} {k : J → Option R} {Q : R → Prop} : Wp (Join m k) Q ↔ Wp m (JoinQ k Q) := by
  cases m with
  | none => exact ⟨fun ⟨_, e, _⟩ => (by cases e), fun ⟨_, e, _⟩ => (by cases e)⟩
  | some s => cases s with
    | inl j => rw [wp_some]; exact Iff.rfl
    | inr r => exact (wp_some (x := r)).trans (wp_some (x := Sum.inr r) (Q := JoinQ k Q)).symm
theorem joinQ_inl {J R : Type} {k : J → Option R} {Q : R → Prop} {j : J} : JoinQ k Q (.inl j) = Wp (k j) Q := rfl
theorem joinQ_inr {J R : Type} {k : J → Option R} {Q : R → Prop} {r : R} : JoinQ k Q (.inr r) = Q r := rfl
theorem wp_idx {l : List α} {i : Int} {Q : α → Prop} : Wp (idx l i) Q ↔ ∃ h : 0 ≤ i ∧ i < (l.length : Int), Q (l[i.toNat]'(by omega)) := by
  by_cases h : 0 ≤ i ∧ i < (l.length : Int)
  · unfold idx
    rw [if_pos h.1, List.getElem?_eq_getElem (by omega), wp_some]
    exact ⟨fun g => ⟨h, g⟩, fun g => g.2⟩
  · refine ⟨fun ⟨y, e, _⟩ => ?_, fun g => absurd g.1 h⟩
    obtain ⟨k, rfl, hk, _⟩ := idx_some e
    omega
theorem wp_byte {s : ByteArray} {i : Int} {Q : Int → Prop} : Wp (byteA s i) Q ↔ ∃ h : 0 ≤ i ∧ i < (s.size : Int), Q ((s[i.toNat]'(by omega)).toNat : Int) := by
  unfold byteA
  rw [wp_map]
  by_cases h : 0 ≤ i ∧ i < (s.size : Int)
  · rw [if_pos h.1, getElem?_pos s i.toNat (by omega), wp_some]
    exact ⟨fun g => ⟨h, g⟩, fun g => g.2⟩
  · refine ⟨fun ⟨y, e, _⟩ => ?_, fun g => absurd g.1 h⟩
    split at e
    · rw [getElem?_neg s i.toNat (by omega)] at e; cases e
    · cases e
theorem wp_app {l m : List α} {Q : List α → Prop} : Wp (appA l m) Q ↔ l.length + m.length ≤ 4294967296 ∧ Q (l ++ m) := by
  unfold appA
  split
  · rw [wp_some]; simp [*]
  · rw [wp_none]; simp [*]
theorem wp_cut {l : List α} {i j : Int} {Q : List α → Prop} : Wp (cutA l i j) Q ↔ (0 ≤ i ∧ i ≤ j ∧ j ≤ l.length) ∧ Q ((l.take j.toNat).drop i.toNat) := by
  unfold cutA
  split
  · rw [wp_some]; simp [*]
  · rw [wp_none]; simp [*]
theorem wp_mkL {m : Int} {z : α} {Q : List α → Prop} : Wp (mkL m z) Q ↔ (0 ≤ m ∧ m ≤ 4294967296) ∧ Q (List.replicate m.toNat z) := by
  unfold mkL
  split
  · rw [wp_some]; simp [*]
  · rw [wp_none]; simp [*]
theorem wp_eq {m : Option α} {x : α} : Wp m (· = x) ↔ m = some x := ⟨fun ⟨_, e, h⟩ => h ▸ e, fun e => ⟨x, e, rfl⟩⟩
theorem wp_true {m : Option α} : Wp m (fun _ => True) ↔ m.isSome = true := by cases m <;> simp [Wp]
theorem Wp.and {m : Option α} {P Q : α → Prop} (h : Wp m P) (g : Wp m Q) : Wp m fun x => P x ∧ Q x := by
  obtain ⟨x, e, h⟩ := h
  obtain ⟨y, e', g⟩ := g
  rw [e] at e'
  cases e'
  exact ⟨x, e, h, g⟩
/-- What a model that comes to an end says. -/
theorem Wp.getD {m : Option α} {Q : α → Prop} (h : Wp m Q) (d : α) : m = Option.some (m.getD d) ∧ Q (m.getD d) := by
  obtain ⟨x, e, h⟩ := h
  rw [e]
  exact ⟨rfl, h⟩
end

/-! ## Loops that count -/
def CountQ {S X : Type} (ctr : S → Int) (m k : Nat) (J : Nat → S → Prop) (Q : X → Prop) : S ⊕ X → Prop
  | .inl s => k < m ∧ ctr s = ((k + 1 : Nat) : Int) ∧ J (k + 1) s
  | .inr x => Q x
theorem countQ_inl {S X : Type} {ctr : S → Int} {m k : Nat} {J : Nat → S → Prop} {Q : X → Prop} {s : S} : CountQ ctr m k J Q (.inl s) = (k < m ∧ ctr s = ((k + 1 : Nat) : Int) ∧ J (k + 1) s) := rfl
theorem countQ_inr {S X : Type} {ctr : S → Int} {m k : Nat} {J : Nat → S → Prop} {Q : X → Prop} {x : X} : CountQ ctr m k J Q (.inr x) = Q x := rfl
theorem Wp.count {S X : Type} {body : S → Option (S ⊕ X)} {s0 : S} {Q : X → Prop} (ctr : S → Int) (m : Nat) (J : Nat → S → Prop) (hm : m ≤ 9223372036854775807) (h0 : ctr s0 = 0) (hJ : J 0 s0)
    (step : ∀ k s, k ≤ m → ctr s = (k : Int) → J k s → Wp (body s) (CountQ ctr m k J Q)) : Wp (Loop body big s0) Q := by
  refine Wp.loop (fun s => ∃ k : Nat, ctr s = k ∧ k ≤ m ∧ J k s) (fun s => m - (ctr s).toNat) ⟨0, h0, Nat.zero_le _, hJ⟩ (by unfold big; omega) fun s hs => ?_
  obtain ⟨k, hi, hk, hj⟩ := hs
  refine (step k s hk hi hj).mono fun r hr => ?_
  cases r with
  | inl s' =>
    obtain ⟨h1, h2, h3⟩ := hr
    exact ⟨⟨k + 1, h2, h1, h3⟩, by show m - (ctr s').toNat < m - (ctr s).toNat; rw [h2, hi]; omega⟩
  | inr x => exact hr
theorem wrapS {k : Nat} {m : Nat} (hm : m ≤ 9223372036854775807) (h : k < m) : IntKind.i64.wrap ((k : Int) + 1) = ((k + 1 : Nat) : Int) := wrap_succ (by omega)

theorem lt_dec' {k m : Nat} (h : k < m) : decide ((k : Int) < (m : Int)) = true := decide_eq_true (by omega)
theorem lt_nat {k m : Nat} (h : k < m) : ((k : Int) < (m : Int)) = True := eq_true (by omega)
theorem nlt_self {m : Nat} : ((m : Int) < (m : Int)) = False := eq_false (by omega)

/-- The first failure among m. -/
def firstE {α : Type} (f : Nat → Option α) : Nat → Option α
  | 0 => none
  | m + 1 => (firstE f m).or (f m)
theorem firstE_none {α : Type} {f : Nat → Option α} : ∀ {m : Nat}, firstE f m = none ↔ ∀ k, k < m → f k = none
  | 0 => by simp [firstE]
  | m + 1 => by
    rw [firstE, Option.or_eq_none_iff, firstE_none]
    exact ⟨fun h k hk => by rcases Nat.lt_succ_iff_lt_or_eq.1 hk with h1 | rfl <;> first | exact h.1 k h1 | exact h.2, fun h => ⟨fun k hk => h k (by omega), h m (by omega)⟩⟩
theorem firstE_some {α : Type} {f : Nat → Option α} {x : α} : ∀ {m : Nat}, firstE f m = some x → ∃ k, k < m ∧ f k = some x ∧ ∀ j, j < k → f j = none
  | 0, h => by cases h
  | m + 1, h => by
    rw [firstE] at h
    cases e : firstE f m with
    | none => rw [e] at h; exact ⟨m, by omega, h, firstE_none.1 e⟩
    | some y =>
      rw [e] at h
      cases h
      obtain ⟨k, hk, h1, h2⟩ := firstE_some e
      exact ⟨k, by omega, h1, h2⟩
theorem firstE_at {α : Type} {f : Nat → Option α} {x : α} {k : Nat} (hx : f k = some x) (hn : ∀ j, j < k → f j = none) : ∀ {m : Nat}, k < m → firstE f m = some x
  | 0, h => by omega
  | m + 1, h => by
    rw [firstE]
    rcases Nat.lt_succ_iff_lt_or_eq.1 h with h1 | rfl
    · rw [firstE_at hx hn h1]; rfl
    · rw [firstE_none.2 hn]; exact hx
theorem firstE_congr {α : Type} {f g : Nat → Option α} : ∀ {m : Nat}, (∀ k, k < m → f k = g k) → firstE f m = firstE g m
  | 0, _ => rfl
  | m + 1, h => by rw [firstE, firstE, firstE_congr fun k hk => h k (by omega), h m (by omega)]
/-- A loop that stops at the first failure. -/
theorem Wp.first {S X Y : Type} {body : S → Option (S ⊕ X)} {s0 : S} {Q : X → Prop} (ctr : S → Int) (m : Nat) (f : Nat → Option Y) (hm : m ≤ 9223372036854775807) (h0 : ctr s0 = 0)
    (h1 : ∀ k s, k < m → ctr s = (k : Int) → (∀ j, j < k → f j = none) → Wp (body s) fun r => (f k = none ∧ ∃ s', r = .inl s' ∧ ctr s' = ((k + 1 : Nat) : Int)) ∨ ∃ x y, r = .inr x ∧ f k = Option.some y ∧ (firstE f m = Option.some y → Q x))
    (he : ∀ s, ctr s = (m : Int) → (firstE f m = none) → Wp (body s) fun r => ∃ x, r = .inr x ∧ Q x) : Wp (Loop body big s0) Q := by
  refine Wp.count ctr m (fun k _ => ∀ j, j < k → f j = none) hm h0 (fun j h => by omega) fun k s hk hs hJ => ?_
  rcases Nat.lt_or_ge k m with hlt | hge
  · refine (h1 k s hlt hs hJ).mono fun r hr => ?_
    rcases hr with ⟨hn, s', rfl, h2⟩ | ⟨x, y, rfl, h2, h3⟩
    · exact ⟨hlt, h2, fun j hj => by rcases Nat.lt_succ_iff_lt_or_eq.1 hj with h | rfl <;> first | exact hJ j h | exact hn⟩
    · exact h3 (firstE_at h2 hJ hlt)
  · obtain rfl : k = m := by omega
    exact (he s hs (firstE_none.2 hJ)).mono fun r hr => by obtain ⟨x, rfl, h⟩ := hr; exact h

/-! ## Loops that fold a list -/
def FoldQ {S X C : Type} (ctr : S → Int) (acc : S → C) (k : Nat) (c : C) (I : Nat → C → Prop) : S ⊕ X → Prop
  | .inl s => ctr s = ((k + 1 : Nat) : Int) ∧ acc s = c ∧ I (k + 1) c
  | .inr _ => False
def StopQ {S X : Type} (Q : X → Prop) : S ⊕ X → Prop
  | .inl _ => False
  | .inr x => Q x
theorem foldQ_inl {S X C : Type} {ctr : S → Int} {acc : S → C} {k : Nat} {c : C} {I : Nat → C → Prop} {s : S} : FoldQ (X := X) ctr acc k c I (.inl s) = (ctr s = ((k + 1 : Nat) : Int) ∧ acc s = c ∧ I (k + 1) c) := rfl
theorem stopQ_inr {S X : Type} {Q : X → Prop} {x : X} : StopQ (S := S) Q (.inr x) = Q x := rfl
theorem Wp.fold {S X C α : Type} {body : S → Option (S ⊕ X)} {s0 : S} {Q : X → Prop} (ctr : S → Int) (acc : S → C) (l : List α) (F : C → α → C) (c0 : C) (I : Nat → C → Prop) (hm : l.length ≤ 9223372036854775807) (h0 : ctr s0 = 0) (hc : acc s0 = c0) (hI : I 0 c0)
    (step : ∀ k s (h : k < l.length), ctr s = (k : Int) → I k (acc s) → Wp (body s) (FoldQ ctr acc k (F (acc s) l[k]) I))
    (fin : ∀ s, ctr s = (l.length : Int) → acc s = l.foldl F c0 → I l.length (acc s) → Wp (body s) (StopQ Q)) : Wp (Loop body big s0) Q := by
  refine Wp.count ctr l.length (fun k s => acc s = (l.take k).foldl F c0 ∧ I k (acc s)) hm h0 ⟨by rw [hc]; rfl, hc ▸ hI⟩ fun k s hk hs hJ => ?_
  rcases Nat.lt_or_ge k l.length with hlt | hge
  · refine (step k s hlt hs hJ.2).mono fun r hr => ?_
    cases r with
    | inl s' =>
      obtain ⟨h1, h2, h3⟩ := hr
      refine ⟨hlt, h1, ?_, h2 ▸ h3⟩
      rw [h2, hJ.1, ← List.take_append_getElem hlt, List.foldl_append]
      rfl
    | inr x => exact hr.elim
  · obtain rfl : k = l.length := by omega
    rw [List.take_length] at hJ
    refine (fin s hs hJ.1 hJ.2).mono fun r hr => ?_
    cases r with
    | inl s' => exact hr.elim
    | inr x => exact hr
/-! ## Short names of the rules that the word WP-S stands for (put.sh) -/
set_option linter.defProp false
def a_ := @Classical.not_not
def b_ := @wp_some
def c_ := @wp_bind
def d_ := @wp_dec
def e_ := @wp_ndec
def f_ := @wp_not
def g_ := @wp_ite
def h_ := @wp_join
def i_ := @joinQ_inl
def j_ := @joinQ_inr
def k_ := @if_true
def l_ := @if_false
def m_ := @ite_true
def n_ := @ite_false
def o_ := @Bool.false_eq_true
def p_ := @Bool.true_eq_false
def q_ := @decide_true
def r_ := @decide_false
def s_ := @decide_eq_decide
def t_ := @true_eq_decide_iff
def u_ := @false_eq_decide_iff
def v_ := @decide_eq_true_eq
def w_ := @decide_eq_false_iff_not
def x_ := @true_implies
def y_ := @false_implies
def z_ := @implies_true
def A_ := @and_true
def B_ := @true_and
def C_ := @and_false
def D_ := @false_and
def E_ := @or_true
def F_ := @true_or
def G_ := @or_false
def H_ := @false_or
def I_ := @not_true_eq_false
def J_ := @not_false_eq_true
def K_ := @Bool.not_true
def L_ := @Bool.not_false
def M_ := @Bool.not_eq_true
def N_ := @Bool.not_eq_false
def O_ := @Bool.not_eq_eq_eq_not
def P_ := @forall_const
end Go.Proofs.YtjeeligfdpociaaGreat
