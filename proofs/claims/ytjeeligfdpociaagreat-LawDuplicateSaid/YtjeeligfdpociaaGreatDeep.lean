/- Slices whose elements hold slices of the call's own. -/
import Derived.Test.YtjeeligfdpociaaGreatGlob
namespace Go.Proofs.YtjeeligfdpociaaGreat
open Go Go.RowKit

/-- A row with slices of the call's own in it. -/
inductive DR where
  | leaf (r : Row)
  | sl (T : TypeId) (d : DR)
  | pair (a b : DR)
@[reducible] def DR.row : DR → Row
  | .leaf r => r
  | .sl _ d => .slice d.row
  | .pair a b => .pair a.row b.row
@[reducible] def DR.low : DR → Row
  | .leaf r => r
  | .sl _ _ => .hdr
  | .pair a b => .pair a.low b.low
theorem DR.size : (d : DR) → d.low.size = d.row.size
  | .leaf _ => rfl
  | .sl _ _ => rfl
  | .pair a b => by show a.low.size + b.low.size = a.row.size + b.row.size; rw [a.size, b.size]
inductive DPath : DR → DR → Type where
  | here {d : DR} : DPath d d
  | fst {a b e : DR} (p : DPath a e) : DPath (.pair a b) e
  | snd {a b e : DR} (p : DPath b e) : DPath (.pair a b) e
def DPath.lo : {d e : DR} → DPath d e → Path d.low e.low
  | _, _, .here => .here
  | _, _, .fst p => .fst p.lo
  | _, _, .snd p => .snd p.lo
def DPath.hi : {d e : DR} → DPath d e → Path d.row e.row
  | _, _, .here => .here
  | _, _, .fst p => .fst p.hi
  | _, _, .snd p => .snd p.hi
def DR.path : (d : DR) → List Bool → Option ((e : DR) × DPath d e)
  | d, [] => some ⟨d, .here⟩
  | .pair a b, c :: p => match c with
    | false => match a.path p with
      | some ⟨e, q⟩ => some ⟨e, .fst q⟩
      | none => none
    | true => match b.path p with
      | some ⟨e, q⟩ => some ⟨e, .snd q⟩
      | none => none
  | _, _ :: _ => none

/-- A slice's block in memory's terms: the row may hold headers. -/
def OwnM (F : Nat → Prop) (w : World) (T : TypeId) (r : Row) (v : Value) (l : List r.den) : Prop :=
  ∃ xs, ownsQ w 0 T r.size v l.length xs ∧ ∀ i (h : i < l.length), Rep F w r ((xs.drop (i * r.size)).take r.size) l[i]

structure Parts (Ss : Nat → Nat → Prop) (n : Nat) (m : Nat → Prop) (S : Nat → Prop) : Prop where
  all : ∀ k, S k ↔ m k ∨ ∃ i, i < n ∧ Ss i k
  two : ∀ i j k, i < n → j < n → i ≠ j → Ss i k → ¬ Ss j k
  out : ∀ i k, i < n → Ss i k → ¬ m k

structure Two (A B S : Nat → Prop) : Prop where
  all : ∀ k, S k ↔ A k ∨ B k
  off : ∀ k, A k → ¬ B k

/-- A slice of the call's own; rel says what its elements are. -/
def DSl {α : Type} (F : Nat → Prop) (w : World) (T : TypeId) (r : Row) (rel : Nat → r.den → α → (Nat → Prop) → Prop) (u : Value) (l : List α) (S : Nat → Prop) : Prop :=
  ∃ (lh : List r.den) (Ss : Nat → Nat → Prop), OwnM F w T r u lh ∧ lh.length = l.length ∧ (∀ i (h1 : i < lh.length) (h2 : i < l.length), rel i lh[i] l[i] (Ss i)) ∧ Parts Ss l.length (mine u) S

/-- What a part holds: what lies in memory, what it is, its blocks. -/
def DEl (F : Nat → Prop) (w : World) : (d : DR) → d.low.den → d.row.den → (Nat → Prop) → Prop
  | .leaf _, x', x, S => x' = x ∧ ∀ k, ¬ S k
  | .sl T d, u, l, S => DSl F w T d.low (fun _ => DEl F w d) u l S
  | .pair a b, x', x, S => ∃ A B, DEl F w a x'.1 x.1 A ∧ DEl F w b x'.2 x.2 B ∧ Two A B S

/-- All but a place. -/
def DOut (F : Nat → Prop) (w : World) : {d e : DR} → DPath d e → d.low.den → d.row.den → (Nat → Prop) → Prop
  | _, _, .here, _, _, S => ∀ k, ¬ S k
  | _, _, .fst (b := b) p, x', x, S => ∃ A B, DOut F w p x'.1 x.1 A ∧ DEl F w b x'.2 x.2 B ∧ Two A B S
  | _, _, .snd (a := a) p, x', x, S => ∃ A B, DEl F w a x'.1 x.1 A ∧ DOut F w p x'.2 x.2 B ∧ Two A B S

section
variable {F F' : Nat → Prop} {w w' : World} {T : TypeId} {S : Nat → Prop}

theorem OwnM.to {r : Row} {v : Value} {l : List r.den} (h : OwnM F w T r v l) (hn : ∀ k, mine v k → ¬ F k) : Own 0 F w T r v l := ⟨hn, h⟩
theorem OwnM.keep {r : Row} {v : Value} {l : List r.den} (h : OwnM F w T r v l) (hs : Step F w F' w') (hb : ∀ k, mine v k → w'.heap[k]? = w.heap[k]?) : OwnM F' w' T r v l := by
  obtain ⟨xs, ⟨hx1, hx2⟩, h3⟩ := h
  refine ⟨xs, ⟨hx1, ?_⟩, fun i hi => (h3 i hi).step hs⟩
  rcases hx2 with h2 | ⟨gg, o0, cap, cur, rfl, hb', hg, rest⟩
  · exact .inl h2
  · exact .inr ⟨gg, o0, cap, cur, rfl, hb', (hb gg rfl).trans hg, rest⟩
theorem OwnM.lt {r : Row} {v : Value} {l : List r.den} (h : OwnM F w T r v l) : ∀ k, mine v k → k < w.heap.size := by
  obtain ⟨xs, h, _⟩ := h
  exact fun k hk => (h.lt k hk).2
theorem OwnM.one {r : Row} {v : Value} {l : List r.den} (h : OwnM F w T r v l) : v.oneCell' = true := by
  obtain ⟨xs, ⟨_, h⟩, _⟩ := h
  rcases h with ⟨rfl, _⟩ | ⟨gg, o0, cap, cur, rfl, _⟩ <;> rfl
theorem OwnM.nil (F : Nat → Prop) (w : World) (T : TypeId) (r : Row) : OwnM F w T r (.slice none 0 0) [] := (Own.nil 0 F w T r).2

theorem Two.left {A B : Nat → Prop} (h : Two A B S) : ∀ k, A k → S k := fun k hk => (h.all k).2 (.inl hk)
theorem Two.right {A B : Nat → Prop} (h : Two A B S) : ∀ k, B k → S k := fun k hk => (h.all k).2 (.inr hk)
theorem Parts.mine {Ss : Nat → Nat → Prop} {n : Nat} {m : Nat → Prop} (h : Parts Ss n m S) : ∀ k, m k → S k := fun k hk => (h.all k).2 (.inl hk)
theorem Parts.part {Ss : Nat → Nat → Prop} {n : Nat} {m : Nat → Prop} (h : Parts Ss n m S) {i : Nat} (hi : i < n) : ∀ k, Ss i k → S k := fun k hk => (h.all k).2 (.inr ⟨i, hi, hk⟩)

theorem DSl.mono {α : Type} {r : Row} {rel rel' : Nat → r.den → α → (Nat → Prop) → Prop} {u : Value} {l : List α} (h : DSl F w T r rel u l S) (hs : Step F w F' w') (hb : ∀ k, S k → w'.heap[k]? = w.heap[k]?)
    (hr : ∀ i x' (hi : i < l.length) A, (∀ k, A k → S k) → rel i x' l[i] A → rel' i x' l[i] A) : DSl F' w' T r rel' u l S := by
  obtain ⟨lh, Ss, h1, h2, h3, h4⟩ := h
  exact ⟨lh, Ss, h1.keep hs fun k hk => hb k (h4.mine k hk), h2, fun i a b => hr i _ b _ (h4.part b) (h3 i a b), h4⟩

theorem DEl.keep (hs : Step F w F' w') : {d : DR} → {x' : d.low.den} → {x : d.row.den} → {S : Nat → Prop} → DEl F w d x' x S → (∀ k, S k → w'.heap[k]? = w.heap[k]?) → DEl F' w' d x' x S
  | .leaf _, _, _, _, h, _ => h
  | .sl T d, u, l, S, h, hb => DSl.mono (show DSl F w T d.low _ u l S from h) hs hb fun i x' hi A hA hr => DEl.keep hs hr fun k hk => hb k (hA k hk)
  | .pair a b, _, _, _, h, hb => by
    obtain ⟨A, B, h1, h2, h3⟩ := h
    exact ⟨A, B, h1.keep hs fun k hk => hb k (h3.left k hk), h2.keep hs fun k hk => hb k (h3.right k hk), h3⟩

theorem DOut.keep (hs : Step F w F' w') : {d e : DR} → {p : DPath d e} → {x' : d.low.den} → {x : d.row.den} → {S : Nat → Prop} → DOut F w p x' x S → (∀ k, S k → w'.heap[k]? = w.heap[k]?) → DOut F' w' p x' x S
  | _, _, .here, _, _, _, h, _ => h
  | _, _, .fst p, _, _, _, h, hb => by
    obtain ⟨A, B, h1, h2, h3⟩ := h
    exact ⟨A, B, DOut.keep hs h1 fun k hk => hb k (h3.left k hk), h2.keep hs fun k hk => hb k (h3.right k hk), h3⟩
  | _, _, .snd p, _, _, _, h, hb => by
    obtain ⟨A, B, h1, h2, h3⟩ := h
    exact ⟨A, B, h1.keep hs fun k hk => hb k (h3.left k hk), DOut.keep hs h2 fun k hk => hb k (h3.right k hk), h3⟩

theorem DEl.lt : {d : DR} → {x' : d.low.den} → {x : d.row.den} → {S : Nat → Prop} → DEl F w d x' x S → ∀ k, S k → k < w.heap.size
  | .leaf _, _, _, _, h, k, hk => absurd hk (h.2 k)
  | .sl T d, u, l, S, h, k, hk => by
    obtain ⟨lh, Ss, h1, h2, h3, h4⟩ := h
    rcases (h4.all k).1 hk with hm | ⟨i, hi, hm⟩
    · exact h1.lt k hm
    · exact DEl.lt (h3 i (by omega) hi) k hm
  | .pair a b, _, _, _, h, k, hk => by
    obtain ⟨A, B, h1, h2, h3⟩ := h
    rcases (h3.all k).1 hk with hm | hm
    · exact DEl.lt h1 k hm
    · exact DEl.lt h2 k hm

/-- From now on it is read alone. -/
theorem DEl.freeze : {d : DR} → {cs : List Value} → {x' : d.low.den} → {x : d.row.den} → {S : Nat → Prop} → DEl F w d x' x S → (∀ k, S k → ¬ F k) → Rep F w d.low cs x' → Rep (fun b => F b ∨ S b) w d.row cs x
  | .leaf _, _, _, _, S, h, _, hr => by
    obtain ⟨rfl, _⟩ := h
    exact hr.step (Step.freeze F w S)
  | .sl T d, cs, u, l, S, h, hn, hr => by
    obtain ⟨lh, Ss, ⟨xs, hx, hxr⟩, h2, h3, h4⟩ := h
    obtain ⟨rfl, _⟩ := hr
    have hF1 : Own 0 (fun b => F b ∨ ∃ i, i < l.length ∧ Ss i b) w T d.row u l := by
      refine ⟨fun k hk hF => ?_, xs, ?_, fun i hi => ?_⟩
      · rcases hF with hF | ⟨i, hi, hm⟩
        · exact hn k (h4.mine k hk) hF
        · exact h4.out i k hi hm hk
      · rw [← d.size, ← h2]; exact hx
      · have hi' : i < lh.length := by omega
        have := DEl.freeze (h3 i hi' hi) (fun k hk => hn k (h4.part hi k hk)) (hxr i hi')
        rw [← d.size]
        exact this.step fun b hb => ⟨hb.imp id fun hb => ⟨i, hi, hb⟩, rfl⟩
    exact hF1.freeze.step (r := .slice d.row) fun b hb => ⟨by
      rcases hb with (hb | ⟨i, hi, hb⟩) | hb
      · exact .inl hb
      · exact .inr (h4.part hi b hb)
      · exact .inr (h4.mine b hb), rfl⟩
  | .pair a b, _, _, _, S, h, hn, hr => by
    obtain ⟨A, B, h1, h2, h3⟩ := h
    obtain ⟨c1, c2, rfl, r1, r2⟩ := hr
    exact ⟨c1, c2, rfl, (DEl.freeze h1 (fun k hk => hn k (h3.left k hk)) r1).step fun b hb => ⟨hb.imp id (h3.left b), rfl⟩, (DEl.freeze h2 (fun k hk => hn k (h3.right k hk)) r2).step fun b hb => ⟨hb.imp id (h3.right b), rfl⟩⟩

/-! ## A place within -/
theorem DEl.out : {d e : DR} → (p : DPath d e) → {x' : d.low.den} → {x : d.row.den} → {S : Nat → Prop} → DEl F w d x' x S → ∃ A B, DEl F w e (p.lo.get x') (p.hi.get x) A ∧ DOut F w p x' x B ∧ Two A B S
  | _, _, .here, _, _, S, h => ⟨S, fun _ => False, h, fun _ h => h, ⟨fun k => by simp, fun _ _ h => h⟩⟩
  | _, _, .fst p, _, _, S, h => by
    obtain ⟨A, B, h1, h2, h3⟩ := h
    obtain ⟨A1, A2, g1, g2, g3⟩ := DEl.out p h1
    refine ⟨A1, fun k => A2 k ∨ B k, g1, ⟨A2, B, g2, h2, fun k => Iff.rfl, fun k hk => h3.off k (g3.right k hk)⟩, fun k => ?_, fun k hk hh => ?_⟩
    · rw [h3.all, g3.all, or_assoc]
    · exact hh.elim (g3.off k hk) (h3.off k (g3.left k hk))
  | _, _, .snd p, _, _, S, h => by
    obtain ⟨A, B, h1, h2, h3⟩ := h
    obtain ⟨B1, B2, g1, g2, g3⟩ := DEl.out p h2
    refine ⟨B1, fun k => A k ∨ B2 k, g1, ⟨A, B2, h1, g2, fun k => Iff.rfl, fun k hk hh => h3.off k hk (g3.right k hh)⟩, fun k => ?_, fun k hk hh => ?_⟩
    · rw [h3.all, g3.all]; constructor <;> (intro h; rcases h with h | h | h <;> simp [h])
    · exact hh.elim (fun hh => h3.off k hh (g3.left k hk)) (g3.off k hk)

theorem DOut.put : {d e : DR} → (p : DPath d e) → {x' : d.low.den} → {x : d.row.den} → {y' : e.low.den} → {y : e.row.den} → {A B S : Nat → Prop} → DOut F w p x' x B → DEl F w e y' y A → Two A B S → DEl F w d (p.lo.set x' y') (p.hi.set x y) S
  | _, _, .here, _, _, y', y, A, B, S, h, hy, h3 => by
    have : A = S := by
      funext k
      exact propext ⟨fun hk => h3.left k hk, fun hk => ((h3.all k).1 hk).elim id fun hb => absurd hb (h k)⟩
    subst this
    exact hy
  | _, _, .fst p, x', x, y', y, A, B, S, h, hy, h3 => by
    obtain ⟨A2, B2, g1, g2, g3⟩ := h
    have t1 : Two A A2 (fun k => A k ∨ A2 k) := ⟨fun _ => Iff.rfl, fun k hk h2 => h3.off k hk (g3.left k h2)⟩
    refine ⟨fun k => A k ∨ A2 k, B2, DOut.put p g1 hy t1, g2, fun k => ?_, fun k hk h2 => ?_⟩
    · rw [h3.all, g3.all, or_assoc]
    · exact hk.elim (fun hk => h3.off k hk (g3.right k h2)) fun hk => g3.off k hk h2
  | _, _, .snd p, x', x, y', y, A, B, S, h, hy, h3 => by
    obtain ⟨A2, B2, g1, g2, g3⟩ := h
    have t1 : Two A B2 (fun k => A k ∨ B2 k) := ⟨fun _ => Iff.rfl, fun k hk h2 => h3.off k hk (g3.right k h2)⟩
    refine ⟨A2, fun k => A k ∨ B2 k, g1, DOut.put p g2 hy t1, fun k => ?_, fun k hk h2 => ?_⟩
    · rw [h3.all, g3.all]; constructor <;> (intro h; rcases h with h | h | h <;> simp [h])
    · exact h2.elim (fun h2 => h3.off k h2 (g3.left k hk)) fun h2 => g3.off k hk h2

theorem DOut.set : {d e : DR} → (p : DPath d e) → {x' : d.low.den} → {x : d.row.den} → {S : Nat → Prop} → (y' : e.low.den) → (y : e.row.den) → DOut F w p x' x S → DOut F w p (p.lo.set x' y') (p.hi.set x y) S
  | _, _, .here, _, _, _, _, _, h => h
  | _, _, .fst p, _, _, _, y', y, h => by
    obtain ⟨A, B, h1, h2, h3⟩ := h
    exact ⟨A, B, h1.set p y' y, h2, h3⟩
  | _, _, .snd p, _, _, _, y', y, h => by
    obtain ⟨A, B, h1, h2, h3⟩ := h
    exact ⟨A, B, h1, h2.set p y' y, h3⟩
end
end Go.Proofs.YtjeeligfdpociaaGreat
