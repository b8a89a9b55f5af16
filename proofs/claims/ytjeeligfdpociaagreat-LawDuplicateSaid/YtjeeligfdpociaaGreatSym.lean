/- Symbolic states: what slots and objects hold, in terms of plain values; what it means in a world. -/
import Derived.Test.YtjeeligfdpociaaGreatDeep
namespace Go.Proofs.YtjeeligfdpociaaGreat
open Go Go.RowKit

/-- What cells hold: plain data, the value of an object, a nil slice. -/
inductive Tree where
  | leaf (r : Row) (x : r.den)
  | own (o : Nat)
  | nil
  | pair (a b : Tree)
  | view (o s : Nat) (r : Row) (m : List r.den)   -- a piece of the own slice o, as it was at stamp s

/-- A place whose slice is an object of its own for the time being. -/
structure Hole where
  i : Int
  p : List Bool
  o : Nat
  s : Nat

/-- An object of the call's own: a variable, a slice, a slice that is read alone from now on. -/
inductive Th where
  | box (T : TypeId) (t : Tree)
  | own (T : TypeId) (r : Row) (l : List r.den)
  | frz (T : TypeId) (r : Row) (l : List r.den)
  | map (T : TypeId) (K : Row) (agg : Bool) (V : Row) (l : List (K.den × V.den))
  | fmap (T : TypeId) (K : Row) (agg : Bool) (V : Row) (l : List (K.den × V.den))   -- a map that is read alone from now on
  | deep (T : TypeId) (d : DR) (l : List d.row.den) (h : Option Hole)   -- a slice whose elements own slices
  | fdeep (T : TypeId) (d : DR) (l : List d.row.den)
  | dmap (T : TypeId) (K : Row) (E : TypeId) (r : Row) (l : List (K.den × List r.den)) (h : Option (K.den × Nat))   -- a map whose values own slices; a key whose value is an object of its own for the time being
  | fdmap (T : TypeId) (K : Row) (E : TypeId) (r : Row) (l : List (K.den × List r.den))

def Th.base : Th → Th
  | .frz T r l => .own T r l
  | .fmap T K agg V l => .map T K agg V l
  | .fdeep T d l => .deep T d l none
  | .fdmap T K E r l => .dmap T K E r l none
  | t => t

inductive Desc where
  | dead
  | undef
  | val (agg : Bool) (t : Tree)
  | ptr (o : Nat) (p : List Bool) (off : Nat)
  | at (r : Row) (x : r.den)
  | elem (o s : Nat) (r : Row) (i : Int) (x : r.den) (p : List Bool) (off : Nat)
  | tup (ds : List (Bool × Tree))
  | dlm (o : Nat) (d : DR) (i : Int) (p : List Bool) (off : Nat)   -- a place in an element of what is deep
  | fn (f : FuncId) (caps : List (Nat × List Bool × Nat))   -- a function's value, with the variables that it holds
  | ifc (T : TypeId) (d : Desc)   -- an interface's value of dynamic type T

structure Hist where
  val : Nat → Option Value
  con : Nat → Option Th
  sub : Nat → Nat → Prop   -- the blocks of what is deep, by stamp

structure Hist.le (H H' : Hist) : Prop where
  val : ∀ o v, H.val o = some v → H'.val o = some v
  con : ∀ s t, H.con s = some t → H'.con s = some t
  sub : ∀ s t, H.con s = some t → H'.sub s = H.sub s
theorem Hist.le.refl (H : Hist) : H.le H := ⟨fun _ _ h => h, fun _ _ h => h, fun _ _ _ => rfl⟩
theorem Hist.le.trans {H H' H'' : Hist} (h : H.le H') (k : H'.le H'') : H.le H'' := ⟨fun o v e => k.val o v (h.val o v e), fun o v e => k.con o v (h.con o v e), fun s t e => (k.sub s t (h.con s t e)).trans (h.sub s t e)⟩

def ViewOK (H : Hist) (o s : Nat) (r : Row) (m : List r.den) (v : Value) : Prop :=
  ∃ A cap T, ∃ l : List r.den, ∃ a b, H.val o = some (.slice A l.length cap) ∧ H.con s = some (.own T r l) ∧ a ≤ b ∧ b ≤ l.length ∧ m = (l.take b).drop a ∧ v = sliced A a b cap r.size
theorem ViewOK.keep {H H' : Hist} (hH : H.le H') {o s : Nat} {r : Row} {m : List r.den} {v : Value} (h : ViewOK H o s r m v) : ViewOK H' o s r m v := by
  obtain ⟨A, cap, T, l, a, b, h1, h2, h3⟩ := h
  exact ⟨A, cap, T, l, a, b, hH.val _ _ h1, hH.con _ _ h2, h3⟩
theorem ViewOK.back {H H' H'' : Hist} (hH : H.le H') (hH'' : H.le H'') {o s : Nat} {r : Row} {m : List r.den} {v0 v : Value} (h0 : ViewOK H o s r m v0) (h : ViewOK H' o s r m v) : ViewOK H'' o s r m v := by
  obtain ⟨A, cap, T, l, a, b, h1, h2, _⟩ := h0
  obtain ⟨A', cap', T', l', a', b', k1, k2, k3⟩ := h
  have e1 := hH.val _ _ h1
  have e2 := hH.con _ _ h2
  rw [k1] at e1
  rw [k2] at e2
  simp only [Option.some.injEq, Th.own.injEq, heq_eq_eq, true_and] at e2
  obtain ⟨rfl, rfl⟩ := e2
  exact ⟨A', cap', T', l', a', b', by rw [e1]; exact hH''.val _ _ h1, hH''.con _ _ h2, k3⟩
theorem ViewOK.one {H : Hist} {o s : Nat} {r : Row} {m : List r.den} {v : Value} (h : ViewOK H o s r m v) : v.oneCell' = true := by
  obtain ⟨A, cap, T, l, a, b, _, _, _, _, _, rfl⟩ := h
  simp [sliced, Value.oneCell']

/-- The variables that a function's value holds. -/
def CapsOK (H : Hist) : List (Nat × List Bool × Nat) → List Value → Prop
  | [], vs => vs = []
  | c :: cs, vs => ∃ v us, vs = v :: us ∧ (∃ b, H.val c.1 = some (.pointer (some ⟨b, 0, none⟩)) ∧ v = .pointer (some ⟨b, c.2.2, none⟩)) ∧ CapsOK H cs us
theorem CapsOK.keep {H H' : Hist} (hH : ∀ o v, H.val o = some v → H'.val o = some v) : {cs : List (Nat × List Bool × Nat)} → {vs : List Value} → CapsOK H cs vs → CapsOK H' cs vs
  | [], _, h => h
  | _ :: _, _, h => by obtain ⟨v, us, e, ⟨b, h1, h2⟩, h3⟩ := h; exact ⟨v, us, e, ⟨b, hH _ _ h1, h2⟩, h3.keep hH⟩

def Holds (H : Hist) (F : Nat → Prop) (w : World) : Tree → List Value → Prop
  | .leaf r x, cs => Rep F w r cs x
  | .own o, cs => ∃ v, H.val o = some v ∧ v.oneCell' = true ∧ cs = [v]
  | .nil, cs => cs = [.slice none 0 0]
  | .pair a b, cs => ∃ c1 c2, cs = c1 ++ c2 ∧ Holds H F w a c1 ∧ Holds H F w b c2
  | .view o s r m, cs => ∃ v, cs = [v] ∧ ViewOK H o s r m v

def Tree.size : Tree → Nat
  | .leaf r _ => r.size
  | .own _ => 1
  | .nil => 1
  | .pair a b => a.size + b.size
  | .view .. => 1

def ValOK (H : Hist) (F : Nat → Prop) (w : World) (agg : Bool) (t : Tree) (v : Value) : Prop :=
  ∃ cs, Holds H F w t cs ∧ v = (bif agg then .agg cs.toArray else cs.headD undef) ∧ (agg = false → cs = [v])

def TupOK (H : Hist) (F : Nat → Prop) (w : World) : List (Bool × Tree) → List Value → Prop
  | [], vs => vs = []
  | d :: ds, vs => ∃ v us, vs = v :: us ∧ ValOK H F w d.1 d.2 v ∧ TupOK H F w ds us

def DescOK (H : Hist) (F : Nat → Prop) (w : World) : Desc → Value → Prop
  | .dead, _ => True
  | .undef, v => v = Go.undef
  | .val agg t, v => ValOK H F w agg t v
  | .ptr o _ off, v => ∃ b, H.val o = some (.pointer (some ⟨b, 0, none⟩)) ∧ v = .pointer (some ⟨b, off, none⟩)
  | .at r x, v => ∃ b off, v = .pointer (some ⟨b, off, none⟩) ∧ F b ∧ At F w r b off x
  | .elem o s r i x _ off, v => ∃ g o0 q T m cap l, H.val o = some (.slice (some ⟨g, o0, none⟩) m cap) ∧ i = (q : Nat) ∧ H.con s = some (.own T r l) ∧ idx l i = some x ∧ v = .pointer (some ⟨g, o0 + q * r.size + off, none⟩)
  | .tup ds, v => ∃ vs, v = .tuple vs.toArray ∧ TupOK H F w ds vs
  | .dlm o d i _ off, v => ∃ g o0 q m cap, H.val o = some (.slice (some ⟨g, o0, none⟩) m cap) ∧ i = (q : Nat) ∧ v = .pointer (some ⟨g, o0 + q * d.low.size + off, none⟩)
  | .fn f caps, v => ∃ vs, v = .func (.func f) #[] vs.toArray ∧ CapsOK H caps vs
  | .ifc T d, v => ∃ u, v = .iface T u ∧ DescOK H F w d u

/-! ## Keeping -/
section
variable {H H' : Hist} {F F' : Nat → Prop} {w w' : World}

theorem Holds.length : {t : Tree} → {cs : List Value} → Holds H F w t cs → cs.length = t.size
  | .leaf _ _, _, h => Rep.length h
  | .own _, _, h => by obtain ⟨v, _, _, rfl⟩ := h; rfl
  | .nil, _, h => by rw [show _ = _ from h]; rfl
  | .pair a b, _, h => by obtain ⟨c1, c2, rfl, h1, h2⟩ := h; simp [h1.length, h2.length, Tree.size]
  | .view .., _, h => by obtain ⟨v, rfl, _⟩ := h; rfl

theorem Holds.oneCell : {t : Tree} → {cs : List Value} → Holds H F w t cs → ∀ u ∈ cs, u.oneCell' = true
  | .leaf _ _, _, h => Rep.oneCell h
  | .own _, _, h => by obtain ⟨v, _, h1, rfl⟩ := h; simpa using h1
  | .nil, _, h => by rw [show _ = _ from h]; simp [Value.oneCell']
  | .pair a b, _, h => by
    obtain ⟨c1, c2, rfl, h1, h2⟩ := h
    intro u hu
    rcases List.mem_append.1 hu with h' | h'
    · exact h1.oneCell u h'
    · exact h2.oneCell u h'
  | .view .., _, h => by obtain ⟨v, rfl, h⟩ := h; simpa using h.one

theorem Holds.keep (hH : H.le H') (hs : Step F w F' w') : {t : Tree} → {cs : List Value} → Holds H F w t cs → Holds H' F' w' t cs
  | .leaf _ _, _, h => Rep.step hs h
  | .own _, _, h => by obtain ⟨v, h0, h1, rfl⟩ := h; exact ⟨v, hH.val _ _ h0, h1, rfl⟩
  | .nil, _, h => h
  | .pair a b, _, h => by obtain ⟨c1, c2, rfl, h1, h2⟩ := h; exact ⟨c1, c2, rfl, h1.keep hH hs, h2.keep hH hs⟩
  | .view .., _, h => by obtain ⟨v, rfl, h⟩ := h; exact ⟨v, rfl, h.keep hH⟩

/-- Held at two times, between which nothing that the first knew was lost: held under any history that goes on from the first. -/
theorem Holds.back {H'' : Hist} {w0 : World} {F0 : Nat → Prop} (hH : H.le H') (hH'' : H.le H'') : {t : Tree} → {cs0 cs : List Value} → Holds H F0 w0 t cs0 → Holds H' F w t cs → Holds H'' F w t cs
  | .leaf _ _, _, _, _, h => h
  | .own _, _, _, h0, h => by
    obtain ⟨v, a0, _, _⟩ := h0
    obtain ⟨u, b0, b1, rfl⟩ := h
    have := hH.val _ _ a0
    rw [b0] at this
    obtain rfl := Option.some.inj this
    exact ⟨u, hH''.val _ _ a0, b1, rfl⟩
  | .nil, _, _, _, h => h
  | .pair a b, _, _, h0, h => by
    obtain ⟨_, _, _, a1, a2⟩ := h0
    obtain ⟨c1, c2, rfl, h1, h2⟩ := h
    exact ⟨c1, c2, rfl, Holds.back (w0 := w0) (F0 := F0) hH hH'' a1 h1, Holds.back (w0 := w0) (F0 := F0) hH hH'' a2 h2⟩
  | .view .., _, _, h0, h => by
    obtain ⟨_, _, h0⟩ := h0
    obtain ⟨v, rfl, h⟩ := h
    exact ⟨v, rfl, h0.back hH hH'' h⟩

theorem ValOK.keep {agg : Bool} {t : Tree} {v : Value} (hH : H.le H') (hs : Step F w F' w') (h : ValOK H F w agg t v) : ValOK H' F' w' agg t v := by
  obtain ⟨cs, h1, h2⟩ := h
  exact ⟨cs, h1.keep hH hs, h2⟩
theorem TupOK.keep (hH : H.le H') (hs : Step F w F' w') : {ds : List (Bool × Tree)} → {vs : List Value} → TupOK H F w ds vs → TupOK H' F' w' ds vs
  | [], _, h => h
  | _ :: _, _, h => by obtain ⟨v, us, rfl, h1, h2⟩ := h; exact ⟨v, us, rfl, h1.keep hH hs, h2.keep hH hs⟩

theorem At.keep {r : Row} {b off : Nat} {x : r.den} (hs : Step F w F' w') (hb : F b) (h : At F w r b off x) : At F' w' r b off x := by
  obtain ⟨es, hl, hc, hr⟩ := h
  exact ⟨es, hl, fun j u hu => (World.cell?_of_block (hs b hb).2).trans (hc j u hu), hr.step hs⟩

theorem DescOK.keep (hH : H.le H') (hs : Step F w F' w') : {d : Desc} → {v : Value} → DescOK H F w d v → DescOK H' F' w' d v
  | .dead, _, _ => trivial
  | .undef, _, h => h
  | .val _ _, _, h => ValOK.keep hH hs h
  | .ptr _ _ _, _, h => by obtain ⟨b, h1, h2⟩ := h; exact ⟨b, hH.val _ _ h1, h2⟩
  | .at _ _, _, h => by obtain ⟨b, off, h1, h2, h3⟩ := h; exact ⟨b, off, h1, (hs b h2).1, h3.keep hs h2⟩
  | .elem .., _, h => by obtain ⟨g, o0, q, T, m, cap, l, h1, h2, h3, h4⟩ := h; exact ⟨g, o0, q, T, m, cap, l, hH.val _ _ h1, h2, hH.con _ _ h3, h4⟩
  | .tup _, _, h => by obtain ⟨vs, h1, h2⟩ := h; exact ⟨vs, h1, h2.keep hH hs⟩
  | .dlm .., _, h => by obtain ⟨g, o0, q, m, cap, h1, h2, h3⟩ := h; exact ⟨g, o0, q, m, cap, hH.val _ _ h1, h2, h3⟩
  | .fn .., _, h => by obtain ⟨vs, h1, h2⟩ := h; exact ⟨vs, h1, h2.keep hH.val⟩
  | .ifc _ d, _, h => by obtain ⟨u, h1, h2⟩ := h; exact ⟨u, h1, DescOK.keep hH hs (d := d) h2⟩

/-! ## Lists by number -/
def find {α : Type} : List (Nat × α) → Nat → Option α
  | [], _ => none
  | (m, a) :: l, n => bif Nat.beq m n then some a else find l n
def del {α : Type} (ns : List Nat) : List (Nat × α) → List (Nat × α)
  | [] => []
  | (m, a) :: l => bif ns.any (Nat.beq m) then del ns l else (m, a) :: del ns l

theorem find_cons {α : Type} {m : Nat} {a : α} {l : List (Nat × α)} {n : Nat} : find ((m, a) :: l) n = if m = n then some a else find l n := by
  show (bif Nat.beq m n then some a else find l n) = _
  by_cases h : m = n
  · subst h; simp
  · rw [if_neg h]
    have : Nat.beq m n = false := by
      cases hb : Nat.beq m n with
      | false => rfl
      | true => exact absurd (Nat.eq_of_beq_eq_true hb) h
    simp [this]
theorem find_append {α : Type} {l l' : List (Nat × α)} {n : Nat} : find (l ++ l') n = (find l n).or (find l' n) := by
  induction l with
  | nil => rfl
  | cons p l ih =>
    obtain ⟨m, a⟩ := p
    rw [List.cons_append, find_cons, find_cons, ih]
    split <;> rfl
theorem any_beq {ns : List Nat} {m : Nat} : ns.any (Nat.beq m) = true ↔ m ∈ ns := by
  simp only [List.any_eq_true, Nat.beq_eq]
  exact ⟨fun ⟨x, hx, e⟩ => e ▸ hx, fun h => ⟨m, h, rfl⟩⟩
theorem find_del {α : Type} {ns : List Nat} {l : List (Nat × α)} {n : Nat} {a : α} : find (del ns l) n = some a ↔ n ∉ ns ∧ find l n = some a := by
  induction l with
  | nil => simp [del, find]
  | cons p l ih =>
    obtain ⟨m, b⟩ := p
    unfold del
    cases hm : ns.any (Nat.beq m) with
    | true =>
      have hin := any_beq.1 hm
      rw [cond_true, ih, find_cons]
      constructor
      · rintro ⟨h1, h2⟩
        have hne : m ≠ n := fun e => h1 (e ▸ hin)
        exact ⟨h1, by rw [if_neg hne]; exact h2⟩
      · rintro ⟨h1, h2⟩
        have hne : m ≠ n := fun e => h1 (e ▸ hin)
        rw [if_neg hne] at h2
        exact ⟨h1, h2⟩
    | false =>
      have hin : m ∉ ns := fun e => by rw [any_beq.2 e] at hm; cases hm
      rw [cond_false, find_cons, find_cons]
      by_cases h : m = n
      · subst h; simp [hin]
      · simp only [if_neg h]; exact ih


/-- The package-level variables that are laid: read alone, as the text lays them. -/
def GlobOK (F : Nat → Prop) (w : World) : Prop := ∀ g d, find globs g = some d → F g ∧ At F w d.1 g 0 d.2
theorem GlobOK.step {F F' : Nat → Prop} {w w' : World} (h : GlobOK F w) (hs : Step F w F' w') : GlobOK F' w' := fun g d hg => ⟨(hs g (h g d hg).1).1, (h g d hg).2.keep hs (h g d hg).1⟩

/-! ## Objects -/

/-- What the entries of a map hold. -/
def Ents (H : Hist) (F : Nat → Prop) (w : World) (K : Row) (agg : Bool) (V : Row) : List MapEntry → List (K.den × V.den) → Prop
  | [], l => l = []
  | e :: es, l => ∃ k x l', l = (k, x) :: l' ∧ keyV K k = some e.key ∧ ValOK H F w agg (.leaf V x) e.val ∧ Ents H F w K agg V es l'

theorem Ents.keep {H H' : Hist} {F F' : Nat → Prop} {w w' : World} (hH : H.le H') (hs : Step F w F' w') {K : Row} {agg : Bool} {V : Row} : {es : List MapEntry} → {l : List (K.den × V.den)} → Ents H F w K agg V es l → Ents H' F' w' K agg V es l
  | [], _, h => h
  | _ :: _, _, h => by obtain ⟨k, x, l', e, h1, h2, h3⟩ := h; exact ⟨k, x, l', e, h1, h2.keep hH hs, Ents.keep hH hs h3⟩

theorem Ents.hist {H H' : Hist} {F : Nat → Prop} {w : World} {K : Row} {agg : Bool} {V : Row} : {es : List MapEntry} → {l : List (K.den × V.den)} → Ents H F w K agg V es l → Ents H' F w K agg V es l
  | [], _, h => h
  | _ :: _, _, h => by
    obtain ⟨k, x, l', e, h1, ⟨cs, h2, h2'⟩, h3⟩ := h
    exact ⟨k, x, l', e, h1, ⟨cs, h2, h2'⟩, Ents.hist h3⟩

noncomputable def keyEq : (K : Row) → K.den → K.den → Bool
  | .int _, a, b => decide ((a : Int) = b)
  | .bool, a, b => decide ((a : Bool) = b)
  | .str, a, b => decide ((a : ByteArray) = b)
  | _, _, _ => false

/-- A slice of the call's own and its blocks. -/
def Own1 (F : Nat → Prop) (w : World) (E : TypeId) (r : Row) (v : Value) (y : List r.den) (A : Nat → Prop) : Prop := OwnM F w E r v y ∧ ∀ k, A k ↔ mine v k
/-- The entries of a map whose values own slices. -/
def DEnts (H : Hist) (F : Nat → Prop) (w : World) (K : Row) (E : TypeId) (r : Row) : Option (K.den × Nat) → List MapEntry → List (K.den × List r.den) → (Nat → Prop) → Prop
  | _, [], l, S => l = [] ∧ ∀ k, ¬ S k
  | none, e :: es, l, S => ∃ k y l' A B, l = (k, y) :: l' ∧ keyV K k = some e.key ∧ Own1 F w E r e.val y A ∧ DEnts H F w K E r none es l' B ∧ Two A B S
  | some (a, o), e :: es, l, S => ∃ k y l' A B, l = (k, y) :: l' ∧ keyV K k = some e.key ∧ ((keyEq K k a = true ∧ H.val o = some e.val ∧ (∀ j, ¬ A j) ∧ DEnts H F w K E r none es l' B) ∨ (keyEq K k a = false ∧ Own1 F w E r e.val y A ∧ DEnts H F w K E r (some (a, o)) es l' B)) ∧ Two A B S

theorem Own1.keep {F F' : Nat → Prop} {w w' : World} {E : TypeId} {r : Row} {v : Value} {y : List r.den} {A : Nat → Prop} (h : Own1 F w E r v y A) (hs : Step F w F' w') (hb : ∀ k, A k → w'.heap[k]? = w.heap[k]?) : Own1 F' w' E r v y A :=
  ⟨h.1.keep hs fun k hk => hb k ((h.2 k).2 hk), h.2⟩
theorem DEnts.keep {H H' : Hist} {F F' : Nat → Prop} {w w' : World} {K : Row} {E : TypeId} {r : Row} (hs : Step F w F' w') : {h : Option (K.den × Nat)} → {es : List MapEntry} → {l : List (K.den × List r.den)} → {S : Nat → Prop} → (∀ a o u, h = some (a, o) → H.val o = some u → H'.val o = some u) → DEnts H F w K E r h es l S → (∀ k, S k → w'.heap[k]? = w.heap[k]?) → DEnts H' F' w' K E r h es l S
  | none, [], _, _, _, h, _ => h
  | some _, [], _, _, _, h, _ => h
  | none, _ :: _, _, _, hH, h, hb => by
    obtain ⟨k, y, l', A, B, e, h1, h2, h3, h4⟩ := h
    exact ⟨k, y, l', A, B, e, h1, h2.keep hs fun k hk => hb k (h4.left k hk), h3.keep hs (fun _ _ _ e => by cases e) fun k hk => hb k (h4.right k hk), h4⟩
  | some (a, o), _ :: _, _, _, hH, h, hb => by
    obtain ⟨k, y, l', A, B, e, h1, h2, h4⟩ := h
    refine ⟨k, y, l', A, B, e, h1, ?_, h4⟩
    rcases h2 with ⟨g1, g2, g3, g4⟩ | ⟨g1, g2, g3⟩
    · exact .inl ⟨g1, hH _ _ _ rfl g2, g3, g4.keep hs (fun _ _ _ e => by cases e) fun k hk => hb k (h4.right k hk)⟩
    · exact .inr ⟨g1, g2.keep hs fun k hk => hb k (h4.left k hk), g3.keep hs hH fun k hk => hb k (h4.right k hk)⟩

/-- The elements of what is deep: the place of the hole is another object's. -/
def HRel (H : Hist) (F : Nat → Prop) (w : World) (d : DR) (h : Option Hole) (i : Nat) (x' : d.low.den) (x : d.row.den) (S : Nat → Prop) : Prop :=
  match h with
  | none => DEl F w d x' x S
  | some h => (h.i ≠ (i : Int) → DEl F w d x' x S) ∧ (h.i = (i : Int) → ∃ T' e, ∃ q : DPath d (.sl T' e), d.path h.p = some ⟨_, q⟩ ∧ DOut F w q x' x S ∧ H.val h.o = some (q.lo.get x'))
theorem HRel.keep {H H' : Hist} {F F' : Nat → Prop} {w w' : World} {d : DR} {h : Option Hole} {i : Nat} {x' : d.low.den} {x : d.row.den} {S : Nat → Prop} (hr : HRel H F w d h i x' x S) (hH : H.le H') (hs : Step F w F' w') (hb : ∀ k, S k → w'.heap[k]? = w.heap[k]?) : HRel H' F' w' d h i x' x S := by
  cases h with
  | none => exact DEl.keep hs hr hb
  | some h =>
    refine ⟨fun hi => (hr.1 hi).keep hs hb, fun hi => ?_⟩
    obtain ⟨T', e, q, h1, h2, h3⟩ := hr.2 hi
    exact ⟨T', e, q, h1, h2.keep hs hb, hH.val _ _ h3⟩

/-- The blocks of an object. -/
def fp (S : Nat → Prop) (v : Value) : Th → Nat → Prop
  | .box .., k => v = .pointer (some ⟨k, 0, none⟩)
  | .own .., k => mine v k
  | .frz .., _ => False
  | .map .., k => v = .map (some k)
  | .fmap .., _ => False
  | .deep .., k => S k
  | .fdeep .., _ => False
  | .dmap .., k => S k
  | .fdmap .., _ => False

def ThOK (H : Hist) (F : Nat → Prop) (w : World) (S : Nat → Prop) (v : Value) : Th → Prop
  | .box T t => ∃ b es, v = .pointer (some ⟨b, 0, none⟩) ∧ w.heap[b]? = some (.cells es.toArray T (0, 0)) ∧ Holds H F w t es
  | .own T r l => ∃ xs, ownsQ w 0 T r.size v l.length xs ∧ ∀ i (h : i < l.length), Rep F w r ((xs.drop (i * r.size)).take r.size) l[i]
  | .frz _ r l => Rep F w (.slice r) [v] l
  | .fmap _ K agg V l => Rep F w (.map K agg V) [v] l
  | .map _ K agg V l => ∃ b es clock, v = .map (some b) ∧ w.heap[b]? = some (.map es clock) ∧ MapKept.Stamped es clock ∧ Ents H F w K agg V es.toList l
  | .deep T d l h => DSl F w T d.low (HRel H F w d h) v l S
  | .fdeep _ d l => Rep F w (.slice d.row) [v] l
  | .dmap _ K E r l h => ∃ b es clock B, v = .map (some b) ∧ w.heap[b]? = some (.map es clock) ∧ MapKept.Stamped es clock ∧ DEnts H F w K E r h es.toList l B ∧ Two (is b) B S ∧ ∀ a o, h = some (a, o) → ∃ u, H.val o = some u
  | .fdmap _ K _ r l => Rep F w (.map K false (.slice r)) [v] l

/-- The object at id o: its value, its blocks apart from what is read. -/
structure ThIn (U : Nat → Prop) (H : Hist) (F : Nat → Prop) (w : World) (v : Value) (s : Nat) (t : Th) : Prop where
  one : v.oneCell' = true
  con : H.con s = some t.base
  ok : ThOK H F w (H.sub s) v t
  no : ∀ k, fp (H.sub s) v t k → ¬ F k
  lt : ∀ k, fp (H.sub s) v t k → k < w.heap.size
  use : ∀ k, fp (H.sub s) v t k → U k

/-- All objects that are alive. -/
structure ObSat (U : Nat → Prop) (H : Hist) (F : Nat → Prop) (w : World) (ob : Nat → Option (Nat × Th)) (n : Nat) : Prop where
  obj : ∀ o s t, ob o = some (s, t) → ∃ v, H.val o = some v ∧ ThIn U H F w v s t
  apart : ∀ o o' s s' t t' v v', o ≠ o' → ob o = some (s, t) → ob o' = some (s', t') → H.val o = some v → H.val o' = some v' → ∀ k, fp (H.sub s) v t k → ¬ fp (H.sub s') v' t' k
  fresh : ∀ m, n ≤ m → m < n + 16 → H.val m = none ∧ H.con m = none
  lt : ∀ b, F b → b < w.heap.size
  new : ∀ b, w.heap.size ≤ b → U b
  gl : GlobOK F w

theorem ThOK.heap {S : Nat → Prop} {v : Value} {t : Th} (h : ThOK H F w S v t) (hH : H.le H') (hs : Step F w F' w') (hb : ∀ k, fp S v t k → w'.heap[k]? = w.heap[k]?) : ThOK H' F' w' S v t := by
  cases t with
  | box T t =>
    obtain ⟨b, es, rfl, h1, h2⟩ := h
    exact ⟨b, es, rfl, (hb b rfl).trans h1, h2.keep hH hs⟩
  | own T r l =>
    obtain ⟨xs, ⟨hx1, hx2⟩, h3⟩ := h
    refine ⟨xs, ⟨hx1, ?_⟩, fun i hi => (h3 i hi).step hs⟩
    rcases hx2 with h2 | ⟨gg, o0, cap, cur, rfl, hb', hg, rest⟩
    · exact .inl h2
    · exact .inr ⟨gg, o0, cap, cur, rfl, hb', (hb gg rfl).trans hg, rest⟩
  | frz T r l => exact Rep.step (r := .slice r) hs h
  | fmap T K agg V l => exact Rep.step (r := .map K agg V) hs h
  | fdeep T d l => exact Rep.step (r := .slice d.row) hs h
  | deep T d l hh => exact DSl.mono (show DSl F w T d.low _ v l S from h) hs hb fun i x' hi A hA hr => hr.keep hH hs fun k hk => hb k (hA k hk)
  | map T K agg V l =>
    obtain ⟨b, es, clock, rfl, h1, h2, h3⟩ := h
    exact ⟨b, es, clock, rfl, (hb b rfl).trans h1, h2, h3.keep hH hs⟩
  | fdmap T K E r l => exact Rep.step (r := .map K false (.slice r)) hs h
  | dmap T K E r l hh =>
    obtain ⟨b, es, clock, B, rfl, h1, h2, h3, h4, h5⟩ := h
    exact ⟨b, es, clock, B, rfl, (hb b (h4.left b rfl)).trans h1, h2, h3.keep hs (fun a o u _ hu => hH.val _ _ hu) fun k hk => hb k (h4.right k hk), h4, fun a o e => (h5 a o e).imp fun u hu => hH.val _ _ hu⟩

theorem Own.of {v : Value} {T : TypeId} {r : Row} {l : List r.den} {S : Nat → Prop} (h : ThOK H F w S v (.own T r l)) (hn : ∀ k, mine v k → ¬ F k) : Own 0 F w T r v l := ⟨hn, h⟩
theorem Own.to {v : Value} {T : TypeId} {r : Row} {l : List r.den} (S : Nat → Prop) (h : Own 0 F w T r v l) : ThOK H F w S v (.own T r l) := h.2
end

structure State where
  slots : List (Nat × Desc)
  objs : List (Nat × (Nat × Th))
  nxt : Nat

/-- Nothing is known of what comes from n on. -/
def AllNew (H : Hist) (n : Nat) : Prop := ∀ m, n ≤ m → H.val m = none ∧ H.con m = none

structure Sat (U : Nat → Prop) (H : Hist) (F : Nat → Prop) (w : World) (ρ : Nat → Value) (st : State) : Prop where
  slot : ∀ t d, find st.slots t = some d → DescOK H F w d (ρ t)
  ob : ObSat U H F w (find st.objs) st.nxt
  all : AllNew H st.nxt

/-- What an operation comes to. -/
structure Eff where
  dst : Desc
  eat : List Nat := []
  make : List (Nat × (Nat × Th)) := []

def State.apply (st : State) (d : Option Nat) (e : Eff) : State :=
  { slots := (match d with | some d => (d, e.dst) :: st.slots | none => st.slots), objs := e.make ++ del e.eat st.objs, nxt := st.nxt + 16 }

def eaten (H : Hist) (ob : Nat → Option (Nat × Th)) (eat : List Nat) (k : Nat) : Prop := ∃ o ∈ eat, ∃ s t v, ob o = some (s, t) ∧ H.val o = some v ∧ fp (H.sub s) v t k

/-- From (H, F, w) to (H', F', w'): what was known is kept. -/
structure Evo (H : Hist) (F : Nat → Prop) (w : World) (H' : Hist) (F' : Nat → Prop) (w' : World) (g : Nat → Prop) : Prop where
  hist : H.le H'
  ext : Ext g w w'
  le : ∀ b, F b → F' b
  grow : ∀ b, F' b → F b ∨ w.heap.size ≤ b ∨ g b
  lt : ∀ b, F' b → b < w'.heap.size

structure Made (H' : Hist) (F' : Nat → Prop) (w w' : World) (g : Nat → Prop) (make : List (Nat × (Nat × Th))) : Prop where
  obj : ∀ o s t, find make o = some (s, t) → ∃ v, H'.val o = some v ∧ v.oneCell' = true ∧ H'.con s = some t.base ∧ ThOK H' F' w' (H'.sub s) v t ∧ ∀ k, fp (H'.sub s) v t k → ¬ F' k ∧ k < w'.heap.size ∧ (w.heap.size ≤ k ∨ g k)
  apart : ∀ o o' s s' t t' v v', o ≠ o' → find make o = some (s, t) → find make o' = some (s', t') → H'.val o = some v → H'.val o' = some v' → ∀ k, fp (H'.sub s) v t k → ¬ fp (H'.sub s') v' t' k

structure Post (H : Hist) (F : Nat → Prop) (w : World) (ob : Nat → Option (Nat × Th)) (n : Nat) (e : Eff) (v : Value) (w' : World) (H' : Hist) (F' : Nat → Prop) : Prop where
  evo : Evo H F w H' F' w' (eaten H ob e.eat)
  fresh : ∀ m, (m < n ∨ n + 16 ≤ m) → (H.val m = none → H'.val m = none) ∧ (H.con m = none → H'.con m = none)
  dst : DescOK H' F' w' e.dst v
  made : Made H' F' w w' (eaten H ob e.eat) e.make
  ids : ∀ o, (find e.make o).isSome → o ∈ e.eat ∨ n ≤ o

def PostE (H : Hist) (F : Nat → Prop) (w : World) (ob : Nat → Option (Nat × Th)) (n : Nat) (e : Eff) (v : Value) (w' : World) : Prop := ∃ H' F', Post H F w ob n e v w' H' F'

def updo (ρ : Nat → Value) : Option Nat → Value → Nat → Value
  | some d, v => upd ρ d v
  | none, _ => ρ

theorem upd_eq (ρ : Nat → Value) (d : Nat) (v : Value) (t : Nat) : upd ρ d v t = if t = d then v else ρ t := by
  unfold upd
  by_cases h : t = d
  · subst h; simp
  · have : Nat.beq t d = false := by
      cases hb : Nat.beq t d with
      | false => rfl
      | true => exact absurd (Nat.eq_of_beq_eq_true hb) h
    simp [this, h]

section
variable {U : Nat → Prop} {H H' : Hist} {F F' : Nat → Prop} {w w' : World} {ρ : Nat → Value} {st : State}

theorem Evo.step {g : Nat → Prop} (h : Evo H F w H' F' w' g) (hF : ∀ b, F b → b < w.heap.size) (hg : ∀ k, g k → ¬ F k) : Step F w F' w' :=
  fun b hb => ⟨h.le b hb, h.ext.block b (hF b hb) fun e => hg b e hb⟩

theorem ObSat.eaten_no {ob : Nat → Option (Nat × Th)} {n : Nat} (h : ObSat U H F w ob n) {eat : List Nat} : ∀ k, eaten H ob eat k → ¬ F k := by
  rintro k ⟨o, _, s, t, v, h1, h2, h3⟩
  obtain ⟨v', e, hi⟩ := h.obj o s t h1
  rw [h2] at e
  obtain rfl := Option.some.inj e
  exact hi.no k h3
theorem ObSat.eaten_lt {ob : Nat → Option (Nat × Th)} {n : Nat} (h : ObSat U H F w ob n) {eat : List Nat} : ∀ k, eaten H ob eat k → k < w.heap.size := by
  rintro k ⟨o, _, s, t, v, h1, h2, h3⟩
  obtain ⟨v', e, hi⟩ := h.obj o s t h1
  rw [h2] at e
  obtain rfl := Option.some.inj e
  exact hi.lt k h3
theorem ObSat.eaten_use {ob : Nat → Option (Nat × Th)} {n : Nat} (h : ObSat U H F w ob n) {eat : List Nat} : ∀ k, eaten H ob eat k → U k := by
  rintro k ⟨o, _, s, t, v, h1, h2, h3⟩
  obtain ⟨v', e, hi⟩ := h.obj o s t h1
  rw [h2] at e
  obtain rfl := Option.some.inj e
  exact hi.use k h3

/-- An object that is not eaten stays. -/
theorem ThIn.evo {ob : Nat → Option (Nat × Th)} {n : Nat} (hs : ObSat U H F w ob n) {eat : List Nat} (he : Evo H F w H' F' w' (eaten H ob eat)) {o s : Nat} {t : Th} {v : Value} (ho : ob o = some (s, t)) (hn : o ∉ eat) (hv : H.val o = some v) (h : ThIn U H F w v s t) : ThIn U H' F' w' v s t := by
  have hap : ∀ k, fp (H.sub s) v t k → ¬ eaten H ob eat k := by
    rintro k hk ⟨o', ho', s', t', v', h1, h2, h3⟩
    exact hs.apart o o' s s' t t' v v' (fun e => hn (e ▸ ho')) ho h1 hv h2 k hk h3
  have hsub := he.hist.sub _ _ h.con
  refine ⟨h.one, he.hist.con _ _ h.con, by rw [hsub]; exact h.ok.heap he.hist (he.step hs.lt hs.eaten_no) fun k hk => he.ext.block k (h.lt k hk) (hap k hk), fun k hk hF => ?_, fun k hk => Nat.lt_of_lt_of_le (h.lt k (by rwa [hsub] at hk)) he.ext.size, fun k hk => h.use k (by rwa [hsub] at hk)⟩
  rw [hsub] at hk
  rcases he.grow k hF with h1 | h1 | h1
  · exact h.no k hk h1
  · have := h.lt k hk; omega
  · exact hap k hk h1

/-- The objects behind an operation that saw obR of them. -/
theorem ObSat.applyF {ob obR ob' : Nat → Option (Nat × Th)} {n n' m : Nat} {e : Eff} {v : Value} (h : ObSat U H F w ob n) (hR : ∀ o x, obR o = some x → ob o = some x) (hp : Post H F w obR m e v w' H' F')
    (part : ∀ o s t, ob' o = some (s, t) → find e.make o = some (s, t) ∨ (o ∉ e.eat ∧ ob o = some (s, t) ∧ find e.make o = none)) (hfr : ∀ m, n' ≤ m → m < n' + 16 → H'.val m = none ∧ H'.con m = none) :
    ObSat U H' F' w' ob' n' := by
  have heaten : ∀ k, eaten H obR e.eat k → eaten H ob e.eat k := fun k ⟨o, ho, s, t, v, h1, h2⟩ => ⟨o, ho, s, t, v, hR _ _ h1, h2⟩
  have hevo : Evo H F w H' F' w' (eaten H ob e.eat) := ⟨hp.evo.hist, ⟨hp.evo.ext.os, hp.evo.ext.tape, hp.evo.ext.output, hp.evo.ext.size, fun k hk hn => hp.evo.ext.block k hk fun hh => hn (heaten k hh)⟩, hp.evo.le, fun b hb => (hp.evo.grow b hb).imp id fun h => h.imp id (heaten b), hp.evo.lt⟩
  have old : ∀ o s t, o ∉ e.eat → ob o = some (s, t) → ∃ v, H.val o = some v ∧ H'.val o = some v ∧ ThIn U H' F' w' v s t ∧ H'.sub s = H.sub s ∧ ∀ k, fp (H'.sub s) v t k → k < w.heap.size ∧ ¬ eaten H ob e.eat k := by
    intro o s t ho hf
    obtain ⟨v, hv, hi⟩ := h.obj o s t hf
    have hsub := hp.evo.hist.sub _ _ hi.con
    refine ⟨v, hv, hp.evo.hist.val _ _ hv, hi.evo h hevo hf ho hv, hsub, fun k hk => ?_⟩
    rw [hsub] at hk
    refine ⟨hi.lt k hk, ?_⟩
    rintro ⟨o', ho', s', t', v', h1, h2, h3⟩
    exact h.apart o o' s s' t t' v v' (fun e => ho (e ▸ ho')) hf h1 hv h2 k hk h3
  refine ⟨fun o s t ho => ?_, fun o o' s s' t t' v v' hne ho ho' hv hv' k hk hk' => ?_, hfr, hp.evo.lt, fun b hb => h.new b (Nat.le_trans hp.evo.ext.size hb), h.gl.step (hevo.step h.lt h.eaten_no)⟩
  · rcases part o s t ho with h1 | ⟨h1, h2, _⟩
    · obtain ⟨v, a1, a2, a3, a4, a5⟩ := hp.made.obj o s t h1
      exact ⟨v, a1, a2, a3, a4, fun k hk => (a5 k hk).1, fun k hk => (a5 k hk).2.1, fun k hk => (a5 k hk).2.2.elim (h.new k) (fun hh => h.eaten_use k (heaten k hh))⟩
    · obtain ⟨v, _, a2, a3, _, _⟩ := old o s t h1 h2
      exact ⟨v, a2, a3⟩
  · rcases part o s t ho with h1 | ⟨h1, h2, _⟩ <;> rcases part o' s' t' ho' with h1' | ⟨h1', h2', _⟩
    · exact hp.made.apart o o' s s' t t' v v' hne h1 h1' hv hv' k hk hk'
    · obtain ⟨u, _, a1, _, _, a5⟩ := hp.made.obj o s t h1
      obtain ⟨u', _, b2, _, _, b4⟩ := old o' s' t' h1' h2'
      have e1 := Option.some.inj (hv'.symm.trans b2)
      subst e1
      have e2 := Option.some.inj (hv.symm.trans ‹H'.val o = some u›)
      subst e2
      rcases (a5 k hk).2.2 with h3 | h3
      · have := (b4 k hk').1; omega
      · exact (b4 k hk').2 (heaten k h3)
    · obtain ⟨u, _, a1, _, _, a5⟩ := hp.made.obj o' s' t' h1'
      obtain ⟨u', _, b2, _, _, b4⟩ := old o s t h1 h2
      have e1 := Option.some.inj (hv.symm.trans b2)
      subst e1
      have e2 := Option.some.inj (hv'.symm.trans ‹H'.val o' = some u›)
      subst e2
      rcases (a5 k hk').2.2 with h3 | h3
      · have := (b4 k hk).1; omega
      · exact (b4 k hk).2 (heaten k h3)
    · obtain ⟨u, b1, b2, _, b5, _⟩ := old o s t h1 h2
      obtain ⟨u', c1, c2, _, c5, _⟩ := old o' s' t' h1' h2'
      rw [b5] at hk
      rw [c5] at hk'
      have e1 := Option.some.inj (hv.symm.trans b2)
      have e2 := Option.some.inj (hv'.symm.trans c2)
      subst e1; subst e2
      exact h.apart o o' s s' t t' v v' hne h2 h2' b1 c1 k hk hk'

theorem find_apply {objs : List (Nat × (Nat × Th))} {e : Eff} : ∀ o s t, find (e.make ++ del e.eat objs) o = some (s, t) → find e.make o = some (s, t) ∨ (o ∉ e.eat ∧ find objs o = some (s, t) ∧ find e.make o = none) := by
  intro o s t ho
  rw [find_append] at ho
  cases hm : find e.make o with
  | some x => rw [hm] at ho; exact .inl ho
  | none =>
    rw [hm, Option.none_or] at ho
    obtain ⟨h1, h2⟩ := find_del.1 ho
    exact .inr ⟨h1, h2, rfl⟩

theorem Sat.apply {d : Option Nat} {e : Eff} {v : Value} (h : Sat U H F w ρ st) (hp : Post H F w (find st.objs) st.nxt e v w' H' F') : Sat U H' F' w' (updo ρ d v) (st.apply d e) := by
  have hall : AllNew H' (st.nxt + 16) := fun m hm => ⟨(hp.fresh m (.inr hm)).1 (h.all m (by omega)).1, (hp.fresh m (.inr hm)).2 (h.all m (by omega)).2⟩
  refine ⟨fun t q hq => ?_, h.ob.applyF (fun _ _ h => h) hp find_apply fun m hm _ => hall m hm, hall⟩
  have hst := hp.evo.step h.ob.lt h.ob.eaten_no
  cases d with
  | none => exact (h.slot t q hq).keep hp.evo.hist hst
  | some d =>
    have hq' : find ((d, e.dst) :: st.slots) t = some q := hq
    rw [find_cons] at hq'
    show DescOK H' F' w' q (upd ρ d v t)
    rw [upd_eq]
    by_cases hd : d = t
    · rw [if_pos hd] at hq'
      rw [if_pos hd.symm]
      obtain rfl := Option.some.inj hq'
      exact hp.dst
    · rw [if_neg hd] at hq'
      rw [if_neg (Ne.symm hd)]
      exact (h.slot t q hq').keep hp.evo.hist hst
end
end Go.Proofs.YtjeeligfdpociaaGreat
