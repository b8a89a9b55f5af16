/- Parts of what cells hold: got, put, read as plain data. -/
import Derived.Test.YtjeeligfdpociaaGreatEff
namespace Go.Proofs.YtjeeligfdpociaaGreat
open Go Go.RowKit

def Tree.split : Tree → Option (Tree × Tree)
  | .leaf (.pair a b) x => some (.leaf a x.1, .leaf b x.2)
  | .pair a b => some (a, b)
  | _ => none

def Tree.get : Tree → List Bool → Option (Tree × Nat)
  | t, [] => some (t, 0)
  | t, d :: p => match t.split with
    | none => none
    | some (a, b) => match d with
      | false => Tree.get a p
      | true => match Tree.get b p with
        | none => none
        | some (s, off) => some (s, a.size + off)

def Tree.put : Tree → List Bool → Tree → Option Tree
  | _, [], u => some u
  | t, d :: p, u => match t.split with
    | none => none
    | some (a, b) => match d with
      | false => match Tree.put a p u with
        | none => none
        | some a' => some (.pair a' b)
      | true => match Tree.put b p u with
        | none => none
        | some b' => some (.pair a b')

/-- Field f of a struct with m fields. -/
def fpath : Nat → Nat → List Bool
  | 0, _ => []
  | 1, _ => []
  | _ + 2, 0 => [false]
  | m + 2, f + 1 => true :: fpath (m + 1) f

section
variable {H : Hist} {F : Nat → Prop} {w : World}

theorem Holds.split {t a b : Tree} {cs : List Value} (hs : t.split = some (a, b)) (h : Holds H F w t cs) : ∃ c1 c2, cs = c1 ++ c2 ∧ Holds H F w a c1 ∧ Holds H F w b c2 ∧ t.size = a.size + b.size := by
  unfold Tree.split at hs
  split at hs <;> cases hs
  · obtain ⟨c1, c2, e, h1, h2⟩ := h
    exact ⟨c1, c2, e, h1, h2, rfl⟩
  · obtain ⟨c1, c2, e, h1, h2⟩ := h
    exact ⟨c1, c2, e, h1, h2, rfl⟩

theorem Holds.get : {p : List Bool} → {t s : Tree} → {off : Nat} → {cs : List Value} → t.get p = some (s, off) → Holds H F w t cs → Holds H F w s ((cs.drop off).take s.size) ∧ off + s.size ≤ cs.length
  | [], t, s, off, cs, hg, h => by
    obtain ⟨rfl, rfl⟩ := Prod.mk.inj (Option.some.inj hg)
    have hl := h.length
    refine ⟨?_, by omega⟩
    rw [List.drop_zero, ← hl, List.take_length]
    exact h
  | d :: p, t, s, off, cs, hg, h => by
    unfold Tree.get at hg
    cases hsp : t.split with
    | none => rw [hsp] at hg; cases hg
    | some ab =>
      obtain ⟨a, b⟩ := ab
      rw [hsp] at hg
      obtain ⟨c1, c2, rfl, h1, h2, _⟩ := h.split hsp
      have hl1 := h1.length
      cases d with
      | false =>
        obtain ⟨g1, g2⟩ := Holds.get hg h1
        refine ⟨?_, by rw [List.length_append]; omega⟩
        rw [List.drop_append_of_le_length (by omega), List.take_append_of_le_length (by rw [List.length_drop]; omega)]
        exact g1
      | true =>
        cases hb : b.get p with
        | none => simp only [hb] at hg; cases hg
        | some so =>
          obtain ⟨s', off'⟩ := so
          simp only [hb, Option.some.injEq, Prod.mk.injEq] at hg
          obtain ⟨rfl, rfl⟩ := hg
          obtain ⟨g1, g2⟩ := Holds.get hb h2
          refine ⟨?_, by rw [List.length_append]; omega⟩
          rw [← hl1, List.drop_append, List.drop_of_length_le (by omega), List.nil_append, show c1.length + off' - c1.length = off' from by omega]
          exact g1

theorem Holds.put {u : Tree} {vs : List Value} (hu : Holds H F w u vs) : {p : List Bool} → {t s t' : Tree} → {off : Nat} → {cs : List Value} → t.get p = some (s, off) → t.put p u = some t' → s.size = u.size → Holds H F w t cs →
    Holds H F w t' (cs.take off ++ vs ++ cs.drop (off + u.size))
  | [], t, s, t', off, cs, hg, hp, hz, h => by
    obtain ⟨rfl, rfl⟩ := Prod.mk.inj (Option.some.inj hg)
    obtain rfl := Option.some.inj hp
    have hl := h.length
    rw [List.take_zero, List.nil_append, Nat.zero_add, List.drop_of_length_le (by omega), List.append_nil]
    exact hu
  | d :: p, t, s, t', off, cs, hg, hp, hz, h => by
    unfold Tree.get at hg
    unfold Tree.put at hp
    cases hsp : t.split with
    | none => rw [hsp] at hg; cases hg
    | some ab =>
      obtain ⟨a, b⟩ := ab
      rw [hsp] at hg hp
      obtain ⟨c1, c2, rfl, h1, h2, _⟩ := h.split hsp
      have hl1 := h1.length
      cases d with
      | false =>
        cases hq : a.put p u with
        | none => simp only [hq] at hp; cases hp
        | some a' =>
          simp only [hq, Option.some.injEq] at hp
          subst hp
          have h3 := Holds.put hu hg hq hz h1
          have g2 := (Holds.get hg h1).2
          refine ⟨_, c2, ?_, h3, h2⟩
          rw [List.take_append_of_le_length (by omega), List.drop_append_of_le_length (by omega)]
          simp [List.append_assoc]
      | true =>
        cases hb : b.get p with
        | none => simp only [hb] at hg; cases hg
        | some so =>
          obtain ⟨s', off'⟩ := so
          simp only [hb, Option.some.injEq, Prod.mk.injEq] at hg
          obtain ⟨rfl, rfl⟩ := hg
          cases hq : b.put p u with
          | none => simp only [hq] at hp; cases hp
          | some b' =>
            simp only [hq, Option.some.injEq] at hp
            subst hp
            have h3 := Holds.put hu hb hq hz h2
            refine ⟨c1, _, ?_, h1, h3⟩
            rw [← hl1, List.take_append, List.take_of_length_le (by omega), List.drop_append, List.drop_of_length_le (by omega), show c1.length + off' - c1.length = off' from by omega,
              show c1.length + off' + u.size - c1.length = off' + u.size from by omega]
            simp [List.append_assoc]
end

/-! ## Read as plain data -/
def Nul.beq : Nul → Nul → Bool
  | .map, .map => true
  | .ptr, .ptr => true
  | .func, .func => true
  | _, _ => false
theorem Nul.eq_of_beq {a b : Nul} (h : a.beq b = true) : a = b := by cases a <;> cases b <;> first | rfl | cases h
def Row.beq : Row → Row → Bool
  | .int k, .int k' => decide (k = k')
  | .bool, .bool => true
  | .str, .str => true
  | .hdr, .hdr => true
  | .nul a, .nul b => a.beq b
  | .map a x b, .map c y d => a.beq c && (bif x then y else !y) && b.beq d
  | .slice a, .slice b => a.beq b
  | .pair a b, .pair c d => a.beq c && b.beq d
  | _, _ => false
theorem Row.eq_of_beq : {r s : Row} → r.beq s = true → r = s
  | .int k, .int k', h => by rw [of_decide_eq_true (show decide (k = k') = true from h)]
  | .bool, .bool, _ => rfl
  | .str, .str, _ => rfl
  | .hdr, .hdr, _ => rfl
  | .nul a, .nul b, h => by rw [Nul.eq_of_beq (show a.beq b = true from h)]
  | .map a x b, .map c y d, h => by
    have h' : (a.beq c && (bif x then y else !y) && b.beq d) = true := h
    rw [Bool.and_eq_true, Bool.and_eq_true] at h'
    have hxy : x = y := by cases x <;> cases y <;> simp_all
    rw [Row.eq_of_beq h'.1.1, Row.eq_of_beq h'.2, hxy]
  | .slice a, .slice b, h => by rw [Row.eq_of_beq (show a.beq b = true from h)]
  | .pair a b, .pair c d, h => by
    have h' : (a.beq c && b.beq d) = true := h
    rw [Bool.and_eq_true] at h'
    rw [Row.eq_of_beq h'.1, Row.eq_of_beq h'.2]
def castR {r s : Row} (h : r = s) (x : r.den) : s.den := h ▸ x

theorem Row.beq_refl : (r : Row) → r.beq r = true
  | .int k => by simp [Row.beq]
  | .bool => rfl
  | .str => rfl
  | .hdr => rfl
  | .nul a => by cases a <;> rfl
  | .map a x b => by
    show (a.beq a && (bif x then x else !x) && b.beq b) = true
    rw [Row.beq_refl a, Row.beq_refl b]
    cases x <;> rfl
  | .slice a => Row.beq_refl a
  | .pair a b => by
    show (a.beq a && b.beq b) = true
    rw [Row.beq_refl a, Row.beq_refl b]
    rfl

def DR.beq : DR → DR → Bool
  | .leaf r, .leaf s => r.beq s
  | .sl T d, .sl T' d' => Nat.beq T T' && d.beq d'
  | .pair a b, .pair c d => a.beq c && b.beq d
  | _, _ => false
theorem DR.eq_of_beq : {d e : DR} → d.beq e = true → d = e
  | .leaf r, .leaf s, h => by rw [Row.eq_of_beq (show r.beq s = true from h)]
  | .sl T d, .sl T' d', h => by
    obtain ⟨h1, h2⟩ := (Bool.and_eq_true _ _ ▸ (show (Nat.beq T T' && d.beq d') = true from h) : Nat.beq T T' = true ∧ d.beq d' = true)
    rw [Nat.eq_of_beq_eq_true h1, DR.eq_of_beq h2]
  | .pair a b, .pair c d, h => by
    obtain ⟨h1, h2⟩ := (Bool.and_eq_true _ _ ▸ (show (a.beq c && b.beq d) = true from h) : a.beq c = true ∧ b.beq d = true)
    rw [DR.eq_of_beq h1, DR.eq_of_beq h2]
  | .leaf _, .sl .., h => by cases h
  | .leaf _, .pair .., h => by cases h
  | .sl .., .leaf _, h => by cases h
  | .sl .., .pair .., h => by cases h
  | .pair .., .leaf _, h => by cases h
  | .pair .., .sl .., h => by cases h
theorem DR.beq_refl : (d : DR) → d.beq d = true
  | .leaf r => Row.beq_refl r
  | .sl T d => by show (Nat.beq T T && d.beq d) = true; rw [DR.beq_refl d, Bool.and_true]; exact Nat.beq_refl T
  | .pair a b => by show (a.beq a && b.beq b) = true; rw [DR.beq_refl a, DR.beq_refl b]; rfl

def pathBeq : List Bool → List Bool → Bool
  | [], [] => true
  | a :: p, b :: q => (bif a then b else !b) && pathBeq p q
  | _, _ => false
theorem pathBeq_eq : {p q : List Bool} → pathBeq p q = true → p = q
  | [], [], _ => rfl
  | a :: p, b :: q, h => by
    have h' : ((bif a then b else !b) && pathBeq p q) = true := h
    rw [Bool.and_eq_true] at h'
    rw [pathBeq_eq h'.2]
    have := h'.1
    cases a <;> cases b <;> simp_all
  | [], _ :: _, h => by cases h
  | _ :: _, [], h => by cases h

/-- What a tree reads as, as row r: slices that are frozen are looked through. -/
def flat (ob : Nat → Option (Nat × Th)) : (r : Row) → Tree → Option r.den
  | r, .leaf s x => if h : s.beq r = true then some (castR (Row.eq_of_beq h) x) else none
  | .slice e, .own o => match ob o with
    | some (_, .frz _ s l) => if h : s.beq e = true then some (castR (r := .slice s) (s := .slice e) (congrArg Row.slice (Row.eq_of_beq h)) l) else none
    | some (_, .fdeep _ d l) => if h : d.row.beq e = true then some (castR (r := .slice d.row) (s := .slice e) (congrArg Row.slice (Row.eq_of_beq h)) l) else none
    | _ => none
  | .slice _, .nil => some []
  | .map K agg V, .own o => match ob o with
    | some (_, .fmap _ K' agg' V' l) => if h : (Row.map K' agg' V').beq (.map K agg V) = true then some (castR (Row.eq_of_beq h) l) else none
    | some (_, .fdmap _ K' _ r' l) => if h : (Row.map K' false (.slice r')).beq (.map K agg V) = true then some (castR (r := .map K' false (.slice r')) (Row.eq_of_beq h) l) else none
    | _ => none
  | .slice e, .view o s r m => match ob o with
    | some (s', .frz ..) => bif Nat.beq s' s then (if h : r.beq e = true then some (castR (r := .slice r) (s := .slice e) (congrArg Row.slice (Row.eq_of_beq h)) m) else none) else none
    | _ => none
  | .pair a b, .pair t u => match flat ob a t with
    | none => none
    | some x => match flat ob b u with
      | none => none
      | some y => some (x, y)
  | _, _ => none

section
variable {U : Nat → Prop} {H : Hist} {F : Nat → Prop} {w : World} {ob : Nat → Option (Nat × Th)} {n : Nat}

theorem view_read (hs : ObSat U H F w ob n) {o s : Nat} {T : TypeId} {r0 r : Row} {l0 : List r0.den} {m : List r.den} {v : Value} (ho : ob o = some (s, .frz T r0 l0)) (h : ViewOK H o s r m v) : Rep F w (.slice r) [v] m := by
  obtain ⟨A, cap, T', l, a, b, h1, h2, h3, h4, rfl, rfl⟩ := h
  obtain ⟨v', hv', hin⟩ := hs.obj _ _ _ ho
  rw [h1] at hv'
  obtain rfl := Option.some.inj hv'
  have e := hin.con
  rw [h2] at e
  simp only [Th.base, Option.some.injEq, Th.own.injEq] at e
  obtain ⟨rfl, rfl, e⟩ := e
  obtain rfl := eq_of_heq e
  exact Rep.cut hin.ok h3 h4

theorem flat_ok (hs : ObSat U H F w ob n) : {r : Row} → {t : Tree} → {x : r.den} → {cs : List Value} → flat ob r t = some x → Holds H F w t cs → Rep F w r cs x
  | r, .leaf s x0, x, cs, hf, h => by
    unfold flat at hf
    split at hf
    · rename_i e
      obtain rfl := Row.eq_of_beq e
      obtain rfl := Option.some.inj hf
      exact h
    · cases hf
  | .slice e, .own o, x, cs, hf, h => by
    unfold flat at hf
    split at hf
    · rename_i s0 T s l heq
      split at hf
      · rename_i e
        obtain rfl := Row.eq_of_beq e
        obtain rfl := Option.some.inj hf
        obtain ⟨v, hv, _, rfl⟩ := h
        obtain ⟨v', hv', hin⟩ := hs.obj _ _ _ heq
        rw [hv] at hv'
        obtain rfl := Option.some.inj hv'
        exact hin.ok
      · cases hf
    · rename_i s0 T d l heq
      split at hf
      · rename_i e
        obtain rfl := Row.eq_of_beq e
        obtain rfl := Option.some.inj hf
        obtain ⟨v, hv, _, rfl⟩ := h
        obtain ⟨v', hv', hin⟩ := hs.obj _ _ _ heq
        rw [hv] at hv'
        obtain rfl := Option.some.inj hv'
        exact hin.ok
      · cases hf
    · cases hf
  | .map K agg V, .own o, x, cs, hf, h => by
    unfold flat at hf
    split at hf
    · rename_i s0 T K' agg' V' l heq
      split at hf
      · rename_i e
        cases Row.eq_of_beq e
        obtain rfl := Option.some.inj hf
        obtain ⟨v, hv, _, rfl⟩ := h
        obtain ⟨v', hv', hin⟩ := hs.obj _ _ _ heq
        rw [hv] at hv'
        obtain rfl := Option.some.inj hv'
        exact hin.ok
      · cases hf
    · rename_i s0 T K' E r' l heq
      split at hf
      · rename_i e
        cases Row.eq_of_beq e
        obtain rfl := Option.some.inj hf
        obtain ⟨v, hv, _, rfl⟩ := h
        obtain ⟨v', hv', hin⟩ := hs.obj _ _ _ heq
        rw [hv] at hv'
        obtain rfl := Option.some.inj hv'
        exact hin.ok
      · cases hf
    · cases hf
  | .slice e, .nil, x, cs, hf, h => by
    unfold flat at hf
    obtain rfl := Option.some.inj hf
    rw [show cs = _ from h]
    exact Rep.nil F w e
  | .slice e, .view o s r m, x, cs, hf, h => by
    unfold flat at hf
    split at hf
    · rename_i s' T r' l' heq
      cases hb : Nat.beq s' s with
      | false => rw [hb] at hf; cases hf
      | true =>
        rw [hb, cond_true] at hf
        obtain rfl := Nat.eq_of_beq_eq_true hb
        split at hf
        · rename_i e
          obtain rfl := Row.eq_of_beq e
          obtain rfl := Option.some.inj hf
          obtain ⟨v, rfl, h⟩ := h
          exact view_read hs heq h
        · cases hf
    · cases hf
  | .pair a b, .pair t u, x, cs, hf, h => by
    obtain ⟨c1, c2, rfl, h1, h2⟩ := h
    unfold flat at hf
    cases ha : flat ob a t with
    | none => simp only [ha] at hf; cases hf
    | some p =>
      cases hb : flat ob b u with
      | none => simp only [ha, hb] at hf; cases hf
      | some q =>
        simp only [ha, hb, Option.some.injEq] at hf
        subst hf
        exact ⟨c1, c2, rfl, flat_ok hs ha h1, flat_ok hs hb h2⟩
  | .int _, .own _, _, _, hf, _ => by unfold flat at hf; cases hf
  | .bool, .own _, _, _, hf, _ => by unfold flat at hf; cases hf
  | .str, .own _, _, _, hf, _ => by unfold flat at hf; cases hf
  | .hdr, .own _, _, _, hf, _ => by unfold flat at hf; cases hf
  | .nul _, .own _, _, _, hf, _ => by unfold flat at hf; cases hf
  | .pair _ _, .own _, _, _, hf, _ => by unfold flat at hf; cases hf
  | .int _, .nil, _, _, hf, _ => by unfold flat at hf; cases hf
  | .bool, .nil, _, _, hf, _ => by unfold flat at hf; cases hf
  | .str, .nil, _, _, hf, _ => by unfold flat at hf; cases hf
  | .hdr, .nil, _, _, hf, _ => by unfold flat at hf; cases hf
  | .nul _, .nil, _, _, hf, _ => by unfold flat at hf; cases hf
  | .map .., .nil, _, _, hf, _ => by unfold flat at hf; cases hf
  | .pair _ _, .nil, _, _, hf, _ => by unfold flat at hf; cases hf
  | .int _, .view .., _, _, hf, _ => by unfold flat at hf; cases hf
  | .bool, .view .., _, _, hf, _ => by unfold flat at hf; cases hf
  | .str, .view .., _, _, hf, _ => by unfold flat at hf; cases hf
  | .hdr, .view .., _, _, hf, _ => by unfold flat at hf; cases hf
  | .nul _, .view .., _, _, hf, _ => by unfold flat at hf; cases hf
  | .map .., .view .., _, _, hf, _ => by unfold flat at hf; cases hf
  | .pair _ _, .view .., _, _, hf, _ => by unfold flat at hf; cases hf
  | .int _, .pair _ _, _, _, hf, _ => by unfold flat at hf; cases hf
  | .bool, .pair _ _, _, _, hf, _ => by unfold flat at hf; cases hf
  | .str, .pair _ _, _, _, hf, _ => by unfold flat at hf; cases hf
  | .hdr, .pair _ _, _, _, hf, _ => by unfold flat at hf; cases hf
  | .nul _, .pair _ _, _, _, hf, _ => by unfold flat at hf; cases hf
  | .map .., .pair _ _, _, _, hf, _ => by unfold flat at hf; cases hf
  | .slice _, .pair _ _, _, _, hf, _ => by unfold flat at hf; cases hf
end

/-- A zero value, slices nil. -/
def Row.ztree : Row → Tree
  | .slice _ => .nil
  | .pair a b => .pair a.ztree b.ztree
  | r => .leaf r r.zero
theorem Row.ztree_holds (H : Hist) (F : Nat → Prop) (w : World) : (r : Row) → Holds H F w r.ztree r.zeros
  | .int _ => rfl
  | .bool => rfl
  | .str => rfl
  | .slice _ => rfl
  | .hdr => ⟨rfl, none, 0, 0, rfl⟩
  | .nul _ => rfl
  | .map .. => ⟨_, rfl, .inl ⟨rfl, rfl⟩⟩
  | .pair a b => ⟨_, _, rfl, Row.ztree_holds H F w a, Row.ztree_holds H F w b⟩
end Go.Proofs.YtjeeligfdpociaaGreat
