/- Calls: what a function's contract says, and what a call of it comes to. -/
import Derived.Test.YtjeeligfdpociaaGreatPack2
namespace Go.Proofs.YtjeeligfdpociaaGreat
open Go Go.RowKit

structure Sig where
  inn : JS
  out : JS
  fn : tupDen inn.rows → Option (tupDen out.rows)

def retV : List Value → Value
  | [v] => v
  | vs => .tuple vs.toArray

/-- The contract of a function. -/
structure FnOK (P : Program) (f : FuncId) (sg : Sig) : Prop where
  fn : ∃ fn, P.funcs[f]? = some fn ∧ (fn.name == "runtime.NumGoroutine") = false ∧ fn.body.isNone = false
  ok : ∀ x y, sg.fn x = some y → ∀ (args : List Value) (w : World) (H : Hist) (F G : Nat → Prop), args.length = sg.inn.slots.length →
    (∀ t d, find (resS sg.inn.slots (ofTup _ x)).1 t = some d → DescOK H F w d (args.getD t undef)) →
    ObSat (fun k => w.heap.size ≤ k ∨ G k) H F w (find (resO 0 sg.inn.objs (resS sg.inn.slots (ofTup _ x)).2)) sg.inn.nxt → AllNew H sg.inn.nxt → (∀ k, G k → ¬ F k) →
    Calls P f args.toArray w fun e w' => ∃ vs, e = .returned (retV vs) ∧ vs.length = sg.out.slots.length ∧ ∃ H' F', Ext G w w' ∧ H.le H' ∧ (∀ b, F b → F' b) ∧ (∀ b, F' b → F b ∨ w.heap.size ≤ b ∨ G b) ∧
      (∀ t d, find (resS sg.out.slots (ofTup _ y)).1 t = some d → DescOK H' F' w' d (vs.getD t undef)) ∧
      ObSat (fun k => w.heap.size ≤ k ∨ G k) H' F' w' (find (resO sg.inn.nxt sg.out.objs (resS sg.out.slots (ofTup _ y)).2)) sg.out.nxt ∧ AllNew H' sg.out.nxt

/-! ## Names anew -/
def Sh.ren (φ : Nat → Nat) : Sh → Sh
  | .leaf r => .leaf r
  | .own j => .own (φ j)
  | .nil => .nil
  | .pair a b => .pair (a.ren φ) (b.ren φ)
def SS.ren (φ : Nat → Nat) : SS → SS
  | .val agg t => .val agg (t.ren φ)
  | .ptr j p off => .ptr (φ j) p off
  | .at r => .at r
  | .undef => .undef
  | .fn f js => .fn f (js.map fun c => (φ c.1, c.2))
  | .ifc T s => .ifc T (s.ren φ)
def OS.ren (φ : Nat → Nat) : OS → OS
  | .box T t => .box T (t.ren φ)
  | .own T r => .own T r
  | .map T K agg V => .map T K agg V
  | .deep T d => .deep T d
  | .dmap T K E r => .dmap T K E r
def renS (φ : Nat → Nat) : List (Nat × SS) → List (Nat × SS)
  | [] => []
  | (t, s) :: l => (t, s.ren φ) :: renS φ l
def renO (φ : Nat → Nat) : List (Nat × OS) → List (Nat × OS)
  | [] => []
  | (j, s) :: l => (φ j, s.ren φ) :: renO φ l

/-- No slice is looked through. -/
def Row.flatB : Row → Bool
  | .slice _ => false
  | .map .. => false
  | .pair a b => a.flatB && b.flatB
  | _ => true
def DR.allB (p : Row → Bool) : DR → Bool
  | .leaf r => p r
  | .sl _ d => d.allB p
  | .pair a b => a.allB p && b.allB p
def Sh.allB (p : Row → Bool) : Sh → Bool
  | .leaf r => p r
  | .pair a b => a.allB p && b.allB p
  | _ => true
def SS.allB (p : Row → Bool) : SS → Bool
  | .val _ t => t.allB p
  | .at _ => false
  | .ifc _ s => s.allB p
  | _ => true
def OS.allB (p : Row → Bool) : OS → Bool
  | .box _ t => t.allB p
  | .own _ r => p r
  | .map _ _ _ V => p V
  | .deep _ d => d.allB p
  | .dmap _ _ _ r => p r
def slotsB (p : Row → Bool) : List (Nat × SS) → Bool
  | [] => true
  | (_, s) :: l => s.allB p && slotsB p l
def objsB (p : Row → Bool) : List (Nat × OS) → Bool
  | [] => true
  | (_, s) :: l => s.allB p && objsB p l
def noAt : List (Nat × SS) → Bool
  | [] => true
  | (_, .at _) :: _ => false
  | _ :: l => noAt l

section
variable {H H' : Hist} {F F' : Nat → Prop} {w w' : World} {φ : Nat → Nat} {p : Row → Bool}

theorem Rep.ofFlat : {r : Row} → {cs : List Value} → {x : r.den} → r.flatB = true → Rep F w r cs x → Rep F' w' r cs x
  | .int _, _, _, _, h => h
  | .bool, _, _, _, h => h
  | .str, _, _, _, h => h
  | .hdr, _, _, _, h => h
  | .nul _, _, _, _, h => h
  | .map .., _, _, hf, _ => by cases hf
  | .slice _, _, _, hf, _ => by cases hf
  | .pair a b, _, _, hf, h => by
    obtain ⟨c1, c2, e, h1, h2⟩ := h
    obtain ⟨f1, f2⟩ := and2 hf
    exact ⟨c1, c2, e, Rep.ofFlat f1 h1, Rep.ofFlat f2 h2⟩

/-- From the callee's names to the caller's. -/
def Ren (H H' : Hist) (φ : Nat → Nat) : Prop := ∀ j v, H.val j = some v → H'.val (φ j) = some v
/-- What reads as r here reads so there. -/
def Moves (p : Row → Bool) (F F' : Nat → Prop) (w : World) : Prop := ∀ r, p r = true → ∀ cs x, Rep F w r cs x → Rep F' w r cs x

theorem resT_snd : (sh : Sh) → (vs : List Dat) → (resT (sh.ren φ) vs).2 = (resT sh vs).2
  | .leaf r, [] => rfl
  | .leaf r, _ :: _ => rfl
  | .own j, vs => rfl
  | .nil, vs => rfl
  | .pair a b, vs => by
    show (resT (b.ren φ) (resT (a.ren φ) vs).2).2 = _
    rw [resT_snd a, resT_snd b]
    rfl
theorem resS1_snd (s : SS) (vs : List Dat) : (resS1 (s.ren φ) vs).2 = (resS1 s vs).2 := by
  induction s with
  | ifc T s ih => exact ih
  | val agg t => exact resT_snd t vs
  | ptr j p off => rfl
  | «at» r => cases vs <;> rfl
  | undef => rfl
  | fn f js => rfl
theorem resO1_snd (s : OS) (vs : List Dat) : (resO1 (s.ren φ) vs).2 = (resO1 s vs).2 := by
  cases s with
  | box T t => exact resT_snd t vs
  | own T r => rfl
  | map T K agg V => rfl
  | deep T d => rfl
  | dmap T K E r => rfl
theorem resS_snd : (l : List (Nat × SS)) → (vs : List Dat) → (resS (renS φ l) vs).2 = (resS l vs).2
  | [], _ => rfl
  | (t, s) :: l, vs => by
    show (resS (renS φ l) (resS1 (s.ren φ) vs).2).2 = (resS l (resS1 s vs).2).2
    rw [resS1_snd, resS_snd l]

theorem resT_ren (hr : Ren H H' φ) (hm : Moves p F F' w) : {sh : Sh} → {vs : List Dat} → {cs : List Value} → sh.allB p = true → Holds H F w (resT sh vs).1 cs → Holds H' F' w (resT (sh.ren φ) vs).1 cs
  | .leaf r, [], cs, _, h => h
  | .leaf r, ⟨s, x⟩ :: vs, cs, hp, h => by
    have h' : Holds H F w (bif s.beq r then Tree.leaf s x else .nil) cs := h
    show Holds H' F' w (bif s.beq r then Tree.leaf s x else .nil) cs
    cases hb : s.beq r with
    | true =>
      rw [hb, cond_true] at h'
      obtain rfl := Row.eq_of_beq hb
      exact hm _ hp _ _ h'
    | false => rw [hb] at h'; exact h'
  | .own j, vs, cs, _, h => by obtain ⟨v, h1, h2⟩ := h; exact ⟨v, hr j v h1, h2⟩
  | .nil, vs, cs, _, h => h
  | .pair a b, vs, cs, hp, h => by
    obtain ⟨c1, c2, e, h1, h2⟩ := h
    obtain ⟨p1, p2⟩ := and2 hp
    refine ⟨c1, c2, e, resT_ren hr hm p1 h1, ?_⟩
    rw [resT_snd a]
    exact resT_ren hr hm p2 h2

theorem CapsOK.ren (hr : Ren H H' φ) : {cs : List (Nat × List Bool × Nat)} → {vs : List Value} → CapsOK H cs vs → CapsOK H' (cs.map fun c => (φ c.1, c.2)) vs
  | [], _, h => h
  | _ :: _, _, h => by obtain ⟨v, us, e, ⟨b, h1, h2⟩, h3⟩ := h; exact ⟨v, us, e, ⟨b, hr _ _ h1, h2⟩, CapsOK.ren hr h3⟩

theorem resS1_ren (hr : Ren H H' φ) (hm : Moves p F F' w) {s : SS} {vs : List Dat} {v : Value} (hp : s.allB p = true) (h : DescOK H F w (resS1 s vs).1 v) : DescOK H' F' w (resS1 (s.ren φ) vs).1 v := by
  induction s generalizing v with
  | ifc T s ih =>
    obtain ⟨u, e, h2⟩ := h
    exact ⟨u, e, ih hp h2⟩
  | val agg t =>
    obtain ⟨cs, h1, h2⟩ := h
    exact ⟨cs, resT_ren hr hm hp h1, h2⟩
  | ptr j p off =>
    obtain ⟨b, h1, h2⟩ := h
    exact ⟨b, hr _ _ h1, h2⟩
  | «at» r => cases hp
  | undef => exact h
  | fn f js =>
    obtain ⟨us, h1, h2⟩ := h
    exact ⟨us, h1, h2.ren hr⟩

theorem Ents.moves {K : Row} {agg : Bool} {V : Row} (hm : ∀ cs x, Rep F w V cs x → Rep F' w' V cs x) : {es : List MapEntry} → {l : List (K.den × V.den)} → Ents H F w K agg V es l → Ents H' F' w' K agg V es l
  | [], _, h => h
  | _ :: _, _, h => by
    obtain ⟨k, x, l', e, h1, ⟨cs, h2, h2'⟩, h3⟩ := h
    exact ⟨k, x, l', e, h1, ⟨cs, hm _ _ h2, h2'⟩, Ents.moves hm h3⟩

theorem Rep.movesLow (hm : Moves p F F' w) : {d : DR} → {cs : List Value} → {x : d.low.den} → d.allB p = true → Rep F w d.low cs x → Rep F' w d.low cs x
  | .leaf r, _, _, hp, h => hm r hp _ _ h
  | .sl _ _, _, _, _, h => h
  | .pair a b, _, _, hp, h => by
    obtain ⟨p1, p2⟩ := and2 hp
    obtain ⟨c1, c2, e, h1, h2⟩ := h
    exact ⟨c1, c2, e, Rep.movesLow hm p1 h1, Rep.movesLow hm p2 h2⟩
theorem OwnM.moves (hm : Moves p F F' w) {d : DR} (hp : d.allB p = true) {T : TypeId} {v : Value} {l : List d.low.den} (h : OwnM F w T d.low v l) : OwnM F' w T d.low v l := by
  obtain ⟨xs, h1, h2⟩ := h
  exact ⟨xs, h1, fun i hi => Rep.movesLow hm hp (h2 i hi)⟩
theorem DEl.moves (hm : Moves p F F' w) : {d : DR} → {x' : d.low.den} → {x : d.row.den} → {S : Nat → Prop} → d.allB p = true → DEl F w d x' x S → DEl F' w d x' x S
  | .leaf _, _, _, _, _, h => h
  | .sl _ d, _, _, _, hp, h => by
    obtain ⟨lh, Ss, h1, h2, h3, h4⟩ := h
    exact ⟨lh, Ss, h1.moves hm (show d.allB p = true from hp), h2, fun i a b => DEl.moves hm (show d.allB p = true from hp) (h3 i a b), h4⟩
  | .pair a b, _, _, _, hp, h => by
    obtain ⟨p1, p2⟩ := and2 hp
    obtain ⟨A, B, h1, h2, h3⟩ := h
    exact ⟨A, B, DEl.moves hm p1 h1, DEl.moves hm p2 h2, h3⟩
theorem resO1_deep (T : TypeId) (d : DR) : (vs : List Dat) → ∃ l, (resO1 (.deep T d) vs).1 = .deep T d l none
  | [] => ⟨[], rfl⟩
  | ⟨.slice s, l⟩ :: vs => by
    unfold resO1
    simp only
    split <;> exact ⟨_, rfl⟩
  | ⟨.int _, _⟩ :: _ | ⟨.bool, _⟩ :: _ | ⟨.str, _⟩ :: _ | ⟨.hdr, _⟩ :: _ | ⟨.nul _, _⟩ :: _ | ⟨.pair _ _, _⟩ :: _ | ⟨.map .., _⟩ :: _ => ⟨[], rfl⟩

theorem resO1_map (T : TypeId) (K : Row) (agg : Bool) (V : Row) : (vs : List Dat) → ∃ l, (resO1 (.map T K agg V) vs).1 = .map T K agg V l
  | [] => ⟨[], rfl⟩
  | ⟨.slice (.pair K' V'), l⟩ :: vs => by
    unfold resO1
    simp only
    split <;> exact ⟨_, rfl⟩
  | ⟨.slice (.int _), _⟩ :: _ | ⟨.slice .bool, _⟩ :: _ | ⟨.slice .str, _⟩ :: _ | ⟨.slice (.slice _), _⟩ :: _ | ⟨.slice .hdr, _⟩ :: _ | ⟨.slice (.nul _), _⟩ :: _ | ⟨.slice (.map ..), _⟩ :: _ => ⟨[], rfl⟩
  | ⟨.int _, _⟩ :: _ | ⟨.bool, _⟩ :: _ | ⟨.str, _⟩ :: _ | ⟨.hdr, _⟩ :: _ | ⟨.nul _, _⟩ :: _ | ⟨.pair _ _, _⟩ :: _ | ⟨.map .., _⟩ :: _ => ⟨[], rfl⟩

theorem DEnts.moves (hm : Moves p F F' w) {K : Row} {E : TypeId} {r : Row} (hp : p r = true) : {es : List MapEntry} → {l : List (K.den × List r.den)} → {S : Nat → Prop} → DEnts H F w K E r none es l S → DEnts H' F' w K E r none es l S
  | [], _, _, h => h
  | _ :: _, _, _, h => by
    obtain ⟨k, y, l', A, B, e, h1, ⟨⟨xs, h2, h3⟩, h4⟩, h5, h6⟩ := h
    exact ⟨k, y, l', A, B, e, h1, ⟨⟨xs, h2, fun i hi => hm r hp _ _ (h3 i hi)⟩, h4⟩, DEnts.moves hm hp h5, h6⟩
theorem resO1_dmap (T : TypeId) (K : Row) (E : TypeId) (r : Row) : (vs : List Dat) → ∃ l, (resO1 (.dmap T K E r) vs).1 = .dmap T K E r l none
  | [] => ⟨[], rfl⟩
  | ⟨.slice (.pair K' (.slice s)), l⟩ :: vs => by
    unfold resO1
    simp only
    split <;> exact ⟨_, rfl⟩
  | ⟨.slice (.pair _ (.int _)), _⟩ :: _ | ⟨.slice (.pair _ .bool), _⟩ :: _ | ⟨.slice (.pair _ .str), _⟩ :: _ | ⟨.slice (.pair _ .hdr), _⟩ :: _ | ⟨.slice (.pair _ (.nul _)), _⟩ :: _ | ⟨.slice (.pair _ (.pair _ _)), _⟩ :: _ | ⟨.slice (.pair _ (.map ..)), _⟩ :: _ => ⟨[], rfl⟩
  | ⟨.slice (.int _), _⟩ :: _ | ⟨.slice .bool, _⟩ :: _ | ⟨.slice .str, _⟩ :: _ | ⟨.slice (.slice _), _⟩ :: _ | ⟨.slice .hdr, _⟩ :: _ | ⟨.slice (.nul _), _⟩ :: _ | ⟨.slice (.map ..), _⟩ :: _ => ⟨[], rfl⟩
  | ⟨.int _, _⟩ :: _ | ⟨.bool, _⟩ :: _ | ⟨.str, _⟩ :: _ | ⟨.hdr, _⟩ :: _ | ⟨.nul _, _⟩ :: _ | ⟨.pair _ _, _⟩ :: _ | ⟨.map .., _⟩ :: _ => ⟨[], rfl⟩

theorem resO1_ren (hr : Ren H H' φ) (hm : Moves p F F' w) {s : OS} {vs : List Dat} {S : Nat → Prop} {v : Value} (hp : s.allB p = true) (h : ThOK H F w S v (resO1 s vs).1) :
    ThOK H' F' w S v (resO1 (s.ren φ) vs).1 ∧ (resO1 (s.ren φ) vs).1.base = (resO1 (s.ren φ) vs).1 ∧ (∀ k, fp S v (resO1 (s.ren φ) vs).1 k → fp S v (resO1 s vs).1 k) := by
  have own : ∀ (T : TypeId) (q : Row) (l : List q.den), p q = true → ThOK H F w S v (.own T q l) → ThOK H' F' w S v (.own T q l) := fun T q l hq ⟨xs, hx, h3⟩ => ⟨xs, hx, fun i hi => hm q hq _ _ (h3 i hi)⟩
  cases s with
  | box T t =>
    obtain ⟨b, es, e, h1, h2⟩ := h
    exact ⟨⟨b, es, e, h1, resT_ren hr hm hp h2⟩, rfl, fun k hk => hk⟩
  | own T r =>
    match vs, h with
    | [], h => exact ⟨own T r [] hp h, rfl, fun _ h => h⟩
    | ⟨.slice s, l⟩ :: vs, h =>
      have h' : ThOK H F w S v (bif s.beq r then Th.own T s l else .own T r []) := h
      show ThOK H' F' w S v (bif s.beq r then Th.own T s l else .own T r []) ∧ Th.base (bif s.beq r then Th.own T s l else .own T r []) = (bif s.beq r then Th.own T s l else .own T r []) ∧ ∀ k, fp S v (bif s.beq r then Th.own T s l else .own T r []) k → fp S v (bif s.beq r then Th.own T s l else .own T r []) k
      cases hb : s.beq r with
      | true =>
        rw [hb, cond_true] at h'
        obtain rfl := Row.eq_of_beq hb
        exact ⟨own T s l hp h', rfl, fun _ h => h⟩
      | false =>
        rw [hb, cond_false] at h'
        exact ⟨own T r [] hp h', rfl, fun _ h => h⟩
    | ⟨.int _, _⟩ :: vs, h => exact ⟨own T r [] hp h, rfl, fun _ h => h⟩
    | ⟨.bool, _⟩ :: vs, h => exact ⟨own T r [] hp h, rfl, fun _ h => h⟩
    | ⟨.str, _⟩ :: vs, h => exact ⟨own T r [] hp h, rfl, fun _ h => h⟩
    | ⟨.hdr, _⟩ :: vs, h => exact ⟨own T r [] hp h, rfl, fun _ h => h⟩
    | ⟨.nul _, _⟩ :: vs, h => exact ⟨own T r [] hp h, rfl, fun _ h => h⟩
    | ⟨.map .., _⟩ :: vs, h => exact ⟨own T r [] hp h, rfl, fun _ h => h⟩
    | ⟨.pair _ _, _⟩ :: vs, h => exact ⟨own T r [] hp h, rfl, fun _ h => h⟩
  | map T K agg V =>
    have gen : ∀ l : List (K.den × V.den), ThOK H F w S v (.map T K agg V l) → ThOK H' F' w S v (.map T K agg V l) := by
      rintro l ⟨b, es, clock, e, h1, h2, h3⟩
      exact ⟨b, es, clock, e, h1, h2, Ents.moves (fun cs x hr => hm V hp cs x hr) h3⟩
    obtain ⟨l, hl⟩ := resO1_map T K agg V vs
    show ThOK H' F' w S v (resO1 (OS.map T K agg V) vs).1 ∧ (resO1 (OS.map T K agg V) vs).1.base = (resO1 (OS.map T K agg V) vs).1 ∧ ∀ k, fp S v (resO1 (OS.map T K agg V) vs).1 k → fp S v (resO1 (OS.map T K agg V) vs).1 k
    rw [hl] at h ⊢
    exact ⟨gen l h, rfl, fun _ h => h⟩
  | deep T d =>
    obtain ⟨l, hl⟩ := resO1_deep T d vs
    show ThOK H' F' w S v (resO1 (OS.deep T d) vs).1 ∧ (resO1 (OS.deep T d) vs).1.base = (resO1 (OS.deep T d) vs).1 ∧ ∀ k, fp S v (resO1 (OS.deep T d) vs).1 k → fp S v (resO1 (OS.deep T d) vs).1 k
    rw [hl] at h ⊢
    refine ⟨?_, rfl, fun _ h => h⟩
    have h' : DEl F w (.sl T d) v l S := h
    exact (DEl.moves (d := .sl T d) hm hp h' : DEl F' w (.sl T d) v l S)
  | dmap T K E r =>
    obtain ⟨l, hl⟩ := resO1_dmap T K E r vs
    show ThOK H' F' w S v (resO1 (OS.dmap T K E r) vs).1 ∧ (resO1 (OS.dmap T K E r) vs).1.base = (resO1 (OS.dmap T K E r) vs).1 ∧ ∀ k, fp S v (resO1 (OS.dmap T K E r) vs).1 k → fp S v (resO1 (OS.dmap T K E r) vs).1 k
    rw [hl] at h ⊢
    refine ⟨?_, rfl, fun _ h => h⟩
    obtain ⟨b, es, clock, B, e, h1, h2, h3, h4, _⟩ := h
    exact ⟨b, es, clock, B, e, h1, h2, h3.moves hm hp, h4, fun _ _ e => by cases e⟩

theorem find_resS : {l : List (Nat × SS)} → {vs : List Dat} → {t : Nat} → {d : Desc} → slotsB p l = true → find (resS (renS φ l) vs).1 t = some d → ∃ s us, d = (resS1 (s.ren φ) us).1 ∧ find (resS l vs).1 t = some (resS1 s us).1 ∧ s.allB p = true
  | [], _, _, _, _, h => by cases h
  | (t0, s) :: l, vs, t, d, hp, h => by
    obtain ⟨p1, p2⟩ := and2 hp
    have h' : find ((t0, (resS1 (s.ren φ) vs).1) :: (resS (renS φ l) (resS1 (s.ren φ) vs).2).1) t = some d := h
    show ∃ s' us, d = _ ∧ find ((t0, (resS1 s vs).1) :: (resS l (resS1 s vs).2).1) t = _ ∧ _
    rw [find_cons] at h'
    by_cases e : t0 = t
    · rw [if_pos e] at h'
      exact ⟨s, vs, (Option.some.inj h').symm, by rw [find_cons, if_pos e], p1⟩
    · rw [if_neg e] at h'
      rw [resS1_snd] at h'
      obtain ⟨s', us, a1, a2, a3⟩ := find_resS p2 h'
      exact ⟨s', us, a1, by rw [find_cons, if_neg e]; exact a2, a3⟩

theorem resS_ren (hr : Ren H H' φ) (hm : Moves p F F' w) {ρ : Nat → Value} {l : List (Nat × SS)} {vs : List Dat} (hp : slotsB p l = true) (h : ∀ t d, find (resS l vs).1 t = some d → DescOK H F w d (ρ t)) : ∀ t d, find (resS (renS φ l) vs).1 t = some d → DescOK H' F' w d (ρ t) := by
  intro t d hf
  obtain ⟨s, us, rfl, h2, h3⟩ := find_resS hp hf
  exact resS1_ren hr hm h3 (h t _ h2)

theorem resO_ren {m m' : Nat} : {l : List (Nat × OS)} → {vs : List Dat} → {o s : Nat} → {t : Th} → find (resO m (renO φ l) vs) o = some (s, t) → ∃ j s' us sh, φ j = o ∧ t = (resO1 (sh.ren φ) us).1 ∧ find (resO m' l vs) j = some (s', (resO1 sh us).1) ∧ (objsB p l = true → sh.allB p = true) ∧ conAt (resO m (renO φ l) vs) s = some t ∧ m ≤ s ∧ s < m + l.length ∧ s' = s - m + m'
  | [], _, _, _, _, h => by cases h
  | (j, sh) :: l, vs, o, s, t, h => by
    have h' : find ((φ j, (m, (resO1 (sh.ren φ) vs).1)) :: resO (m + 1) (renO φ l) (resO1 (sh.ren φ) vs).2) o = some (s, t) := h
    rw [find_cons] at h'
    split at h'
    · rename_i e
      simp only [Option.some.injEq, Prod.mk.injEq] at h'
      obtain ⟨rfl, rfl⟩ := h'
      refine ⟨j, m', vs, sh, e, rfl, ?_, fun hp => (and2 hp).1, ?_, Nat.le_refl _, by simp, by omega⟩
      · show find ((j, (m', (resO1 sh vs).1)) :: _) j = _
        rw [find_cons, if_pos rfl]
      · show (bif Nat.beq m m then _ else _) = _
        simp
    · rename_i e
      rw [resO1_snd] at h'
      obtain ⟨j', s', us, sh', a1, a2, a3, a4, a5, a6, a7, a8⟩ := resO_ren (m' := m' + 1) h'
      refine ⟨j', s', us, sh', a1, a2, ?_, fun hp => a4 (and2 hp).2, ?_, by omega, by rw [List.length_cons]; omega, by omega⟩
      · show find ((j, (m', (resO1 sh vs).1)) :: resO (m' + 1) l (resO1 sh vs).2) j' = _
        rw [find_cons, if_neg (fun e' => e (by rw [e', a1]))]
        exact a3
      · show (bif Nat.beq m s then _ else conAt (resO (m + 1) (renO φ l) (resO1 (sh.ren φ) vs).2) s) = _
        have : Nat.beq m s = false := by
          cases hb : Nat.beq m s with
          | false => rfl
          | true => have := beq_true hb; omega
        rw [this, cond_false, resO1_snd]
        exact a5

/-! ## Results -/
def tupL : List (Nat × Desc) → Option (List (Bool × Tree))
  | [] => some []
  | (_, .val a t) :: l => match tupL l with
    | some ds => some ((a, t) :: ds)
    | none => none
  | _ :: _ => none
def dstOf : List (Nat × Desc) → Option Desc
  | [] => some .dead
  | [(_, d)] => some d
  | l => match tupL l with
    | some ds => some (.tup ds)
    | none => none
def idxS : Nat → List (Nat × SS) → Bool
  | _, [] => true
  | k, (t, _) :: l => Nat.beq t k && idxS (k + 1) l

theorem idxS_ge : {l : List (Nat × SS)} → {vs : List Dat} → {k t : Nat} → {d : Desc} → idxS k l = true → find (resS l vs).1 t = some d → k ≤ t
  | [], _, _, _, _, _, h => by cases h
  | (t0, s) :: l, vs, k, t, d, hi, h => by
    obtain ⟨h1, h2⟩ := and2 hi
    have h' : find ((t0, (resS1 s vs).1) :: (resS l (resS1 s vs).2).1) t = some d := h
    rw [find_cons] at h'
    have := beq_true h1
    split at h'
    · omega
    · have := idxS_ge h2 h'
      omega
theorem tup_ok {f : Nat → Value} : {l : List (Nat × SS)} → {vs : List Dat} → {k : Nat} → {ds : List (Bool × Tree)} → idxS k l = true → (∀ t d, find (resS l vs).1 t = some d → DescOK H F w d (f t)) → tupL (resS l vs).1 = some ds → TupOK H F w ds ((List.range' k l.length).map f)
  | [], _, _, _, _, _, h => by cases h; rfl
  | (t0, s) :: l, vs, k, ds, hi, hok, h => by
    obtain ⟨h1, h2⟩ := and2 hi
    obtain rfl := beq_true h1
    have h' : tupL ((t0, (resS1 s vs).1) :: (resS l (resS1 s vs).2).1) = some ds := h
    have hok' : ∀ t d, find ((t0, (resS1 s vs).1) :: (resS l (resS1 s vs).2).1) t = some d → DescOK H F w d (f t) := hok
    have h0 := hok' t0 _ (by rw [find_cons, if_pos rfl])
    generalize (resS1 s vs).1 = d0 at *
    cases d0 <;> unfold tupL at h' <;> try cases h'
    rename_i a t
    split at h' <;> cases h'
    rename_i ds' hds
    refine ⟨f t0, (List.range' (t0 + 1) l.length).map f, by simp [List.range'_succ], h0, tup_ok h2 (fun t d hf => hok' t d ?_) hds⟩
    have := idxS_ge h2 hf
    rw [find_cons, if_neg (by omega)]
    exact hf

theorem idxS_ren : {l : List (Nat × SS)} → {k : Nat} → idxS k (renS φ l) = idxS k l
  | [], _ => rfl
  | (t, s) :: l, k => by
    show (Nat.beq t k && idxS (k + 1) (renS φ l)) = _
    rw [idxS_ren]
    rfl
theorem renS_length : {l : List (Nat × SS)} → (renS φ l).length = l.length
  | [] => rfl
  | (t, s) :: l => by
    show (renS φ l).length + 1 = l.length + 1
    rw [renS_length]

theorem range_getD (us : List Value) : (List.range' 0 us.length).map (fun t => us.getD t undef) = us := by
  apply List.ext_getElem (by simp)
  intro i h1 h2
  simp [List.getD, h2]

theorem dst_ok {l : List (Nat × SS)} {vs : List Dat} {us : List Value} {D : Desc} (hi : idxS 0 l = true) (hl : us.length = l.length) (hok : ∀ t d, find (resS l vs).1 t = some d → DescOK H F w d (us.getD t undef)) (h : dstOf (resS l vs).1 = some D) : DescOK H F w D (retV us) := by
  have tup : ∀ ds, tupL (resS l vs).1 = some ds → us.length ≠ 1 → DescOK H F w (.tup ds) (retV us) := by
    intro ds hds hne
    have := tup_ok hi hok hds
    rw [← hl, range_getD] at this
    refine ⟨us, ?_, this⟩
    match us, hne with
    | [], _ => rfl
    | [_], h => exact absurd rfl h
    | _ :: _ :: _, _ => rfl
  match l, hl, h with
  | [], _, h => obtain rfl := Option.some.inj h; trivial
  | [(t, s)], hl, h =>
    have h' : dstOf [(t, (resS1 s vs).1)] = some D := h
    obtain rfl := Option.some.inj h'
    have ht := beq_true (and2 hi).1
    match us, hl with
    | [u], _ =>
      have := hok t (resS1 s vs).1 (by
        show find [(t, (resS1 s vs).1)] t = _
        rw [find_cons, if_pos rfl])
      rw [ht] at this
      exact this
  | (t, s) :: (t', s') :: l, hl, h =>
    have h' : (match tupL (resS ((t, s) :: (t', s') :: l) vs).1 with | some ds => some (Desc.tup ds) | none => none) = some D := h
    split at h'
    · rename_i ds hds
      obtain rfl := Option.some.inj h'
      exact tup ds hds (by simp at hl; omega)
    · cases h'
end
end Go.Proofs.YtjeeligfdpociaaGreat
