/- The ground of the walks: how Go data in memory read, what keeps a reading, and one rule for each operation over a frame that is a function of its slots. -/
import Derived.WalkKit
import Derived.WalkSpells
import Derived.WalkLawsBesides
import Derived.LoopN
import Derived.Deep.Draws
import Derived.Deep.Quiet
import Derived.Maps.AppendAt
import Derived.OwnWalk
import Derived.KernelRfl
import Derived.MapKept
namespace Go.Proofs.YtjeeligfdpociaaGreat
open Go Go.RowKit

/-! ## Rows -/

/-- What nothing there is: a map, a pointer, a function that is nil. -/
inductive Nul where
  | map
  | ptr
  | func
def Nul.val : Nul → Value
  | .map => .map none
  | .ptr => .pointer none
  | .func => .nilFunc
theorem Nul.one (k : Nul) : k.val.oneCell' = true := by cases k <;> simp [Nul.val, Value.oneCell']

/-- The shape of a value in memory: its cells, read from the left. -/
inductive Row where
  | int (k : IntKind)
  | bool
  | str
  | slice (e : Row)
  | hdr   -- a slice's own value, not looked through
  | nul (k : Nul)
  | map (K : Row) (agg : Bool) (V : Row)   -- a map that is read alone
  | pair (a b : Row)

@[reducible] def Row.den : Row → Type
  | .int _ => Int
  | .bool => Bool
  | .str => ByteArray
  | .slice e => List e.den
  | .hdr => Value
  | .nul _ => Unit
  | .map K _ V => List (K.den × V.den)
  | .pair a b => a.den × b.den

noncomputable instance Row.decEq : (r : Row) → DecidableEq r.den
  | .int _ => inferInstanceAs (DecidableEq Int)
  | .bool => inferInstanceAs (DecidableEq Bool)
  | .str => inferInstanceAs (DecidableEq ByteArray)
  | .slice e => have := Row.decEq e; inferInstanceAs (DecidableEq (List e.den))
  | .hdr => fun a b => Classical.propDecidable (a = b)
  | .nul _ => inferInstanceAs (DecidableEq Unit)
  | .map K _ V => have := Row.decEq K; have := Row.decEq V; inferInstanceAs (DecidableEq (List (K.den × V.den)))
  | .pair a b => have := Row.decEq a; have := Row.decEq b; inferInstanceAs (DecidableEq (a.den × b.den))

@[simp] def Row.size : Row → Nat
  | .pair a b => a.size + b.size
  | _ => 1

theorem Row.size_pos : (r : Row) → 0 < r.size
  | .pair a b => by have := Row.size_pos a; simp; omega
  | .int _ | .bool | .str | .slice _ | .hdr | .nul _ | .map .. => by simp

/-- A key of a map, as a value. -/
def keyV : (K : Row) → K.den → Option Value
  | .int k, n => some (.int k n)
  | .bool, b => some (.bool b)
  | .str, s => some (.string s)
  | _, _ => none

/-- The cells 'cs', in the world w, read as d; every block that is reached lies in F. -/
def Rep (F : Nat → Prop) (w : World) : (r : Row) → List Value → r.den → Prop
  | .int k, cs, n => cs = [.int k n]
  | .bool, cs, b => cs = [.bool b]
  | .str, cs, s => cs = [.string s]
  | .slice e, cs, l => ∃ A cap, cs = [.slice A l.length cap] ∧ l.length ≤ cap ∧ cap ≤ maxLen ∧
      ∀ i (h : i < l.length), ∃ b off es, A = some ⟨b, off, none⟩ ∧ F b ∧ es.length = e.size ∧
        (∀ j u, es[j]? = some u → w.cell? ⟨b, off + i * e.size + j, none⟩ = some u) ∧ Rep F w e es l[i]
  | .hdr, cs, v => cs = [v] ∧ ∃ A m c, v = .slice A m c
  | .nul k, cs, _ => cs = [k.val]
  | .map K agg V, cs, l => ∃ v, cs = [v] ∧ ((v = .map none ∧ l = []) ∨ ∃ b es clock, v = .map (some b) ∧ F b ∧ w.heap[b]? = some (.map es clock) ∧ MapKept.Stamped es clock ∧ es.size = l.length ∧
      ∀ i (h : i < l.length), ∃ (e : MapEntry) (cs : List Value), es[i]? = some e ∧ keyV K l[i].1 = some e.key ∧ Rep F w V cs l[i].2 ∧ e.val = (bif agg then .agg cs.toArray else cs.headD undef) ∧ (agg = false → cs = [e.val]))
  | .pair a b, cs, d => ∃ c1 c2, cs = c1 ++ c2 ∧ Rep F w a c1 d.1 ∧ Rep F w b c2 d.2

theorem Rep.length {F : Nat → Prop} {w : World} : {r : Row} → {cs : List Value} → {d : r.den} → Rep F w r cs d → cs.length = r.size
  | .int _, _, _, h => by rw [show _ = _ from h]; rfl
  | .bool, _, _, h => by rw [show _ = _ from h]; rfl
  | .str, _, _, h => by rw [show _ = _ from h]; rfl
  | .slice _, _, _, h => by obtain ⟨A, cap, h, _⟩ := h; rw [h]; rfl
  | .hdr, _, _, h => by rw [h.1]; rfl
  | .nul _, _, _, h => by rw [show _ = _ from h]; rfl
  | .map .., _, _, h => by obtain ⟨v, rfl, _⟩ := h; rfl
  | .pair a b, _, _, h => by
    obtain ⟨c1, c2, rfl, h1, h2⟩ := h
    simp [h1.length, h2.length]

theorem Rep.oneCell {F : Nat → Prop} {w : World} : {r : Row} → {cs : List Value} → {d : r.den} → Rep F w r cs d → ∀ u ∈ cs, u.oneCell' = true
  | .int _, _, _, h => by rw [show _ = _ from h]; simp [Value.oneCell']
  | .bool, _, _, h => by rw [show _ = _ from h]; simp [Value.oneCell']
  | .str, _, _, h => by rw [show _ = _ from h]; simp [Value.oneCell']
  | .slice _, _, _, h => by obtain ⟨A, cap, rfl, _⟩ := h; simp [Value.oneCell']
  | .hdr, _, _, h => by obtain ⟨rfl, A, m, c, rfl⟩ := h; simp [Value.oneCell']
  | .nul k, _, _, h => by rw [show _ = _ from h]; simp [k.one]
  | .map .., _, _, h => by
    obtain ⟨v, rfl, h⟩ := h
    rcases h with ⟨rfl, _⟩ | ⟨b, es, clock, rfl, _⟩ <;> simp [Value.oneCell']
  | .pair a b, _, _, h => by
    obtain ⟨c1, c2, rfl, h1, h2⟩ := h
    intro u hu
    rcases List.mem_append.1 hu with h' | h'
    · exact h1.oneCell u h'
    · exact h2.oneCell u h'

/-- From (w, F) to (w', F'): what F holds is kept. -/
def Step (F : Nat → Prop) (w : World) (F' : Nat → Prop) (w' : World) : Prop := ∀ b, F b → F' b ∧ w'.heap[b]? = w.heap[b]?

theorem Rep.step {F F' : Nat → Prop} {w w' : World} (ho : Step F w F' w') : {r : Row} → {cs : List Value} → {d : r.den} → Rep F w r cs d → Rep F' w' r cs d
  | .int _, _, _, h => h
  | .bool, _, _, h => h
  | .str, _, _, h => h
  | .slice e, _, l, h => by
    obtain ⟨A, cap, hc, h1, h2, h3⟩ := h
    refine ⟨A, cap, hc, h1, h2, fun i hi => ?_⟩
    obtain ⟨b, off, es, hA, hb, hel, hcell, hr⟩ := h3 i hi
    exact ⟨b, off, es, hA, (ho b hb).1, hel, fun j u hu => (World.cell?_of_block (ho b hb).2).trans (hcell j u hu), hr.step ho⟩
  | .hdr, _, _, h => h
  | .nul _, _, _, h => h
  | .map K agg V, _, l, h => by
    obtain ⟨v, hv, h⟩ := h
    refine ⟨v, hv, h.imp id fun ⟨b, es, clock, h1, h2, h3, h4, h5, h6⟩ => ⟨b, es, clock, h1, (ho b h2).1, (ho b h2).2.trans h3, h4, h5, fun i hi => ?_⟩⟩
    obtain ⟨e, cs, g1, g2, g3, g4⟩ := h6 i hi
    exact ⟨e, cs, g1, g2, g3.step ho, g4⟩
  | .pair a b, _, _, h => by
    obtain ⟨c1, c2, hc, h1, h2⟩ := h
    exact ⟨c1, c2, hc, h1.step ho, h2.step ho⟩

/-- The cells at (b, off) read as x. -/
def At (F : Nat → Prop) (w : World) (r : Row) (b off : Nat) (x : r.den) : Prop :=
  ∃ es, es.length = r.size ∧ (∀ j u, es[j]? = some u → w.cell? ⟨b, off + j, none⟩ = some u) ∧ Rep F w r es x

theorem At.fst {F : Nat → Prop} {w : World} {r s : Row} {b off : Nat} {x : (Row.pair r s).den} (h : At F w (.pair r s) b off x) : At F w r b off x.1 := by
  obtain ⟨es, hl, hc, c1, c2, rfl, h1, h2⟩ := h
  exact ⟨c1, h1.length, fun j u hu => hc j u (by
    rw [List.getElem?_append_left]
    · exact hu
    · exact (List.getElem?_eq_some_iff.1 hu).1), h1⟩

theorem At.snd {F : Nat → Prop} {w : World} {r s : Row} {b off : Nat} {x : (Row.pair r s).den} (h : At F w (.pair r s) b off x) (k : Nat) (hk : k = r.size) : At F w s b (off + k) x.2 := by
  obtain ⟨es, hl, hc, c1, c2, rfl, h1, h2⟩ := h
  subst hk
  exact ⟨c2, h2.length, fun j u hu => by
    have := hc (r.size + j) u (by
      rw [List.getElem?_append_right (by rw [h1.length]; omega), h1.length]
      rw [show r.size + j - r.size = j from by omega]
      exact hu)
    rw [Nat.add_assoc]
    exact this, h2⟩

theorem Rep.nil (F : Nat → Prop) (w : World) (e : Row) : Rep F w (.slice e) [.slice none 0 0] [] := ⟨none, 0, rfl, Nat.le_refl _, by simp [maxLen], fun i hi => absurd hi (by simp)⟩

theorem Rep.slice_form {F : Nat → Prop} {w : World} {e : Row} {v : Value} {l : List e.den} (h : Rep F w (.slice e) [v] l) :
    ∃ A cap, v = .slice A l.length cap ∧ l.length ≤ cap ∧ cap ≤ 9223372036854775807 := by
  obtain ⟨A, cap, h1, h2, h3, _⟩ := h
  exact ⟨A, cap, by simpa using h1, h2, h3⟩

/-! ## What the walk carries of the world -/

/-- Since (w0, F0): what was there is as it was; F has grown by new blocks alone, and lies below the heap's end. -/
structure St (w0 : World) (F0 : Nat → Prop) (w : World) (F : Nat → Prop) : Prop where
  below : Below w0.heap.size w0 w
  le : ∀ b, F0 b → F b
  new : ∀ b, F b → F0 b ∨ w0.heap.size ≤ b
  lt : ∀ b, F b → b < w.heap.size

theorem St.refl {w : World} {F : Nat → Prop} (h : ∀ b, F b → b < w.heap.size) : St w F w F := ⟨Below.refl _ _, fun _ h => h, fun _ h => .inl h, h⟩
theorem St.trans {w0 w1 w2 : World} {F0 F1 F2 : Nat → Prop} (h : St w0 F0 w1 F1) (k : St w1 F1 w2 F2) : St w0 F0 w2 F2 :=
  ⟨h.below.trans (k.below.mono h.below.size), fun b hb => k.le b (h.le b hb), fun b hb => by
    rcases k.new b hb with h1 | h1
    · exact h.new b h1
    · exact .inr (Nat.le_trans h.below.size h1), k.lt⟩
theorem St.step {w0 w : World} {F0 F : Nat → Prop} (h : St w0 F0 w F) (h0 : ∀ b, F0 b → b < w0.heap.size) : Step F0 w0 F w := fun b hb => ⟨h.le b hb, h.below.block b (h0 b hb)⟩
theorem St.drew {w0 w : World} {F0 F : Nat → Prop} (h : St w0 F0 w F) : St w0 F0 w.drew F := ⟨h.below.drew, h.le, h.new, h.lt⟩
theorem St.alloc {w0 w : World} {F0 F : Nat → Prop} (h : St w0 F0 w F) (o : Obj) : St w0 F0 (w.alloc o) F :=
  ⟨h.below.alloc h.below.size o, h.le, h.new, fun b hb => by have := h.lt b hb; simp; omega⟩
theorem St.setCell {w0 w : World} {F0 F : Nat → Prop} (h : St w0 F0 w F) {p : Addr} (hp : w0.heap.size ≤ p.block) (u : Value) : St w0 F0 (w.setCell p u) F :=
  ⟨h.below.setCell hp u, h.le, h.new, fun b hb => by have := h.lt b hb; simpa [World.setCell] using this⟩
theorem St.grown {w0 w w' : World} {F0 F : Nat → Prop} {row : Option Nat} (h : St w0 F0 w F) (hg : w.grownBy w' row) (hr : ∀ k, row = some k → w0.heap.size ≤ k) : St w0 F0 w' F :=
  ⟨h.below.grown hg h.below.size hr, h.le, h.new, fun b hb => Nat.lt_of_lt_of_le (h.lt b hb) hg.size⟩
theorem St.freeze {w0 w : World} {F0 F : Nat → Prop} (h : St w0 F0 w F) (G : Nat → Prop) (h1 : ∀ b, G b → w0.heap.size ≤ b ∧ b < w.heap.size) : St w0 F0 w (fun b => F b ∨ G b) :=
  ⟨h.below, fun b hb => .inl (h.le b hb), fun b hb => by
    rcases hb with hb | hb
    · exact h.new b hb
    · exact .inr (h1 b hb).1, fun b hb => by
    rcases hb with hb | hb
    · exact h.lt b hb
    · exact (h1 b hb).2⟩
/-- F may be taken back to an earlier one. -/
theorem St.back {w0 w1 w2 : World} {F0 F1 F2 F3 : Nat → Prop} (h : St w0 F0 w1 F1) (k : St w1 F2 w2 F3) : St w0 F0 w2 F1 :=
  ⟨h.below.trans (k.below.mono h.below.size), h.le, h.new, fun b hb => Nat.lt_of_lt_of_le (h.lt b hb) k.below.size⟩

theorem Step.refl (F : Nat → Prop) (w : World) : Step F w F w := fun _ h => ⟨h, rfl⟩
theorem Step.trans {F F1 F2 : Nat → Prop} {w w1 w2 : World} (h : Step F w F1 w1) (k : Step F1 w1 F2 w2) : Step F w F2 w2 := fun b hb => ⟨(k b (h b hb).1).1, (k b (h b hb).1).2.trans (h b hb).2⟩
theorem Step.drew (F : Nat → Prop) (w : World) : Step F w F w.drew := fun _ h => ⟨h, rfl⟩
theorem Step.alloc {F : Nat → Prop} {w : World} (h : ∀ b, F b → b < w.heap.size) (o : Obj) : Step F w F (w.alloc o) := fun b hb => ⟨hb, Below.heap_alloc w o b (h b hb)⟩
theorem Step.setCell {F : Nat → Prop} {w : World} {p : Addr} (h : ¬ F p.block) (u : Value) : Step F w F (w.setCell p u) := fun b hb => ⟨hb, Below.heap_setCell w p u b fun e => h (e ▸ hb)⟩
theorem Step.grown {F : Nat → Prop} {w w' : World} {row : Option Nat} (hg : w.grownBy w' row) (h : ∀ b, F b → b < w.heap.size) (hr : ∀ k, row = some k → ¬ F k) : Step F w F w' :=
  fun b hb => ⟨hb, hg.block b (h b hb) fun e => hr b e.symm hb⟩
theorem Step.freeze (F : Nat → Prop) (w : World) (G : Nat → Prop) : Step F w (fun b => F b ∨ G b) w := fun _ h => ⟨.inl h, rfl⟩

/-! ## Frames -/

structure Fr (n : Nat) (a : Act) (ρ : Nat → Value) : Prop where
  size : a.tmps.size = n
  defers : a.defers = []
  get : ∀ t, a.tmps.getD t undef = ρ t

def upd (ρ : Nat → Value) (d : Nat) (v : Value) : Nat → Value := fun t => bif Nat.beq t d then v else ρ t

theorem upd_ne (ρ : Nat → Value) (d : Nat) (v : Value) (t : Nat) (h : Nat.beq t d = false) : upd ρ d v t = ρ t := by simp [upd, h]

def ev (ρ : Nat → Value) : Operand → Value
  | .tmp t => ρ t
  | .const v => v
  | .global g => .pointer (some ⟨g, 0, none⟩)
  | .func f => .func (.func f) #[] #[]

theorem Fr.eval {n : Nat} {a : Act} {ρ : Nat → Value} (h : Fr n a ρ) : a.eval = ev ρ := by
  funext x
  cases x with
  | tmp t => exact h.get t
  | const v => rfl
  | global g => rfl
  | func f => rfl

theorem Fr.put {n : Nat} {a : Act} {ρ : Nat → Value} (h : Fr n a ρ) {d : Nat} (hd : Nat.blt d n = true) (v : Value) : Fr n (a.put (some d) v) (upd ρ d v) := by
  have hlt : d < n := by simpa [Nat.blt_eq] using hd
  refine ⟨by simpa [Act.put] using h.size, by simpa [Act.put] using h.defers, fun t => ?_⟩
  have hs := h.size
  have hg := h.get t
  simp only [Act.put, Array.getD_eq_getD_getElem?, Array.getElem?_setIfInBounds] at hg ⊢
  unfold upd
  by_cases ht : t = d
  · subst ht
    simp [hs, hlt]
  · have hne : ¬ d = t := fun e => ht e.symm
    have hb : Nat.beq t d = false := by
      cases hbb : Nat.beq t d with
      | false => rfl
      | true => exact absurd (Nat.eq_of_beq_eq_true hbb) ht
    simp [hne, hb, hg]

/-! ## Regions -/

def wpS (P : Program) (n : Nat) (ops : Array Oper) (K : (Nat → Value) → World → Prop) (l : List Oper) (ρ : Nat → Value) (w : World) : Prop :=
  ∀ (Q : Exit → Act → World → Prop) (a : Act), Fr n a ρ → (∀ a' ρ' w', Fr n a' ρ' → K ρ' w' → Q .normal a' w') → wpList P ops Q l a w

section
variable {P : Program} {n : Nat} {ops : Array Oper} {K : (Nat → Value) → World → Prop} {rest : List Oper} {ρ : Nat → Value} {w : World}

theorem wpS_nil (h : K ρ w) : wpS P n ops K [] ρ w := fun _ _ hf hk => hk _ _ _ hf h

/-- The operation is carried out and yields v, in every world, without a change. -/
def Pure (P : Program) (ρ : Nat → Value) (o : Oper) (v : Value) : Prop := ∀ w, (execOp (ev ρ) o).run P w = .ok (.value v) w

theorem wpS_pure {d : Nat} {op : Op} {ty : TypeId} {pos : String} {aft : Array Edge} (v : Value) (hp : Pure P ρ ⟨some d, op, ty, pos, aft, none⟩ v) (hd : Nat.blt d n = true)
    (h : wpS P n ops K rest (upd ρ d v) w) : wpS P n ops K (⟨some d, op, ty, pos, aft, none⟩ :: rest) ρ w :=
  fun Q a hf hk => wpList_plain rfl fun K' hK => by
    unfold Oper.wp
    rw [hf.eval, hp w]
    exact hK _ _ (h Q _ (hf.put hd v) hk)

theorem wpS_eff {d : Nat} {op : Op} {ty : TypeId} {pos : String} {aft : Array Edge} (v : Value) (w' : World) (hp : (execOp (ev ρ) ⟨some d, op, ty, pos, aft, none⟩).run P w = .ok (.value v) w') (hd : Nat.blt d n = true)
    (h : wpS P n ops K rest (upd ρ d v) w') : wpS P n ops K (⟨some d, op, ty, pos, aft, none⟩ :: rest) ρ w :=
  fun Q a hf hk => wpList_plain rfl fun K' hK => by
    unfold Oper.wp
    rw [hf.eval, hp]
    exact hK _ _ (h Q _ (hf.put hd v) hk)

theorem wpS_unit {op : Op} {ty : TypeId} {pos : String} {aft : Array Edge} (w' : World) (hp : (execOp (ev ρ) ⟨none, op, ty, pos, aft, none⟩).run P w = .ok .skip w')
    (h : wpS P n ops K rest ρ w') : wpS P n ops K (⟨none, op, ty, pos, aft, none⟩ :: rest) ρ w :=
  fun Q a hf hk => wpList_plain rfl fun K' hK => by
    unfold Oper.wp
    rw [hf.eval, hp]
    exact hK _ _ (h Q _ hf hk)

/-- What a guard has yielded. -/
theorem yielded_of {a : Act} (hf : Fr n a ρ) {j d : Nat} {b : Bool} (hj : (ops[j]?).bind (·.dst) = some d) (hd : Nat.blt d n = true) (hb : ρ d = .bool b) : yielded ops a.tmps j = some b := by
  have hlt : d < n := by simpa [Nat.blt_eq] using hd
  have hg := hf.get d
  have hs := hf.size
  rw [hb] at hg
  have : a.tmps[d]? = some (.bool b) := by
    rw [Array.getD_eq_getD_getElem?] at hg
    rw [Array.getElem?_eq_getElem (by omega)] at hg ⊢
    simpa using hg
  unfold yielded
  rw [hj]
  simp [this]

/-- A guarded operation that is wanted: as without its guard. -/
theorem wpS_on {dst : Option Nat} {op : Op} {ty : TypeId} {pos : String} {aft : Array Edge} {j : Nat} {b : Bool} (d : Nat) (hj : (ops[j]?).bind (·.dst) = some d) (hd : Nat.blt d n = true) (hb : ρ d = .bool b)
    (h : wpS P n ops K (⟨dst, op, ty, pos, aft, none⟩ :: rest) ρ w) : wpS P n ops K (⟨dst, op, ty, pos, aft, some (j, b)⟩ :: rest) ρ w :=
  fun Q a hf hk => by
    have := h Q a hf hk
    unfold wpList at this ⊢
    rw [if_pos (by simp [Region.wanted])] at this
    rw [if_pos (by simp [Region.wanted, yielded_of hf hj hd hb])]
    exact this

/-- A guarded operation that is not wanted: passed by. -/
theorem wpS_off {d' : Nat} {op : Op} {ty : TypeId} {pos : String} {aft : Array Edge} {j : Nat} {b b' : Bool} (d : Nat) (hj : (ops[j]?).bind (·.dst) = some d) (hd : Nat.blt d n = true) (hb : ρ d = .bool b') (hne : b' ≠ b) (hd' : Nat.blt d' n = true)
    (h : wpS P n ops K rest (upd ρ d' undef) w) : wpS P n ops K (⟨some d', op, ty, pos, aft, some (j, b)⟩ :: rest) ρ w :=
  fun Q a hf hk => by
    have := h Q _ (hf.put hd' undef) hk
    unfold wpList
    rw [if_neg (by simp [Region.wanted, yielded_of hf hj hd hb, hne])]
    exact this
theorem wpS_off_unit {op : Op} {ty : TypeId} {pos : String} {aft : Array Edge} {j : Nat} {b b' : Bool} (d : Nat) (hj : (ops[j]?).bind (·.dst) = some d) (hd : Nat.blt d n = true) (hb : ρ d = .bool b') (hne : b' ≠ b)
    (h : wpS P n ops K rest ρ w) : wpS P n ops K (⟨none, op, ty, pos, aft, some (j, b)⟩ :: rest) ρ w :=
  fun Q a hf hk => by
    have := h Q _ hf hk
    unfold wpList
    rw [if_neg (by simp [Region.wanted, yielded_of hf hj hd hb, hne])]
    exact this

/-- What a guard that was passed by has yielded. -/
theorem yielded_undef {a : Act} (hf : Fr n a ρ) {j d : Nat} (hj : (ops[j]?).bind (·.dst) = some d) (hd : Nat.blt d n = true) (hb : ρ d = undef) : yielded ops a.tmps j = none := by
  have hlt : d < n := by simpa [Nat.blt_eq] using hd
  have hg := hf.get d
  have hs := hf.size
  rw [hb] at hg
  have : a.tmps[d]? = some undef := by
    rw [Array.getD_eq_getD_getElem?] at hg
    rw [Array.getElem?_eq_getElem (by omega)] at hg ⊢
    simpa using hg
  unfold yielded
  rw [hj]
  simp [this, undef]
theorem wpS_offu {d' : Nat} {op : Op} {ty : TypeId} {pos : String} {aft : Array Edge} {j : Nat} {b : Bool} (d : Nat) (hj : (ops[j]?).bind (·.dst) = some d) (hd : Nat.blt d n = true) (hb : ρ d = undef) (hd' : Nat.blt d' n = true)
    (h : wpS P n ops K rest (upd ρ d' undef) w) : wpS P n ops K (⟨some d', op, ty, pos, aft, some (j, b)⟩ :: rest) ρ w :=
  fun Q a hf hk => by
    have := h Q _ (hf.put hd' undef) hk
    unfold wpList
    rw [if_neg (by simp [Region.wanted, yielded_undef hf hj hd hb])]
    exact this
theorem wpS_offu_unit {op : Op} {ty : TypeId} {pos : String} {aft : Array Edge} {j : Nat} {b : Bool} (d : Nat) (hj : (ops[j]?).bind (·.dst) = some d) (hd : Nat.blt d n = true) (hb : ρ d = undef)
    (h : wpS P n ops K rest ρ w) : wpS P n ops K (⟨none, op, ty, pos, aft, some (j, b)⟩ :: rest) ρ w :=
  fun Q a hf hk => by
    have := h Q _ hf hk
    unfold wpList
    rw [if_neg (by simp [Region.wanted, yielded_undef hf hj hd hb])]
    exact this

/-- A cut behind the first k operations. -/
theorem wpList_append {Q : Exit → Act → World → Prop} : ∀ (l1 l2 : List Oper) (a : Act) (w : World),
    wpList P ops (fun e a w => match e with | .normal => wpList P ops Q l2 a w | e => Q e a w) l1 a w → wpList P ops Q (l1 ++ l2) a w
  | [], _, _, _, h => h
  | o :: l1, l2, a, w, h => by
    unfold wpList at h
    show wpList P ops Q (o :: (l1 ++ l2)) a w
    unfold wpList
    split
    · rename_i hw
      rw [if_pos hw] at h
      refine h.imp (fun h => ?_) (fun h => h)
      unfold Oper.wp at h ⊢
      generalize (execOp a.eval o).run P w = r at *
      cases r with
      | ok x w' =>
        cases x with
        | value v => exact wpList_append l1 l2 _ _ h
        | skip => exact wpList_append l1 l2 _ _ h
        | defer d => exact wpList_append l1 l2 _ _ h
        | enter f args =>
          refine Calls.mono (R := _) h fun e w'' hh => ?_
          cases e with
          | returned v => exact wpList_append l1 l2 _ _ hh
          | panicked chain => exact hh
          | outgrown => exact hh
        | row row args => exact Rows.mono (R := _) h fun v w'' hh => wpList_append l1 l2 _ _ hh
        | _ => exact h
      | halt x w' => cases x <;> exact h
    · rename_i hw
      rw [if_neg hw] at h
      exact wpList_append l1 l2 _ _ h

theorem wpS_cut (k : Nat) (M : (Nat → Value) → World → Prop) (l : List Oper) (h1 : wpS P n ops M (l.take k) ρ w) (h2 : ∀ ρ' w', M ρ' w' → wpS P n ops K (l.drop k) ρ' w') : wpS P n ops K l ρ w :=
  fun Q a hf hk => by
    rw [← List.take_append_drop k l]
    refine wpList_append _ _ _ _ (h1 _ a hf fun a' ρ' w' hf' hm => ?_)
    exact h2 ρ' w' hm Q a' hf' hk
end

/-! ## Code -/

def wpC (P : Program) (n : Nat) (c : Code) (Q : Exit → (Nat → Value) → World → Prop) (ρ : Nat → Value) (w : World) : Prop :=
  ∀ a, Fr n a ρ → c.wp P (fun e a' w' => ∃ ρ', Fr n a' ρ' ∧ Q e ρ' w') a w

def thn (K : (Nat → Value) → World → Prop) (Q : Exit → (Nat → Value) → World → Prop) : Exit → (Nat → Value) → World → Prop
  | .normal, ρ, w => K ρ w
  | e, ρ, w => Q e ρ w

def inB (id : Nat) (Q : Exit → (Nat → Value) → World → Prop) : Exit → (Nat → Value) → World → Prop
  | .exit id', ρ, w => bif Nat.beq id' id then Q .normal ρ w else Q (.exit id') ρ w
  | e, ρ, w => Q e ρ w

section
variable {P : Program} {n : Nat} {Q : Exit → (Nat → Value) → World → Prop} {ρ : Nat → Value} {w : World}

theorem wpC_mono {c : Code} {Q' : Exit → (Nat → Value) → World → Prop} (h : wpC P n c Q ρ w) (hq : ∀ e ρ w, Q e ρ w → Q' e ρ w) : wpC P n c Q' ρ w :=
  fun a hf => wp_mono (h a hf) fun _ _ _ ⟨ρ', hf', hh⟩ => ⟨ρ', hf', hq _ _ _ hh⟩

theorem wpC_region {id : Nat} {l : List Oper} (h : wpS P n l.toArray (fun ρ w => Q .normal ρ w) l ρ w) : wpC P n (.region id l.toArray false) Q ρ w :=
  fun a hf => wp_region_lit (h _ a hf fun _ _ _ hf' hk => ⟨_, hf', hk⟩)

theorem wpC_seq {a b : Code} (h : wpC P n a (thn (fun ρ w => wpC P n b Q ρ w) Q) ρ w) : wpC P n (.seq a b) Q ρ w :=
  fun act hf => wp_seq (wp_mono (h act hf) fun e a' w' ⟨ρ', hf', hh⟩ => by
    cases e with
    | normal => exact hh a' hf'
    | _ => exact ⟨ρ', hf', hh⟩)

theorem wpC_skip (h : Q .normal ρ w) : wpC P n .skip Q ρ w := fun _ hf => wp_skip ⟨_, hf, h⟩
theorem wpC_exit {id : Nat} (h : Q (.exit id) ρ w) : wpC P n (.exit id) Q ρ w := fun _ hf => wp_exit ⟨_, hf, h⟩
theorem wpC_ret (h : Q .ret ρ w) : wpC P n .ret Q ρ w := fun _ hf => wp_ret ⟨_, hf, h⟩

theorem wpC_block {id : Nat} {c : Code} (h : wpC P n c (inB id Q) ρ w) : wpC P n (.block id c) Q ρ w :=
  fun a hf => wp_block (wp_mono (h a hf) fun e a' w' ⟨ρ', hf', hh⟩ => by
    cases e with
    | exit id' =>
      unfold Exit.inBlock
      by_cases he : id' = id
      · subst he
        simp only [inB, show Nat.beq id' id' = true from Nat.beq_refl _, cond_true] at hh
        simpa using ⟨ρ', hf', hh⟩
      · have hb : Nat.beq id' id = false := by
          cases hbb : Nat.beq id' id with
          | false => rfl
          | true => exact absurd (Nat.eq_of_beq_eq_true hbb) he
        simp only [inB, hb, cond_false] at hh
        simpa [he] using ⟨ρ', hf', hh⟩
    | _ => exact ⟨ρ', hf', hh⟩)

theorem wpC_cond {c : Operand} {x y : Code} (b : Bool) (hc : ev ρ c = .bool b) (h : wpC P n (bif b then x else y) Q ρ w) : wpC P n (.cond c x y) Q ρ w :=
  fun a hf => wp_cond (t := b) (by rw [hf.eval]; exact hc) (by
    have := h a hf
    cases b <;> exact this)
theorem wpC_true {c : Operand} {x y : Code} (hc : ev ρ c = .bool true) (h : wpC P n x Q ρ w) : wpC P n (.cond c x y) Q ρ w := wpC_cond true hc h
theorem wpC_false {c : Operand} {x y : Code} (hc : ev ρ c = .bool false) (h : wpC P n y Q ρ w) : wpC P n (.cond c x y) Q ρ w := wpC_cond false hc h

/-! ## Loops -/

/-- A loop with a bound on its rounds: the model of a Go loop. -/
def Loop {S X : Type} (body : S → Option (S ⊕ X)) : Nat → S → Option X
  | 0, _ => none
  | k + 1, s => match body s with
    | none => none
    | some (.inl s') => Loop body k s'
    | some (.inr x) => some x

/-- What a round must come to: round again, or out with the loop's result. -/
def LoopQ {S X : Type} (I : S → (Nat → Value) → World → Prop) (Q : Exit → (Nat → Value) → World → Prop) (x : X) : S ⊕ X → Exit → (Nat → Value) → World → Prop
  | .inl s', e, ρ, w => e = .normal ∧ I s' ρ w
  | .inr x', e, ρ, w => e ≠ .normal ∧ (x' = x → Q e ρ w)

theorem wpC_loop {S X : Type} {body : S → Option (S ⊕ X)} {c : Code} (I : S → (Nat → Value) → World → Prop) {x : X} {N : Nat} {s : S} (hm : Loop body N s = some x) (h0 : I s ρ w)
    (hb : ∀ s ρ w y, I s ρ w → body s = some y → wpC P n c (LoopQ I Q x y) ρ w) : wpC P n (.loop c) Q ρ w := by
  intro a hf
  refine wp_loop_rounds N ?_
  induction N generalizing s ρ w a with
  | zero => cases hm
  | succ k ih =>
    rw [rounds_succ]
    unfold Loop at hm
    cases hy : body s with
    | none => simp [hy] at hm
    | some y =>
      refine wp_mono (hb s ρ w y h0 hy a hf) fun e a' w' ⟨ρ', hf', hh⟩ => ?_
      cases y with
      | inl s' =>
        obtain ⟨rfl, hI⟩ := hh
        rw [hy] at hm
        exact ih hm hI a' hf'
      | inr x' =>
        rw [hy] at hm
        obtain ⟨hne, hq⟩ := hh
        have := hq (Option.some.inj hm)
        cases e with
        | normal => exact absurd rfl hne
        | _ => exact ⟨ρ', hf', this⟩

/-! ## Functions -/

/-- What a body must come to. -/
def bodyQ (P : Program) (fn : Func) (n : Nat) (R : Value → World → Prop) : Exit → (Nat → Value) → World → Prop
  | .normal, ρ, w | .ret, ρ, w => ∀ a, Fr n a ρ → ∃ v, (results fn a.tmps).run P w = .ok v w ∧ R v w
  | _, _, _ => False

theorem calls_of_wpC {f : FuncId} {fn : Func} {c : Code} {args : List Value} {R : Value → World → Prop} (hf : P.funcs[f]? = some fn) (hb : fn.body = some c) (hn : args.length ≤ fn.ntmps)
    (h : ∀ ρ, (∀ t v, args[t]? = some v → ρ t = v) → wpC P fn.ntmps c (bodyQ P fn fn.ntmps R) ρ w) :
    Calls P f args.toArray w fun e w' => ∃ v, e = .returned v ∧ R v w' := by
  refine calls_of_wp hf hb ?_
  have hsz : (args.toArray ++ Array.replicate (fn.ntmps - args.toArray.size) undef).size = fn.ntmps := by simp; omega
  refine wp_mono (h (fun t => (args.toArray ++ Array.replicate (fn.ntmps - args.toArray.size) undef).getD t undef) ?_ _ ⟨hsz, rfl, fun t => rfl⟩) fun e a' w' ⟨ρ', hf', hh⟩ => ?_
  · intro t v hv
    have hlt : t < args.length := (List.getElem?_eq_some_iff.1 hv).1
    have hv' : args[t] = v := by rw [List.getElem?_eq_getElem hlt] at hv; exact Option.some.inj hv
    simp [Array.getD_eq_getD_getElem?, Array.getElem?_append, hlt, hv']
  · cases e with
    | normal => exact ⟨hf'.defers, (hh a' hf').imp fun v hv => ⟨hv.1, v, rfl, hv.2⟩⟩
    | ret => exact ⟨hf'.defers, (hh a' hf').imp fun v hv => ⟨hv.1, v, rfl, hv.2⟩⟩
    | _ => exact hh.elim

theorem bodyQ_ret1 {fn : Func} {R : Value → World → Prop} {t : Tmp} (ht : fn.results = #[.tmp t]) (v : Value) (hv : ρ t = v) (h : R v w) : bodyQ P fn n R .ret ρ w :=
  fun a hf => ⟨v, by rw [results_tmp ht, hf.get, hv], h⟩
theorem bodyQ_ret2 {fn : Func} {R : Value → World → Prop} {t u : Tmp} (ht : fn.results = #[.tmp t, .tmp u]) (v1 v2 : Value) (h1 : ρ t = v1) (h2 : ρ u = v2) (h : R (.tuple #[v1, v2]) w) : bodyQ P fn n R .ret ρ w :=
  fun a hf => ⟨.tuple #[v1, v2], by rw [results_tmp2 ht, hf.get, hf.get, h1, h2], h⟩
theorem bodyQ_ret3 {fn : Func} {R : Value → World → Prop} {t u s : Tmp} (ht : fn.results = #[.tmp t, .tmp u, .tmp s]) (v1 v2 v3 : Value) (h1 : ρ t = v1) (h2 : ρ u = v2) (h3 : ρ s = v3) (h : R (.tuple #[v1, v2, v3]) w) : bodyQ P fn n R .ret ρ w :=
  fun a hf => ⟨.tuple #[v1, v2, v3], by
    have : ∀ (tmps : Array Value), (results fn tmps).run P w = .ok (.tuple #[tmps.getD t undef, tmps.getD u undef, tmps.getD s undef]) w := fun tmps => by simp [results, ht]
    rw [this, hf.get, hf.get, hf.get, h1, h2, h3], h⟩
end

end Go.Proofs.YtjeeligfdpociaaGreat
