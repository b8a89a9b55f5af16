/- Control in the walks: continuations, joins, the model's steps. -/
import Derived.Test.YtjeeligfdpociaaGreatOwn
namespace Go.Proofs.YtjeeligfdpociaaGreat
open Go Go.RowKit

theorem bind_some {α β : Type} {o : Option α} {f : α → Option β} {r : β} (h : o.bind f = some r) : ∃ x, o = some x ∧ f x = some r := Option.bind_eq_some_iff.1 h

section
variable {P : Program} {n : Nat} {ρ : Nat → Value} {w : World} {K : (Nat → Value) → World → Prop} {Q : Exit → (Nat → Value) → World → Prop}

theorem bval {x : Operand} {p q : Bool} (h : ev ρ x = .bool p) (e : p = q) : ev ρ x = .bool q := by rw [h, e]
theorem bval' {d : Nat} {p q : Bool} (h : ρ d = .bool p) (e : p = q) : ρ d = .bool q := by rw [h, e]

theorem thn_normal (h : K ρ w) : thn K Q .normal ρ w := h
theorem thn_exit {id : Nat} (h : Q (.exit id) ρ w) : thn K Q (.exit id) ρ w := h
theorem thn_ret (h : Q .ret ρ w) : thn K Q .ret ρ w := h
theorem inB_normal {id : Nat} (h : Q .normal ρ w) : inB id Q .normal ρ w := h
theorem inB_same {id : Nat} (h : Q .normal ρ w) : inB id Q (.exit id) ρ w := by
  show (bif Nat.beq id id then _ else _)
  rw [show Nat.beq id id = true from Nat.beq_refl id]
  exact h
theorem inB_other {id id' : Nat} (hne : Nat.beq id' id = false) (h : Q (.exit id') ρ w) : inB id Q (.exit id') ρ w := by
  show (bif Nat.beq id' id then _ else _)
  rw [hne]
  exact h
theorem inB_ret {id : Nat} (h : Q .ret ρ w) : inB id Q .ret ρ w := h

theorem loopQ_in {S X : Type} {I : S → (Nat → Value) → World → Prop} {x : X} {s' : S} (h : I s' ρ w) : LoopQ I Q x (.inl s') .normal ρ w := ⟨rfl, h⟩
theorem loopQ_exit {S X : Type} {I : S → (Nat → Value) → World → Prop} {x x' : X} {id : Nat} (h : x' = x → Q (.exit id) ρ w) : LoopQ I Q x (.inr x') (.exit id) ρ w := ⟨nofun, h⟩
theorem loopQ_ret {S X : Type} {I : S → (Nat → Value) → World → Prop} {x x' : X} (h : x' = x → Q .ret ρ w) : LoopQ I Q x (.inr x') .ret ρ w := ⟨nofun, h⟩

/-- Where several ways meet behind a block. -/
def joinQ (id : Nat) (J : (Nat → Value) → World → Prop) (Q : Exit → (Nat → Value) → World → Prop) : Exit → (Nat → Value) → World → Prop
  | .normal, ρ, w => J ρ w
  | .exit id', ρ, w => bif Nat.beq id' id then J ρ w else Q (.exit id') ρ w
  | e, ρ, w => Q e ρ w

theorem wpC_block_join {id : Nat} {c : Code} (J : (Nat → Value) → World → Prop) (h : wpC P n c (joinQ id J Q) ρ w) (hJ : ∀ ρ w, J ρ w → Q .normal ρ w) : wpC P n (.block id c) Q ρ w :=
  wpC_block (wpC_mono h fun e ρ w hh => by
    cases e with
    | normal => exact hJ _ _ hh
    | exit id' =>
      have hh' : bif Nat.beq id' id then J ρ w else Q (.exit id') ρ w := hh
      show bif Nat.beq id' id then Q .normal ρ w else Q (.exit id') ρ w
      cases hb : Nat.beq id' id with
      | true => rw [hb] at hh'; exact hJ _ _ hh'
      | false => rw [hb] at hh'; exact hh'
    | _ => exact hh)
theorem joinQ_normal {id : Nat} {J : (Nat → Value) → World → Prop} (h : J ρ w) : joinQ id J Q .normal ρ w := h
theorem joinQ_same {id : Nat} {J : (Nat → Value) → World → Prop} (h : J ρ w) : joinQ id J Q (.exit id) ρ w := by
  show (bif Nat.beq id id then _ else _)
  rw [show Nat.beq id id = true from Nat.beq_refl id]
  exact h
theorem joinQ_other {id id' : Nat} {J : (Nat → Value) → World → Prop} (hne : Nat.beq id' id = false) (h : Q (.exit id') ρ w) : joinQ id J Q (.exit id') ρ w := by
  show (bif Nat.beq id' id then _ else _)
  rw [hne]
  exact h
theorem joinQ_ret {id : Nat} {J : (Nat → Value) → World → Prop} (h : Q .ret ρ w) : joinQ id J Q .ret ρ w := h

/-- Where several ways meet behind the first part of a sequence. -/
theorem wpC_seq_join {a b : Code} (J : (Nat → Value) → World → Prop) (h : wpC P n a (thn J Q) ρ w) (hJ : ∀ ρ w, J ρ w → wpC P n b Q ρ w) : wpC P n (.seq a b) Q ρ w :=
  wpC_seq (wpC_mono h fun e ρ w hh => by
    cases e with
    | normal => exact hJ _ _ hh
    | _ => exact hh)

theorem m_nil {f : Operand → Value} : List.map f [] = [] := rfl
theorem m_cons {f : Operand → Value} {x : Operand} {xs : List Operand} {v : Value} {vs : List Value} (h : f x = v) (hs : List.map f xs = vs) : List.map f (x :: xs) = v :: vs := by rw [List.map_cons, h, hs]

theorem ap_app {g m c : Nat → Prop} {k0 : Nat} (hm : ∀ k, g k → m k ∨ k0 ≤ k) (h1 : ∀ k, m k → ¬ c k) (h2 : ∀ k, c k → k < k0) : ∀ k, g k → ¬ c k := fun k hk hc => by
  rcases hm k hk with h | h
  · exact h1 k h hc
  · have := h2 k hc
    omega

theorem St.narrow {w w' : World} {F F1 F2 : Nat → Prop} (k : St w F1 w' F2) (hF : ∀ b, F b → b < w.heap.size) : St w F w' F :=
  ⟨k.below, fun _ h => h, fun _ h => .inl h, fun b hb => Nat.lt_of_lt_of_le (hF b hb) k.below.size⟩

theorem Own.fz {base : Nat} {F G : Nat → Prop} {w : World} {T : TypeId} {r : Row} {v : Value} {l : List r.den} (h : Own base F w T r v l) (hg : ∀ k, G k → ¬ mine v k) : Own base (fun b => F b ∨ G b) w T r v l :=
  h.keep (Step.freeze F w G) fun k hk => ⟨fun e => e.elim (h.no k hk) fun e => hg k e hk, rfl⟩
theorem BoxO.fz {base : Nat} {F G : Nat → Prop} {w : World} {b : Nat} {T : TypeId} {r : Row} {x : r.den} (h : BoxO base F w b T r x) (hg : ∀ k, G k → ¬ is b k) : BoxO base (fun b => F b ∨ G b) w b T r x := by
  obtain ⟨h1, h2, es, hh, hr⟩ := h
  exact ⟨h1, fun e => e.elim h2 fun e => hg b e rfl, es, hh, hr.step (Step.freeze F w G)⟩
theorem St.fz {w0 w : World} {F0 F : Nat → Prop} (h : St w0 F0 w F) {T : TypeId} {r : Row} {v : Value} {l : List r.den} (ho : Own w0.heap.size F w T r v l) : St w0 F0 w (fun b => F b ∨ mine v b) :=
  h.freeze (mine v) fun b hb => ⟨ho.ge b hb, ho.lt b hb⟩
end
/-- What is asked of a type: its size, its zero value. -/
def TI (P : Program) (e : TypeId) (r : Row) : Prop := ∃ ti z, P.info? e = some ti ∧ ti.zero = some z ∧ z.cells.toList = r.zeros ∧ ti.size = r.size ∧ ti.bytes ≤ 32768

theorem TI.mk {P : Program} {e : TypeId} {r : Row} {k : Nat} (h : (P.info? e).map (fun i => (i.zero.map (fun z => z.cells.toList), i.size, decide (i.bytes ≤ 32768))) = some (some r.zeros, k, true)) (hk : k = r.size) : TI P e r := by
  cases hi : P.info? e with
  | none => simp [hi] at h
  | some ti =>
    simp only [hi, Option.map_some, Option.some.injEq, Prod.mk.injEq, decide_eq_true_eq] at h
    obtain ⟨h1, h2, h3⟩ := h
    cases hz : ti.zero with
    | none => simp [hz] at h1
    | some z =>
      simp only [hz, Option.map_some, Option.some.injEq] at h1
      exact ⟨ti, z, hi, hz, h1, h2.trans hk, h3⟩

section
variable {P : Program} {n : Nat} {ops : Array Oper} {K : (Nat → Value) → World → Prop} {rest : List Oper} {ρ : Nat → Value} {w : World} {F : Nat → Prop} {base : Nat}
variable {d : Nat} {dd : Option Nat} {ty : TypeId} {pos : String} {aft : Array Edge} {x y c : Operand} {t e : TypeId} {r : Row}

theorem pure_fieldT {f : Nat} {fs : Array Field} {fd : Field} {blk off : Nat} (k : Nat) (hs : P.underlying t = some (.struct fs)) (hf : fs[f]? = some fd) (hi : TI P fd.type r) (hk : fd.offset = k)
    (hx : ev ρ x = .pointer (some ⟨blk, off, none⟩)) : Pure P ρ ⟨dd, .fieldAddr t x f, ty, pos, aft, none⟩ (.pointer (some ⟨blk, off + k, none⟩)) := by
  obtain ⟨ti, z, h1, _, _, h4, _⟩ := hi
  exact pure_fieldAddr k hs hf h1 (by rw [h4]; have := r.size_pos; omega) hk hx

/-! guards whose operations are pure -/
end
end Go.Proofs.YtjeeligfdpociaaGreat
