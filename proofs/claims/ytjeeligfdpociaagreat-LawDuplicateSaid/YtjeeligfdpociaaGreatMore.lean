/- Control in the walks: continuations, joins, the model's steps. -/
/- More rules: regions that draw their order, structs compared, elements stored, literals, results in variables. -/
import Derived.Test.YtjeeligfdpociaaGreatOwn
import Derived.Laws.StructEq
namespace Go.Proofs.YtjeeligfdpociaaGreat
open Go Go.RowKit

theorem bind_some {α β : Type} {o : Option α} {f : α → Option β} {r : β} (h : o.bind f = some r) : ∃ x, o = some x ∧ f x = some r := Option.bind_eq_some_iff.1 h

section
variable {P : Program} {n : Nat} {ρ : Nat → Value} {w : World} {K : (Nat → Value) → World → Prop} {Q : Exit → (Nat → Value) → World → Prop}

theorem bval {x : Operand} {p q : Bool} (h : ev ρ x = .bool p) (e : p = q) : ev ρ x = .bool q := by rw [h, e]
theorem bval' {d : Nat} {p q : Bool} (h : ρ d = .bool p) (e : p = q) : ρ d = .bool q := by rw [h, e]

theorem thn_normal (h : K ρ w) : thn K Q .normal ρ w := h
theorem thn_exit {id : Nat} (h : Q (.exit id) ρ w) : thn K Q (.exit id) ρ w := h
theorem thn_ret (h : Q .ret ρ w) : thn K Q .ret ρ w := h
theorem inB_normal {id : Nat} (h : Q .normal ρ w) : inB id Q .normal ρ w := h
theorem inB_same {id : Nat} (h : Q .normal ρ w) : inB id Q (.exit id) ρ w := by
  show (bif Nat.beq id id then _ else _)
  rw [show Nat.beq id id = true from Nat.beq_refl id]
  exact h
theorem inB_other {id id' : Nat} (hne : Nat.beq id' id = false) (h : Q (.exit id') ρ w) : inB id Q (.exit id') ρ w := by
  show (bif Nat.beq id' id then _ else _)
  rw [hne]
  exact h
theorem inB_ret {id : Nat} (h : Q .ret ρ w) : inB id Q .ret ρ w := h

theorem loopQ_in {S X : Type} {I : S → (Nat → Value) → World → Prop} {x : X} {s' : S} (h : I s' ρ w) : LoopQ I Q x (.inl s') .normal ρ w := ⟨rfl, h⟩
theorem loopQ_exit {S X : Type} {I : S → (Nat → Value) → World → Prop} {x x' : X} {id : Nat} (h : x' = x → Q (.exit id) ρ w) : LoopQ I Q x (.inr x') (.exit id) ρ w := ⟨nofun, h⟩
theorem loopQ_ret {S X : Type} {I : S → (Nat → Value) → World → Prop} {x x' : X} (h : x' = x → Q .ret ρ w) : LoopQ I Q x (.inr x') .ret ρ w := ⟨nofun, h⟩

/-- Where several ways meet behind a block. -/
def joinQ (id : Nat) (J : (Nat → Value) → World → Prop) (Q : Exit → (Nat → Value) → World → Prop) : Exit → (Nat → Value) → World → Prop
  | .normal, ρ, w => J ρ w
  | .exit id', ρ, w => bif Nat.beq id' id then J ρ w else Q (.exit id') ρ w
  | e, ρ, w => Q e ρ w

theorem wpC_block_join {id : Nat} {c : Code} (J : (Nat → Value) → World → Prop) (h : wpC P n c (joinQ id J Q) ρ w) (hJ : ∀ ρ w, J ρ w → Q .normal ρ w) : wpC P n (.block id c) Q ρ w :=
  wpC_block (wpC_mono h fun e ρ w hh => by
    cases e with
    | normal => exact hJ _ _ hh
    | exit id' =>
      have hh' : bif Nat.beq id' id then J ρ w else Q (.exit id') ρ w := hh
      show bif Nat.beq id' id then Q .normal ρ w else Q (.exit id') ρ w
      cases hb : Nat.beq id' id with
      | true => rw [hb] at hh'; exact hJ _ _ hh'
      | false => rw [hb] at hh'; exact hh'
    | _ => exact hh)
theorem joinQ_normal {id : Nat} {J : (Nat → Value) → World → Prop} (h : J ρ w) : joinQ id J Q .normal ρ w := h
theorem joinQ_same {id : Nat} {J : (Nat → Value) → World → Prop} (h : J ρ w) : joinQ id J Q (.exit id) ρ w := by
  show (bif Nat.beq id id then _ else _)
  rw [show Nat.beq id id = true from Nat.beq_refl id]
  exact h
theorem joinQ_other {id id' : Nat} {J : (Nat → Value) → World → Prop} (hne : Nat.beq id' id = false) (h : Q (.exit id') ρ w) : joinQ id J Q (.exit id') ρ w := by
  show (bif Nat.beq id' id then _ else _)
  rw [hne]
  exact h
theorem joinQ_ret {id : Nat} {J : (Nat → Value) → World → Prop} (h : Q .ret ρ w) : joinQ id J Q .ret ρ w := h

/-- Where several ways meet behind the first part of a sequence. -/
theorem wpC_seq_join {a b : Code} (J : (Nat → Value) → World → Prop) (h : wpC P n a (thn J Q) ρ w) (hJ : ∀ ρ w, J ρ w → wpC P n b Q ρ w) : wpC P n (.seq a b) Q ρ w :=
  wpC_seq (wpC_mono h fun e ρ w hh => by
    cases e with
    | normal => exact hJ _ _ hh
    | _ => exact hh)

theorem m_nil {f : Operand → Value} : List.map f [] = [] := rfl
theorem m_cons {f : Operand → Value} {x : Operand} {xs : List Operand} {v : Value} {vs : List Value} (h : f x = v) (hs : List.map f xs = vs) : List.map f (x :: xs) = v :: vs := by rw [List.map_cons, h, hs]

theorem ap_app {g m c : Nat → Prop} {k0 : Nat} (hm : ∀ k, g k → m k ∨ k0 ≤ k) (h1 : ∀ k, m k → ¬ c k) (h2 : ∀ k, c k → k < k0) : ∀ k, g k → ¬ c k := fun k hk hc => by
  rcases hm k hk with h | h
  · exact h1 k h hc
  · have := h2 k hc
    omega

theorem St.narrow {w w' : World} {F F1 F2 : Nat → Prop} (k : St w F1 w' F2) (hF : ∀ b, F b → b < w.heap.size) : St w F w' F :=
  ⟨k.below, fun _ h => h, fun _ h => .inl h, fun b hb => Nat.lt_of_lt_of_le (hF b hb) k.below.size⟩

theorem Own.fz {base : Nat} {F G : Nat → Prop} {w : World} {T : TypeId} {r : Row} {v : Value} {l : List r.den} (h : Own base F w T r v l) (hg : ∀ k, G k → ¬ mine v k) : Own base (fun b => F b ∨ G b) w T r v l :=
  h.keep (Step.freeze F w G) fun k hk => ⟨fun e => e.elim (h.no k hk) fun e => hg k e hk, rfl⟩
theorem BoxO.fz {base : Nat} {F G : Nat → Prop} {w : World} {b : Nat} {T : TypeId} {r : Row} {x : r.den} (h : BoxO base F w b T r x) (hg : ∀ k, G k → ¬ is b k) : BoxO base (fun b => F b ∨ G b) w b T r x := by
  obtain ⟨h1, h2, es, hh, hr⟩ := h
  exact ⟨h1, fun e => e.elim h2 fun e => hg b e rfl, es, hh, hr.step (Step.freeze F w G)⟩
theorem St.fz {w0 w : World} {F0 F : Nat → Prop} (h : St w0 F0 w F) {T : TypeId} {r : Row} {v : Value} {l : List r.den} (ho : Own w0.heap.size F w T r v l) : St w0 F0 w (fun b => F b ∨ mine v b) :=
  h.freeze (mine v) fun b hb => ⟨ho.ge b hb, ho.lt b hb⟩
end
/-- What is asked of a type: its size, its zero value. -/
def TI (P : Program) (e : TypeId) (r : Row) : Prop := ∃ ti z, P.info? e = some ti ∧ ti.zero = some z ∧ z.cells.toList = r.zeros ∧ ti.size = r.size ∧ ti.bytes ≤ 32768

theorem TI.mk {P : Program} {e : TypeId} {r : Row} {k : Nat} (h : (P.info? e).map (fun i => (i.zero.map (fun z => z.cells.toList), i.size, decide (i.bytes ≤ 32768))) = some (some r.zeros, k, true)) (hk : k = r.size) : TI P e r := by
  cases hi : P.info? e with
  | none => simp [hi] at h
  | some ti =>
    simp only [hi, Option.map_some, Option.some.injEq, Prod.mk.injEq, decide_eq_true_eq] at h
    obtain ⟨h1, h2, h3⟩ := h
    cases hz : ti.zero with
    | none => simp [hz] at h1
    | some z =>
      simp only [hz, Option.map_some, Option.some.injEq] at h1
      exact ⟨ti, z, hi, hz, h1, h2.trans hk, h3⟩

section
variable {P : Program} {n : Nat} {ops : Array Oper} {K : (Nat → Value) → World → Prop} {rest : List Oper} {ρ : Nat → Value} {w : World} {F : Nat → Prop} {base : Nat}
variable {d : Nat} {dd : Option Nat} {ty : TypeId} {pos : String} {aft : Array Edge} {x y c : Operand} {t e : TypeId} {r : Row}

theorem pure_fieldT {f : Nat} {fs : Array Field} {fd : Field} {blk off : Nat} (k : Nat) (hs : P.underlying t = some (.struct fs)) (hf : fs[f]? = some fd) (hi : TI P fd.type r) (hk : fd.offset = k)
    (hx : ev ρ x = .pointer (some ⟨blk, off, none⟩)) : Pure P ρ ⟨dd, .fieldAddr t x f, ty, pos, aft, none⟩ (.pointer (some ⟨blk, off + k, none⟩)) := by
  obtain ⟨ti, z, h1, _, _, h4, _⟩ := hi
  exact pure_fieldAddr k hs hf h1 (by rw [h4]; have := r.size_pos; omega) hk hx

/-! guards whose operations are pure -/
end
end Go.Proofs.YtjeeligfdpociaaGreat

namespace Go.Proofs.YtjeeligfdpociaaGreat
open Go Go.RowKit

/-! ## Structs compared -/

/-- Equality of readings, as a Bool. -/
noncomputable def eqR (r : Row) (x y : r.den) : Bool := @decide (x = y) (Row.decEq r x y)
theorem eqR_iff {r : Row} {x y : r.den} : eqR r x y = true ↔ x = y := by simp [eqR]
theorem eqR_false {r : Row} {x y : r.den} : eqR r x y = false ↔ x ≠ y := by simp [eqR]


/-- The value that the cells cs of type t are. -/
def ValOf (P : Program) (t : TypeId) (cs : List Value) (v : Value) : Prop := ∃ D, P.underlying t = some D ∧ (if aggD D = true then v = .agg cs.toArray else cs = [v])

/-- == on type t tells whether two readings are one. -/
def EqOK (P : Program) (t : TypeId) (r : Row) (K : Nat) : Prop :=
  ∀ (d : Nat) (w2 w : World) (F : Nat → Prop) (cs cs' : List Value) (x y : r.den) (v v' : Value), ValOf P t cs v → ValOf P t cs' v' → Rep F w r cs x → Rep F w r cs' y →
    (Op.equalIn (d + K) t v v').run P w2 = .ok (decide (x = y)) w2

def EqFs (P : Program) (fs : List Field) (r : Row) (off K : Nat) : Prop :=
  ∀ (d : Nat) (w2 w : World) (F : Nat → Prop) (xs ys : List Value) (x y : r.den), Rep F w r ((xs.drop off).take r.size) x → Rep F w r ((ys.drop off).take r.size) y →
    (Op.eqFields (d + K) xs.toArray ys.toArray fs).run P w2 = .ok (decide (x = y)) w2

section
variable {P : Program} {t : TypeId} {r : Row} {k : IntKind} {K : Nat}

theorem eqT_int (ht : P.underlying t = some (.int k)) : EqOK P t (.int k) 1 := by
  intro d w2 w F cs cs' x y v v' ⟨D, hD, h1⟩ ⟨D', hD', h2⟩ hx hy
  rw [ht] at hD hD'
  cases hD; cases hD'
  obtain rfl : cs = _ := hx
  obtain rfl : cs' = _ := hy
  simp only [aggD, Bool.false_eq_true, if_false, List.cons.injEq, and_true] at h1 h2
  subst h1; subst h2
  rw [run_equalIn_int (h := ht), beq_dec]
theorem eqT_bool (ht : P.underlying t = some .bool) : EqOK P t .bool 1 := by
  intro d w2 w F cs cs' x y v v' ⟨D, hD, h1⟩ ⟨D', hD', h2⟩ hx hy
  rw [ht] at hD hD'
  cases hD; cases hD'
  obtain rfl : cs = _ := hx
  obtain rfl : cs' = _ := hy
  simp only [aggD, Bool.false_eq_true, if_false, List.cons.injEq, and_true] at h1 h2
  subst h1; subst h2
  rw [run_equalIn_bool' _ _ _ _ _ ht, beq_dec]
theorem eqT_str (ht : P.underlying t = some .string) : EqOK P t .str 1 := by
  intro d w2 w F cs cs' x y v v' ⟨D, hD, h1⟩ ⟨D', hD', h2⟩ hx hy
  rw [ht] at hD hD'
  cases hD; cases hD'
  obtain rfl : cs = _ := hx
  obtain rfl : cs' = _ := hy
  simp only [aggD, Bool.false_eq_true, if_false, List.cons.injEq, and_true] at h1 h2
  subst h1; subst h2
  rw [run_equalIn_string _ _ _ _ _ ht, bytes_beq]

theorem run_part {D : TypeDesc} {ti : TypeInfo} {cs : List Value} {off : Nat} {F : Nat → Prop} {w : World} {x : r.den} (hD : P.underlying t = some D) (hi : P.info? t = some ti) (hs : ti.size = r.size) (hone : aggD D = false → r.size = 1)
    (hr : Rep F w r ((cs.drop off).take r.size) x) (w2 : World) : ∃ v, (part t cs.toArray off).run P w2 = .ok v w2 ∧ ValOf P t ((cs.drop off).take r.size) v := by
  have hl := hr.length
  have hpos := r.size_pos
  cases hA : aggD D with
  | true =>
    refine ⟨.agg ((cs.drop off).take r.size).toArray, ?_, D, hD, by rw [if_pos hA]⟩
    unfold part
    rw [Sem.run_bind, run_isAgg hD, hA]
    simp [sizeOf, typeInfo, hi, hs]
  | false =>
    have h1 := hone hA
    rw [h1] at hl ⊢
    have hlt : off < cs.length := by
      rw [List.length_take, List.length_drop] at hl
      omega
    refine ⟨cs[off], ?_, D, hD, ?_⟩
    · unfold part
      rw [Sem.run_bind, run_isAgg hD, hA]
      simp [hlt]
    · rw [if_neg (by simp [hA])]
      rw [List.drop_eq_getElem_cons hlt]
      rfl

theorem eqF_last {f : Field} {off : Nat} (hn : (f.name != "_") = true) (ho : f.offset = off) {D : TypeDesc} (hD : P.underlying f.type = some D) (hone : aggD D = false → r.size = 1) (hi : TI P f.type r) (he : EqOK P f.type r K) : EqFs P [f] r off K := by
  intro d w2 w F xs ys x y hx hy
  subst ho
  obtain ⟨ti, z, h1, _, _, h4, _⟩ := hi
  obtain ⟨v, hv, hv2⟩ := run_part hD h1 h4 hone hx w2
  obtain ⟨v', hv', hv2'⟩ := run_part hD h1 h4 hone hy w2
  have := he d w2 w F _ _ x y v v' hv2 hv2' hx hy
  have hn' : f.name ≠ "_" := by simpa using hn
  unfold Op.eqFields
  rw [if_pos hn', Sem.run_bind, hv, Result.andThen_ok, Sem.run_bind, hv', Result.andThen_ok, Sem.run_bind, this, Result.andThen_ok]
  by_cases hxy : x = y <;> simp [hxy, Op.eqFields]

theorem eqF_cons {f : Field} {fs : List Field} {a b : Row} {off : Nat} (hn : (f.name != "_") = true) (ho : f.offset = off) {D : TypeDesc} (hD : P.underlying f.type = some D) (hone : aggD D = false → a.size = 1) (hi : TI P f.type a) (he : EqOK P f.type a K)
    (hr : EqFs P fs b (off + a.size) K) : EqFs P (f :: fs) (.pair a b) off K := by
  intro d w2 w F xs ys x y hx hy
  subst ho
  obtain ⟨ti, z, h1, _, _, h4, _⟩ := hi
  have hle : a.size ≤ (Row.pair a b).size := by simp
  have cutA : ∀ (zs : List Value) (u : (Row.pair a b).den), Rep F w (.pair a b) ((zs.drop f.offset).take (Row.pair a b).size) u → Rep F w a ((zs.drop f.offset).take a.size) u.1 := by
    intro zs u hu
    have := Rep.path (.fst (.here (r := a)) : Path (.pair a b) a) hu
    simp only [Path.off, List.drop_zero] at this
    rw [List.take_take, Nat.min_eq_left hle] at this
    exact this
  have cutB : ∀ (zs : List Value) (u : (Row.pair a b).den), Rep F w (.pair a b) ((zs.drop f.offset).take (Row.pair a b).size) u → Rep F w b ((zs.drop (f.offset + a.size)).take b.size) u.2 := by
    intro zs u hu
    have := Rep.path (.snd (.here (r := b)) : Path (.pair a b) b) hu
    simp only [Path.off, Nat.add_zero] at this
    rw [List.drop_take, List.drop_drop] at this
    rw [show (Row.pair a b).size - a.size = b.size from by simp] at this
    rw [List.take_take, Nat.min_self] at this
    exact this
  obtain ⟨v, hv, hv2⟩ := run_part hD h1 h4 hone (cutA xs x hx) w2
  obtain ⟨v', hv', hv2'⟩ := run_part hD h1 h4 hone (cutA ys y hy) w2
  have h5 := he d w2 w F _ _ _ _ v v' hv2 hv2' (cutA xs x hx) (cutA ys y hy)
  have h6 := hr d w2 w F xs ys _ _ (cutB xs x hx) (cutB ys y hy)
  have hn' : f.name ≠ "_" := by simpa using hn
  unfold Op.eqFields
  rw [if_pos hn', Sem.run_bind, hv, Result.andThen_ok, Sem.run_bind, hv', Result.andThen_ok, Sem.run_bind, h5, Result.andThen_ok]
  obtain ⟨x1, x2⟩ := x
  obtain ⟨y1, y2⟩ := y
  by_cases hxy : x1 = y1
  · simp only [hxy, decide_true, Bool.not_true, Bool.false_eq_true, if_false, h6]
    congr 1
    simp [Prod.ext_iff]
  · simp [hxy, Prod.ext_iff]

theorem eqT_struct {fs : Array Field} (ht : P.underlying t = some (.struct fs)) (hp : P.stoodInHeld t = false) (h : EqFs P fs.toList r 0 K) : EqOK P t r (K + 1) := by
  intro d w2 w F cs cs' x y v v' ⟨D, hD, h1⟩ ⟨D', hD', h2⟩ hx hy
  rw [ht] at hD hD'
  cases hD; cases hD'
  simp only [aggD, if_true] at h1 h2
  subst h1; subst h2
  have hf : P.fieldsOf t = fs := by simp [Program.fieldsOf, ht]
  have hlx := hx.length
  have hly := hy.length
  rw [← Nat.add_assoc, run_equalIn_struct _ _ _ _ _ (by rw [hf]; exact ht) hp, hf]
  exact h d w2 w F cs cs' x y (by rw [List.drop_zero, ← hlx, List.take_length]; exact hx) (by rw [List.drop_zero, ← hly, List.take_length]; exact hy)

variable {ρ : Nat → Value} {dd : Option Nat} {ty : TypeId} {pos : String} {aft : Array Edge} {x y : Operand} {u : TypeId}

theorem pure_eqlT {d : Nat} {F : Nat → Prop} {w : World} {es es' : List Value} {a b : r.den} (hE : EqOK P t r K) (hd : d + K = 10000) (hg : P.eqGuardType P.depth t = false) (hD : (P.underlying t).any aggD = true)
    (hx : ev ρ x = .agg es.toArray) (hy : ev ρ y = .agg es'.toArray) (ha : Rep F w r es a) (hb : Rep F w r es' b) :
    Pure P ρ ⟨dd, .binOp .eql t x y u, ty, pos, aft, none⟩ (.bool (eqR r a b)) := fun w2 => by
  cases hu : P.underlying t with
  | none => simp [hu] at hD
  | some D =>
    have hA : aggD D = true := by simpa [hu] using hD
    have := hE d w2 w F es es' a b _ _ ⟨D, hu, by rw [if_pos hA]⟩ ⟨D, hu, by rw [if_pos hA]⟩ ha hb
    rw [hd] at this
    simp only [execOp, hx, hy, Sem.run_bind, run_eqGuard_agg _ _ _ _ _ _ _ hg, Result.andThen_ok, run_eql_struct, this]
    rfl
theorem pure_neqT {d : Nat} {F : Nat → Prop} {w : World} {es es' : List Value} {a b : r.den} (hE : EqOK P t r K) (hd : d + K = 10000) (hg : P.eqGuardType P.depth t = false) (hD : (P.underlying t).any aggD = true)
    (hx : ev ρ x = .agg es.toArray) (hy : ev ρ y = .agg es'.toArray) (ha : Rep F w r es a) (hb : Rep F w r es' b) :
    Pure P ρ ⟨dd, .binOp .neq t x y u, ty, pos, aft, none⟩ (.bool (!eqR r a b)) := fun w2 => by
  cases hu : P.underlying t with
  | none => simp [hu] at hD
  | some D =>
    have hA : aggD D = true := by simpa [hu] using hD
    have := hE d w2 w F es es' a b _ _ ⟨D, hu, by rw [if_pos hA]⟩ ⟨D, hu, by rw [if_pos hA]⟩ ha hb
    rw [hd] at this
    simp only [execOp, hx, hy, Sem.run_bind, run_eqGuard_agg _ _ _ _ _ _ _ hg, Result.andThen_ok, run_neq_struct, this]
    rfl
end

/-! ## Regions that draw their order -/
section
variable {P : Program} {n : Nat} {ops : Array Oper} {K : (Nat → Value) → Prop} {rest : List Oper} {ρ : Nat → Value} {w : World} {F : Nat → Prop}

variable {d : Nat} {ty : TypeId} {pos : String} {aft : Array Edge} {x y : Operand} {t e : TypeId} {r : Row}

theorem At.st {w' : World} {b off : Nat} {a : r.den} (h : At F w r b off a) (hF : ∀ b, F b → b < w.heap.size) (hs : St w F w' F) : At F w' r b off a := by
  obtain ⟨es, hl, hc, hr⟩ := h
  refine ⟨es, hl, fun j u hu => ?_, hr.step (hs.step hF)⟩
  have := hc j u hu
  have hlt : b < w.heap.size := block_lt_of_cell this
  exact (World.cell?_of_block (hs.below.block b hlt)).trans this

end
end Go.Proofs.YtjeeligfdpociaaGreat
