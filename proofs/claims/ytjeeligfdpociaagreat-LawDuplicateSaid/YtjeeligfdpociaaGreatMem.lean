/- One rule for each operation of the walks. -/
/- Memory in the walks: elements, fields, variables, slices of the call's own. -/
import Derived.Test.YtjeeligfdpociaaGreatBase
namespace Go.Proofs.YtjeeligfdpociaaGreat
open Go Go.RowKit

theorem beq_dec {α : Type} [BEq α] [LawfulBEq α] [DecidableEq α] (a b : α) : (a == b) = decide (a = b) := by
  by_cases h : a = b
  · subst h; simp
  · simp [h]

theorem run_equal_bool {P : Program} {t : TypeId} (ht : P.underlying t = some .bool) (p q : Bool) (w : World) : (Op.equal t (.bool p) (.bool q)).run P w = .ok (p == q) w := by
  have h : ∀ d : Nat, (Op.equalIn (d + 1) t (.bool p) (.bool q)).run P w = .ok (p == q) w := fun d => by
    simp [Op.equalIn, run_underlying ht]
  exact h 9999

section
variable {P : Program} {ρ : Nat → Value} {d : Option Nat} {ty : TypeId} {pos : String} {aft : Array Edge} {x y c : Operand} {t u : TypeId} {k : IntKind} {a b : Int}

theorem pure_move {v : Value} (h : ev ρ x = v) : Pure P ρ ⟨d, .move x, ty, pos, aft, none⟩ v := fun w => by simp [execOp, h]
theorem pure_assign {v : Value} (h : ev ρ x = v) : Pure P ρ ⟨d, .assign x, ty, pos, aft, none⟩ v := fun w => by simp [execOp, h]
theorem pure_pick (bb : Bool) {v v' : Value} (hc : ev ρ c = .bool bb) (hx : ev ρ x = v) (hy : ev ρ y = v') : Pure P ρ ⟨d, .pick c x y, ty, pos, aft, none⟩ (bif bb then v else v') := fun w => by
  cases bb <;> simp [execOp, asBool, hc, hx, hy]
theorem pure_pick_true {v : Value} (hc : ev ρ c = .bool true) (hx : ev ρ x = v) : Pure P ρ ⟨d, .pick c x y, ty, pos, aft, none⟩ v := fun w => by
  simp [execOp, asBool, hc, hx]
theorem pure_pick_false {v : Value} (hc : ev ρ c = .bool false) (hy : ev ρ y = v) : Pure P ρ ⟨d, .pick c x y, ty, pos, aft, none⟩ v := fun w => by
  simp [execOp, asBool, hc, hy]

theorem pure_add (hx : ev ρ x = .int k a) (hy : ev ρ y = .int k b) : Pure P ρ ⟨d, .binOp .add t x y u, ty, pos, aft, none⟩ (.int k (k.wrap (a + b))) := fun w => by
  simp [execOp, eqGuard, binOp, Op.intArith, hx, hy]
theorem pure_sub (hx : ev ρ x = .int k a) (hy : ev ρ y = .int k b) : Pure P ρ ⟨d, .binOp .sub t x y u, ty, pos, aft, none⟩ (.int k (k.wrap (a - b))) := fun w => by
  simp [execOp, eqGuard, binOp, Op.intArith, hx, hy]
theorem pure_mul (hx : ev ρ x = .int k a) (hy : ev ρ y = .int k b) : Pure P ρ ⟨d, .binOp .mul t x y u, ty, pos, aft, none⟩ (.int k (k.wrap (a * b))) := fun w => by
  simp [execOp, eqGuard, binOp, Op.intArith, hx, hy]
theorem pure_quo (hx : ev ρ x = .int k a) (hy : ev ρ y = .int k b) (hb : b ≠ 0) : Pure P ρ ⟨d, .binOp .quo t x y u, ty, pos, aft, none⟩ (.int k (k.wrap (a.tdiv b))) := fun w => by
  simp [execOp, eqGuard, binOp, Op.intDiv, hx, hy, hb]
theorem pure_rem (hx : ev ρ x = .int k a) (hy : ev ρ y = .int k b) (hb : b ≠ 0) : Pure P ρ ⟨d, .binOp .rem t x y u, ty, pos, aft, none⟩ (.int k (a.tmod b)) := fun w => by
  simp [execOp, eqGuard, binOp, Op.intDiv, hx, hy, hb]
theorem pure_lss (hx : ev ρ x = .int k a) (hy : ev ρ y = .int k b) : Pure P ρ ⟨d, .binOp .lss t x y u, ty, pos, aft, none⟩ (.bool (decide (a < b))) := fun w => by
  simp [execOp, eqGuard, binOp, Op.intCmp, hx, hy]
theorem pure_leq (hx : ev ρ x = .int k a) (hy : ev ρ y = .int k b) : Pure P ρ ⟨d, .binOp .leq t x y u, ty, pos, aft, none⟩ (.bool (decide (a ≤ b))) := fun w => by
  simp [execOp, eqGuard, binOp, Op.intCmp, hx, hy]
theorem pure_gtr (hx : ev ρ x = .int k a) (hy : ev ρ y = .int k b) : Pure P ρ ⟨d, .binOp .gtr t x y u, ty, pos, aft, none⟩ (.bool (decide (b < a))) := fun w => by
  simp [execOp, eqGuard, binOp, Op.intCmp, hx, hy]
theorem pure_geq (hx : ev ρ x = .int k a) (hy : ev ρ y = .int k b) : Pure P ρ ⟨d, .binOp .geq t x y u, ty, pos, aft, none⟩ (.bool (decide (b ≤ a))) := fun w => by
  simp [execOp, eqGuard, binOp, Op.intCmp, hx, hy]
theorem pure_eql (hx : ev ρ x = .int k a) (hy : ev ρ y = .int k b) : Pure P ρ ⟨d, .binOp .eql t x y u, ty, pos, aft, none⟩ (.bool (decide (a = b))) := fun w => by
  simp [execOp, eqGuard, binOp, Op.intCmp, hx, hy, beq_dec]
theorem pure_neq (hx : ev ρ x = .int k a) (hy : ev ρ y = .int k b) : Pure P ρ ⟨d, .binOp .neq t x y u, ty, pos, aft, none⟩ (.bool (!decide (a = b))) := fun w => by
  simp [execOp, eqGuard, binOp, Op.intCmp, hx, hy, bne, beq_dec]

theorem pure_eqlb {p q : Bool} (ht : P.underlying t = some .bool) (hx : ev ρ x = .bool p) (hy : ev ρ y = .bool q) : Pure P ρ ⟨d, .binOp .eql t x y u, ty, pos, aft, none⟩ (.bool (decide (p = q))) := fun w => by
  have h := run_equal_bool ht p q w
  rw [beq_dec] at h
  simp only [execOp, eqGuard, hx, hy]
  simp [binOp, h]
theorem pure_neqb {p q : Bool} (ht : P.underlying t = some .bool) (hx : ev ρ x = .bool p) (hy : ev ρ y = .bool q) : Pure P ρ ⟨d, .binOp .neq t x y u, ty, pos, aft, none⟩ (.bool (!decide (p = q))) := fun w => by
  have h := run_equal_bool ht p q w
  rw [beq_dec] at h
  simp only [execOp, eqGuard, hx, hy]
  simp [binOp, h]

theorem bytes_beq (p q : ByteArray) : (p.toList == q.toList) = decide (p = q) := by
  rw [beq_dec]
  congr 1
  rw [ByteArray.toList_eq, ByteArray.toList_eq]
  refine propext ⟨fun h => ?_, fun h => by rw [h]⟩
  cases p; cases q
  simpa using h
theorem pure_eqls {p q : ByteArray} (hx : ev ρ x = .string p) (hy : ev ρ y = .string q) : Pure P ρ ⟨d, .binOp .eql t x y u, ty, pos, aft, none⟩ (.bool (decide (p = q))) := fun w => by
  simp [execOp, eqGuard, binOp, Op.stringOp, hx, hy, bytes_beq]
theorem pure_neqs {p q : ByteArray} (hx : ev ρ x = .string p) (hy : ev ρ y = .string q) : Pure P ρ ⟨d, .binOp .neq t x y u, ty, pos, aft, none⟩ (.bool (!decide (p = q))) := fun w => by
  simp [execOp, eqGuard, binOp, Op.stringOp, hx, hy, bytes_beq]

theorem pure_not {p : Bool} (hx : ev ρ x = .bool p) : Pure P ρ ⟨d, .unOp .not t x, ty, pos, aft, none⟩ (.bool !p) := fun w => by
  simp [execOp, Op.unary, hx]
theorem pure_neg (hx : ev ρ x = .int k a) : Pure P ρ ⟨d, .unOp .neg t x, ty, pos, aft, none⟩ (.int k (k.wrap (0 - a))) := fun w => by
  simp [execOp, Op.unary, Op.intArith, hx]
theorem pure_conv {k' : IntKind} {e : TypeDesc} (hs : P.underlying t = some e) (hu : P.underlying u = some (.int k')) (hx : ev ρ x = .int k a) : Pure P ρ ⟨d, .convert t u x, ty, pos, aft, none⟩ (.int k' (k'.wrap a)) := fun w => by
  simp [execOp, convert, run_underlying hs, run_underlying hu, hx, Conv.intToInt]

theorem pure_len {e : TypeId} {A : Option Addr} {n cap : Nat} {m : Nat} (hm : m = n) (ht : P.underlying t = some (.slice e)) (hx : ev ρ x = .slice A n cap) :
    Pure P ρ ⟨d, .call { callee := .builtin .len, args := #[x], argTypes := #[t] }, ty, pos, aft, none⟩ (.int .i64 (m : Int)) := fun w => by
  subst hm
  simp [execOp, resolve, invoke, builtin, Builtin.len_, run_underlying ht, hx, goInt]
theorem pure_lens {s : ByteArray} (ht : P.underlying t = some .string) (hx : ev ρ x = .string s) :
    Pure P ρ ⟨d, .call { callee := .builtin .len, args := #[x], argTypes := #[t] }, ty, pos, aft, none⟩ (.int .i64 (s.size : Int)) := fun w => by
  simp [execOp, resolve, invoke, builtin, Builtin.len_, run_underlying ht, hx, goInt]
theorem pure_max2 {t' : TypeId} (hx : ev ρ x = .int k a) (hy : ev ρ y = .int k b) :
    Pure P ρ ⟨d, .call { callee := .builtin .max, args := #[x, y], argTypes := #[t, t'] }, ty, pos, aft, none⟩ (.int k (if a < b then b else a)) := fun w => by
  simp [execOp, resolve, invoke, builtin, Builtin.max_, Builtin.max2, hx, hy]
theorem pure_min2 {t' : TypeId} (hx : ev ρ x = .int k a) (hy : ev ρ y = .int k b) :
    Pure P ρ ⟨d, .call { callee := .builtin .min, args := #[x, y], argTypes := #[t, t'] }, ty, pos, aft, none⟩ (.int k (if b < a then b else a)) := fun w => by
  simp [execOp, resolve, invoke, builtin, Builtin.min_, Builtin.min2, hx, hy]
theorem pure_extract {vs : Array Value} {i : Nat} {v : Value} (hx : ev ρ x = .tuple vs) (hi : vs[i]? = some v) : Pure P ρ ⟨d, .extract x i, ty, pos, aft, none⟩ v := fun w => by
  simp [execOp, Instr.extract, hx, hi]

theorem addr_add_none (b o k : Nat) : (⟨b, o, none⟩ : Addr).add k = ⟨b, o + k, none⟩ := by unfold Addr.add; split <;> simp_all

/-- The address of field f. -/
theorem pure_fieldAddr {f : Nat} {fs : Array Field} {fd : Field} {ti : TypeInfo} {blk off : Nat} (k : Nat) (hs : P.underlying t = some (.struct fs)) (hf : fs[f]? = some fd) (hi : P.info? fd.type = some ti) (hsz : ti.size ≠ 0) (hk : fd.offset = k)
    (hx : ev ρ x = .pointer (some ⟨blk, off, none⟩)) : Pure P ρ ⟨d, .fieldAddr t x f, ty, pos, aft, none⟩ (.pointer (some ⟨blk, off + k, none⟩)) := fun w => by
  subst hk
  simp [execOp, Instr.fieldAt, run_underlying hs, hf, Instr.sureAddr, fieldPlace, sizeOf, typeInfo, hi, hsz, hx, addr_add_none]

/-- The address of an element. -/
theorem pure_indexAddr {e : TypeId} {ti : TypeInfo} {blk off n cap i : Nat} (size : Nat) (ht : P.underlying t = some (.slice e)) (hi : P.info? e = some ti) (hsz : ti.size = size)
    (hx : ev ρ x = .slice (some ⟨blk, off, none⟩) n cap) (hy : ev ρ y = .int k a) (ha : a = (i : Int)) (hlt : i < n) :
    Pure P ρ ⟨d, .indexAddr t x y, ty, pos, aft, none⟩ (.pointer (some ⟨blk, off + i * size, none⟩)) := fun w => by
  subst hsz; subst ha
  simp [execOp, Instr.indexAt, asIntOf, run_underlying ht, sizeOf, typeInfo, hi, hx, hy, hlt, addr_add_none]

end
end Go.Proofs.YtjeeligfdpociaaGreat

namespace Go.Proofs.YtjeeligfdpociaaGreat
open Go Go.RowKit

/-! ## Paths into rows -/

inductive Path : Row → Row → Type where
  | here {r : Row} : Path r r
  | fst {a b s : Row} (p : Path a s) : Path (.pair a b) s
  | snd {a b s : Row} (p : Path b s) : Path (.pair a b) s

def Path.off : {r s : Row} → Path r s → Nat
  | _, _, .here => 0
  | _, _, .fst p => p.off
  | _, _, .snd (a := a) p => a.size + p.off

@[reducible] def Path.get : {r s : Row} → Path r s → r.den → s.den
  | _, _, .here, x => x
  | _, _, .fst p, x => p.get x.1
  | _, _, .snd p, x => p.get x.2

@[reducible] def Path.set : {r s : Row} → Path r s → r.den → s.den → r.den
  | _, _, .here, _, y => y
  | _, _, .fst p, x, y => (p.set x.1 y, x.2)
  | _, _, .snd p, x, y => (x.1, p.set x.2 y)

section
variable {F : Nat → Prop} {w : World}

theorem Path.le : {r s : Row} → (p : Path r s) → p.off + s.size ≤ r.size
  | _, _, .here => by simp [Path.off]
  | _, _, .fst p => by have := p.le; simp [Path.off]; omega
  | _, _, .snd p => by have := p.le; simp [Path.off]; omega

/-- A part of a row. -/
theorem Rep.path : {r s : Row} → (p : Path r s) → {es : List Value} → {x : r.den} → Rep F w r es x → Rep F w s ((es.drop p.off).take s.size) (p.get x)
  | _, _, .here, es, x, h => by
    have := h.length
    simp only [Path.off, List.drop_zero, Path.get]
    rw [← this, List.take_length]
    exact h
  | _, s, .fst (a := a) p, _, x, h => by
    obtain ⟨c1, c2, rfl, h1, h2⟩ := h
    have hr := Rep.path p h1
    have hle := p.le
    have hl := h1.length
    simp only [Path.off, Path.get]
    rw [List.drop_append_of_le_length (by omega), List.take_append_of_le_length (by rw [List.length_drop]; omega)]
    exact hr
  | _, s, .snd (a := a) p, _, x, h => by
    obtain ⟨c1, c2, rfl, h1, h2⟩ := h
    have hr := Rep.path p h2
    have hl := h1.length
    simp only [Path.off, Path.get]
    rw [← hl, List.drop_append, List.drop_of_length_le (by omega), List.nil_append, show c1.length + p.off - c1.length = p.off from by omega]
    exact hr

/-- A part of a row, stored anew. -/
theorem Rep.put : {r s : Row} → (p : Path r s) → {es vs : List Value} → {x : r.den} → {y : s.den} → Rep F w r es x → Rep F w s vs y →
    Rep F w r (es.take p.off ++ vs ++ es.drop (p.off + s.size)) (p.set x y)
  | _, _, .here, es, vs, x, y, h, hv => by
    have := h.length
    simp only [Path.off, Path.set, List.take_zero, List.nil_append, Nat.zero_add]
    rw [← this, List.drop_length, List.append_nil]
    exact hv
  | _, s, .fst (a := a) p, _, vs, x, y, h, hv => by
    obtain ⟨c1, c2, rfl, h1, h2⟩ := h
    have hr := Rep.put p h1 hv
    have hle := p.le
    have hl := h1.length
    refine ⟨_, c2, ?_, hr, h2⟩
    simp only [Path.off]
    rw [List.take_append_of_le_length (by omega), List.drop_append_of_le_length (by omega)]
    simp [List.append_assoc]
  | _, s, .snd (a := a) p, _, vs, x, y, h, hv => by
    obtain ⟨c1, c2, rfl, h1, h2⟩ := h
    have hr := Rep.put p h2 hv
    have hl := h1.length
    refine ⟨c1, _, ?_, h1, hr⟩
    simp only [Path.off]
    rw [← hl, List.take_append, List.take_of_length_le (by omega), List.drop_append, List.drop_of_length_le (by omega), show c1.length + p.off - c1.length = p.off from by omega,
      show c1.length + p.off + s.size - c1.length = p.off + s.size from by omega]
    simp [List.append_assoc]

theorem At.path {r s : Row} {b off : Nat} {x : r.den} (h : At F w r b off x) (p : Path r s) (k : Nat) (hk : p.off = k) : At F w s b (off + k) (p.get x) := by
  subst hk
  obtain ⟨es, hl, hc, hr⟩ := h
  have hp := hr.path p
  refine ⟨_, hp.length, fun j u hu => ?_, hp⟩
  rw [List.getElem?_take] at hu
  split at hu
  · rw [List.getElem?_drop] at hu
    rw [Nat.add_assoc]
    exact hc _ u hu
  · cases hu

theorem At.int {k : IntKind} {b off : Nat} {x : Int} (h : At F w (.int k) b off x) : w.cell? ⟨b, off, none⟩ = some (.int k x) := by
  obtain ⟨es, hl, hc, rfl⟩ := h
  exact hc 0 _ rfl
theorem At.bool {b off : Nat} {x : Bool} (h : At F w .bool b off x) : w.cell? ⟨b, off, none⟩ = some (.bool x) := by
  obtain ⟨es, hl, hc, rfl⟩ := h
  exact hc 0 _ rfl
theorem At.str {b off : Nat} {x : ByteArray} (h : At F w .str b off x) : w.cell? ⟨b, off, none⟩ = some (.string x) := by
  obtain ⟨es, hl, hc, rfl⟩ := h
  exact hc 0 _ rfl
theorem At.slice {e : Row} {b off : Nat} {x : List e.den} (h : At F w (.slice e) b off x) : ∃ v, w.cell? ⟨b, off, none⟩ = some v ∧ Rep F w (.slice e) [v] x := by
  obtain ⟨es, hl, hc, hr⟩ := h
  obtain ⟨A, cap, rfl, h⟩ := hr
  exact ⟨_, hc 0 _ rfl, A, cap, rfl, h⟩
theorem At.rep {r : Row} {b off : Nat} {x : r.den} (h : At F w r b off x) : ∃ es, (∀ j u, es[j]? = some u → w.cell? ⟨b, off + j, none⟩ = some u) ∧ Rep F w r es x := by
  obtain ⟨es, hl, hc, hr⟩ := h
  exact ⟨es, hc, hr⟩

/-! ## Slices that are read -/

/-- The value v is a slice that reads as l, wherever it lies. -/
def Reads (F : Nat → Prop) (w : World) (r : Row) (v : Value) (l : List r.den) : Prop :=
  ∃ A cap, v = .slice A l.length cap ∧ l.length ≤ cap ∧ cap ≤ maxLen ∧ ∀ i (h : i < l.length), ∃ b off, A = some ⟨b, off, none⟩ ∧ At F w r b (off + i * r.size) l[i]

theorem Rep.reads {r : Row} {v : Value} {l : List r.den} (h : Rep F w (.slice r) [v] l) : Reads F w r v l := by
  obtain ⟨A, cap, h1, h2, h3, h4⟩ := h
  refine ⟨A, cap, by simpa using h1, h2, h3, fun i hi => ?_⟩
  obtain ⟨b, off, es, hA, _, hel, hc, hr⟩ := h4 i hi
  exact ⟨b, off, hA, es, hel, hc, hr⟩

/-- The model of an index. -/
def idx {α : Type} (l : List α) (i : Int) : Option α := if 0 ≤ i then l[i.toNat]? else none

theorem idx_some {α : Type} {l : List α} {i : Int} {y : α} (h : idx l i = some y) : ∃ k : Nat, i = k ∧ ∃ hk : k < l.length, l[k] = y := by
  unfold idx at h
  split at h
  · rename_i h0
    obtain ⟨hk, e⟩ := List.getElem?_eq_some_iff.1 h
    exact ⟨i.toNat, by omega, hk, e⟩
  · cases h

theorem Reads.elem {r : Row} {v : Value} {l : List r.den} (h : Reads F w r v l) {i : Int} {y : r.den} (hi : idx l i = some y) :
    ∃ b off cap k, v = .slice (some ⟨b, off, none⟩) l.length cap ∧ i = (k : Nat) ∧ k < l.length ∧ At F w r b (off + k * r.size) y := by
  obtain ⟨A, cap, hv, _, _, h4⟩ := h
  obtain ⟨k, hk, hlt, rfl⟩ := idx_some hi
  obtain ⟨b, off, rfl, hat⟩ := h4 k hlt
  exact ⟨b, off, cap, k, hv, hk, hlt, hat⟩

end

/-! ## The rules -/
section
variable {P : Program} {n : Nat} {ops : Array Oper} {K : (Nat → Value) → World → Prop} {rest : List Oper} {ρ : Nat → Value} {w : World} {F : Nat → Prop}
variable {d : Nat} {ty : TypeId} {pos : String} {aft : Array Edge} {x y : Operand} {t : TypeId}

def aggD : TypeDesc → Bool
  | .struct _ | .array _ _ => true
  | _ => false

theorem run_isAgg {D : TypeDesc} (hu : P.underlying t = some D) (w : World) : (isAgg t).run P w = .ok (aggD D) w := by
  unfold isAgg
  rw [Sem.run_bind, run_underlying hu w]
  cases D <;> simp [aggD]

theorem run_load1 {dd : Option Nat} {D : TypeDesc} {b off : Nat} {v : Value} (hu : P.underlying t = some D) (hD : aggD D = false) (hx : ev ρ x = .pointer (some ⟨b, off, none⟩)) (hc : w.cell? ⟨b, off, none⟩ = some v) :
    (execOp (ev ρ) ⟨dd, .load t x, ty, pos, aft, none⟩).run P w = .ok (.value v) w := by
  simp [execOp, hx, Instr.loadAt, Instr.sureAddr, loadVar, Sem.run_bind, run_isAgg hu, hD, hc, go_sem]

theorem run_loadA {dd : Option Nat} {D : TypeDesc} {ti : TypeInfo} {b off : Nat} {es : List Value} (hu : P.underlying t = some D) (hD : aggD D = true) (hi : P.info? t = some ti) (hs : ti.size = es.length)
    (hx : ev ρ x = .pointer (some ⟨b, off, none⟩)) (hc : ∀ j u, es[j]? = some u → w.cell? ⟨b, off + j, none⟩ = some u) :
    (execOp (ev ρ) ⟨dd, .load t x, ty, pos, aft, none⟩).run P w = .ok (.value (.agg es.toArray)) w := by
  have hl : (loadCells ⟨b, off, none⟩ es.length).run P w = .ok es.toArray w :=
    run_loadCells_list (P := P) w ⟨b, off, none⟩ es (fun j v hv => by rw [addr_add_none]; exact hc j v hv)
  simp [execOp, hx, Instr.loadAt, Instr.sureAddr, loadVar, Sem.run_bind, run_isAgg hu, hD, sizeOf, typeInfo, hi, hs, hl]

theorem wpS_load_int {D : TypeDesc} {b off : Nat} {k : IntKind} {a : Int} (hu : P.underlying t = some D) (hD : aggD D = false) (hx : ev ρ x = .pointer (some ⟨b, off, none⟩)) (hat : At F w (.int k) b off a) (hd : Nat.blt d n = true)
    (h : wpS P n ops K rest (upd ρ d (.int k a)) w) : wpS P n ops K (⟨some d, .load t x, ty, pos, aft, none⟩ :: rest) ρ w :=
  wpS_eff _ _ (run_load1 hu hD hx hat.int) hd h
theorem wpS_load_bool {D : TypeDesc} {b off : Nat} {a : Bool} (hu : P.underlying t = some D) (hD : aggD D = false) (hx : ev ρ x = .pointer (some ⟨b, off, none⟩)) (hat : At F w .bool b off a) (hd : Nat.blt d n = true)
    (h : wpS P n ops K rest (upd ρ d (.bool a)) w) : wpS P n ops K (⟨some d, .load t x, ty, pos, aft, none⟩ :: rest) ρ w :=
  wpS_eff _ _ (run_load1 hu hD hx hat.bool) hd h
theorem wpS_load_str {D : TypeDesc} {b off : Nat} {a : ByteArray} (hu : P.underlying t = some D) (hD : aggD D = false) (hx : ev ρ x = .pointer (some ⟨b, off, none⟩)) (hat : At F w .str b off a) (hd : Nat.blt d n = true)
    (h : wpS P n ops K rest (upd ρ d (.string a)) w) : wpS P n ops K (⟨some d, .load t x, ty, pos, aft, none⟩ :: rest) ρ w :=
  wpS_eff _ _ (run_load1 hu hD hx hat.str) hd h
theorem wpS_load_slice {D : TypeDesc} {b off : Nat} {e : Row} {l : List e.den} (hu : P.underlying t = some D) (hD : aggD D = false) (hx : ev ρ x = .pointer (some ⟨b, off, none⟩)) (hat : At F w (.slice e) b off l) (hd : Nat.blt d n = true)
    (h : ∀ v, Rep F w (.slice e) [v] l → wpS P n ops K rest (upd ρ d v) w) : wpS P n ops K (⟨some d, .load t x, ty, pos, aft, none⟩ :: rest) ρ w := by
  obtain ⟨v, hc, hr⟩ := hat.slice
  exact wpS_eff _ _ (run_load1 hu hD hx hc) hd (h v hr)
theorem wpS_load_row {D : TypeDesc} {ti : TypeInfo} {b off : Nat} {r : Row} {a : r.den} (hu : P.underlying t = some D) (hD : aggD D = true) (hi : P.info? t = some ti) (hs : ti.size = r.size)
    (hx : ev ρ x = .pointer (some ⟨b, off, none⟩)) (hat : At F w r b off a) (hd : Nat.blt d n = true)
    (h : ∀ es, Rep F w r es a → wpS P n ops K rest (upd ρ d (.agg es.toArray)) w) : wpS P n ops K (⟨some d, .load t x, ty, pos, aft, none⟩ :: rest) ρ w := by
  obtain ⟨es, hc, hr⟩ := hat.rep
  exact wpS_eff _ _ (run_loadA hu hD hi (hs.trans hr.length.symm) hx hc) hd (h es hr)

/-- x[i] on a slice that is read. -/
theorem wpS_index {e : TypeId} {ti : TypeInfo} {r : Row} {k : IntKind} {i : Int} {v : Value} {l : List r.den} {a : r.den} (ht : P.underlying t = some (.slice e)) (hi : P.info? e = some ti) (hs : ti.size = r.size)
    (hx : ev ρ x = v) (hy : ev ρ y = .int k i) (hv : Reads F w r v l) (hidx : idx l i = some a) (hd : Nat.blt d n = true)
    (h : ∀ b off, At F w r b off a → wpS P n ops K rest (upd ρ d (.pointer (some ⟨b, off, none⟩))) w) : wpS P n ops K (⟨some d, .indexAddr t x y, ty, pos, aft, none⟩ :: rest) ρ w := by
  obtain ⟨b, off, cap, j, rfl, hj, hlt, hat⟩ := hv.elem hidx
  exact wpS_pure _ (pure_indexAddr r.size ht hi hs hx hy hj hlt) hd (h b _ hat)

theorem wpS_len {e : TypeId} {r : Row} {v : Value} {l : List r.den} (ht : P.underlying t = some (.slice e)) (hx : ev ρ x = v) (hv : Reads F w r v l) (hd : Nat.blt d n = true)
    (h : wpS P n ops K rest (upd ρ d (.int .i64 (l.length : Int))) w) : wpS P n ops K (⟨some d, .call { callee := .builtin .len, args := #[x], argTypes := #[t] }, ty, pos, aft, none⟩ :: rest) ρ w := by
  obtain ⟨A, cap, rfl, _⟩ := hv
  exact wpS_pure _ (pure_len rfl ht hx) hd h

/-! ## Calls -/
theorem run_call {dd : Option Nat} {f : FuncId} {fn : Func} {xs : List Operand} {vs : List Value} {tys : Array TypeId} (hf : P.funcs[f]? = some fn) (hn : (fn.name == "runtime.NumGoroutine") = false) (hb : fn.body.isNone = false) (hxs : xs.map (ev ρ) = vs) :
    (execOp (ev ρ) ⟨dd, .call { callee := .value (.func f), args := xs.toArray, argTypes := tys }, ty, pos, aft, none⟩).run P w = .ok (.enter f vs.toArray) w := by
  subst hxs
  have hn' : ¬ fn.name = "runtime.NumGoroutine" := by simpa using hn
  have hb' : ¬ fn.body = none := by
    intro e
    rw [e] at hb
    cases hb
  simp [execOp, resolve, ev, Deferred.ofValue, invoke, callFunc, hf, hn', hb', go_sem]

theorem wpS_call {f : FuncId} {fn : Func} {xs : List Operand} {vs : List Value} {tys : Array TypeId} {R : Value → World → Prop} (hf : P.funcs[f]? = some fn) (hn : (fn.name == "runtime.NumGoroutine") = false) (hb : fn.body.isNone = false) (hxs : xs.map (ev ρ) = vs)
    (hc : Calls P f vs.toArray w fun e w' => ∃ v, e = .returned v ∧ R v w') (hd : Nat.blt d n = true) (h : ∀ v w', R v w' → wpS P n ops K rest (upd ρ d v) w') :
    wpS P n ops K (⟨some d, .call { callee := .value (.func f), args := xs.toArray, argTypes := tys }, ty, pos, aft, none⟩ :: rest) ρ w :=
  fun Q a hfr hk => wpList_plain rfl fun K' hK => by
    unfold Oper.wp
    rw [hfr.eval, run_call hf hn hb hxs]
    exact hc.mono fun e w' ⟨v, he, hr⟩ => by
      subst he
      exact hK _ _ (h v w' hr Q _ (hfr.put hd v) hk)
end
end Go.Proofs.YtjeeligfdpociaaGreat
