/- One rule for each operation of the walks. -/
import Derived.Test.YtjeeligfdpociaaGreatBase
namespace Go.Proofs.YtjeeligfdpociaaGreat
open Go Go.RowKit

theorem beq_dec {α : Type} [BEq α] [LawfulBEq α] [DecidableEq α] (a b : α) : (a == b) = decide (a = b) := by
  by_cases h : a = b
  · subst h; simp
  · simp [h]

theorem run_equal_bool {P : Program} {t : TypeId} (ht : P.underlying t = some .bool) (p q : Bool) (w : World) : (Op.equal t (.bool p) (.bool q)).run P w = .ok (p == q) w := by
  have h : ∀ d : Nat, (Op.equalIn (d + 1) t (.bool p) (.bool q)).run P w = .ok (p == q) w := fun d => by
    simp [Op.equalIn, run_underlying ht]
  exact h 9999

section
variable {P : Program} {ρ : Nat → Value} {d : Option Nat} {ty : TypeId} {pos : String} {aft : Array Edge} {x y c : Operand} {t u : TypeId} {k : IntKind} {a b : Int}

theorem pure_move {v : Value} (h : ev ρ x = v) : Pure P ρ ⟨d, .move x, ty, pos, aft, none⟩ v := fun w => by simp [execOp, h]
theorem pure_assign {v : Value} (h : ev ρ x = v) : Pure P ρ ⟨d, .assign x, ty, pos, aft, none⟩ v := fun w => by simp [execOp, h]
theorem pure_pick (bb : Bool) {v v' : Value} (hc : ev ρ c = .bool bb) (hx : ev ρ x = v) (hy : ev ρ y = v') : Pure P ρ ⟨d, .pick c x y, ty, pos, aft, none⟩ (bif bb then v else v') := fun w => by
  cases bb <;> simp [execOp, asBool, hc, hx, hy]
theorem pure_pick_true {v : Value} (hc : ev ρ c = .bool true) (hx : ev ρ x = v) : Pure P ρ ⟨d, .pick c x y, ty, pos, aft, none⟩ v := fun w => by
  simp [execOp, asBool, hc, hx]
theorem pure_pick_false {v : Value} (hc : ev ρ c = .bool false) (hy : ev ρ y = v) : Pure P ρ ⟨d, .pick c x y, ty, pos, aft, none⟩ v := fun w => by
  simp [execOp, asBool, hc, hy]

theorem pure_add (hx : ev ρ x = .int k a) (hy : ev ρ y = .int k b) : Pure P ρ ⟨d, .binOp .add t x y u, ty, pos, aft, none⟩ (.int k (k.wrap (a + b))) := fun w => by
  simp [execOp, eqGuard, binOp, Op.intArith, hx, hy]
theorem pure_sub (hx : ev ρ x = .int k a) (hy : ev ρ y = .int k b) : Pure P ρ ⟨d, .binOp .sub t x y u, ty, pos, aft, none⟩ (.int k (k.wrap (a - b))) := fun w => by
  simp [execOp, eqGuard, binOp, Op.intArith, hx, hy]
theorem pure_mul (hx : ev ρ x = .int k a) (hy : ev ρ y = .int k b) : Pure P ρ ⟨d, .binOp .mul t x y u, ty, pos, aft, none⟩ (.int k (k.wrap (a * b))) := fun w => by
  simp [execOp, eqGuard, binOp, Op.intArith, hx, hy]
theorem pure_quo (hx : ev ρ x = .int k a) (hy : ev ρ y = .int k b) (hb : b ≠ 0) : Pure P ρ ⟨d, .binOp .quo t x y u, ty, pos, aft, none⟩ (.int k (k.wrap (a.tdiv b))) := fun w => by
  simp [execOp, eqGuard, binOp, Op.intDiv, hx, hy, hb]
theorem pure_rem (hx : ev ρ x = .int k a) (hy : ev ρ y = .int k b) (hb : b ≠ 0) : Pure P ρ ⟨d, .binOp .rem t x y u, ty, pos, aft, none⟩ (.int k (a.tmod b)) := fun w => by
  simp [execOp, eqGuard, binOp, Op.intDiv, hx, hy, hb]
theorem pure_lss (hx : ev ρ x = .int k a) (hy : ev ρ y = .int k b) : Pure P ρ ⟨d, .binOp .lss t x y u, ty, pos, aft, none⟩ (.bool (decide (a < b))) := fun w => by
  simp [execOp, eqGuard, binOp, Op.intCmp, hx, hy]
theorem pure_leq (hx : ev ρ x = .int k a) (hy : ev ρ y = .int k b) : Pure P ρ ⟨d, .binOp .leq t x y u, ty, pos, aft, none⟩ (.bool (decide (a ≤ b))) := fun w => by
  simp [execOp, eqGuard, binOp, Op.intCmp, hx, hy]
theorem pure_gtr (hx : ev ρ x = .int k a) (hy : ev ρ y = .int k b) : Pure P ρ ⟨d, .binOp .gtr t x y u, ty, pos, aft, none⟩ (.bool (decide (b < a))) := fun w => by
  simp [execOp, eqGuard, binOp, Op.intCmp, hx, hy]
theorem pure_geq (hx : ev ρ x = .int k a) (hy : ev ρ y = .int k b) : Pure P ρ ⟨d, .binOp .geq t x y u, ty, pos, aft, none⟩ (.bool (decide (b ≤ a))) := fun w => by
  simp [execOp, eqGuard, binOp, Op.intCmp, hx, hy]
theorem pure_eql (hx : ev ρ x = .int k a) (hy : ev ρ y = .int k b) : Pure P ρ ⟨d, .binOp .eql t x y u, ty, pos, aft, none⟩ (.bool (decide (a = b))) := fun w => by
  simp [execOp, eqGuard, binOp, Op.intCmp, hx, hy, beq_dec]
theorem pure_neq (hx : ev ρ x = .int k a) (hy : ev ρ y = .int k b) : Pure P ρ ⟨d, .binOp .neq t x y u, ty, pos, aft, none⟩ (.bool (!decide (a = b))) := fun w => by
  simp [execOp, eqGuard, binOp, Op.intCmp, hx, hy, bne, beq_dec]

theorem pure_eqlb {p q : Bool} (ht : P.underlying t = some .bool) (hx : ev ρ x = .bool p) (hy : ev ρ y = .bool q) : Pure P ρ ⟨d, .binOp .eql t x y u, ty, pos, aft, none⟩ (.bool (decide (p = q))) := fun w => by
  have h := run_equal_bool ht p q w
  rw [beq_dec] at h
  simp only [execOp, eqGuard, hx, hy]
  simp [binOp, h]
theorem pure_neqb {p q : Bool} (ht : P.underlying t = some .bool) (hx : ev ρ x = .bool p) (hy : ev ρ y = .bool q) : Pure P ρ ⟨d, .binOp .neq t x y u, ty, pos, aft, none⟩ (.bool (!decide (p = q))) := fun w => by
  have h := run_equal_bool ht p q w
  rw [beq_dec] at h
  simp only [execOp, eqGuard, hx, hy]
  simp [binOp, h]

theorem bytes_beq (p q : ByteArray) : (p.toList == q.toList) = decide (p = q) := by
  rw [beq_dec]
  congr 1
  rw [ByteArray.toList_eq, ByteArray.toList_eq]
  refine propext ⟨fun h => ?_, fun h => by rw [h]⟩
  cases p; cases q
  simpa using h
theorem pure_eqls {p q : ByteArray} (hx : ev ρ x = .string p) (hy : ev ρ y = .string q) : Pure P ρ ⟨d, .binOp .eql t x y u, ty, pos, aft, none⟩ (.bool (decide (p = q))) := fun w => by
  simp [execOp, eqGuard, binOp, Op.stringOp, hx, hy, bytes_beq]
theorem pure_neqs {p q : ByteArray} (hx : ev ρ x = .string p) (hy : ev ρ y = .string q) : Pure P ρ ⟨d, .binOp .neq t x y u, ty, pos, aft, none⟩ (.bool (!decide (p = q))) := fun w => by
  simp [execOp, eqGuard, binOp, Op.stringOp, hx, hy, bytes_beq]

theorem pure_not {p : Bool} (hx : ev ρ x = .bool p) : Pure P ρ ⟨d, .unOp .not t x, ty, pos, aft, none⟩ (.bool !p) := fun w => by
  simp [execOp, Op.unary, hx]
theorem pure_neg (hx : ev ρ x = .int k a) : Pure P ρ ⟨d, .unOp .neg t x, ty, pos, aft, none⟩ (.int k (k.wrap (0 - a))) := fun w => by
  simp [execOp, Op.unary, Op.intArith, hx]
theorem pure_conv {k' : IntKind} {e : TypeDesc} (hs : P.underlying t = some e) (hu : P.underlying u = some (.int k')) (hx : ev ρ x = .int k a) : Pure P ρ ⟨d, .convert t u x, ty, pos, aft, none⟩ (.int k' (k'.wrap a)) := fun w => by
  simp [execOp, convert, run_underlying hs, run_underlying hu, hx, Conv.intToInt]

theorem pure_len {e : TypeId} {A : Option Addr} {n cap : Nat} {m : Nat} (hm : m = n) (ht : P.underlying t = some (.slice e)) (hx : ev ρ x = .slice A n cap) :
    Pure P ρ ⟨d, .call { callee := .builtin .len, args := #[x], argTypes := #[t] }, ty, pos, aft, none⟩ (.int .i64 (m : Int)) := fun w => by
  subst hm
  simp [execOp, resolve, invoke, builtin, Builtin.len_, run_underlying ht, hx, goInt]
theorem pure_lens {s : ByteArray} (ht : P.underlying t = some .string) (hx : ev ρ x = .string s) :
    Pure P ρ ⟨d, .call { callee := .builtin .len, args := #[x], argTypes := #[t] }, ty, pos, aft, none⟩ (.int .i64 (s.size : Int)) := fun w => by
  simp [execOp, resolve, invoke, builtin, Builtin.len_, run_underlying ht, hx, goInt]
theorem pure_max2 {t' : TypeId} (hx : ev ρ x = .int k a) (hy : ev ρ y = .int k b) :
    Pure P ρ ⟨d, .call { callee := .builtin .max, args := #[x, y], argTypes := #[t, t'] }, ty, pos, aft, none⟩ (.int k (if a < b then b else a)) := fun w => by
  simp [execOp, resolve, invoke, builtin, Builtin.max_, Builtin.max2, hx, hy]
theorem pure_min2 {t' : TypeId} (hx : ev ρ x = .int k a) (hy : ev ρ y = .int k b) :
    Pure P ρ ⟨d, .call { callee := .builtin .min, args := #[x, y], argTypes := #[t, t'] }, ty, pos, aft, none⟩ (.int k (if b < a then b else a)) := fun w => by
  simp [execOp, resolve, invoke, builtin, Builtin.min_, Builtin.min2, hx, hy]
theorem pure_extract {vs : Array Value} {i : Nat} {v : Value} (hx : ev ρ x = .tuple vs) (hi : vs[i]? = some v) : Pure P ρ ⟨d, .extract x i, ty, pos, aft, none⟩ v := fun w => by
  simp [execOp, Instr.extract, hx, hi]

theorem addr_add_none (b o k : Nat) : (⟨b, o, none⟩ : Addr).add k = ⟨b, o + k, none⟩ := by unfold Addr.add; split <;> simp_all

/-- The address of field f. -/
theorem pure_fieldAddr {f : Nat} {fs : Array Field} {fd : Field} {ti : TypeInfo} {blk off : Nat} (k : Nat) (hs : P.underlying t = some (.struct fs)) (hf : fs[f]? = some fd) (hi : P.info? fd.type = some ti) (hsz : ti.size ≠ 0) (hk : fd.offset = k)
    (hx : ev ρ x = .pointer (some ⟨blk, off, none⟩)) : Pure P ρ ⟨d, .fieldAddr t x f, ty, pos, aft, none⟩ (.pointer (some ⟨blk, off + k, none⟩)) := fun w => by
  subst hk
  simp [execOp, Instr.fieldAt, run_underlying hs, hf, Instr.sureAddr, fieldPlace, sizeOf, typeInfo, hi, hsz, hx, addr_add_none]

/-- The address of an element. -/
theorem pure_indexAddr {e : TypeId} {ti : TypeInfo} {blk off n cap i : Nat} (size : Nat) (ht : P.underlying t = some (.slice e)) (hi : P.info? e = some ti) (hsz : ti.size = size)
    (hx : ev ρ x = .slice (some ⟨blk, off, none⟩) n cap) (hy : ev ρ y = .int k a) (ha : a = (i : Int)) (hlt : i < n) :
    Pure P ρ ⟨d, .indexAddr t x y, ty, pos, aft, none⟩ (.pointer (some ⟨blk, off + i * size, none⟩)) := fun w => by
  subst hsz; subst ha
  simp [execOp, Instr.indexAt, asIntOf, run_underlying ht, sizeOf, typeInfo, hi, hx, hy, hlt, addr_add_none]

end
end Go.Proofs.YtjeeligfdpociaaGreat
