/- Slicing in the walks: x[a:b] of what is read, and of slices of the call's own. -/
import Derived.Test.YtjeeligfdpociaaGreatLit
import Derived.Laws.Slices
namespace Go.Proofs.YtjeeligfdpociaaGreat
open Go Go.RowKit

def cutA {α : Type} (l : List α) (a b : Int) : Option (List α) := if 0 ≤ a ∧ a ≤ b ∧ b ≤ l.length then some ((l.take b.toNat).drop a.toNat) else none

variable {F : Nat → Prop} {w : World} {r : Row}

theorem Rep.cut {A : Option Addr} {cap : Nat} {l : List r.den} {a b : Nat} (h : Rep F w (.slice r) [.slice A l.length cap] l) (h1 : a ≤ b) (h2 : b ≤ l.length) :
    Rep F w (.slice r) [sliced A a b cap r.size] ((l.take b).drop a) := by
  obtain ⟨A', cap', hv, hc, hm, hs⟩ := h
  simp only [List.cons.injEq, Value.slice.injEq, and_true, true_and] at hv
  obtain ⟨rfl, rfl⟩ := hv
  have hlen : ((l.take b).drop a).length = b - a := by simp; omega
  refine ⟨_, cap - a, by rw [hlen]; rfl, by omega, by omega, fun i hi => ?_⟩
  have hi' : a + i < l.length := by omega
  obtain ⟨g, off, es, rfl, hF, hel, hcell, hr⟩ := hs (a + i) hi'
  refine ⟨g, off + a * r.size, es, ?_, hF, hel, fun j u hu => ?_, ?_⟩
  · rw [if_neg (by omega), Option.map_some, addr_add_none]
  · rw [← hcell j u hu]
    congr 2
    rw [Nat.add_mul]
    omega
  · have : ((l.take b).drop a)[i] = l[a + i] := by simp
    rw [this]
    exact hr

section
variable {P : Program} {n : Nat} {ops : Array Oper} {K : (Nat → Value) → World → Prop} {rest : List Oper} {ρ : Nat → Value}
variable {d : Nat} {ty : TypeId} {pos : String} {aft : Array Edge} {x y z : Operand} {t e : TypeId}

theorem elem_of {t e : TypeId} (ht : P.underlying t = some (.slice e)) : P.underlying t = some (.slice (P.elem t)) := by
  simp [Program.elem, ht]

/-- How the bounds of a slicing are given. -/
inductive Bnd (ρ : Nat → Value) : Option Operand → Option Int → Prop
  | none : Bnd ρ none none
  | some {x : Operand} {k : IntKind} {i : Int} (h : ev ρ x = .int k i) : Bnd ρ (some x) (some i)

theorem run_cut {ti : TypeInfo} {A : Option Addr} {len cap : Nat} {lo hi : Option Operand} {a b : Option Int} (ht : P.underlying t = some (.slice e)) (hi' : P.info? e = some ti) (hx : ev ρ x = .slice A len cap)
    (ha : Bnd ρ lo a) (hb : Bnd ρ hi b) (h0 : 0 ≤ a.getD 0) (h1 : a.getD 0 ≤ b.getD len) (h2 : b.getD len ≤ len) (hc : len ≤ cap) :
    (execOp (ev ρ) ⟨some d, .slice t x lo hi none, ty, pos, aft, none⟩).run P w = .ok (.value (sliced A (a.getD 0).toNat (b.getD len).toNat cap ti.size)) w := by
  have ht' := elem_of ht
  have he : P.elem t = e := by simp [Program.elem, ht]
  cases ha with
  | none =>
    cases hb with
    | none =>
      have := run_slice_all (P := P) (w := w) t A len cap ht'
      simp [execOp, hx, run_sliceAt_slice (P := P) w t _ _ _ _ ht', this, he, sizeOf, typeInfo, hi']
    | some hh =>
      rename_i xb kb ib
      have := run_slice_h (P := P) (w := w) t A len cap ht' kb ib (by simpa using h1) (by simp at h2; omega)
      simp [execOp, hx, hh, run_sliceAt_slice (P := P) w t _ _ _ _ ht', this, he, sizeOf, typeInfo, hi']
  | some hl =>
    rename_i xa ka ia
    cases hb with
    | none =>
      have := run_slice_l (P := P) (w := w) t A len cap ht' ka ia (by simpa using h0) (by simpa using h1)
      simp [execOp, hx, hl, run_sliceAt_slice (P := P) w t _ _ _ _ ht', this, he, sizeOf, typeInfo, hi']
    | some hh =>
      rename_i xb kb ib
      have := run_slice_lh (P := P) (w := w) t A len cap ht' ka kb ia ib (by simpa using h0) (by simpa using h1) (by simp at h2; omega)
      simp [execOp, hx, hl, hh, run_sliceAt_slice (P := P) w t _ _ _ _ ht', this, he, sizeOf, typeInfo, hi']

theorem cutA_some {α : Type} {l m : List α} {a b : Int} (h : cutA l a b = some m) : ∃ p q : Nat, a = p ∧ b = q ∧ p ≤ q ∧ q ≤ l.length ∧ m = (l.take q).drop p := by
  unfold cutA at h
  split at h
  case isFalse => cases h
  rename_i hc
  exact ⟨a.toNat, b.toNat, by omega, by omega, by omega, by omega, (Option.some.inj h).symm⟩

end
end Go.Proofs.YtjeeligfdpociaaGreat
