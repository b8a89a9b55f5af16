/- Nodes, arities, starts of subexpressions: plain definitions that the texts about expressions share. -/
import Derived.Test.YtjeeligfdpociaaGreatModelA
import Derived.Test.YtjeeligfdpociaaGreatWq
namespace Go.Proofs.YtjeeligfdpociaaGreat
open Go Go.RowKit
set_option maxRecDepth 100000
set_option linter.unusedSimpArgs false
namespace L
abbrev Ty : Type := rType.den
abbrev natL (l : List Nat) : List Int := l.map (fun n : Nat => (n : Int))
def ar (op : Int) : Int :=
  if (1 ≤ op ∧ op ≤ 9) ∨ (35 ≤ op ∧ op ≤ 39) then 0 else if op = 10 ∨ op = 25 ∨ (31 ≤ op ∧ op ≤ 34) then 1 else if (11 ≤ op ∧ op ≤ 24) ∨ (27 ≤ op ∧ op ≤ 30) then 2 else if op = 26 then 3 else -1
theorem ar_le (op : Int) : ar op ≤ 3 := by unfold ar; omega
/-- Where the subexpression of a node starts. -/
def sst (a : Int) (i : Nat) (sk : List Nat) : Nat := if a = 0 then i else sk.getD (sk.length - a.toNat) 0
/-- The nodes, one by one: the starts so far, and those that stand on the stack. -/
def srun : List Ty → Nat → List Nat → List Nat → (Nat × Int) ⊕ (List Nat × List Nat)
  | [], _, st, sk => .inr (st, sk)
  | n :: e, i, st, sk =>
    if ar n.1 < 0 then .inl (i, 2) else if (sk.length : Int) < ar n.1 then .inl (i, 5) else
    if 12 < sk.length - (ar n.1).toNat + 1 then .inl (i, 16) else srun e (i + 1) (st ++ [sst (ar n.1) i sk]) (sk.take (sk.length - (ar n.1).toNat) ++ [sst (ar n.1) i sk])
def sres (e : List Ty) : Int × Int × List Int :=
  if 48 < e.length then (0, 4, []) else if e.length = 0 then (0, 5, []) else match srun e 0 [] [] with
    | .inl (i, c) => (i, c, [])
    | .inr (st, sk) => if 1 < sk.length then (e.length, 4, []) else (0, 0, natL st)
/-- A type that is valid beside n enumerations. -/
def VTp (t : Ty) (n : Nat) : Prop := (1 ≤ (t.1 : Int) ∧ (t.1 : Int) ≤ 5 ∧ (t.2 : Int) = 0) ∨ ((t.1 : Int) = 6 ∧ 0 ≤ (t.2 : Int) ∧ (t.2 : Int) < n)
instance (t : Ty) (n : Nat) : Decidable (VTp t n) := by unfold VTp; infer_instance
/-- A range of dates. -/
def VR (r : Ty) : Prop := 0 ≤ (r.1 : Int) ∧ (r.1 : Int) ≤ r.2 ∧ (r.2 : Int) ≤ 109573
instance (r : Ty) : Decidable (VR r) := by unfold VR; infer_instance
theorem eqT (a b : Ty) : eqR rType a b = decide (a = b) := by
  unfold eqR
  exact decide_eq_decide.2 Iff.rfl
end L
end Go.Proofs.YtjeeligfdpociaaGreat
