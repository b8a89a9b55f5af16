/- Operands of a whole expression (plain law). -/
import Derived.Test.YtomgmnkalommeaaGreatDoorPX5
namespace Go.Proofs.YtomgmnkalommeaaGreatDoor
open Go Go.RowKit
set_option maxRecDepth 100000
namespace L

theorem Operands_eq {e : List Ty} {st : List Nat} (w : Whole e st) {i : Nat} (hi : i < e.length) : M.expr_Operands big e (i : Int) = some (natL (opsL st (ar e[i].1).toNat i)) := by
  have hle := w.le
  have h := operands_eq w.val (by omega) ((0 : Int), (([] : List Vl), (([] : List Vl), (([] : List (List Vl)), (([] : List Ty), ([] : List rTable.den)))))) hi
  unfold M.expr_Operands M.expr_Starts
  rw [structure_eq, w.res]
  simp only [Option.bind_some, ite_some, or_b]
  rw [if_neg (by simp; omega)]
  exact h
end L
end Go.Proofs.YtomgmnkalommeaaGreatDoor
