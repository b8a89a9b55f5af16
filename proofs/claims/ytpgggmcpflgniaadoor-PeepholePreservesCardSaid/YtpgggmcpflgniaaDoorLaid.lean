/- What a laid array of numbers reads as. -/
import Derived.Test.YtpgggmcpflgniaaDoorLaw
import Derived.ProofKit
import Derived.LaidMore
import Derived.OpenShut
import Derived.Stop.Joined
namespace Go.Proofs.YtpgggmcpflgniaaDoor
open Go Go.RowKit

theorem laid_ints {H : Type} {enc : TypeId × Value → H} {P : Program} {W : World} {base : Nat} {spare : Nat → Bool} {held : Bool} {fuel : Nat} {t e : TypeId} {n : Nat} {k : IntKind} (ht : P.underlying t = some (.array n e)) (he : P.underlying e = some (.int k)) (hc : P.cellsOf e = 1) (hct : P.cellsOf t = n)
    {cs : List Value} {ns : List Int} {q : List MemPlace} (hd : DataW.trod enc P W base spare held fuel t cs = some (.agg (ns.map fun x => .lit (.int k x)), q)) : cs = ns.map fun x => .int k x := by
  obtain ⟨xs, m, _, hx, hl, hn, hel⟩ := DataW.trod_array ht hd
  simp only [Prod.mk.injEq, DataW.agg.injEq] at hx
  have hln : ns.length = n := by rw [← hn, ← List.length_map (f := fun x : Int => (DataW.lit (.int k x) : DataW H)), hx.1, List.length_map]
  apply List.ext_getElem?
  intro i
  by_cases hi : i < n
  · have h := hel i hi
    rw [hc, Nat.mul_one, List.getElem?_eq_getElem (by omega : i < xs.length)] at h
    obtain ⟨z, h1, h2, _⟩ := DataW.trod_int he h
    have h3 : (xs.map (·.1))[i]? = some (.lit (.int k z)) := by
      rw [List.getElem?_map, List.getElem?_eq_getElem (by omega : i < xs.length), h2]
      rfl
    rw [← hx.1, List.getElem?_map, List.getElem?_eq_getElem (by omega : i < ns.length)] at h3
    simp only [Option.map_some, Option.some.injEq, DataW.lit.injEq, Lit.int.injEq, true_and] at h3
    rw [List.getElem?_map, List.getElem?_eq_getElem (by omega : i < ns.length), h3]
    have h4 : ((cs.drop i).take 1)[0]? = some (.int k z) := by rw [h1]; rfl
    rw [List.getElem?_take_of_lt (by omega), List.getElem?_drop, Nat.add_zero] at h4
    exact h4
  · rw [List.getElem?_eq_none (by omega), List.getElem?_eq_none (by simp; omega)]

theorem cell_lt {W : World} {b off : Nat} {v : Value} (h : W.cell? ⟨b, off, none⟩ = some v) : b < W.heap.size := by
  unfold World.cell? at h
  split at h
  · rename_i hb
    exact (Array.getElem?_eq_some_iff.1 hb).1
  all_goals simp_all
end Go.Proofs.YtpgggmcpflgniaaDoor
