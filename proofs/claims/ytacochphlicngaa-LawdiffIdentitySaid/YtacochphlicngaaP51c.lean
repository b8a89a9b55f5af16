/- Chapter 51: rules that are equal; LawdiffRules (plain law). -/
import Derived.Test.YtacochphlicngaaP51b
namespace Go.Proofs.Ytacochphlicngaa
open Go Go.RowKit
set_option maxRecDepth 100000
namespace L

/-- The name at a place, or none. -/
def nameAt {β : Type} (l : List (ByteArray × β)) (d : Int) : ByteArray := if 0 ≤ d then ((l[d.toNat]?).map (·.1)).getD ByteArray.empty else ByteArray.empty
theorem nameAt_in {β : Type} {l : List (ByteArray × β)} {k : Nat} (h : k < l.length) : nameAt l (k : Int) = l[k].1 := by
  unfold nameAt
  rw [if_pos (by omega), Int.toNat_natCast, List.getElem?_eq_getElem h]
  rfl
theorem nameAt_out {β : Type} {l : List (ByteArray × β)} {d : Int} (h : ¬ (0 ≤ d ∧ d < (l.length : Int))) : nameAt l d = ByteArray.empty := by
  unfold nameAt
  by_cases h0 : 0 ≤ d
  · rw [if_pos h0, List.getElem?_eq_none (by omega)]
    rfl
  · rw [if_neg h0]

theorem nm1 {β γ : Type} (l : List (ByteArray × β)) (d : Int) (F : ByteArray → γ) : ((if decide ((0 : Int) ≤ d) = true then some (decide (d < (l.length : Int))) else some false : Option Bool).bind fun j => if j = true then (idx l d).bind fun x => some (F x.1) else some (F ByteArray.empty)) = some (F (nameAt l d)) := by
  by_cases h : 0 ≤ d ∧ d < (l.length : Int)
  · obtain ⟨k, rfl⟩ := Int.eq_ofNat_of_zero_le h.1
    have hk : k < l.length := by omega
    rw [nameAt_in hk, if_pos (by simp), Option.bind_some, if_pos (by simpa using hk), idx_nat hk]
    rfl
  · rw [nameAt_out h]
    by_cases h0 : 0 ≤ d
    · rw [if_pos (by simpa using h0), Option.bind_some, if_neg (by simp; omega)]
    · rw [if_neg (by simpa using h0), Option.bind_some, if_neg (by simp)]
theorem nm2 {β : Type} (l : List (ByteArray × β)) (d : Int) : ((if decide (d < (0 : Int)) = true then some true else some (decide ((l.length : Int) ≤ d)) : Option Bool).bind fun j => if j = true then some (⟨#[]⟩ : ByteArray) else (idx l d).bind fun x => some x.1) = some (nameAt l d) := by
  by_cases h : 0 ≤ d ∧ d < (l.length : Int)
  · obtain ⟨k, rfl⟩ := Int.eq_ofNat_of_zero_le h.1
    have hk : k < l.length := by omega
    rw [nameAt_in hk, if_neg (by simp), Option.bind_some, if_neg (by simp; omega), idx_nat hk]
    rfl
  · rw [nameAt_out h]
    by_cases h0 : 0 ≤ d
    · rw [if_neg (by simp; omega), Option.bind_some, if_pos (by simp; omega)]
      rfl
    · rw [if_pos (by simp; omega), Option.bind_some, if_pos rfl]
      rfl

def props (s : Sc) (r : Ru) : rlawdiff_properties.den := (nameAt s.2.2.2.1 r.2.1, (nameAt s.2.2.2.2 r.2.2.1, (r.2.2.2.1, (r.2.2.2.2.1, r.2.2.2.2.2.2.2))))
theorem propertiesOf_eq (s : Sc) (r : Ru) : M.lawdiff_propertiesOf big s r = some (props s r) := by
  unfold M.lawdiff_propertiesOf
  refine (congrArg (fun m => Option.bind m _) (nm1 s.2.2.2.1 r.2.1 fun n => ((n, (ByteArray.empty, (r.2.2.2.1, (r.2.2.2.2.1, r.2.2.2.2.2.2.2)))) : rlawdiff_properties.den))).trans ?_
  rw [Option.bind_some]
  exact (congrArg (fun m => Option.bind m _) (nm1 s.2.2.2.2 r.2.2.1 fun n => ((nameAt s.2.2.2.1 r.2.1, (n, (r.2.2.2.1, (r.2.2.2.2.1, r.2.2.2.2.2.2.2)))) : rlawdiff_properties.den))).trans rfl
theorem defName_eq (s : Sc) (d : Int) : M.ref51_defName big s d = some (nameAt s.2.2.2.1 d) := nm2 s.2.2.2.1 d
theorem parentName_eq (s : Sc) (d : Int) : M.ref51_parentName big s d = some (nameAt s.2.2.2.2 d) := nm2 s.2.2.2.2 d

theorem sameRule_P (s t : Sc) (i j : Nat) (hi : i < s.2.2.2.2.length) (hj : j < t.2.2.2.2.length) (hw : WF rScope s) : ∃ r, M.lawdiff_sameRule big s i t j = some r ∧ (r = true ↔ props s s.2.2.2.2[i] = props t t.2.2.2.2[j] ∧ s.2.2.2.2[i].2.2.2.2.2.1 = t.2.2.2.2[j].2.2.2.2.2.1 ∧ s.2.2.2.2[i].2.2.2.2.2.2.1 = t.2.2.2.2[j].2.2.2.2.2.2.1) := by
  have hr := hw.2.2.2.2.2 _ (List.getElem_mem hi)
  unfold M.lawdiff_sameRule
  rw [idx_nat hi, Option.bind_some, idx_nat hj, Option.bind_some, propertiesOf_eq, Option.bind_some, propertiesOf_eq, Option.bind_some]
  refine fin4 (fin2 eqR_iff (fin3 (slices_Equal_guerdon_api_Node_guerdon_api_Node_P _ _ hr.2.2.2.2.2.1.1) ?_ rfl))
  simp only [if_true]
  exact fin4 (slices_Equal_guerdon_api_Node_guerdon_api_Node_P _ _ hr.2.2.2.2.2.2.1.1)
theorem equal_P (s t : Sc) (i j : Nat) (hi : i < s.2.2.2.2.length) (hj : j < t.2.2.2.2.length) (hw : WF rScope s) : ∃ r, M.ref51_equal big s i t j = some r ∧ (r = true ↔ props s s.2.2.2.2[i] = props t t.2.2.2.2[j] ∧ s.2.2.2.2[i].2.2.2.2.2.1 = t.2.2.2.2[j].2.2.2.2.2.1 ∧ s.2.2.2.2[i].2.2.2.2.2.2.1 = t.2.2.2.2[j].2.2.2.2.2.2.1) := by
  have hr := hw.2.2.2.2.2 _ (List.getElem_mem hi)
  unfold M.ref51_equal
  rw [idx_nat hi, Option.bind_some, idx_nat hj, Option.bind_some, defName_eq, Option.bind_some, defName_eq, Option.bind_some, parentName_eq, Option.bind_some, parentName_eq, Option.bind_some]
  refine iffP (fin4 (fin1 (fin1 (fin1 (fin2 eqR_iff (fin3 (same_Nodes_P _ _ hr.2.2.2.2.2.1.1) (by
    simp only [if_true]
    exact fin3 (same_Nodes_P _ _ hr.2.2.2.2.2.2.1.1) ⟨_, rfl, decide_eq_true_iff⟩ rfl) rfl)))))) ?_
  unfold props
  simp only [Prod.mk.injEq]
  constructor
  · rintro ⟨a, b, c, d, e, f, g⟩
    exact ⟨⟨a, b, c, d, g⟩, e, f⟩
  · rintro ⟨⟨a, b, c, d, g⟩, e, f⟩
    exact ⟨a, b, c, d, e, f, g⟩
end L
end Go.Proofs.Ytacochphlicngaa
