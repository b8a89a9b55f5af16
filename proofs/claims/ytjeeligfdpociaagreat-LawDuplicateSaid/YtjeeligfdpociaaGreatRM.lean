/- Chapter 17: copies, signatures (plain). -/
import Derived.Test.YtjeeligfdpociaaGreatRW
namespace Go.Proofs.YtjeeligfdpociaaGreat
open Go Go.RowKit
set_option maxRecDepth 100000
set_option linter.unusedSimpArgs false
namespace L

theorem cloneStr_eq (l : List ByteArray) (h : l.length ≤ 1048576) : M.slices_Clone_string_string big l = some l := by
  unfold M.slices_Clone_string_string
  rw [appA_some (by simp; omega), List.nil_append, Option.bind_some]
  split
  · rename_i h0
    obtain rfl := List.length_eq_zero_iff.1 (beq_true h0)
    exact both_same
  · rfl
theorem cloneRow_eq (l : List Rw) (h : l.length ≤ 1048576) : M.slices_Clone_guerdon_api_Row_guerdon_api_Row big l = some l := by
  unfold M.slices_Clone_guerdon_api_Row_guerdon_api_Row
  rw [appA_some (by simp; omega), List.nil_append, Option.bind_some]
  split
  · rename_i h0
    obtain rfl := List.length_eq_zero_iff.1 (beq_true h0)
    exact both_same
  · rfl
theorem cloneEnums_eq (l : List En) (h' : l.length ≤ 1048576) (h : ∀ e ∈ l, e.2.length ≤ 1048576) : M.law_cloneEnums big l = some l := by
  unfold M.law_cloneEnums
  have := mapLoop (l := l) (F := fun x : En => x) (body := fun s1 => (if (decide (s1.1 < (l.length : Int))) = true then (idx l s1.1).bind fun x2 => (M.slices_Clone_string_string big x2.2).bind fun y3 => (appA s1.2 ([(x2.1, y3)] : List rEnum.den)).bind fun l4 => some (Sum.inl (IntKind.i64.wrap (s1.1 + (1 : Int)), l4)) else some (Sum.inr s1.2))) (by omega)
    (fun k hk o ho => by simp only [lt_dec' hk, idx_nat hk, cloneStr_eq _ (h _ (List.getElem_mem hk)), Option.bind_some, if_true, appA_some (show o.length + [l[k]].length ≤ 4294967296 by simp; omega)])
    (fun o => by simp only [nlt_self, decide_false, Bool.false_eq_true, if_false])
  rw [List.map_id'] at this
  exact this
theorem cloneTables_eq (l : List Tab) (h' : l.length ≤ 1048576) (h : ∀ t ∈ l, t.2.2.2.length ≤ 1048576) : M.law_cloneTables big l = some l := by
  unfold M.law_cloneTables
  have := mapLoop (l := l) (F := fun x : Tab => x) (body := fun s1 => (if (decide (s1.1 < (l.length : Int))) = true then (idx l s1.1).bind fun x2 => (M.slices_Clone_guerdon_api_Row_guerdon_api_Row big x2.2.2.2).bind fun y3 => (appA s1.2 ([(x2.1, (x2.2.1, (x2.2.2.1, y3)))] : List rTable.den)).bind fun l4 => some (Sum.inl (IntKind.i64.wrap (s1.1 + (1 : Int)), l4)) else some (Sum.inr s1.2))) (by omega)
    (fun k hk o ho => by simp only [lt_dec' hk, idx_nat hk, cloneRow_eq _ (h _ (List.getElem_mem hk)), Option.bind_some, if_true, appA_some (show o.length + [l[k]].length ≤ 4294967296 by simp; omega)])
    (fun o => by simp only [nlt_self, decide_false, Bool.false_eq_true, if_false])
  rw [List.map_id'] at this
  exact this
theorem ptypes_eq (l : List Fd) (h : l.length ≤ 1048576) : M.law_fieldTypes big l = some (l.map (·.2)) := by
  unfold M.law_fieldTypes
  exact mapLoop l (fun x => x.2) (by omega) (fun k hk o ho => by simp only [lt_dec' hk, idx_nat hk, Option.bind_some, if_true, appA_some (show o.length + [(l[k].2 : Ty)].length ≤ 4294967296 by simp; omega)]) (fun o => by simp only [nlt_self, decide_false, Bool.false_eq_true, if_false])
theorem rtypes_eq (l : List Fd) (h : l.length ≤ 1048576) : M.ref17_fieldTypes big l = some (l.map (·.2)) := ptypes_eq l h
theorem sigOut (l : Lw) (hm : Mild l) (at_ : Int) : ∃ g : Sgn, M.law_Signature big l at_ = some (g.2.2.2.2.2, g.1, g.2.1, g.2.2.1, g.2.2.2.1, g.2.2.2.2.1) ∧ M.ref17_Signature big l at_ = some (g.1, g.2.1, g.2.2.2.2.2, g.2.2.1, g.2.2.2.1, g.2.2.2.2.1) ∧
    (g.1 = [] ∨ g.1 = l.1) ∧ (g.2.1 = [] ∨ g.2.1 = l.2.1) ∧ g.2.2.1.length ≤ 1048576 ∧ g.2.2.2.1.length ≤ 1048576 ∧ g.2.2.2.2.1.length ≤ 1048576 := by
  by_cases h1 : at_ < 0
  · refine ⟨([], ([], ([], ([], ([], false))))), ?_, ?_, .inl rfl, .inl rfl, by simp, by simp, by simp⟩
    · unfold M.law_Signature; rw [if_pos (decide_eq_true h1)]; rfl
    · unfold M.ref17_Signature; rw [if_pos (decide_eq_true h1)]; rfl
  by_cases h2 : (l.2.2.length : Int) ≤ at_
  · refine ⟨([], ([], ([], ([], ([], false))))), ?_, ?_, .inl rfl, .inl rfl, by simp, by simp, by simp⟩
    · unfold M.law_Signature; rw [if_neg (by simpa using h1), Option.bind_some, if_pos (decide_eq_true h2)]
    · unfold M.ref17_Signature; rw [if_neg (by simpa using h1), Option.bind_some, if_pos (decide_eq_true h2)]
  obtain ⟨k, rfl⟩ := Int.eq_ofNat_of_zero_le (Int.not_lt.1 h1)
  have hk : k < l.2.2.length := by omega
  have hsc := hm.sc _ (List.getElem_mem hk)
  by_cases hmem : 0 ≤ (l.2.2[k].2.1 : Int) ∧ (l.2.2[k].2.1 : Int) < (l.2.2.length : Int)
  · obtain ⟨(m : Int), hmm⟩ : ∃ m : Int, m = l.2.2[k].2.1 := ⟨_, rfl⟩
    rw [← hmm] at hmem
    obtain ⟨j, rfl⟩ := Int.eq_ofNat_of_zero_le hmem.1
    have hj : j < l.2.2.length := Int.ofNat_lt.1 hmem.2
    have hsj := hm.sc _ (List.getElem_mem hj)
    refine ⟨(l.1, (l.2.1, (l.2.2[k].2.2.1.map (·.2), (l.2.2[k].2.2.2.1.map (·.2), (l.2.2[j].2.2.2.1.map (·.2), true))))), ?_, ?_, .inr rfl, .inr rfl, by simpa using hsc.1, by simpa using hsc.2.1, by simpa using hsj.2.1⟩
    · unfold M.law_Signature M.law_sharedSignature
      simp only [decide_eq_false h1, decide_eq_false h2, idx_nat hk, ptypes_eq _ hsc.1, ptypes_eq _ hsc.2.1, ← hmm, decide_eq_true hmem.1, decide_eq_true hmem.2, idx_nat hj, ptypes_eq _ hsj.2.1, Option.bind_some, if_true, Bool.false_eq_true, if_false, cloneEnums_eq _ hm.en' hm.en, cloneTables_eq _ hm.tb' hm.tb]
    · unfold M.ref17_Signature
      simp only [decide_eq_false h1, decide_eq_false h2, idx_nat hk, rtypes_eq _ hsc.1, rtypes_eq _ hsc.2.1, ← hmm, decide_eq_true hmem.1, decide_eq_true hmem.2, idx_nat hj, rtypes_eq _ hsj.2.1, Option.bind_some, if_true, Bool.false_eq_true, if_false]
  · have hg : ((if decide ((0 : Int) ≤ l.2.2[k].2.1) = true then some (decide ((l.2.2[k].2.1 : Int) < (l.2.2.length : Int))) else some false) : Option Bool) = some false := by
      split
      · rename_i h
        rw [decide_eq_false fun h' => hmem ⟨of_decide_eq_true h, h'⟩]
      · rfl
    refine ⟨(l.1, (l.2.1, (l.2.2[k].2.2.1.map (·.2), (l.2.2[k].2.2.2.1.map (·.2), ([], false))))), ?_, ?_, .inr rfl, .inr rfl, by simpa using hsc.1, by simpa using hsc.2.1, by simp⟩
    · unfold M.law_Signature M.law_sharedSignature
      simp only [decide_eq_false h1, decide_eq_false h2, idx_nat hk, ptypes_eq _ hsc.1, ptypes_eq _ hsc.2.1, Option.bind_some, if_true, Bool.false_eq_true, if_false]
      rw [hg]
      simp only [Option.bind_some, Bool.false_eq_true, if_false, cloneEnums_eq _ hm.en' hm.en, cloneTables_eq _ hm.tb' hm.tb]
    · unfold M.ref17_Signature
      simp only [decide_eq_false h1, decide_eq_false h2, idx_nat hk, rtypes_eq _ hsc.1, rtypes_eq _ hsc.2.1, Option.bind_some, if_true, Bool.false_eq_true, if_false]
      rw [hg]
      rfl
end L
end Go.Proofs.YtjeeligfdpociaaGreat
