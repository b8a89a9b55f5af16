/- Expressions in postfix order: where subexpressions start (plain laws). -/
import Derived.Test.YtomgmnkalommeaaDoorPT3
namespace Go.Proofs.YtomgmnkalommeaaDoor
open Go Go.RowKit
set_option maxRecDepth 100000
namespace L

abbrev natL (l : List Nat) : List Int := l.map (fun n : Nat => (n : Int))

/-- Where the subexpression that ends with the node i starts. -/
def sst (a : Int) (i : Nat) (sk : List Nat) : Nat := if a = 0 then i else sk.getD (sk.length - a.toNat) 0
/-- The nodes, one by one: the starts so far, and those that stand on the stack. -/
def srun : List Ty → Nat → List Nat → List Nat → (Nat × Int) ⊕ (List Nat × List Nat)
  | [], _, st, sk => .inr (st, sk)
  | n :: e, i, st, sk =>
    if ar n.1 < 0 then .inl (i, 2) else if (sk.length : Int) < ar n.1 then .inl (i, 5) else
    if 12 < sk.length - (ar n.1).toNat + 1 then .inl (i, 16) else srun e (i + 1) (st ++ [sst (ar n.1) i sk]) (sk.take (sk.length - (ar n.1).toNat) ++ [sst (ar n.1) i sk])
def sres (e : List Ty) : Int × Int × List Int :=
  if 48 < e.length then (0, 4, []) else if e.length = 0 then (0, 5, []) else match srun e 0 [] [] with
    | .inl (i, c) => (i, c, [])
    | .inr (st, sk) => if 1 < sk.length then (e.length, 4, []) else (0, 0, natL st)

theorem set_rep (st : List Nat) (m : Nat) (v : Nat) : setL (natL st ++ List.replicate (m + 1) (0 : Int)) (st.length : Int) (v : Int) = natL (st ++ [v]) ++ List.replicate m (0 : Int) := by
  unfold setL
  rw [Int.toNat_natCast, List.set_append_right _ _ (by simp), List.replicate_succ]
  simp
theorem set_again (st : List Nat) (m : Nat) (u v : Nat) : setL (natL (st ++ [u]) ++ List.replicate m (0 : Int)) (st.length : Int) (v : Int) = natL (st ++ [v]) ++ List.replicate m (0 : Int) := by
  unfold setL
  rw [Int.toNat_natCast, List.set_append_left _ _ (by simp)]
  congr 1
  simp only [natL, List.map_append]
  rw [List.set_append_right _ _ (by simp)]
  simp

theorem structure_eq (e : List Ty) : M.expr_structure big e = some (sres e) := by
  apply Wp.eq
  unfold M.expr_structure sres
  refine Wp.dec (fun h => .some ?_) fun h1 => ?_
  · rw [if_pos (by omega)]
  rw [if_neg (show ¬ 48 < e.length by omega)]
  refine Wp.dec (fun h => .some ?_) fun h2 => ?_
  · rw [if_pos (show e.length = 0 by omega)]
  rw [if_neg (show ¬ e.length = 0 by omega)]
  have hmk : mkL (e.length : Int) (0 : Int) = some (List.replicate e.length 0) := by
    unfold mkL
    rw [if_pos (by omega), Int.toNat_natCast]
  rw [hmk]
  simp only [Option.bind_some]
  refine Wp.join (Wp.loop (fun s : Int × List Int × List Int => ∃ st sk : List Nat, s = ((st.length : Int), natL st ++ List.replicate (e.length - st.length) 0, natL sk) ∧ st.length ≤ e.length ∧ sk.length ≤ 12 ∧ srun (e.drop st.length) st.length st sk = srun e 0 [] []) (fun s => (e.length - s.1).toNat) ⟨[], [], by simp, by simp, by simp, by simp⟩ (by simp only; unfold big; omega) ?_)
  rintro _ ⟨st, sk, rfl, hst, hsk, hrun⟩
  simp only
  refine Wp.dec (fun hk => ?_) fun hk => .some ?_
  case refine_2 =>
    have hd : e.drop st.length = [] := List.drop_of_length_le (by omega)
    rw [hd] at hrun
    rw [← hrun]
    have h0 : e.length - st.length = 0 := by omega
    rw [h0]
    simp only [srun, List.replicate_zero, List.append_nil]
    show Wp _ _
    refine Wp.dec (fun h => .some ?_) fun h => .some ?_
    · rw [if_pos (by simp at h; omega)]
    · rw [if_neg (by simp at h; omega)]
  have hk' : st.length < e.length := by omega
  have hd : e.drop st.length = e[st.length] :: e.drop (st.length + 1) := List.drop_eq_getElem_cons hk'
  obtain ⟨m, hm⟩ : ∃ m, e.length - st.length = m + 1 := ⟨e.length - st.length - 1, by omega⟩
  rw [hd] at hrun
  rw [idx_nat hk', hm]
  simp only [Option.bind_some, arity_eq]
  generalize hop : (e[st.length].1 : Int) = op
  rw [srun] at hrun
  rw [hop] at hrun
  have har := ar_le op
  refine Wp.dec (fun h => .some ?_) fun hneg => ?_
  · rw [if_pos h] at hrun
    show _ = _
    rw [← hrun]
  rw [if_neg hneg] at hrun
  refine Wp.dec (fun h => .some ?_) fun hlen => ?_
  · rw [if_pos (by simpa using h)] at hrun
    show _ = _
    rw [← hrun]
  have hlen : ¬ (sk.length : Int) < ar op := by simpa using hlen
  rw [if_neg hlen] at hrun
  obtain ⟨a, ha⟩ : ∃ a : Nat, ar op = a := ⟨(ar op).toNat, by omega⟩
  rw [ha] at hrun hneg hlen har ⊢
  have hale : a ≤ sk.length := by omega
  have e6 : idx (natL st ++ List.replicate (m + 1) (0 : Int)) (st.length : Int) = some 0 := by
    rw [idx_nat (by simp)]
    rw [List.getElem_append_right (by simp)]
    simp
  rw [e6]
  have hw : IntKind.i64.wrap (((natL sk).length : Int) - (a : Int)) = ((sk.length - a : Nat) : Int) := by
    rw [List.length_map, wrap_id (by omega) (by omega)]; omega
  have hs : sst (a : Int) st.length sk = (if a = 0 then st.length else sk.getD (sk.length - a) 0) := by
    unfold sst
    by_cases h0 : a = 0
    · subst h0; simp
    · rw [if_neg (by omega), if_neg h0, Int.toNat_natCast]
  simp only [Option.bind_some, set_rep, hw]
  refine Wp.seq (· = natL (st ++ [sst (a : Int) st.length sk]) ++ List.replicate m (0 : Int)) ?_ ?_
  · refine Wp.dec (fun h => ?_) fun h => ?_
    · have hlt : sk.length - a < (natL sk).length := by simp; omega
      rw [idx_nat hlt]
      have e9 : idx (natL (st ++ [st.length]) ++ List.replicate m (0 : Int)) (st.length : Int) = some (st.length : Int) := by
        rw [idx_nat (by simp)]
        rw [List.getElem_append_left (by simp)]
        simp
      simp only [Option.bind_some, e9, List.getElem_map, set_again]
      refine .some ?_
      rw [hs, if_neg (by omega), show sk.getD (sk.length - a) 0 = sk[sk.length - a]'(by simpa using hlt) by simp [List.getD, show sk.length - a < sk.length by omega]]
    · refine .some ?_
      rw [hs, if_pos (by omega)]
  · rintro _ rfl
    generalize sst (a : Int) st.length sk = s at hrun ⊢
    have hcut : cutA (natL sk) (0 : Int) ((sk.length - a : Nat) : Int) = some (natL (sk.take (sk.length - a))) := by
      rw [cutA_zero (by simp)]
      simp
    have e11 : idx (natL (st ++ [s]) ++ List.replicate m (0 : Int)) (st.length : Int) = some (s : Int) := by
      rw [idx_nat (by simp)]
      rw [List.getElem_append_left (by simp)]
      simp
    have happ : appA (natL (sk.take (sk.length - a))) [(s : Int)] = some (natL (sk.take (sk.length - a) ++ [s])) := by
      rw [appA_some (by simp; omega)]
      simp
    rw [hcut]
    simp only [Option.bind_some, e11, happ]
    have hl : (natL (sk.take (sk.length - a) ++ [s])).length = sk.length - a + 1 := by simp
    rw [hl]
    rw [Int.toNat_natCast] at hrun
    refine Wp.dec (fun h => .some ?_) fun h => .some ?_
    · rw [if_pos (by omega)] at hrun
      show _ = _
      rw [← hrun]
    · rw [if_neg (by omega)] at hrun
      rw [wrap_succ (by omega)]
      refine ⟨⟨st ++ [s], sk.take (sk.length - a) ++ [s], ?_, by simp; omega, by simp; omega, ?_⟩, by simp only; omega⟩
      · have : e.length - (st ++ [s]).length = m := by simp; omega
        rw [this]
        simp
      · rw [List.length_append]
        exact hrun
end L
end Go.Proofs.YtomgmnkalommeaaDoor
