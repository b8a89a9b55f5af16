/- Chapter 16: the heap of the evaluation order (plain): what is pushed and popped, and the heap's order. -/
import Derived.Test.YtjeeligfdpociabGreatRW
namespace Go.Proofs.YtjeeligfdpociabGreat
open Go Go.RowKit
set_option maxRecDepth 100000
set_option linter.unusedSimpArgs false
namespace L

def hAt (l : List Int) (i : Nat) : Int := l.getD i 0
def par (i : Nat) : Nat := (i - 1) / 2
def Heap (l : List Int) (n : Nat) : Prop := ∀ k, 0 < k → k < n → hAt l (par k) ≤ hAt l k
def swp (l : List Int) (i j : Nat) : List Int := (l.set i (hAt l j)).set j (hAt l i)
theorem hAt_eq {l : List Int} {i : Nat} (h : i < l.length) : hAt l i = l[i] := by unfold hAt; simp [h]
theorem hAt_set (l : List Int) (i k : Nat) (v : Int) (h : i < l.length) : hAt (l.set i v) k = if k = i then v else hAt l k := by
  unfold hAt
  rw [List.getD_eq_getElem?_getD, List.getD_eq_getElem?_getD, List.getElem?_set]
  by_cases e : k = i
  · rw [if_pos e.symm, if_pos h, if_pos e]; rfl
  · rw [if_neg (fun g => e g.symm), if_neg e]
theorem swp_len (l : List Int) (i j : Nat) : (swp l i j).length = l.length := by unfold swp; simp
theorem swp_at (l : List Int) (i j k : Nat) (hi : i < l.length) (hj : j < l.length) : hAt (swp l i j) k = if k = j then hAt l i else if k = i then hAt l j else hAt l k := by
  unfold swp
  rw [hAt_set _ _ _ _ (by simpa using hj), hAt_set _ _ _ _ hi]
theorem swp_perm (l : List Int) (i j : Nat) (hi : i < l.length) (hj : j < l.length) : (swp l i j).Perm l := by
  rw [List.perm_iff_count]
  intro x
  unfold swp
  rw [List.count_set (by simpa using hj), List.count_set hi, hAt_eq hi, hAt_eq hj, List.getElem_set]
  have h1 : (if (l[i] == x) = true then 1 else 0) ≤ l.count x := by
    split
    · rename_i h
      exact List.count_pos_iff.2 (by rw [beq_iff_eq] at h; rw [← h]; exact List.getElem_mem hi)
    · exact Nat.zero_le _
  by_cases e : i = j
  · subst e
    simp only [if_true]
    omega
  · rw [if_neg e]
    omega
theorem swap_eq (l : List Int) (i j : Nat) (hi : i < l.length) (hj : j < l.length) : M.deps_intHeap_Swap_v1 big (i : Int) (j : Int) l = some (swp l i j) := by
  unfold M.deps_intHeap_Swap_v1
  simp only [idx_nat hi, idx_nat hj, Option.bind_some]
  rw [idx_nat (show j < (setL l (i : Int) l[j]).length by unfold setL; simpa using hj), Option.bind_some]
  unfold swp setL
  rw [hAt_eq hi, hAt_eq hj, Int.toNat_natCast, Int.toNat_natCast]
theorem less_eq (l : List Int) (i j : Nat) (hi : i < l.length) (hj : j < l.length) : M.deps_intHeap_Less big l (i : Int) (j : Int) = some (decide (hAt l i < hAt l j)) := by
  unfold M.deps_intHeap_Less
  rw [idx_nat hi, idx_nat hj, hAt_eq hi, hAt_eq hj]; rfl

def UpI (l : List Int) (j : Nat) : Prop := (∀ k, 0 < k → k < l.length → k ≠ j → hAt l (par k) ≤ hAt l k) ∧ (0 < j → ∀ k, 0 < k → k < l.length → par k = j → hAt l (par j) ≤ hAt l k)
theorem par_lt {k : Nat} (h : 0 < k) : par k < k := by unfold par; omega
theorem UpI.done {l : List Int} {i : Nat} (h : UpI l i) (hi : i = 0 ∨ hAt l (par i) ≤ hAt l i) : Heap l l.length := fun k h0 hk => by
  by_cases e : k = i
  · subst e
    rcases hi with hi | hi
    · omega
    · exact hi
  · exact h.1 k h0 hk e
theorem UpI.step {l : List Int} {i : Nat} (h : UpI l i) (h0 : 0 < i) (hi : i < l.length) (hlt : hAt l i < hAt l (par i)) : UpI (swp l (par i) i) (par i) := by
  have hp := par_lt h0
  have hpl : par i < l.length := by omega
  obtain ⟨h1, h2⟩ := h
  have h2 := h2 h0
  refine ⟨fun k k0 hk hne => ?_, fun p0 k k0 hk hpk => ?_⟩
  · rw [swp_len] at hk
    rw [swp_at _ _ _ _ hpl hi, swp_at _ _ _ _ hpl hi]
    have hpk := par_lt k0
    by_cases e : k = i
    · subst e
      rw [if_neg (by omega), if_pos rfl, if_pos rfl]; omega
    · rw [if_neg e, if_neg hne]
      by_cases e2 : par k = i
      · rw [if_pos e2]; exact h2 k k0 hk e2
      · rw [if_neg e2]
        by_cases e3 : par k = par i
        · rw [if_pos e3]
          have := h1 k k0 hk e
          rw [e3] at this
          omega
        · rw [if_neg e3]; exact h1 k k0 hk e
  · rw [swp_len] at hk
    rw [swp_at _ _ _ _ hpl hi, swp_at _ _ _ _ hpl hi]
    have hpp := par_lt p0
    have hup := h1 (par i) p0 hpl (by omega)
    rw [if_neg (by omega), if_neg (by omega)]
    by_cases e : k = i
    · subst e
      rw [if_pos rfl]; exact hup
    · have hkp : k ≠ par i := fun e2 => by
        rw [e2] at hpk
        omega
      rw [if_neg e, if_neg hkp]
      have := h1 k k0 hk e
      rw [hpk] at this
      omega
theorem up_par {i : Nat} (h0 : 0 < i) (hi : i ≤ 1000000) : IntKind.i64.wrap (Int.tdiv (IntKind.i64.wrap ((i : Int) - (1 : Int))) (2 : Int)) = ((par i : Nat) : Int) := by
  rw [wrap_id (n := (i : Int) - 1) (by omega) (by omega), Int.tdiv_eq_ediv_of_nonneg (by omega)]
  unfold par
  rw [wrap_id (by omega) (by omega)]
  omega
theorem up_wp (l : List Int) (j : Nat) (hj : j < l.length) (hl : l.length ≤ 1000000) (hU : UpI l j) : Wp (M.container_heap_up_v1 big (j : Int) l) fun r => r.Perm l ∧ Heap r r.length := by
  unfold M.container_heap_up_v1
  refine Wp.loop (fun s => ∃ i : Nat, s.1 = (i : Int) ∧ i < s.2.length ∧ s.2.Perm l ∧ UpI s.2 i) (fun s => s.1.toNat) ⟨j, rfl, hj, .refl l, hU⟩ (by show (j : Int).toNat < big; unfold big; omega) fun s hs => ?_
  obtain ⟨c, q⟩ := s
  obtain ⟨i, hc, hi, hp, hu⟩ := hs
  dsimp only at hc hi hp hu
  subst hc
  have hlen := hp.length_eq
  dsimp only
  by_cases h0 : i = 0
  · subst h0
    have e : IntKind.i64.wrap (Int.tdiv (IntKind.i64.wrap (((0 : Nat) : Int) - (1 : Int))) (2 : Int)) = ((0 : Nat) : Int) := by decide
    rw [e, if_pos (decide_eq_true rfl), Option.bind_some, if_pos rfl]
    exact .some ⟨hp, hu.done (.inl rfl)⟩
  · have hpl := par_lt (show 0 < i by omega)
    rw [up_par (by omega) (by omega), if_neg (by rw [decide_eq_true_eq]; omega), less_eq _ _ _ hi (by omega), Option.bind_some, Option.bind_some]
    by_cases hlt : hAt q i < hAt q (par i)
    · rw [if_neg (by simpa using hlt), swap_eq _ _ _ (by omega) hi, Option.bind_some]
      refine .some ⟨⟨par i, rfl, by show par i < (swp q (par i) i).length; rw [swp_len]; omega, (swp_perm q _ _ (by omega) hi).trans hp, hu.step (by omega) hi hlt⟩, ?_⟩
      show ((par i : Nat) : Int).toNat < ((i : Nat) : Int).toNat
      omega
    · rw [if_pos (by simpa using hlt)]
      exact .some ⟨hp, hu.done (.inr (by omega))⟩

def DnI (l : List Int) (i n : Nat) : Prop := (∀ k, 0 < k → k < n → par k ≠ i → hAt l (par k) ≤ hAt l k) ∧ (0 < i → ∀ k, 0 < k → k < n → par k = i → hAt l (par i) ≤ hAt l k)
theorem DnI.done {l : List Int} {i n : Nat} (h : DnI l i n) (hi : ∀ k, 0 < k → k < n → par k = i → hAt l i ≤ hAt l k) : Heap l n := fun k h0 hk => by
  by_cases e : par k = i
  · rw [e]; exact hi k h0 hk e
  · exact h.1 k h0 hk e
theorem DnI.step {l : List Int} {i j n : Nat} (h : DnI l i n) (hj0 : 0 < j) (hjn : j < n) (hn : n ≤ l.length) (hpj : par j = i) (hlt : hAt l j < hAt l i) (hmin : ∀ k, 0 < k → k < n → par k = i → hAt l j ≤ hAt l k) : DnI (swp l i j) j n := by
  have hp := par_lt hj0
  have hil : i < l.length := by omega
  have hjl : j < l.length := by omega
  obtain ⟨h1, h2⟩ := h
  refine ⟨fun k k0 hk hne => ?_, fun _ k k0 hk hpk => ?_⟩
  · rw [swp_at _ _ _ _ hil hjl, swp_at _ _ _ _ hil hjl, if_neg hne]
    by_cases e : k = j
    · subst e
      rw [if_pos hpj, if_pos rfl]; omega
    · rw [if_neg e]
      by_cases e2 : k = i
      · subst e2
        have hpk := par_lt k0
        rw [if_neg (by omega), if_pos rfl]
        exact h2 k0 j hj0 hjn hpj
      · rw [if_neg e2]
        by_cases e3 : par k = i
        · rw [if_pos e3]; exact hmin k k0 hk e3
        · rw [if_neg e3]; exact h1 k k0 hk e3
  · have hkp := par_lt k0
    rw [swp_at _ _ _ _ hil hjl, swp_at _ _ _ _ hil hjl, hpj, if_neg (by omega), if_pos rfl, if_neg (by omega), if_neg (by omega)]
    have := h1 k k0 hk (by omega)
    rw [hpk] at this
    exact this
theorem down_wp (l : List Int) (n : Nat) (hn : n ≤ l.length) (hl : l.length ≤ 1000000) (hD : DnI l 0 n) : Wp (M.container_heap_down_v1 big (0 : Int) (n : Int) l) fun r => r.2.Perm l ∧ Heap r.2 n ∧ ∀ k, n ≤ k → hAt r.2 k = hAt l k := by
  unfold M.container_heap_down_v1
  rw [wp_bind]
  refine (?_ : Wp _ fun r => r.2.Perm l ∧ Heap r.2 n ∧ ∀ k, n ≤ k → hAt r.2 k = hAt l k).mono fun r hr => .some hr
  refine Wp.loop (fun s => ∃ i : Nat, s.1 = (i : Int) ∧ i ≤ n ∧ s.2.Perm l ∧ DnI s.2 i n ∧ ∀ k, n ≤ k → hAt s.2 k = hAt l k) (fun s => n - s.1.toNat) ⟨0, rfl, Nat.zero_le _, .refl l, hD, fun _ _ => rfl⟩ (by show n - _ < big; unfold big; omega) fun s hs => ?_
  obtain ⟨c, q⟩ := s
  obtain ⟨i, hc, hi, hp, hu, hk⟩ := hs
  dsimp only at hc hi hp hu hk
  subst hc
  have hlen := hp.length_eq
  dsimp only
  have e1 : IntKind.i64.wrap (IntKind.i64.wrap ((2 : Int) * (i : Int)) + (1 : Int)) = ((2 * i + 1 : Nat) : Int) := by
    rw [wrap_id (n := (2 : Int) * (i : Int)) (by omega) (by omega), wrap_id (by omega) (by omega)]; omega
  have e2 : IntKind.i64.wrap (((2 * i + 1 : Nat) : Int) + (1 : Int)) = ((2 * i + 2 : Nat) : Int) := by
    rw [wrap_id (by omega) (by omega)]; omega
  rw [e1, e2]
  by_cases h1 : n ≤ 2 * i + 1
  · rw [if_pos (by rw [decide_eq_true_eq]; omega), Option.bind_some, if_pos rfl]
    exact .some ⟨hp, hu.done fun k k0 hkn hpk => by unfold par at hpk; omega, hk⟩
  rw [if_neg (by rw [decide_eq_true_eq]; omega), Option.bind_some, if_neg (by rw [decide_eq_true_eq]; omega)]
  have key : ∀ j : Nat, 0 < j → j < n → par j = i → (∀ k, 0 < k → k < n → par k = i → hAt q j ≤ hAt q k) → Wp ((M.deps_intHeap_Less big q (j : Int) (i : Int)).bind fun y7 =>
      (if (!y7) = true then
      some (Sum.inr ((i : Int), q))
      else
      (M.deps_intHeap_Swap_v1 big (i : Int) (j : Int) q).bind fun y8 =>
      some (Sum.inl ((j : Int), y8)))) (LoopW (fun s : Int × List Int => ∃ i : Nat, s.1 = (i : Int) ∧ i ≤ n ∧ s.2.Perm l ∧ DnI s.2 i n ∧ ∀ k, n ≤ k → hAt s.2 k = hAt l k) (fun s => n - s.1.toNat) ((i : Int), q) fun r : Int × List Int => r.2.Perm l ∧ Heap r.2 n ∧ ∀ k, n ≤ k → hAt r.2 k = hAt l k) := fun j j0 hj hpj hmin => by
    have := par_lt j0
    rw [less_eq _ _ _ (by omega) (by omega), Option.bind_some]
    by_cases hlt : hAt q j < hAt q i
    · rw [if_neg (by simpa using hlt), swap_eq _ _ _ (by omega) (by omega), Option.bind_some]
      refine .some ⟨⟨j, rfl, by omega, (swp_perm q _ _ (by omega) (by omega)).trans hp, hu.step j0 hj (by omega) hpj hlt hmin, fun k hkn => ?_⟩, ?_⟩
      · show hAt (swp q i j) k = hAt l k
        rw [swp_at _ _ _ _ (by omega) (by omega), if_neg (by omega), if_neg (by omega)]
        exact hk k hkn
      · show n - ((j : Nat) : Int).toNat < n - ((i : Nat) : Int).toNat
        omega
    · rw [if_pos (by simpa using hlt)]
      exact .some ⟨hp, hu.done fun k k0 hkn hpk => by have := hmin k k0 hkn hpk; omega, hk⟩
  have kids : ∀ k, 0 < k → k < n → par k = i → k = 2 * i + 1 ∨ k = 2 * i + 2 := fun k k0 _ hpk => by unfold par at hpk; omega
  by_cases h2 : 2 * i + 2 < n
  · rw [if_pos (by rw [decide_eq_true_eq]; omega), less_eq _ _ _ (by omega) (by omega), Option.bind_some, Option.bind_some]
    by_cases hlt : hAt q (2 * i + 2) < hAt q (2 * i + 1)
    · rw [if_pos (by simpa using hlt), Option.bind_some]
      exact key _ (by omega) h2 (by unfold par; omega) fun k k0 hkn hpk => by rcases kids k k0 hkn hpk with rfl | rfl <;> omega
    · rw [if_neg (by simpa using hlt), Option.bind_some]
      exact key _ (by omega) (by omega) (by unfold par; omega) fun k k0 hkn hpk => by rcases kids k k0 hkn hpk with rfl | rfl <;> omega
  · rw [if_neg (by rw [decide_eq_true_eq]; omega), Option.bind_some, if_neg (by decide), Option.bind_some]
    exact key _ (by omega) (by omega) (by unfold par; omega) fun k k0 hkn hpk => by
      rcases kids k k0 hkn hpk with rfl | rfl
      · exact Int.le_refl _
      · omega

theorem push_wp (x : Int) (l : List Int) (hl : l.length ≤ 999999) (hH : Heap l l.length) : Wp (M.container_heap_Push_v1 big x l) fun r => r.Perm (x :: l) ∧ Heap r r.length := by
  unfold M.container_heap_Push_v1 M.deps_intHeap_Push_v1 M.deps_intHeap_Len
  rw [appA_some (by simp; omega)]
  simp only [Option.bind_some]
  have e : IntKind.i64.wrap (((l ++ [x]).length : Int) - (1 : Int)) = ((l.length : Nat) : Int) := by
    rw [wrap_id (by simp) (by simp; omega)]; simp
  rw [e, wp_bind]
  have old : ∀ k, k < l.length → hAt (l ++ [x]) k = hAt l k := fun k hk => by unfold hAt; simp [List.getElem?_append_left hk]
  refine (up_wp (l ++ [x]) l.length (by simp) (by simp; omega) ⟨fun k k0 hk hne => ?_, fun h0 k k0 hk hpk => ?_⟩).mono fun r hr => .some ⟨hr.1.trans (List.perm_append_singleton x l), hr.2⟩
  · have hk' : k < l.length := by simp at hk; omega
    have := par_lt k0
    rw [old _ hk', old _ (by omega)]
    exact hH k k0 hk'
  · have := par_lt k0
    simp at hk
    omega
theorem Heap.min {l : List Int} {n : Nat} (h : Heap l n) : ∀ k, k < n → hAt l 0 ≤ hAt l k := fun k => by
  induction k using Nat.strongRecOn with
  | _ k ih =>
    intro hk
    by_cases h0 : k = 0
    · subst h0; exact Int.le_refl _
    · have hp := par_lt (show 0 < k by omega)
      have := ih (par k) hp (by omega)
      have := h k (by omega) hk
      omega
theorem pop_wp (l : List Int) (h0 : 0 < l.length) (hl : l.length ≤ 1000000) (hH : Heap l l.length) : Wp (M.container_heap_Pop_v1 big l) fun r => l.Perm (r.1 :: r.2) ∧ Heap r.2 r.2.length ∧ ∀ y ∈ r.2, r.1 ≤ y := by
  unfold M.container_heap_Pop_v1 M.deps_intHeap_Len
  obtain ⟨n, hn⟩ : ∃ n, l.length = n + 1 := ⟨l.length - 1, by omega⟩
  have e : IntKind.i64.wrap ((l.length : Int) - (1 : Int)) = ((n : Nat) : Int) := by rw [wrap_id (by omega) (by omega)]; omega
  rw [Option.bind_some, e]
  have sw := swap_eq l 0 n (by omega) (by omega)
  rw [show ((0 : Nat) : Int) = (0 : Int) from rfl] at sw
  rw [sw, Option.bind_some, wp_bind]
  have hs := fun k => swp_at l 0 n k (by omega) (by omega)
  refine (down_wp (swp l 0 n) n (by rw [swp_len]; omega) (by rw [swp_len]; omega) ⟨fun k k0 hk hne => ?_, fun h => by omega⟩).mono fun r hr => ?_
  · have := par_lt k0
    rw [hs, hs, if_neg (by omega), if_neg hne, if_neg (by omega), if_neg (by omega)]
    exact hH k k0 (by omega)
  · obtain ⟨b, q⟩ := r
    obtain ⟨h1, h2, h3⟩ := hr
    dsimp only at h1 h2 h3 ⊢
    have hq : q.length = n + 1 := by rw [h1.length_eq, swp_len]; exact hn
    have e2 : IntKind.i64.wrap ((q.length : Int) - (1 : Int)) = ((n : Nat) : Int) := by rw [wrap_id (by omega) (by omega)]; omega
    have hqn : q[n]'(by omega) = hAt l 0 := by
      rw [← hAt_eq (l := q) (by omega), h3 n (Nat.le_refl _), hs]
      by_cases e0 : n = 0
      · rw [if_pos rfl]
      · rw [if_pos rfl]
    unfold M.deps_intHeap_Pop
    rw [e2, idx_nat (by omega), Option.bind_some, cutA_zero (by omega), Option.bind_some, Option.bind_some]
    have hperm : l.Perm (q[n]'(by omega) :: q.take n) := by
      have e3 : q = q.take n ++ [q[n]'(by omega)] := by
        rw [List.take_append_getElem (by omega), ← hq, List.take_length]
      refine ((swp_perm l 0 n (by omega) (by omega)).symm.trans h1.symm).trans ?_
      have : (q.take n ++ [q[n]'(by omega)]).Perm (q[n]'(by omega) :: q.take n) := List.perm_append_singleton _ _
      rw [← e3] at this
      exact this
    refine .some ⟨hperm, fun k k0 hk => ?_, fun y hy => ?_⟩
    · have ht : (q.take n).length = n := by rw [List.length_take]; omega
      have hk : k < n := by rw [← ht]; exact hk
      have hpk := par_lt k0
      have tk : ∀ i, i < n → hAt (q.take n) i = hAt q i := fun i hi => by unfold hAt; simp [List.getElem?_take, hi]
      show hAt (q.take n) (par k) ≤ hAt (q.take n) k
      rw [tk _ hk, tk _ (by omega)]
      exact h2 k k0 hk
    · show q[n]'(by omega) ≤ y
      rw [hqn]
      have : y ∈ l := hperm.symm.subset (List.mem_cons_of_mem _ hy)
      obtain ⟨k, hk, rfl⟩ := List.getElem_of_mem this
      rw [← hAt_eq hk]
      exact hH.min k hk
end L
end Go.Proofs.YtjeeligfdpociabGreat
