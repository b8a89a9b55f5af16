/- Expressions in postfix order: where subexpressions start (plain laws). -/
import Derived.Test.YtomgmnkalommeaaGreatDoorPT3
namespace Go.Proofs.YtomgmnkalommeaaGreatDoor
open Go Go.RowKit
set_option maxRecDepth 100000
namespace L

abbrev natL (l : List Nat) : List Int := l.map (fun n : Nat => (n : Int))

/-- Where the subexpression that ends with the node i starts. -/
def sst (a : Int) (i : Nat) (sk : List Nat) : Nat := if a = 0 then i else sk.getD (sk.length - a.toNat) 0
/-- The nodes, one by one: the starts so far, and those that stand on the stack. -/
def srun : List Ty → Nat → List Nat → List Nat → (Nat × Int) ⊕ (List Nat × List Nat)
  | [], _, st, sk => .inr (st, sk)
  | n :: e, i, st, sk =>
    if ar n.1 < 0 then .inl (i, 2) else if (sk.length : Int) < ar n.1 then .inl (i, 5) else
    if 12 < sk.length - (ar n.1).toNat + 1 then .inl (i, 16) else srun e (i + 1) (st ++ [sst (ar n.1) i sk]) (sk.take (sk.length - (ar n.1).toNat) ++ [sst (ar n.1) i sk])
def sres (e : List Ty) : Int × Int × List Int :=
  if 48 < e.length then (0, 4, []) else if e.length = 0 then (0, 5, []) else match srun e 0 [] [] with
    | .inl (i, c) => (i, c, [])
    | .inr (st, sk) => if 1 < sk.length then (e.length, 4, []) else (0, 0, natL st)

theorem set_rep (st : List Nat) (m : Nat) (v : Nat) : setL (natL st ++ List.replicate (m + 1) (0 : Int)) (st.length : Int) (v : Int) = natL (st ++ [v]) ++ List.replicate m (0 : Int) := by
  unfold setL
  rw [Int.toNat_natCast, List.set_append_right _ _ (by simp), List.replicate_succ]
  simp
theorem set_again (st : List Nat) (m : Nat) (u v : Nat) : setL (natL (st ++ [u]) ++ List.replicate m (0 : Int)) (st.length : Int) (v : Int) = natL (st ++ [v]) ++ List.replicate m (0 : Int) := by
  unfold setL
  rw [Int.toNat_natCast, List.set_append_left _ _ (by simp)]
  congr 1
  simp only [natL, List.map_append]
  rw [List.set_append_right _ _ (by simp)]
  simp

theorem structure_eq (e : List Ty) : M.expr_structure big e = some (sres e) := by
  apply Wp.eq
  unfold M.expr_structure sres
  refine Wp.dec (fun h => .some ?_) fun h1 => ?_
  · rw [if_pos (by omega)]
  rw [if_neg (show ¬ 48 < e.length by omega)]
  refine Wp.dec (fun h => .some ?_) fun h2 => ?_
  · rw [if_pos (show e.length = 0 by omega)]
  rw [if_neg (show ¬ e.length = 0 by omega)]
  have hmk : mkL (e.length : Int) (0 : Int) = some (List.replicate e.length 0) := by
    unfold mkL
    rw [if_pos (by omega), Int.toNat_natCast]
  rw [hmk]
  simp only [Option.bind_some]
  refine Wp.join (Wp.loop (fun s : Int × List Int × List Int => ∃ st sk : List Nat, s = ((st.length : Int), natL st ++ List.replicate (e.length - st.length) 0, natL sk) ∧ st.length ≤ e.length ∧ sk.length ≤ 12 ∧ srun (e.drop st.length) st.length st sk = srun e 0 [] []) (fun s => (e.length - s.1).toNat) ⟨[], [], by simp, by simp, by simp, by simp⟩ (by simp only; unfold big; omega) ?_)
  rintro _ ⟨st, sk, rfl, hst, hsk, hrun⟩
  simp only
  refine Wp.dec (fun hk => ?_) fun hk => .some ?_
  case refine_2 =>
    have hd : e.drop st.length = [] := List.drop_of_length_le (by omega)
    rw [hd] at hrun
    rw [← hrun]
    have h0 : e.length - st.length = 0 := by omega
    rw [h0]
    simp only [srun, List.replicate_zero, List.append_nil]
    show Wp _ _
    refine Wp.dec (fun h => .some ?_) fun h => .some ?_
    · rw [if_pos (by simp at h; omega)]
    · rw [if_neg (by simp at h; omega)]
  have hk' : st.length < e.length := by omega
  have hd : e.drop st.length = e[st.length] :: e.drop (st.length + 1) := List.drop_eq_getElem_cons hk'
  obtain ⟨m, hm⟩ : ∃ m, e.length - st.length = m + 1 := ⟨e.length - st.length - 1, by omega⟩
  rw [hd] at hrun
  rw [idx_nat hk', hm]
  simp only [Option.bind_some, arity_eq]
  generalize hop : (e[st.length].1 : Int) = op
  rw [srun] at hrun
  rw [hop] at hrun
  have har := ar_le op
  refine Wp.dec (fun h => .some ?_) fun hneg => ?_
  · rw [if_pos h] at hrun
    show _ = _
    rw [← hrun]
  rw [if_neg hneg] at hrun
  refine Wp.dec (fun h => .some ?_) fun hlen => ?_
  · rw [if_pos (by simpa using h)] at hrun
    show _ = _
    rw [← hrun]
  have hlen : ¬ (sk.length : Int) < ar op := by simpa using hlen
  rw [if_neg hlen] at hrun
  obtain ⟨a, ha⟩ : ∃ a : Nat, ar op = a := ⟨(ar op).toNat, by omega⟩
  rw [ha] at hrun hneg hlen har ⊢
  have hale : a ≤ sk.length := by omega
  have e6 : idx (natL st ++ List.replicate (m + 1) (0 : Int)) (st.length : Int) = some 0 := by
    rw [idx_nat (by simp)]
    rw [List.getElem_append_right (by simp)]
    simp
  rw [e6]
  have hw : IntKind.i64.wrap (((natL sk).length : Int) - (a : Int)) = ((sk.length - a : Nat) : Int) := by
    rw [List.length_map, wrap_id (by omega) (by omega)]; omega
  have hs : sst (a : Int) st.length sk = (if a = 0 then st.length else sk.getD (sk.length - a) 0) := by
    unfold sst
    by_cases h0 : a = 0
    · subst h0; simp
    · rw [if_neg (by omega), if_neg h0, Int.toNat_natCast]
  simp only [Option.bind_some, set_rep, hw]
  refine Wp.seq (· = natL (st ++ [sst (a : Int) st.length sk]) ++ List.replicate m (0 : Int)) ?_ ?_
  · refine Wp.dec (fun h => ?_) fun h => ?_
    · have hlt : sk.length - a < (natL sk).length := by simp; omega
      rw [idx_nat hlt]
      have e9 : idx (natL (st ++ [st.length]) ++ List.replicate m (0 : Int)) (st.length : Int) = some (st.length : Int) := by
        rw [idx_nat (by simp)]
        rw [List.getElem_append_left (by simp)]
        simp
      simp only [Option.bind_some, e9, List.getElem_map, set_again]
      refine .some ?_
      rw [hs, if_neg (by omega), show sk.getD (sk.length - a) 0 = sk[sk.length - a]'(by simpa using hlt) by simp [List.getD, show sk.length - a < sk.length by omega]]
    · refine .some ?_
      rw [hs, if_pos (by omega)]
  · rintro _ rfl
    generalize sst (a : Int) st.length sk = s at hrun ⊢
    have hcut : cutA (natL sk) (0 : Int) ((sk.length - a : Nat) : Int) = some (natL (sk.take (sk.length - a))) := by
      rw [cutA_zero (by simp)]
      simp
    have e11 : idx (natL (st ++ [s]) ++ List.replicate m (0 : Int)) (st.length : Int) = some (s : Int) := by
      rw [idx_nat (by simp)]
      rw [List.getElem_append_left (by simp)]
      simp
    have happ : appA (natL (sk.take (sk.length - a))) [(s : Int)] = some (natL (sk.take (sk.length - a) ++ [s])) := by
      rw [appA_some (by simp; omega)]
      simp
    rw [hcut]
    simp only [Option.bind_some, e11, happ]
    have hl : (natL (sk.take (sk.length - a) ++ [s])).length = sk.length - a + 1 := by simp
    rw [hl]
    rw [Int.toNat_natCast] at hrun
    refine Wp.dec (fun h => .some ?_) fun h => .some ?_
    · rw [if_pos (by omega)] at hrun
      show _ = _
      rw [← hrun]
    · rw [if_neg (by omega)] at hrun
      rw [wrap_succ (by omega)]
      refine ⟨⟨st ++ [s], sk.take (sk.length - a) ++ [s], ?_, by simp; omega, by simp; omega, ?_⟩, by simp only; omega⟩
      · have : e.length - (st ++ [s]).length = m := by simp; omega
        rw [this]
        simp
      · rw [List.length_append]
        exact hrun

/-- The starts of what stands on the stack ahead of node i. -/
inductive Ch (st : List Nat) : Nat → List Nat → Prop
  | nil : Ch st 0 []
  | snoc {i s : Nat} {l : List Nat} (h : st[i]? = some s) (hs : s ≤ i) (c : Ch st s l) : Ch st (i + 1) (l ++ [s])

theorem Ch.mono {st st' : List Nat} (hs : ∀ i s : Nat, st[i]? = some s → st'[i]? = some s) {i : Nat} {l : List Nat} (h : Ch st i l) : Ch st' i l := by
  induction h with
  | nil => exact .nil
  | snoc h1 h2 _ ih => exact .snoc (hs _ _ h1) h2 ih
theorem get_snoc {st : List Nat} {x i s : Nat} (h : st[i]? = some s) : (st ++ [x])[i]? = some s := by
  obtain ⟨hi, _⟩ := List.getElem?_eq_some_iff.1 h
  rw [List.getElem?_append_left hi, h]
theorem Ch.lt {st : List Nat} {i : Nat} {l : List Nat} (h : Ch st i l) : ∀ x ∈ l, x < i := by
  induction h with
  | nil => simp
  | snoc h1 h2 _ ih =>
    intro x hx
    rcases List.mem_append.1 hx with hx | hx
    · have := ih x hx; omega
    · rw [List.mem_singleton.1 hx]; omega
theorem Ch.take {st : List Nat} {i : Nat} {l : List Nat} (h : Ch st i l) : ∀ m (hm : m < l.length), Ch st l[m] (l.take m) := by
  induction h with
  | nil => intro m hm; simp at hm
  | @snoc i s l h1 h2 c ih =>
    intro m hm
    by_cases hml : m < l.length
    · rw [List.getElem_append_left hml, List.take_append_of_le_length (by omega)]
      exact ih m hml
    · have : m = l.length := by simp at hm; omega
      subst this
      rw [List.getElem_append_right (by omega), List.take_append_of_le_length (by omega), List.take_length]
      simpa using c
theorem Ch.uniq {st : List Nat} {i : Nat} {l l' : List Nat} (h : Ch st i l) (h' : Ch st i l') : l = l' := by
  induction h generalizing l' with
  | nil => cases h' with
    | nil => rfl
  | @snoc i s l h1 h2 c ih =>
    cases h' with
    | snoc g1 g2 c' =>
      rw [h1] at g1
      obtain rfl := Option.some.inj g1
      rw [ih c']
theorem Ch.pos {st : List Nat} {i : Nat} {l : List Nat} (h : Ch st i l) (hi : 0 < i) : l ≠ [] := by
  cases h with
  | nil => omega
  | snoc => simp

/-- What the starts of an expression are. -/
structure Val (e : List Ty) (st : List Nat) : Prop where
  len : st.length = e.length
  node : ∀ p (h : p < e.length), 0 ≤ ar e[p].1 ∧ ∃ l, Ch st p l ∧ (ar e[p].1).toNat ≤ l.length ∧ l.length - (ar e[p].1).toNat + 1 ≤ 12 ∧ st[p]? = some (sst (ar e[p].1) p l)

theorem Val.nil : Val [] [] := ⟨rfl, fun p h => by simp at h⟩
theorem Val.snoc {e : List Ty} {st : List Nat} (v : Val e st) {n : Ty} {sk : List Nat} (h0 : 0 ≤ ar n.1) (hc : Ch st e.length sk) (ha : (ar n.1).toNat ≤ sk.length) (hd : sk.length - (ar n.1).toNat + 1 ≤ 12) : Val (e ++ [n]) (st ++ [sst (ar n.1) e.length sk]) := by
  refine ⟨by simp [v.len], fun p hp => ?_⟩
  by_cases h : p < e.length
  · rw [List.getElem_append_left h]
    obtain ⟨h1, l, h2, h3, h4, h5⟩ := v.node p h
    exact ⟨h1, l, h2.mono fun _ _ h => get_snoc h, h3, h4, get_snoc h5⟩
  · have : p = e.length := by simp at hp; omega
    subst this
    rw [List.getElem_append_right (by omega)]
    simp only [Nat.sub_self, List.getElem_cons_zero]
    refine ⟨h0, sk, hc.mono fun _ _ h => get_snoc h, ha, hd, ?_⟩
    rw [← v.len, List.getElem?_append_right (by omega)]
    simp [v.len]
theorem sst_le {a : Int} {i : Nat} {st l : List Nat} (h0 : 0 ≤ a) (hc : Ch st i l) (ha : a.toNat ≤ l.length) : sst a i l ≤ i := by
  unfold sst
  split
  · exact Nat.le_refl _
  · have hlt : l.length - a.toNat < l.length := by omega
    simp only [List.getD, List.getElem?_eq_getElem hlt, Option.getD_some]
    exact Nat.le_of_lt (hc.lt _ (List.getElem_mem hlt))
theorem Ch.next {st l : List Nat} {i : Nat} {a : Int} (h0 : 0 ≤ a) (hc : Ch st i l) (ha : a.toNat ≤ l.length) (hs : st[i]? = some (sst a i l)) : Ch st (i + 1) (l.take (l.length - a.toNat) ++ [sst a i l]) := by
  refine .snoc hs (sst_le h0 hc ha) ?_
  unfold sst
  by_cases h : a = 0
  · rw [if_pos h]
    subst h
    simpa using hc
  · have hlt : l.length - a.toNat < l.length := by omega
    rw [if_neg h]
    simp only [List.getD, List.getElem?_eq_getElem hlt, Option.getD_some]
    exact hc.take _ hlt

theorem srun_val : ∀ (suf pre : List Ty) (st sk st' sk' : List Nat), Val pre st → Ch st pre.length sk → srun suf pre.length st sk = .inr (st', sk') → Val (pre ++ suf) st' ∧ Ch st' (pre ++ suf).length sk'
  | [], pre, st, sk, st', sk', v, c, h => by
    rw [srun] at h
    cases h
    rw [List.append_nil]
    exact ⟨v, c⟩
  | n :: suf, pre, st, sk, st', sk', v, c, h => by
    rw [srun] at h
    split at h
    · cases h
    split at h
    · cases h
    split at h
    · cases h
    rename_i h1 h2 h3
    have h0 : 0 ≤ ar n.1 := by omega
    have ha : (ar n.1).toNat ≤ sk.length := by omega
    have v' := v.snoc h0 c ha (by omega)
    have c1 : Ch (st ++ [sst (ar n.1) pre.length sk]) pre.length sk := c.mono fun _ _ h => get_snoc h
    have hs : (st ++ [sst (ar n.1) pre.length sk])[pre.length]? = some (sst (ar n.1) pre.length sk) := by
      rw [← v.len, List.getElem?_append_right (by omega)]
      simp [v.len]
    have c' := c1.next h0 ha hs
    have := srun_val suf (pre ++ [n]) _ _ st' sk' v' (by simpa using c') (by simpa using h)
    simpa using this
theorem val_srun {e : List Ty} {st : List Nat} (v : Val e st) : ∀ (suf pre : List Ty) (sk : List Nat), pre ++ suf = e → Ch st pre.length sk → ∃ sk', srun suf pre.length (st.take pre.length) sk = .inr (st, sk') ∧ Ch st e.length sk'
  | [], pre, sk, he, c => by
    rw [List.append_nil] at he
    subst he
    exact ⟨sk, by rw [srun, ← v.len, List.take_length], c⟩
  | n :: suf, pre, sk, he, c => by
    subst he
    obtain ⟨h0, l, h1, h2, h3, h4⟩ := v.node pre.length (by simp)
    rw [List.getElem_append_right (by omega)] at h0 h2 h3 h4
    simp only [Nat.sub_self, List.getElem_cons_zero] at h0 h2 h3 h4
    obtain rfl := h1.uniq c
    rw [srun, if_neg (by omega), if_neg (by omega), if_neg (by omega)]
    have c' := c.next h0 h2 h4
    obtain ⟨sk', g1, g2⟩ := val_srun v suf (pre ++ [n]) _ (by simp) (by simpa using c')
    refine ⟨sk', ?_, g2⟩
    rw [← g1]
    have : (st.take pre.length ++ [sst (ar n.1) pre.length l]) = st.take (pre ++ [n]).length := by
      obtain ⟨hi, hg⟩ := List.getElem?_eq_some_iff.1 h4
      rw [List.length_append, List.length_singleton, List.take_succ_eq_append_getElem hi, hg]
    rw [this]
    simp

/-! ## Nesting -/
theorem nest_aux {st : List Nat} {P : Nat} (IH : ∀ p : Nat, p < P → ∀ q s : Nat, st[p]? = some s → s ≤ q → q ≤ p → ∃ s' : Nat, st[q]? = some s' ∧ s ≤ s') {i : Nat} {l : List Nat} (c : Ch st i l) : i ≤ P → ∀ m (hm : m < l.length) q, l[m] ≤ q → q < i → ∃ s', st[q]? = some s' ∧ l[m] ≤ s' := by
  induction c with
  | nil => intro _ m hm; simp at hm
  | @snoc i s l h1 h2 c ih =>
    intro hP m hm q hq hqi
    by_cases hs : s ≤ q
    · obtain ⟨s', g1, g2⟩ := IH i (by omega) q s h1 hs (by omega)
      refine ⟨s', g1, ?_⟩
      by_cases hml : m < l.length
      · rw [List.getElem_append_left hml]
        have := c.lt _ (List.getElem_mem hml)
        omega
      · have : m = l.length := by simp at hm; omega
        subst this
        simpa using g2
    · have hml : m < l.length := by
        by_cases hml : m < l.length
        · exact hml
        · have : m = l.length := by simp at hm; omega
          subst this
          simp at hq
          omega
      rw [List.getElem_append_left hml] at hq ⊢
      exact ih (by omega) m hml q hq (by omega)
theorem Val.nest {e : List Ty} {st : List Nat} (v : Val e st) : ∀ p q s : Nat, st[p]? = some s → s ≤ q → q ≤ p → ∃ s' : Nat, st[q]? = some s' ∧ s ≤ s' := by
  intro p
  induction p using Nat.strongRecOn with
  | _ p IH =>
    intro q s hp hsq hqp
    by_cases hq : q = p
    · subst hq; exact ⟨s, hp, Nat.le_refl _⟩
    · have hlt : p < e.length := by rw [← v.len]; exact (List.getElem?_eq_some_iff.1 hp).1
      obtain ⟨h0, l, h1, h2, h3, h4⟩ := v.node p hlt
      rw [hp] at h4
      have h4 := Option.some.inj h4
      unfold sst at h4
      split at h4
      · omega
      · rename_i hne
        have hm : l.length - (ar e[p].1).toNat < l.length := by omega
        simp only [List.getD, List.getElem?_eq_getElem hm, Option.getD_some] at h4
        have := nest_aux (P := p) IH h1 (Nat.le_refl _) _ hm q (by rw [← h4]; exact hsq) (by omega)
        rw [← h4] at this
        exact this

/-! ## A subexpression by itself -/
/-- From s on, s taken as the beginning. -/
def cutS (st : List Nat) (s P : Nat) : List Nat := ((st.take (P + 1)).drop s).map (· - s)
theorem cutS_get {st : List Nat} {s P q t : Nat} (h : st[q]? = some t) (hs : s ≤ q) (hq : q ≤ P) : (cutS st s P)[q - s]? = some (t - s) := by
  unfold cutS
  rw [List.getElem?_map, List.getElem?_drop, show s + (q - s) = q by omega, List.getElem?_take_of_lt (by omega), h]
  rfl
theorem Ch.cut {e : List Ty} {st : List Nat} (v : Val e st) {P s : Nat} (hP : st[P]? = some s) {i : Nat} {l : List Nat} (c : Ch st i l) : s ≤ i → i ≤ P + 1 → ∃ l0 l1, l = l0 ++ l1 ∧ Ch st s l0 ∧ (∀ x ∈ l1, s ≤ x) ∧ Ch (cutS st s P) (i - s) (l1.map (· - s)) := by
  induction c with
  | nil =>
    intro h1 _
    obtain rfl : s = 0 := by omega
    exact ⟨[], [], rfl, .nil, by simp, .nil⟩
  | @snoc i t l h1 h2 c ih =>
    intro h3 h4
    by_cases hs : s = i + 1
    · subst hs
      exact ⟨l ++ [t], [], by simp, .snoc h1 h2 c, by simp, by simpa using .nil⟩
    · obtain ⟨t', g1, g2⟩ := v.nest P i s hP (by omega) (by omega)
      rw [h1] at g1
      obtain rfl := Option.some.inj g1
      obtain ⟨l0, l1, rfl, k1, k2, k3⟩ := ih g2 (by omega)
      refine ⟨l0, l1 ++ [t], by simp, k1, fun x hx => ?_, ?_⟩
      · rcases List.mem_append.1 hx with hx | hx
        · exact k2 x hx
        · rw [List.mem_singleton.1 hx]; exact g2
      · rw [show i + 1 - s = (i - s) + 1 by omega, List.map_append]
        exact .snoc (cutS_get h1 (by omega) (by omega)) (by simp only; omega) k3
theorem Val.cut {e : List Ty} {st : List Nat} (v : Val e st) {P s : Nat} (hP : st[P]? = some s) : Val ((e.take (P + 1)).drop s) (cutS st s P) := by
  have hlt : P < e.length := by rw [← v.len]; exact (List.getElem?_eq_some_iff.1 hP).1
  refine ⟨by simp [cutS, v.len], fun p hp => ?_⟩
  have hp' : s + p < P + 1 := by simp at hp; omega
  have hget : ((e.take (P + 1)).drop s)[p] = e[s + p] := by simp
  rw [hget]
  obtain ⟨h0, l, h1, h2, h3, h4⟩ := v.node (s + p) (by omega)
  obtain ⟨l0, l1, rfl, k1, k2, k3⟩ := h1.cut v hP (by omega) (by omega)
  rw [Nat.add_sub_cancel_left] at k3
  obtain ⟨t, g1, g2⟩ := v.nest P (s + p) s hP (by omega) (by omega)
  have e4 := g1
  rw [h4] at g1
  have g1 := Option.some.inj g1
  have hal : (ar e[s + p].1).toNat ≤ l1.length := by
    by_cases ha : ar e[s + p].1 = 0
    · omega
    · unfold sst at g1
      rw [if_neg ha] at g1
      have hm : (l0 ++ l1).length - (ar e[s + p].1).toNat < (l0 ++ l1).length := by omega
      simp only [List.getD, List.getElem?_eq_getElem hm, Option.getD_some] at g1
      rcases Nat.lt_or_ge ((l0 ++ l1).length - (ar e[s + p].1).toNat) l0.length with hc | hc
      · rw [List.getElem_append_left hc] at g1
        have := k1.lt _ (List.getElem_mem hc)
        omega
      · simp at hc h2
        omega
  refine ⟨h0, l1.map (· - s), k3, by simpa using hal, by simp at h3 ⊢; omega, ?_⟩
  have hcut := cutS_get (s := s) (P := P) e4 (by omega) (by omega)
  rw [Nat.add_sub_cancel_left] at hcut
  rw [hcut, ← g1]
  refine congrArg some ?_
  unfold sst
  by_cases ha : ar e[s + p].1 = 0
  · rw [if_pos ha, if_pos ha]; omega
  · rw [if_neg ha, if_neg ha]
    have hm : (l0 ++ l1).length - (ar e[s + p].1).toNat < (l0 ++ l1).length := by omega
    have hm1 : l1.length - (ar e[s + p].1).toNat < l1.length := by omega
    simp only [List.getD, List.getElem?_eq_getElem hm, Option.getD_some, List.length_map, List.getElem?_map, List.getElem?_eq_getElem hm1, Option.map_some]
    rw [List.getElem_append_right (by simp; omega)]
    congr 2
    simp
    omega
end L
end Go.Proofs.YtomgmnkalommeaaGreatDoor
