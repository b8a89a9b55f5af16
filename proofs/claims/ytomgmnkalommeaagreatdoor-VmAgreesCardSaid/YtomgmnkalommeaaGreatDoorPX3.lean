/- Expressions in postfix order: evaluated (plain laws). -/
import Derived.Test.YtomgmnkalommeaaGreatDoorPX
namespace Go.Proofs.YtomgmnkalommeaaGreatDoor
open Go Go.RowKit
namespace L

/-- The operands of the node i, a of them. -/
def opsL (st : List Nat) : Nat → Nat → List Nat
  | 0, _ => []
  | a + 1, i => opsL st a (st.getD (i - 1) 0) ++ [i - 1]
theorem opsL_len (st : List Nat) : ∀ a i, (opsL st a i).length = a
  | 0, _ => rfl
  | a + 1, i => by simp [opsL, opsL_len st a]
/-- The operands, and where they begin. -/
theorem ops_ok {st l : List Nat} {i : Nat} (c : Ch st i l) : ∀ a, a ≤ l.length → (∀ o ∈ opsL st a i, o < i ∧ (if h : l.length - a < l.length then l[l.length - a] else i) ≤ o ∧ ∃ s, st[o]? = some s ∧ s ≤ o ∧ (if h : l.length - a < l.length then l[l.length - a] else i) ≤ s) := by
  induction c with
  | nil => intro a ha o ho; simp at ha; subst ha; simp [opsL] at ho
  | @snoc i s l h1 h2 c ih =>
    intro a ha o ho
    cases a with
    | zero => simp [opsL] at ho
    | succ a =>
      have hlt : (l ++ [s]).length - (a + 1) < (l ++ [s]).length := by simp; omega
      rw [dif_pos hlt]
      have e1 : (l ++ [s])[(l ++ [s]).length - (a + 1)] = (if h : l.length - a < l.length then l[l.length - a] else s) := by
        split
        · rename_i h
          rw [List.getElem_append_left (by simp; omega)]
          congr 1
          simp
        · rename_i h
          rw [List.getElem_append_right (by simp; omega)]
          simp
      rw [e1]
      have hg : st.getD (i + 1 - 1) 0 = s := by simp [List.getD, h1]
      rw [opsL, hg] at ho
      simp at ha
      have hle : (if h : l.length - a < l.length then l[l.length - a] else s) ≤ s := by
        split
        · rename_i h
          exact Nat.le_of_lt (c.lt _ (List.getElem_mem h))
        · exact Nat.le_refl _
      rcases List.mem_append.1 ho with ho | ho
      · obtain ⟨g1, g2, t, g3, g4, g5⟩ := ih a ha o ho
        exact ⟨by omega, g2, t, g3, g4, g5⟩
      · rw [List.mem_singleton.1 ho, Nat.add_sub_cancel]
        exact ⟨by omega, by omega, s, h1, h2, hle⟩
theorem Val.ops {e : List Ty} {st : List Nat} (v : Val e st) {p : Nat} (h : p < e.length) : ∀ o ∈ opsL st (ar e[p].1).toNat p, o < p ∧ ∃ s t, st[o]? = some s ∧ s ≤ o ∧ st[p]? = some t ∧ t ≤ s := by
  obtain ⟨h0, l, h1, h2, _, h4⟩ := v.node p h
  intro o ho
  obtain ⟨g1, g2, s, g3, g4, g5⟩ := ops_ok h1 _ h2 o ho
  refine ⟨g1, s, _, g3, g4, h4, ?_⟩
  unfold sst
  split
  · rename_i hz
    rw [hz] at ho
    simp [opsL] at ho
  · have hm : l.length - (ar e[p].1).toNat < l.length := by omega
    rw [dif_pos hm] at g5
    simpa [List.getD, List.getElem?_eq_getElem hm] using g5

/-! ## Evaluation -/
def z3 : Vl := ((0, 0, 0) : Int × Int × Int)
def argsE (g : Nat → Vl × Int) : List Nat → List Vl ⊕ Int
  | [] => .inl []
  | o :: os => if (g o).2 = 0 then (match argsE g os with
    | .inl vs => .inl ((g o).1 :: vs)
    | .inr c => .inr c) else .inr (g o).2
def boolE (r : Vl × Int) : Vl × Int := if r.2 ≠ 0 then (z3, r.2) else if (r.1.1 : Int) = 1 ∧ Plaus r.1.1 r.1.2.1 r.1.2.2 then (r.1, 0) else (z3, 8)
def lazyE (g : Nat → Vl × Int) (n : Ty) (ops : List Nat) : Vl × Int :=
  if (n.2 : Int) ≠ 0 then (z3, 2) else
  if (boolE (g (ops.getD 0 0))).2 ≠ 0 then (z3, (boolE (g (ops.getD 0 0))).2) else
  if (n.1 : Int) = 26 ∧ ((boolE (g (ops.getD 0 0))).1.2.2 : Int) = 1 then g (ops.getD 1 0) else
  if (n.1 : Int) = 26 then g (ops.getD 2 0) else
  if ((n.1 : Int) = 23) = (((boolE (g (ops.getD 0 0))).1.2.2 : Int) = 0) then ((boolE (g (ops.getD 0 0))).1, 0) else boolE (g (ops.getD 1 0))
def isLazy (op : Int) : Prop := op = 23 ∨ op = 24 ∨ op = 26
instance (op : Int) : Decidable (isLazy op) := by unfold isLazy; infer_instance
noncomputable def nodeE (ap : Ty → List Vl → Vl × Int) (e : List Ty) (st : List Nat) : Nat → Nat → Vl × Int
  | 0, _ => (z3, 0)
  | f + 1, i => if isLazy (e.getD i ((0, 0) : Int × Int)).1 then lazyE (nodeE ap e st f) (e.getD i ((0, 0) : Int × Int)) (opsL st (ar (e.getD i ((0, 0) : Int × Int)).1).toNat i)
    else match argsE (nodeE ap e st f) (opsL st (ar (e.getD i ((0, 0) : Int × Int)).1).toNat i) with
      | .inl vs => ap (e.getD i ((0, 0) : Int × Int)) vs
      | .inr c => (z3, c)

theorem argsE_congr {g g' : Nat → Vl × Int} : ∀ {os os' : List Nat}, os.length = os'.length → (∀ k (h : k < os.length) (h' : k < os'.length), g os[k] = g' os'[k]) → argsE g os = argsE g' os'
  | [], [], _, _ => rfl
  | o :: os, o' :: os', hl, h => by
    have h0 := h 0 (by simp) (by simp)
    simp only [List.getElem_cons_zero] at h0
    have ih := argsE_congr (g := g) (g' := g') (os := os) (os' := os') (by simpa using hl) fun k hk hk' => by
      have := h (k + 1) (by simpa using hk) (by simpa using hk')
      simpa using this
    unfold argsE
    rw [h0, ih]
  | [], _ :: _, hl, _ => by simp at hl
  | _ :: _, [], hl, _ => by simp at hl

/-- The value of a node: of what lies ahead of it alone. -/
theorem nodeE_cut {ap : Ty → List Vl → Vl × Int} {e : List Ty} {st : List Nat} (v : Val e st) {P s : Nat} (hP : st[P]? = some s) : ∀ (f f' i : Nat), s ≤ i → i ≤ P → i < f → i - s < f' → nodeE ap ((e.take (P + 1)).drop s) (cutS st s P) f' (i - s) = nodeE ap e st f i := by
  have hlt : P < e.length := by rw [← v.len]; exact (List.getElem?_eq_some_iff.1 hP).1
  intro f
  induction f with
  | zero => intro f' i _ _ h; omega
  | succ f ih =>
    intro f' i h1 h2 h3 h4
    obtain ⟨f', rfl⟩ : ∃ m, f' = m + 1 := ⟨f' - 1, by omega⟩
    have hi : i < e.length := by omega
    have hget : ((e.take (P + 1)).drop s).getD (i - s) ((0, 0) : Int × Int) = e.getD i ((0, 0) : Int × Int) := by
      simp only [List.getD, List.getElem?_drop, show s + (i - s) = i by omega]
      rw [List.getElem?_take_of_lt (by omega)]
    have hge : e.getD i ((0, 0) : Int × Int) = e[i] := by simp [List.getD, hi]
    unfold nodeE
    rw [hget, hge]
    obtain ⟨h0, l, hc, ha, _, hsi⟩ := v.node i hi
    obtain ⟨t, ht1, ht2⟩ := v.nest P i s hP h1 h2
    -- the operands, shifted
    have hops : ∀ (a j : Nat) (l : List Nat), Ch st j l → a ≤ l.length → j ≤ P + 1 → (a = 0 ∨ s ≤ l.getD (l.length - a) 0) → s ≤ j → opsL (cutS st s P) a (j - s) = (opsL st a j).map (· - s) := by
      intro a
      induction a with
      | zero => intro j l _ _ _ _ _; simp [opsL]
      | succ a iha =>
        intro j l c hal hj hs hsj
        cases c with
        | nil => simp at hal
        | @snoc j u l g1 g2 c =>
          simp at hal
          have hu : s ≤ u := by
            rcases hs with hs | hs
            · omega
            · by_cases ha0 : a = 0
              · subst ha0
                simpa [List.getD] using hs
              · have hm : l.length - a < l.length := by omega
                have : (l ++ [u]).getD ((l ++ [u]).length - (a + 1)) 0 = l[l.length - a] := by
                  have : (l ++ [u]).length - (a + 1) = l.length - a := by simp
                  rw [this]
                  simp [List.getD, List.getElem?_append_left hm, hm]
                rw [this] at hs
                have := c.lt _ (List.getElem_mem hm)
                omega
          have e1 : j + 1 - s - 1 = j - s := by omega
          have e2 : (cutS st s P).getD (j - s) 0 = u - s := by
            have := cutS_get (s := s) (P := P) g1 (by omega) (by omega)
            simp [List.getD, this]
          have e3 : st.getD (j + 1 - 1) 0 = u := by simp [List.getD, g1]
          rw [opsL, opsL, e1, e2, e3, List.map_append]
          rw [iha u l c hal (by omega) ?_ hu]
          · simp
          · by_cases ha0 : a = 0
            · exact .inl ha0
            · rcases hs with hs | hs
              · omega
              · have hm : l.length - a < l.length := by omega
                have : (l ++ [u]).getD ((l ++ [u]).length - (a + 1)) 0 = l.getD (l.length - a) 0 := by
                  have : (l ++ [u]).length - (a + 1) = l.length - a := by simp
                  rw [this]
                  simp [List.getD, List.getElem?_append_left hm]
                rw [this] at hs
                exact .inr hs
    have hsst : (ar e[i].1).toNat = 0 ∨ s ≤ l.getD (l.length - (ar e[i].1).toNat) 0 := by
      rw [hsi] at ht1
      have ht1 := Option.some.inj ht1
      unfold sst at ht1
      split at ht1
      · left; omega
      · right; omega
    rw [hops _ i l hc ha (by omega) hsst h1]
    have hin := v.ops hi
    -- the operands' values
    have hval : ∀ k (hk : k < (opsL st (ar e[i].1).toNat i).length), nodeE ap ((e.take (P + 1)).drop s) (cutS st s P) f' ((opsL st (ar e[i].1).toNat i)[k] - s) = nodeE ap e st f ((opsL st (ar e[i].1).toNat i)[k]) := by
      intro k hk
      obtain ⟨g1, u, w, g2, g3, g4, g5⟩ := hin _ (List.getElem_mem hk)
      rw [ht1] at g4
      obtain rfl := Option.some.inj g4
      exact ih f' _ (by omega) (by omega) (by omega) (by omega)
    have hargs : argsE (nodeE ap ((e.take (P + 1)).drop s) (cutS st s P) f') ((opsL st (ar e[i].1).toNat i).map (· - s)) = argsE (nodeE ap e st f) (opsL st (ar e[i].1).toNat i) :=
      argsE_congr (by simp) fun k hk hk' => by
        rw [List.getElem_map]
        exact hval k hk'
    rw [hargs]
    by_cases hz : isLazy e[i].1
    · rw [if_pos hz, if_pos hz]
      have har : 2 ≤ ar e[i].1 ∧ (e[i].1 = (26 : Int) → ar e[i].1 = 3) := by
        revert hz
        generalize (e[i].1 : Int) = op
        intro hz
        rcases hz with rfl | rfl | rfl <;> decide
      have hlen := opsL_len st (ar e[i].1).toNat i
      have hd : ∀ k, k < (ar e[i].1).toNat → nodeE ap ((e.take (P + 1)).drop s) (cutS st s P) f' (((opsL st (ar e[i].1).toNat i).map (· - s)).getD k 0) = nodeE ap e st f ((opsL st (ar e[i].1).toNat i).getD k 0) := by
        intro k hk
        have := hval k (by omega)
        simpa [List.getD, hlen, hk] using this
      unfold lazyE
      rw [hd 0 (by omega), hd 1 (by omega)]
      by_cases h26 : (e[i].1 : Int) = 26
      · rw [hd 2 (by rw [har.2 h26]; decide)]
      · simp only [h26, false_and, if_false]
    · rw [if_neg hz, if_neg hz]

theorem operands_eq {e : List Ty} {st : List Nat} (v : Val e st) (hl : e.length ≤ 100000) (env : rEnv.den) {i : Nat} (hi : i < e.length) : M.eval_evaluator_operands big (e, (natL st, env)) (i : Int) = some (natL (opsL st (ar e[i].1).toNat i)) := by
  apply Wp.eq
  obtain ⟨h0, l, hc, ha, hd, _⟩ := v.node i hi
  unfold M.eval_evaluator_operands
  simp only
  rw [idx_nat hi]
  simp only [Option.bind_some, arity_eq]
  obtain ⟨a, hea⟩ : ∃ a : Nat, ar e[i].1 = a := ⟨(ar e[i].1).toNat, by omega⟩
  have hle := ar_le e[i].1
  rw [hea] at ha hle ⊢
  rw [Int.toNat_natCast] at ha ⊢
  have hmk : mkL (a : Int) (0 : Int) = some (List.replicate a 0) := by
    unfold mkL
    rw [if_pos (by omega), Int.toNat_natCast]
  rw [hmk]
  simp only [Option.bind_some, List.length_replicate]
  refine Wp.loop (fun s : Int × Int × List Int => ∃ b p : Nat, ∃ dn l' : List Nat, s = ((p : Int) - 1, (b : Int) - 1, List.replicate b (0 : Int) ++ natL dn) ∧ b ≤ a ∧ p ≤ i ∧ opsL st a i = opsL st b p ++ dn ∧ Ch st p l' ∧ b ≤ l'.length) (fun s => (s.2.1 + 1).toNat) ⟨a, i, [], l, ?_, Nat.le_refl _, Nat.le_refl _, by simp, hc, ha⟩ ?_ ?_
  · rw [wrap_id (by omega) (by omega), wrap_id (by omega) (by omega)]
    simp
  · simp only
    rw [wrap_id (n := (a : Int) - 1) (by omega) (by omega)]
    unfold big; omega
  · rintro _ ⟨b, p, dn, l', rfl, h1, h2, h3, h4, h5⟩
    simp only
    refine Wp.dec (fun hb => ?_) fun hb => .some ?_
    · obtain ⟨b, rfl⟩ : ∃ m, b = m + 1 := ⟨b - 1, by omega⟩
      cases h4 with
      | nil => simp at h5
      | @snoc p u l' g1 g2 c =>
        simp at h5
        have hp : p < st.length := (List.getElem?_eq_some_iff.1 g1).1
        have e5 : idx (List.replicate (b + 1) (0 : Int) ++ natL dn) (((b + 1 : Nat) : Int) - 1) = some 0 := by
          rw [show ((b + 1 : Nat) : Int) - 1 = (b : Int) by omega, idx_nat (by simp; omega), List.getElem_append_left (by simp)]
          simp
        have e6 : idx (natL st) (((p + 1 : Nat) : Int) - 1) = some (u : Int) := by
          rw [show ((p + 1 : Nat) : Int) - 1 = (p : Int) by omega, idx_nat (by simpa using hp)]
          have := (List.getElem?_eq_some_iff.1 g1).2
          simp [this]
        rw [e5, e6]
        simp only [Option.bind_some]
        rw [wrap_id (n := (u : Int) - 1) (by omega) (by omega), wrap_id (n := (((b + 1 : Nat) : Int) - 1) - 1) (by omega) (by omega)]
        refine .some ⟨⟨b, u, p :: dn, l', ?_, by omega, by omega, ?_, c, h5⟩, by simp only; omega⟩
        · have e7 : setL (List.replicate (b + 1) (0 : Int) ++ natL dn) (((b + 1 : Nat) : Int) - 1) (((p + 1 : Nat) : Int) - 1) = List.replicate b (0 : Int) ++ natL (p :: dn) := by
            unfold setL
            rw [show (((b + 1 : Nat) : Int) - 1).toNat = b by omega, show ((p + 1 : Nat) : Int) - 1 = (p : Int) by omega, List.replicate_succ', List.append_assoc, List.set_append_right _ _ (by simp)]
            simp
          rw [e7]
          simp only [Prod.mk.injEq, and_true, true_and]
          omega
        · rw [h3, opsL]
          have : st.getD (p + 1 - 1) 0 = u := by simp [List.getD, g1]
          rw [this]
          simp
    · obtain rfl : b = 0 := by omega
      show _ = _
      rw [h3]
      simp [opsL]

noncomputable def apE (env : rEnv.den) (n : Ty) (args : List Vl) : Vl × Int := (M.eval_Apply big n args env).getD (z3, 0)
theorem ap_eq {env : rEnv.den} (he : EnvOK env) {n : Ty} (hn : WF rType n) {args : List Vl} (hl : args.length ≤ 100000) : M.eval_Apply big n args env = some (apE env n args) := by
  obtain ⟨r, hr, _⟩ := Apply_wp (n := n) (args := args) he hn hl
  unfold apE
  rw [hr]
  rfl
theorem ap_ok {env : rEnv.den} (he : EnvOK env) {n : Ty} (hn : WF rType n) {args : List Vl} (hl : args.length ≤ 100000) : ApOK (apE env n args) := by
  obtain ⟨r, hr, h⟩ := Apply_wp (n := n) (args := args) he hn hl
  unfold apE
  rw [hr]
  exact h

theorem boolean_eq {N : Nat} {x : reval_evaluator.den} {o : Int} {r : Vl × Int} (h : M.eval_evaluator_node_r big N x o = some r) : M.eval_evaluator_boolean_r big (N + 1) x o = some (boolE r) := by
  unfold M.eval_evaluator_boolean_r boolE
  rw [h]
  simp only [Option.bind_some, plausible_eq]
  by_cases h0 : r.2 = 0
  · by_cases h1 : (r.1.1 : Int) = 1
    · by_cases h2 : Plaus r.1.1 r.1.2.1 r.1.2.2
      · rw [h1] at h2
        simp [h0, h1, h2]
      · rw [h1] at h2
        simp [h0, h1, h2, z3]
    · simp [h0, h1, z3]
  · simp [h0, z3]

theorem argsE_split {g : Nat → Vl × Int} : ∀ (os : List Nat) (k : Nat), k ≤ os.length → ∀ vs, argsE g (os.take k) = .inl vs → argsE g os = (match argsE g (os.drop k) with
    | .inl ws => .inl (vs ++ ws)
    | .inr c => .inr c)
  | os, 0, _, vs, h => by
    rw [List.take_zero, argsE] at h
    cases h
    rw [List.drop_zero]
    cases argsE g os <;> rfl
  | [], k + 1, h, _, _ => by simp at h
  | o :: os, k + 1, hk, vs, h => by
    rw [List.take_succ_cons, argsE] at h
    split at h
    · rename_i h0
      cases hq : argsE g (os.take k) with
      | inr c => rw [hq] at h; cases h
      | inl ws =>
        rw [hq] at h
        cases h
        have := argsE_split os k (by simpa using hk) ws hq
        rw [argsE, if_pos h0, this, List.drop_succ_cons]
        cases argsE g (os.drop k) <;> rfl
    · cases h
theorem argsE_len {g : Nat → Vl × Int} : ∀ {os : List Nat} {vs : List Vl}, argsE g os = .inl vs → vs.length = os.length
  | [], vs, h => by cases h; rfl
  | o :: os, vs, h => by
    rw [argsE] at h
    split at h
    · cases hq : argsE g os with
      | inr c => rw [hq] at h; cases h
      | inl ws => rw [hq] at h; cases h; simp [argsE_len hq]
    · cases h

theorem node_eq {e : List Ty} {st : List Nat} (v : Val e st) (hl : e.length ≤ 100000) {env : rEnv.den} (he : EnvOK env) (hw : ∀ n ∈ e, WF rType n) : ∀ (f N i : Nat), i < f → i < e.length → 3 * f ≤ N → M.eval_evaluator_node_r big N (e, (natL st, env)) (i : Int) = some (nodeE (apE env) e st f i) := by
  intro f
  induction f with
  | zero => intro N i h; omega
  | succ f ih =>
    intro N i hif hi hN
    obtain ⟨N, rfl⟩ : ∃ m, N = m + 3 := ⟨N - 3, by omega⟩
    have hops := v.ops hi
    have hge : e.getD i ((0, 0) : Int × Int) = e[i] := by simp [List.getD, hi]
    have hlen := opsL_len st (ar e[i].1).toNat i
    have har := ar_le e[i].1
    have hnode : ∀ M', 3 * f ≤ M' → ∀ o ∈ opsL st (ar e[i].1).toNat i, M.eval_evaluator_node_r big M' (e, (natL st, env)) (o : Int) = some (nodeE (apE env) e st f o) := by
      intro M' hM' o ho
      obtain ⟨g1, _⟩ := hops o ho
      exact ih M' o (by omega) (by omega) hM'
    unfold nodeE M.eval_evaluator_node_r
    rw [hge, operands_eq v hl env hi]
    simp only
    rw [idx_nat hi]
    simp only [Option.bind_some]
    rw [or3c]
    simp only [Option.bind_some]
    have hwf := hw e[i] (List.getElem_mem hi)
    generalize hopl : opsL st (ar e[i].1).toNat i = ops at *
    by_cases hz : isLazy e[i].1
    · rw [if_pos hz, if_pos (by simpa [isLazy] using hz)]
      have ha2 : 2 ≤ ops.length ∧ ((e[i].1 : Int) = 26 → 3 ≤ ops.length) := by
        have : 2 ≤ ar e[i].1 ∧ ((e[i].1 : Int) = 26 → ar e[i].1 = 3) := by
          revert hz
          generalize (e[i].1 : Int) = op
          intro hz
          rcases hz with rfl | rfl | rfl <;> decide
        refine ⟨by omega, fun h => ?_⟩
        have := this.2 h
        omega
      have gd : ∀ k (hk : k < ops.length), idx (natL ops) (k : Int) = some ((ops.getD k 0 : Nat) : Int) ∧ ops.getD k 0 ∈ ops := by
        intro k hk
        have : ops.getD k 0 = ops[k] := by simp [List.getD, hk]
        rw [this]
        refine ⟨?_, List.getElem_mem hk⟩
        rw [idx_nat (by simpa using hk)]
        simp
      obtain ⟨i0, m0⟩ := gd 0 (by omega)
      obtain ⟨i1, m1⟩ := gd 1 (by omega)
      unfold M.eval_evaluator_lazy_r
      rw [show ((0 : Nat) : Int) = 0 from rfl] at i0
      rw [show ((1 : Nat) : Int) = 1 from rfl] at i1
      rw [i0, i1]
      simp only [Option.bind_some]
      rw [boolean_eq (hnode N (by omega) _ m0), boolean_eq (hnode N (by omega) _ m1), hnode (N + 1) (by omega) _ m1]
      simp only [Option.bind_some, ite_some, and_b]
      unfold lazyE
      generalize hb : boolE (nodeE (apE env) e st f (ops.getD 0 0)) = b
      by_cases h2 : (e[i].2 : Int) = 0
      · rw [if_neg (by simp [h2])]
        by_cases hb0 : b.2 = 0
        · rw [if_neg (by simp [hb0])]
          by_cases h26 : (e[i].1 : Int) = 26
          · obtain ⟨i2, m2⟩ := gd 2 (by have := ha2.2 h26; omega)
            rw [show ((2 : Nat) : Int) = 2 from rfl] at i2
            rw [i2]
            simp only [Option.bind_some]
            rw [hnode (N + 1) (by omega) _ m2]
            by_cases hn : (b.1.2.2 : Int) = 1
            · simp [h2, hb0, h26, hn]
            · simp [h2, hb0, h26, hn]
          · by_cases h23 : (e[i].1 : Int) = 23 <;> by_cases hn : (b.1.2.2 : Int) = 0 <;> simp [h2, hb0, h26, h23, hn]
        · simp [h2, hb0, z3]
      · simp [h2, z3]
    · rw [if_neg hz, if_neg (by simpa [isLazy] using hz)]
      have hmk : mkL ((natL ops).length : Int) ((0 : Int), ((0 : Int), (0 : Int))) = some (List.replicate ops.length z3) := by
        unfold mkL
        rw [if_pos (by simp; omega)]
        simp [z3]
      rw [hmk]
      simp only [Option.bind_some]
      apply Wp.eq
      refine Wp.join (Wp.loop (fun s : Int × List Vl => ∃ vs : List Vl, s = ((vs.length : Int), vs ++ List.replicate (ops.length - vs.length) z3) ∧ vs.length ≤ ops.length ∧ argsE (nodeE (apE env) e st f) (ops.take vs.length) = .inl vs) (fun s => (ops.length - s.1).toNat) ⟨[], by simp, by simp, by simp [argsE]⟩ (by simp only; unfold big; omega) ?_)
      rintro _ ⟨vs, rfl, hvl, hva⟩
      simp only
      have hsp := argsE_split ops vs.length hvl vs hva
      refine Wp.dec (fun hk => ?_) fun hk => .some ?_
      · have hk' : vs.length < ops.length := by simp at hk; omega
        have hk'' : vs.length < (natL ops).length := by simpa using hk'
        rw [idx_nat hk'']
        simp only [Option.bind_some, List.getElem_map]
        rw [hnode (N + 2) (by omega) _ (List.getElem_mem hk')]
        simp only [Option.bind_some]
        have hd : ops.drop vs.length = ops[vs.length] :: ops.drop (vs.length + 1) := List.drop_eq_getElem_cons hk'
        rw [hd, argsE] at hsp
        have ht : ops.take (vs.length + 1) = ops.take vs.length ++ [ops[vs.length]] := List.take_succ_eq_append_getElem hk'
        obtain ⟨r, hr⟩ : ∃ r, nodeE (apE env) e st f ops[vs.length] = r := ⟨_, rfl⟩
        rw [hr] at hsp ⊢
        by_cases h0 : r.2 = 0
        · rw [if_neg (by simp [h0])]
          obtain ⟨m, hm⟩ : ∃ m, ops.length - vs.length = m + 1 := ⟨ops.length - vs.length - 1, by omega⟩
          rw [hm]
          have e8 : idx (vs ++ List.replicate (m + 1) z3) (vs.length : Int) = some z3 := by
            rw [idx_nat (by simp), List.getElem_append_right (by omega)]
            simp
          have e9 : setL (vs ++ List.replicate (m + 1) z3) (vs.length : Int) r.1 = (vs ++ [r.1]) ++ List.replicate m z3 := by
            unfold setL
            rw [Int.toNat_natCast, List.set_append_right _ _ (by omega), List.replicate_succ]
            simp
          rw [e8]
          simp only [Option.bind_some, e9]
          rw [wrap_succ (by omega)]
          have hone : argsE (nodeE (apE env) e st f) [ops[vs.length]] = .inl [r.1] := by
            simp only [argsE, hr]
            rw [if_pos h0]
          have htk := argsE_split (g := nodeE (apE env) e st f) (ops.take (vs.length + 1)) vs.length (by simp; omega) vs (by rw [List.take_take, Nat.min_eq_left (by omega)]; exact hva)
          rw [ht, List.drop_append_of_le_length (by simp; omega), List.drop_of_length_le (by simp; omega), List.nil_append, hone] at htk
          refine .some ⟨⟨vs ++ [r.1], ?_, by simp; omega, ?_⟩, by simp only; omega⟩
          · have : ops.length - (vs ++ [r.1]).length = m := by simp; omega
            rw [this]
            simp
          · rw [show (vs ++ [r.1]).length = vs.length + 1 by simp, ht]
            exact htk
        · rw [if_pos (by simp [h0])]
          rw [if_neg h0] at hsp
          refine .some ?_
          show _ = _
          rw [hsp]
          rfl
      · have hdn : ops.drop vs.length = [] := List.drop_of_length_le (by simp at hk; omega)
        rw [hdn, argsE] at hsp
        rw [hsp]
        have h0 : ops.length - vs.length = 0 := by simp at hk; omega
        rw [h0]
        simp only [List.replicate_zero, List.append_nil]
        show Wp ((M.eval_Apply big e[i] vs env).bind fun y11 => some (y11.1, y11.2)) _
        rw [ap_eq he hwf (by omega)]
        exact .some rfl
end L
end Go.Proofs.YtomgmnkalommeaaGreatDoor
