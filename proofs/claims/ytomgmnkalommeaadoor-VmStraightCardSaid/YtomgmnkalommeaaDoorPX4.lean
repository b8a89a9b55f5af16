/- The evaluator evaluates (plain laws). -/
import Derived.Test.YtomgmnkalommeaaDoorPX3
namespace Go.Proofs.YtomgmnkalommeaaDoor
open Go Go.RowKit
set_option maxRecDepth 100000
namespace L

theorem operands_eq {e : List Ty} {st : List Nat} (v : Val e st) (hl : e.length ≤ 100000) (env : rEnv.den) {i : Nat} (hi : i < e.length) : M.eval_evaluator_operands big (e, (natL st, env)) (i : Int) = some (natL (opsL st (ar e[i].1).toNat i)) := by
  apply Wp.eq
  obtain ⟨h0, l, hc, ha, hd, _⟩ := v.node i hi
  unfold M.eval_evaluator_operands
  simp only
  rw [idx_nat hi]
  simp only [Option.bind_some, arity_eq]
  obtain ⟨a, hea⟩ : ∃ a : Nat, ar e[i].1 = a := ⟨(ar e[i].1).toNat, by omega⟩
  have hle := ar_le e[i].1
  rw [hea] at ha hle ⊢
  rw [Int.toNat_natCast] at ha ⊢
  have hmk : mkL (a : Int) (0 : Int) = some (List.replicate a 0) := by
    unfold mkL
    rw [if_pos (by omega), Int.toNat_natCast]
  rw [hmk]
  simp only [Option.bind_some, List.length_replicate]
  refine Wp.loop (fun s : Int × Int × List Int => ∃ b p : Nat, ∃ dn l' : List Nat, s = ((p : Int) - 1, (b : Int) - 1, List.replicate b (0 : Int) ++ natL dn) ∧ b ≤ a ∧ p ≤ i ∧ opsL st a i = opsL st b p ++ dn ∧ Ch st p l' ∧ b ≤ l'.length) (fun s => (s.2.1 + 1).toNat) ⟨a, i, [], l, ?_, Nat.le_refl _, Nat.le_refl _, by simp, hc, ha⟩ ?_ ?_
  · rw [wrap_id (by omega) (by omega), wrap_id (by omega) (by omega)]
    simp
  · simp only
    rw [wrap_id (n := (a : Int) - 1) (by omega) (by omega)]
    unfold big; omega
  · rintro _ ⟨b, p, dn, l', rfl, h1, h2, h3, h4, h5⟩
    simp only
    refine Wp.dec (fun hb => ?_) fun hb => .some ?_
    · obtain ⟨b, rfl⟩ : ∃ m, b = m + 1 := ⟨b - 1, by omega⟩
      cases h4 with
      | nil => simp at h5
      | @snoc p u l' g1 g2 c =>
        simp at h5
        have hp : p < st.length := (List.getElem?_eq_some_iff.1 g1).1
        have e5 : idx (List.replicate (b + 1) (0 : Int) ++ natL dn) (((b + 1 : Nat) : Int) - 1) = some 0 := by
          rw [show ((b + 1 : Nat) : Int) - 1 = (b : Int) by omega, idx_nat (by simp; omega), List.getElem_append_left (by simp)]
          simp
        have e6 : idx (natL st) (((p + 1 : Nat) : Int) - 1) = some (u : Int) := by
          rw [show ((p + 1 : Nat) : Int) - 1 = (p : Int) by omega, idx_nat (by simpa using hp)]
          have := (List.getElem?_eq_some_iff.1 g1).2
          simp [this]
        rw [e5, e6]
        simp only [Option.bind_some]
        rw [wrap_id (n := (u : Int) - 1) (by omega) (by omega), wrap_id (n := (((b + 1 : Nat) : Int) - 1) - 1) (by omega) (by omega)]
        refine .some ⟨⟨b, u, p :: dn, l', ?_, by omega, by omega, ?_, c, h5⟩, by simp only; omega⟩
        · have e7 : setL (List.replicate (b + 1) (0 : Int) ++ natL dn) (((b + 1 : Nat) : Int) - 1) (((p + 1 : Nat) : Int) - 1) = List.replicate b (0 : Int) ++ natL (p :: dn) := by
            unfold setL
            rw [show (((b + 1 : Nat) : Int) - 1).toNat = b by omega, show ((p + 1 : Nat) : Int) - 1 = (p : Int) by omega, List.replicate_succ', List.append_assoc, List.set_append_right _ _ (by simp)]
            simp
          rw [e7]
          simp only [Prod.mk.injEq, and_true, true_and]
          omega
        · rw [h3, opsL]
          have : st.getD (p + 1 - 1) 0 = u := by simp [List.getD, g1]
          rw [this]
          simp
    · obtain rfl : b = 0 := by omega
      show _ = _
      rw [h3]
      simp [opsL]

noncomputable def apE (env : rEnv.den) (n : Ty) (args : List Vl) : Vl × Int := (M.eval_Apply big n args env).getD (z3, 0)
theorem ap_eq {env : rEnv.den} (he : EnvOK env) {n : Ty} (hn : WF rType n) {args : List Vl} (hl : args.length ≤ 100000) : M.eval_Apply big n args env = some (apE env n args) := by
  obtain ⟨r, hr, _⟩ := Apply_wp (n := n) (args := args) he hn hl
  unfold apE
  rw [hr]
  rfl
theorem ap_ok {env : rEnv.den} (he : EnvOK env) {n : Ty} (hn : WF rType n) {args : List Vl} (hl : args.length ≤ 100000) : ApOK (apE env n args) := by
  obtain ⟨r, hr, h⟩ := Apply_wp (n := n) (args := args) he hn hl
  unfold apE
  rw [hr]
  exact h

theorem boolean_eq {N : Nat} {x : reval_evaluator.den} {o : Int} {r : Vl × Int} (h : M.eval_evaluator_node_r big N x o = some r) : M.eval_evaluator_boolean_r big (N + 1) x o = some (boolE r) := by
  unfold M.eval_evaluator_boolean_r boolE
  rw [h]
  simp only [Option.bind_some, plausible_eq]
  by_cases h0 : r.2 = 0
  · by_cases h1 : (r.1.1 : Int) = 1
    · by_cases h2 : Plaus r.1.1 r.1.2.1 r.1.2.2
      · rw [h1] at h2
        simp [h0, h1, h2]
      · rw [h1] at h2
        simp [h0, h1, h2, z3]
    · simp [h0, h1, z3]
  · simp [h0, z3]

theorem argsE_split {g : Nat → Vl × Int} : ∀ (os : List Nat) (k : Nat), k ≤ os.length → ∀ vs, argsE g (os.take k) = .inl vs → argsE g os = (match argsE g (os.drop k) with
    | .inl ws => .inl (vs ++ ws)
    | .inr c => .inr c)
  | os, 0, _, vs, h => by
    rw [List.take_zero, argsE] at h
    cases h
    rw [List.drop_zero]
    cases argsE g os <;> rfl
  | [], k + 1, h, _, _ => by simp at h
  | o :: os, k + 1, hk, vs, h => by
    rw [List.take_succ_cons, argsE] at h
    split at h
    · rename_i h0
      cases hq : argsE g (os.take k) with
      | inr c => rw [hq] at h; cases h
      | inl ws =>
        rw [hq] at h
        cases h
        have := argsE_split os k (by simpa using hk) ws hq
        rw [argsE, if_pos h0, this, List.drop_succ_cons]
        cases argsE g (os.drop k) <;> rfl
    · cases h
theorem argsE_len {g : Nat → Vl × Int} : ∀ {os : List Nat} {vs : List Vl}, argsE g os = .inl vs → vs.length = os.length
  | [], vs, h => by cases h; rfl
  | o :: os, vs, h => by
    rw [argsE] at h
    split at h
    · cases hq : argsE g os with
      | inr c => rw [hq] at h; cases h
      | inl ws => rw [hq] at h; cases h; simp [argsE_len hq]
    · cases h

theorem node_eq {e : List Ty} {st : List Nat} (v : Val e st) (hl : e.length ≤ 100000) {env : rEnv.den} (he : EnvOK env) (hw : ∀ n ∈ e, WF rType n) : ∀ (f N i : Nat), i < f → i < e.length → 3 * f ≤ N → M.eval_evaluator_node_r big N (e, (natL st, env)) (i : Int) = some (nodeE (apE env) e st f i) := by
  intro f
  induction f with
  | zero => intro N i h; omega
  | succ f ih =>
    intro N i hif hi hN
    obtain ⟨N, rfl⟩ : ∃ m, N = m + 3 := ⟨N - 3, by omega⟩
    have hops := v.ops hi
    have hge : e.getD i ((0, 0) : Int × Int) = e[i] := by simp [List.getD, hi]
    have hlen := opsL_len st (ar e[i].1).toNat i
    have har := ar_le e[i].1
    have hnode : ∀ M', 3 * f ≤ M' → ∀ o ∈ opsL st (ar e[i].1).toNat i, M.eval_evaluator_node_r big M' (e, (natL st, env)) (o : Int) = some (nodeE (apE env) e st f o) := by
      intro M' hM' o ho
      obtain ⟨g1, _⟩ := hops o ho
      exact ih M' o (by omega) (by omega) hM'
    unfold nodeE M.eval_evaluator_node_r
    rw [hge, operands_eq v hl env hi]
    simp only
    rw [idx_nat hi]
    simp only [Option.bind_some]
    rw [or3c]
    simp only [Option.bind_some]
    have hwf := hw e[i] (List.getElem_mem hi)
    generalize hopl : opsL st (ar e[i].1).toNat i = ops at *
    by_cases hz : isLazy e[i].1
    · rw [if_pos hz, if_pos (by simpa [isLazy] using hz)]
      have ha2 : 2 ≤ ops.length ∧ ((e[i].1 : Int) = 26 → 3 ≤ ops.length) := by
        have : 2 ≤ ar e[i].1 ∧ ((e[i].1 : Int) = 26 → ar e[i].1 = 3) := by
          revert hz
          generalize (e[i].1 : Int) = op
          intro hz
          rcases hz with rfl | rfl | rfl <;> decide
        refine ⟨by omega, fun h => ?_⟩
        have := this.2 h
        omega
      have gd : ∀ k (hk : k < ops.length), idx (natL ops) (k : Int) = some ((ops.getD k 0 : Nat) : Int) ∧ ops.getD k 0 ∈ ops := by
        intro k hk
        have : ops.getD k 0 = ops[k] := by simp [List.getD, hk]
        rw [this]
        refine ⟨?_, List.getElem_mem hk⟩
        rw [idx_nat (by simpa using hk)]
        simp
      obtain ⟨i0, m0⟩ := gd 0 (by omega)
      obtain ⟨i1, m1⟩ := gd 1 (by omega)
      unfold M.eval_evaluator_lazy_r
      rw [show ((0 : Nat) : Int) = 0 from rfl] at i0
      rw [show ((1 : Nat) : Int) = 1 from rfl] at i1
      rw [i0, i1]
      simp only [Option.bind_some]
      rw [boolean_eq (hnode N (by omega) _ m0), boolean_eq (hnode N (by omega) _ m1), hnode (N + 1) (by omega) _ m1]
      simp only [Option.bind_some, ite_some, and_b]
      unfold lazyE
      generalize hb : boolE (nodeE (apE env) e st f (ops.getD 0 0)) = b
      by_cases h2 : (e[i].2 : Int) = 0
      · rw [if_neg (by simp [h2])]
        by_cases hb0 : b.2 = 0
        · rw [if_neg (by simp [hb0])]
          by_cases h26 : (e[i].1 : Int) = 26
          · obtain ⟨i2, m2⟩ := gd 2 (by have := ha2.2 h26; omega)
            rw [show ((2 : Nat) : Int) = 2 from rfl] at i2
            rw [i2]
            simp only [Option.bind_some]
            rw [hnode (N + 1) (by omega) _ m2]
            by_cases hn : (b.1.2.2 : Int) = 1
            · simp [h2, hb0, h26, hn]
            · simp [h2, hb0, h26, hn]
          · by_cases h23 : (e[i].1 : Int) = 23 <;> by_cases hn : (b.1.2.2 : Int) = 0 <;> simp [h2, hb0, h26, h23, hn]
        · simp [h2, hb0, z3]
      · simp [h2, z3]
    · rw [if_neg hz, if_neg (by simpa [isLazy] using hz)]
      have hmk : mkL ((natL ops).length : Int) ((0 : Int), ((0 : Int), (0 : Int))) = some (List.replicate ops.length z3) := by
        unfold mkL
        rw [if_pos (by simp; omega)]
        simp [z3]
      rw [hmk]
      simp only [Option.bind_some]
      apply Wp.eq
      refine Wp.join (Wp.loop (fun s : Int × List Vl => ∃ vs : List Vl, s = ((vs.length : Int), vs ++ List.replicate (ops.length - vs.length) z3) ∧ vs.length ≤ ops.length ∧ argsE (nodeE (apE env) e st f) (ops.take vs.length) = .inl vs) (fun s => (ops.length - s.1).toNat) ⟨[], by simp, by simp, by simp [argsE]⟩ (by simp only; unfold big; omega) ?_)
      rintro _ ⟨vs, rfl, hvl, hva⟩
      simp only
      have hsp := argsE_split ops vs.length hvl vs hva
      refine Wp.dec (fun hk => ?_) fun hk => .some ?_
      · have hk' : vs.length < ops.length := by simp at hk; omega
        have hk'' : vs.length < (natL ops).length := by simpa using hk'
        rw [idx_nat hk'']
        simp only [Option.bind_some, List.getElem_map]
        rw [hnode (N + 2) (by omega) _ (List.getElem_mem hk')]
        simp only [Option.bind_some]
        have hd : ops.drop vs.length = ops[vs.length] :: ops.drop (vs.length + 1) := List.drop_eq_getElem_cons hk'
        rw [hd, argsE] at hsp
        have ht : ops.take (vs.length + 1) = ops.take vs.length ++ [ops[vs.length]] := List.take_succ_eq_append_getElem hk'
        obtain ⟨r, hr⟩ : ∃ r, nodeE (apE env) e st f ops[vs.length] = r := ⟨_, rfl⟩
        rw [hr] at hsp ⊢
        by_cases h0 : r.2 = 0
        · rw [if_neg (by simp [h0])]
          obtain ⟨m, hm⟩ : ∃ m, ops.length - vs.length = m + 1 := ⟨ops.length - vs.length - 1, by omega⟩
          rw [hm]
          have e8 : idx (vs ++ List.replicate (m + 1) z3) (vs.length : Int) = some z3 := by
            rw [idx_nat (by simp), List.getElem_append_right (by omega)]
            simp
          have e9 : setL (vs ++ List.replicate (m + 1) z3) (vs.length : Int) r.1 = (vs ++ [r.1]) ++ List.replicate m z3 := by
            unfold setL
            rw [Int.toNat_natCast, List.set_append_right _ _ (by omega), List.replicate_succ]
            simp
          rw [e8]
          simp only [Option.bind_some, e9]
          rw [wrap_succ (by omega)]
          have hone : argsE (nodeE (apE env) e st f) [ops[vs.length]] = .inl [r.1] := by
            simp only [argsE, hr]
            rw [if_pos h0]
          have htk := argsE_split (g := nodeE (apE env) e st f) (ops.take (vs.length + 1)) vs.length (by simp; omega) vs (by rw [List.take_take, Nat.min_eq_left (by omega)]; exact hva)
          rw [ht, List.drop_append_of_le_length (by simp; omega), List.drop_of_length_le (by simp; omega), List.nil_append, hone] at htk
          refine .some ⟨⟨vs ++ [r.1], ?_, by simp; omega, ?_⟩, by simp only; omega⟩
          · have : ops.length - (vs ++ [r.1]).length = m := by simp; omega
            rw [this]
            simp
          · rw [show (vs ++ [r.1]).length = vs.length + 1 by simp, ht]
            exact htk
        · rw [if_pos (by simp [h0])]
          rw [if_neg h0] at hsp
          refine .some ?_
          show _ = _
          rw [hsp]
          rfl
      · have hdn : ops.drop vs.length = [] := List.drop_of_length_le (by simp at hk; omega)
        rw [hdn, argsE] at hsp
        rw [hsp]
        have h0 : ops.length - vs.length = 0 := by simp at hk; omega
        rw [h0]
        simp only [List.replicate_zero, List.append_nil]
        show Wp ((M.eval_Apply big e[i] vs env).bind fun y11 => some (y11.1, y11.2)) _
        rw [ap_eq he hwf (by omega)]
        exact .some rfl
end L
end Go.Proofs.YtomgmnkalommeaaDoor
