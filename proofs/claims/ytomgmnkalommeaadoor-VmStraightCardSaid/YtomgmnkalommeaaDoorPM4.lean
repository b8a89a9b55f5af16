/- Straight code: the machine evaluates it (plain laws). -/
import Derived.Test.YtomgmnkalommeaaDoorPM3
namespace Go.Proofs.YtomgmnkalommeaaDoor
open Go Go.RowKit
set_option maxRecDepth 100000
namespace L

theorem node_z {e : List Ty} {st : List Nat} {env : rEnv.den} (he : EnvOK env) (hw : ∀ n ∈ e, WF rType n) {i : Nat} (hi : i < e.length) (hnl : ¬ isLazy e[i].1) (h : (nodeE (apE env) e st e.length i).2 ≠ 0) : (nodeE (apE env) e st e.length i).1 = z3 := by
  obtain ⟨m, hm⟩ : ∃ m, e.length = m + 1 := ⟨e.length - 1, by omega⟩
  have hge : e.getD i ((0, 0) : Int × Int) = e[i] := by simp only [List.getD, List.getElem?_eq_getElem hi, Option.getD_some]
  rw [hm] at h ⊢
  rw [nodeE, hge, if_neg hnl] at h ⊢
  cases hq : argsE (nodeE (apE env) e st m) (opsL st (ar e[i].1).toNat i) with
  | inr c => rfl
  | inl vs =>
    rw [hq] at h
    have hl : vs.length ≤ 100000 := by
      have a1 := argsE_len hq
      have a2 := opsL_len st (ar e[i].1).toNat i
      have a3 := ar_le e[i].1
      omega
    exact (ap_ok he (hw _ (List.getElem_mem hi)) hl).bad h

theorem one_ops {e : List Ty} {st : List Nat} (w : Whole e st) {l : List Nat} (c : Ch st e.length l) : opsL st l.length e.length = [e.length - 1] := by
  have hp : 0 < e.length := List.length_pos_iff.2 w.ne
  have h1 : l.length = 1 := by
    have := (c.one hp).2 w.one
    have := List.length_pos_iff.2 (c.pos hp)
    omega
  rw [h1, opsL]
  rfl

theorem V_err {e : List Ty} {st : List Nat} (w : Str e st) {env : rEnv.den} (he : EnvOK env) (hw : ∀ n ∈ e, WF rType n) (c : Int) : ∀ (d i : Nat), i + d = e.length → ∀ l, Ch st i l → argsE (nodeE (apE env) e st e.length) (opsL st l.length i) = .inr c → nodeE (apE env) e st e.length (e.length - 1) = (z3, c)
  | 0, i, hi, l, h, hv => by
    have hp : 0 < e.length := List.length_pos_iff.2 w.1.ne
    obtain rfl : i = e.length := by omega
    rw [one_ops w.1 h] at hv
    simp only [argsE] at hv
    split at hv
    · cases hv
    · rename_i h0
      cases hv
      exact Prod.ext (node_z he hw (by omega) (w.2 _ (List.getElem_mem (by omega))).2 h0) rfl
  | d + 1, i, hi, l, h, hv => by
    have hlt : i < e.length := by omega
    obtain ⟨v1, l', v2, v3, v4, v5⟩ := w.1.val.node i hlt
    obtain rfl := v2.uniq h
    have hs := V_step w.1 he hw hlt (w.2 _ (List.getElem_mem hlt)).2 h v1 v3 v5
    rw [hv] at hs
    refine V_err w he hw c d (i + 1) (by omega) _ (h.next v1 v3 v5) ?_
    have hn : (l'.take (l'.length - (ar e[i].1).toNat) ++ [sst (ar e[i].1) i l']).length = l'.length - (ar e[i].1).toNat + 1 := by simp
    rw [hn, hs]
    rfl

theorem ne_jump {op : Int} (h : op ≤ 39) {k : Int} (hk : 50 ≤ k) : op ≠ k := by omega

theorem Run_str {e : List Ty} {st : List Nat} {env : rEnv.den} (w : Str e st) (he : EnvOK env) (hw : ∀ n ∈ e, WF rType n) : Wp (M.vm_Run big e env) fun r => r.1 = (nodeE (apE env) e st e.length (e.length - 1)).1 ∧ r.2.2 = (nodeE (apE env) e st e.length (e.length - 1)).2 ∧ ((nodeE (apE env) e st e.length (e.length - 1)).2 = 0 → r.2.1 = e.length) := by
  obtain ⟨y, hy, _, hv⟩ := Verify_wp e
  have hp : 0 < e.length := List.length_pos_iff.2 w.1.ne
  have hle := w.1.le
  unfold M.vm_Run
  rw [hy]
  simp only [Option.bind_some]
  refine Wp.ndec (fun h => absurd (hv st w) h) fun _ => ?_
  refine Wp.join (Wp.loop (fun s : Int × Int × List Vl => ∃ k : Nat, s.1 = k ∧ s.2.1 = k ∧ k ≤ e.length ∧ ∃ l, Ch st k l ∧ argsE (nodeE (apE env) e st e.length) (opsL st l.length k) = .inl s.2.2) (fun s => (e.length - s.2.1).toNat) ⟨0, rfl, rfl, Nat.zero_le _, [], .nil, rfl⟩ (by unfold big; simp only; omega) ?_)
  rintro ⟨_, _, stk⟩ ⟨k, rfl, rfl, hk, l, hc, hv⟩
  dsimp only at hv ⊢
  refine Wp.dec (fun hlt => ?_) fun hge => .some ?_
  · have hlt : k < e.length := by omega
    have hwn := hw _ (List.getElem_mem hlt)
    obtain ⟨s1, s2⟩ := w.2 _ (List.getElem_mem hlt)
    obtain ⟨v1, l', v2, v3, v4, v5⟩ := w.1.val.node k hlt
    obtain rfl := v2.uniq hc
    have hstep := V_step w.1 he hw hlt s2 hc v1 v3 v5
    have hnext := hc.next v1 v3 v5
    have hsl : stk.length = l'.length := by rw [argsE_len hv, opsL_len]
    have har := ar_le e[k].1
    rw [hv] at hstep
    rw [idx_nat hlt]
    simp only [Option.bind_some, isCond_eq, arity_eq, ite_some]
    rw [wrap_succ (by omega)]
    have n1 := ne_jump s1 (k := 51) (by decide)
    have n2 := ne_jump s1 (k := 50) (by decide)
    have n3 := ne_jump s1 (k := 52) (by decide)
    have n4 := ne_jump s1 (k := 53) (by decide)
    refine Wp.join ?_
    refine Wp.dec (fun h => absurd h n1) fun _ => ?_
    rw [decide_eq_false (p := (e[k].1 : Int) = 50 ∨ (e[k].1 : Int) = 52 ∨ (e[k].1 : Int) = 53) (by simp only [not_or]; exact ⟨n2, n3, n4⟩)]
    simp only [Bool.not_false, if_true]
    generalize e[k] = n at *
    obtain ⟨a, ha⟩ : ∃ a : Nat, ar n.1 = a := ⟨(ar n.1).toNat, by omega⟩
    rw [ha] at hstep hnext v3 har ⊢
    rw [Int.toNat_natCast] at hstep hnext v3
    have wl : IntKind.i64.wrap ((stk.length : Int) - (a : Int)) = ((stk.length - a : Nat) : Int) := by rw [wrap_id (by omega) (by omega)]; omega
    rw [wl, cutA_eq (stk.length - a) stk.length rfl rfl (by omega) (Nat.le_refl _), cutA_zero (by omega), List.take_length]
    simp only [Option.bind_some]
    have hnl : (l'.take (l'.length - a) ++ [sst (a : Int) k l']).length = l'.length - a + 1 := by simp
    rw [ap_eq he hwn (by simp; omega)]
    simp only [Option.bind_some, runV] at hstep ⊢
    rw [hsl]
    refine Wp.ndec (fun hne => .some ?_) fun hok => ?_
    · rw [if_neg hne] at hstep
      have hr := V_err w he hw _ (e.length - (k + 1)) (k + 1) (by omega) _ hnext (by rw [hnl]; exact hstep)
      show ((0 : Int), (0 : Int), (0 : Int)) = _ ∧ _ ∧ _
      rw [hr]
      exact ⟨rfl, rfl, fun h => absurd h hne⟩
    · rw [if_pos hok] at hstep
      rw [appA_some (by simp; omega)]
      simp only [Option.bind_some]
      exact .some (Wp.some ⟨⟨k + 1, rfl, rfl, hlt, _, hnext, by rw [hnl]; exact hstep⟩, by simp only; omega⟩)
  · obtain rfl : k = e.length := by omega
    show Wp ((idx stk 0).bind _) _
    rw [one_ops w.1 hc] at hv
    simp only [argsE] at hv
    split at hv
    · rename_i h0
      cases hv
      exact .some ⟨rfl, h0.symm, fun _ => rfl⟩
    · cases hv
end L
end Go.Proofs.YtomgmnkalommeaaDoor
