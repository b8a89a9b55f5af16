/- Chapter 13: EvalComposition (plain law). -/
import Derived.Test.YtbmkhjdoalnkmaaDoorPX5
import Derived.Test.YtbmkhjdoalnkmaaDoorOpen
namespace Go.Proofs.YtbmkhjdoalnkmaaDoor
open Go Go.RowKit
set_option maxRecDepth 100000
namespace L

theorem small_ok {env : rEnv.den} : Wp (M.ref13_Small big env) fun b => b = true → EnvOK env := by
  unfold M.ref13_Small
  simp only [ite_some, or_b, Option.bind_some]
  refine Wp.ite (fun h => .some (by simp)) fun h => ?_
  simp only [Bool.or_eq_true, decide_eq_true_eq, not_or] at h
  have hm : env.2.2.2.1.length ≤ 20 := by omega
  have ht : env.2.2.2.2.2.length ≤ 10 := by omega
  refine Wp.join (Wp.loop (fun s : Int => ∃ k : Nat, s = k ∧ k ≤ env.2.2.2.1.length) (fun s => (env.2.2.2.1.length - s).toNat) ⟨0, rfl, Nat.zero_le _⟩ (by unfold big; omega) ?_)
  rintro _ ⟨k, rfl, hk⟩
  refine Wp.dec (fun h => ?_) fun h => .some ?_
  · have hk' : k < env.2.2.2.1.length := by omega
    rw [idx_nat hk']
    simp only [Option.bind_some]
    rw [wrap_succ (by omega)]
    split
    · exact .some fun h => by cases h
    · exact .some ⟨⟨k + 1, rfl, hk'⟩, by simp only; omega⟩
  · show Wp _ _
    refine Wp.loop (fun s : Int => ∃ k : Nat, s = k ∧ k ≤ env.2.2.2.2.2.length ∧ ∀ t ∈ env.2.2.2.2.2.take k, t.2.2.2.length ≤ 80) (fun s => (env.2.2.2.2.2.length - s).toNat) ⟨0, rfl, Nat.zero_le _, by simp⟩ (by unfold big; omega) ?_
    rintro _ ⟨k, rfl, hk, hp⟩
    refine Wp.dec (fun h => ?_) fun h => .some fun _ => ?_
    · have hk' : k < env.2.2.2.2.2.length := by omega
      rw [idx_nat hk']
      simp only [Option.bind_some]
      rw [wrap_succ (by omega)]
      split
      · exact .some fun h => by cases h
      · rename_i hn
        refine .some ⟨⟨k + 1, rfl, hk', fun t ht => ?_⟩, by simp only; omega⟩
        rw [List.take_succ_eq_append_getElem hk'] at ht
        rcases List.mem_append.1 ht with ht | ht
        · exact hp t ht
        · rw [List.mem_singleton.1 ht]; simp at hn; omega
    · rw [List.take_of_length_le (by omega)] at hp
      exact ⟨by omega, fun t ht => by have := hp t ht; omega⟩

theorem awake : M.law13_awake big = some true := by show (_ : Option Bool) = _; kernel_rfl

theorem EvalComposition_true (e : List Ty) (env : rEnv.den) (hwe : WF (.slice rType) e) (_ : WF rEnv env) : M.law13_EvalComposition big e env = some true := by
  apply Wp.eq
  unfold M.law13_EvalComposition
  rw [awake]
  refine Wp.seq (fun j => j = false → EnvOK env) ?_ fun j hj => ?_
  · refine Wp.dec (fun _ => .some fun h => by cases h) fun _ => ?_
    exact Wp.seq _ small_ok fun b hb => .some fun h => hb (by simpa using h)
  refine Wp.ite (fun _ => .some rfl) fun hc => ?_
  have he := hj (by simpa using hc)
  have hst : M.expr_Starts big e = some ((sres e).2.1, (sres e).2.2) := by
    unfold M.expr_Starts
    rw [structure_eq]
    rfl
  rw [hst]
  simp only [Option.bind_some]
  rcases sres_cases e with hbad | ⟨st, w⟩
  · rw [if_pos (by simp [hbad]), Eval_bad hbad]
    simp [eqR, z3]
    exact .some rfl
  have hpos : 0 < e.length := List.length_pos_iff.2 w.ne
  have hle := w.le
  have hwf := wf_mem hwe
  rw [w.res]
  simp only
  rw [if_neg (by simp), Eval_whole w he hwf]
  refine Wp.join (Wp.loop (fun s : Int => ∃ k : Nat, s = k ∧ k ≤ e.length ∧ ∀ n ∈ e.take k, ¬ isLazy n.1) (fun s => (e.length - s).toNat) ⟨0, rfl, Nat.zero_le _, by simp⟩ (by unfold big; omega) ?_)
  rintro _ ⟨k, rfl, hk, hnl⟩
  refine Wp.dec (fun h => ?_) fun h => .some ?_
  · have hk' : k < e.length := by omega
    rw [idx_nat hk']
    simp only [Option.bind_some, ite_some, or_b]
    refine .some ?_
    split
    · exact rfl
    rename_i hn
    rw [wrap_succ (by omega)]
    refine ⟨⟨k + 1, rfl, hk', fun n hm => ?_⟩, by simp only; omega⟩
    rw [List.take_succ_eq_append_getElem hk'] at hm
    rcases List.mem_append.1 hm with hm | hm
    · exact hnl n hm
    · rw [List.mem_singleton.1 hm]
      simpa [isLazy] using hn
  have hnl : ∀ n ∈ e, ¬ isLazy n.1 := by rw [List.take_of_length_le (by omega)] at hnl; exact hnl
  show Wp _ _
  have hlast : e.length - 1 < e.length := by omega
  rw [show IntKind.i64.wrap ((e.length : Int) - 1) = ((e.length - 1 : Nat) : Int) by rw [wrap_id (by omega) (by omega)]; omega]
  rw [Operands_eq w hlast, idx_nat hlast]
  simp only [Option.bind_some]
  have hops := w.val.ops hlast
  have hnode : nodeE (apE env) e st e.length (e.length - 1) = match argsE (nodeE (apE env) e st (e.length - 1)) (opsL st (ar e[e.length - 1].1).toNat (e.length - 1)) with
      | .inl vs => apE env e[e.length - 1] vs
      | .inr c => (z3, c) := by
    obtain ⟨m, hm⟩ : ∃ m, e.length = m + 1 := ⟨e.length - 1, by omega⟩
    have hge : e.getD (e.length - 1) ((0, 0) : Int × Int) = e[e.length - 1] := by simp only [List.getD, List.getElem?_eq_getElem hlast, Option.getD_some]
    conv => lhs; rw [show nodeE (apE env) e st e.length = nodeE (apE env) e st (m + 1) by rw [← hm]]
    rw [nodeE, hge, if_neg (hnl _ (List.getElem_mem hlast)), show m = e.length - 1 by omega]
    rfl
  have har := ar_le e[e.length - 1].1
  have hlen := opsL_len st (ar e[e.length - 1].1).toNat (e.length - 1)
  have hwl := hwf _ (List.getElem_mem hlast)
  generalize hopl : opsL st (ar e[e.length - 1].1).toNat (e.length - 1) = ops at *
  refine Wp.join (Wp.loop (fun s : Int × List Vl => ∃ vs : List Vl, s = ((vs.length : Int), vs) ∧ vs.length ≤ ops.length ∧ argsE (nodeE (apE env) e st (e.length - 1)) (ops.take vs.length) = .inl vs) (fun s => (ops.length - s.1).toNat) ⟨[], by simp, by simp, by simp [argsE]⟩ (by simp only; unfold big; omega) ?_)
  rintro _ ⟨vs, rfl, hvl, hva⟩
  simp only
  have hsp := argsE_split ops vs.length hvl vs hva
  refine Wp.dec (fun hk => ?_) fun hk => .some ?_
  · have hk' : vs.length < ops.length := by simp at hk; omega
    have hk'' : vs.length < (natL ops).length := by simpa using hk'
    have hd : ops.drop vs.length = ops[vs.length] :: ops.drop (vs.length + 1) := List.drop_eq_getElem_cons hk'
    have ht : ops.take (vs.length + 1) = ops.take vs.length ++ [ops[vs.length]] := List.take_succ_eq_append_getElem hk'
    obtain ⟨o1, s, t, o2, o3, o4, o5⟩ := hops _ (List.getElem_mem hk')
    rw [idx_nat hk'']
    simp only [Option.bind_some, List.getElem_map]
    rw [hd, argsE] at hsp
    have hone : argsE (nodeE (apE env) e st (e.length - 1)) [ops[vs.length]] = (if (nodeE (apE env) e st (e.length - 1) ops[vs.length]).2 = 0 then .inl [(nodeE (apE env) e st (e.length - 1) ops[vs.length]).1] else .inr (nodeE (apE env) e st (e.length - 1) ops[vs.length]).2) := by
      simp only [argsE]
    generalize ops[vs.length] = o at *
    have hol : o < st.length := (List.getElem?_eq_some_iff.1 o2).1
    have hlst := w.val.len
    have hio : idx (natL st) (o : Int) = some (s : Int) := by
      rw [idx_nat (by simpa using hol)]
      simp [(List.getElem?_eq_some_iff.1 o2).2]
    rw [hio]
    simp only [Option.bind_some, ite_some, or_b]
    rw [if_neg (by simp; omega)]
    have hcut : cutA e (s : Int) (IntKind.i64.wrap ((o : Int) + 1)) = some ((e.take (o + 1)).drop s) := by
      rw [wrap_succ (by omega)]
      exact cutA_eq s (o + 1) rfl rfl (by omega) (by omega)
    rw [hcut]
    simp only [Option.bind_some]
    have hsub := w.sub o2 o3
    have hwsub : ∀ n ∈ (e.take (o + 1)).drop s, WF rType n := fun n hn => hwf n (List.mem_of_mem_take (List.mem_of_mem_drop hn))
    have hsl : ((e.take (o + 1)).drop s).length = o + 1 - s := by simp; omega
    rw [Eval_whole hsub he hwsub, hsl, show o + 1 - s - 1 = o - s by omega, nodeE_cut w.val o2 (e.length - 1) (o + 1 - s) o o3 (Nat.le_refl _) o1 (by omega)]
    simp only [Option.bind_some]
    obtain ⟨r, hr⟩ : ∃ r, nodeE (apE env) e st (e.length - 1) o = r := ⟨_, rfl⟩
    rw [hr] at hsp hone ⊢
    by_cases h0 : r.2 = 0
    · rw [if_neg (by simp [h0])]
      rw [if_pos h0] at hone
      rw [appA_some (by simp; omega)]
      simp only [Option.bind_some]
      rw [wrap_succ (by omega)]
      have htk := argsE_split (g := nodeE (apE env) e st (e.length - 1)) (ops.take (vs.length + 1)) vs.length (by simp; omega) vs (by rw [List.take_take, Nat.min_eq_left (by omega)]; exact hva)
      rw [ht, List.drop_append_of_le_length (by simp; omega), List.drop_of_length_le (by simp; omega), List.nil_append, hone] at htk
      refine .some ⟨⟨vs ++ [r.1], by simp, by simp; omega, ?_⟩, by simp only; omega⟩
      rw [show (vs ++ [r.1]).length = vs.length + 1 by simp, ht]
      exact htk
    · rw [if_pos (by simp [h0])]
      rw [if_neg h0] at hsp
      rw [hnode, hsp]
      simp [eqR, z3]
      exact .some rfl
  · have hdn : ops.drop vs.length = [] := List.drop_of_length_le (by simp at hk; omega)
    rw [hdn, argsE] at hsp
    show Wp ((M.eval_Apply big e[e.length - 1] vs env).bind _) _
    rw [ap_eq he hwl (by omega), hnode, hsp]
    simp [eqR]
    exact .some rfl
end L
end Go.Proofs.YtbmkhjdoalnkmaaDoor
