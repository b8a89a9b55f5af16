/- Chapter 13: the operations on members: program and reference (plain laws). -/
import Derived.Test.YtbmkhjdoalnkmaaGreatDoorP13
namespace Go.Proofs.YtbmkhjdoalnkmaaGreatDoor
open Go Go.RowKit
namespace L

theorem fold_ref {N : Nat} {op acc n : Int} {first : Bool} (h36 : op = 36 → -9000000000000000000 ≤ acc + n ∧ acc + n ≤ 9000000000000000000) (h37 : op = 37 → (0 ≤ n ∧ n ≤ 1) ∧ 0 ≤ acc ∧ acc ≤ 1) (hop : op = 36 ∨ op = 37 ∨ op = 38 ∨ op = 39) : M.ref13_fold N op acc n first = some (fold op acc n first) := by
  unfold M.ref13_fold fold
  rcases hop with rfl | rfl | rfl | rfl
  · have := h36 rfl
    simp [wrap_id (n := acc + n) (by omega) (by omega)]
  · obtain ⟨⟨a1, a2⟩, a3, a4⟩ := h37 rfl
    have b2' : n = 0 ∨ n = 1 := by omega
    have b4' : acc = 0 ∨ acc = 1 := by omega
    rcases b2' with rfl | rfl <;> rcases b4' with rfl | rfl <;> simp [wrap_id]
  · simp only [ite_some, Int.reduceEq, decide_false, decide_true, Bool.false_eq_true, if_false, if_true]
    by_cases h : acc < n <;> simp [h]
  · simp only [ite_some, Int.reduceEq, decide_false, decide_true, Bool.false_eq_true, if_false, if_true, Option.bind_some, or_b]
    by_cases h : first = true ∨ acc < n
    · rw [if_pos h, if_pos (by simpa using h)]
    · rw [if_neg h, if_neg (by simpa using h)]

def mres' (op : Int) (t : Ty) (j : Nat) (ms : List (List Vl)) : Vl × Int :=
  if Alw op t then (if op = 39 ∧ ms = [] then ((0, 0, 0), 6) else match mfold op t j ms true (acc0 op) with
    | .inl a => if Plaus t.1 0 a then ((t.1, 0, a), 0) else ((0, 0, 0), 3)
    | .inr c => ((0, 0, 0), c)) else ((0, 0, 0), 8)

theorem members_ref {N : Nat} (hN : 100001 ≤ N) {op : Int} (hop : op = 36 ∨ op = 37 ∨ op = 38 ∨ op = 39) {j : Nat} {env : rEnv.den} (hj : j < env.2.2.2.2.1.length) (hm : env.2.2.2.1.length ≤ 100) :
    M.ref13_members N (op, (j : Int)) env = some (mres' op env.2.2.2.2.1[j] j env.2.2.2.1) := by
  obtain ⟨d, ip, df, ms, ts, tb⟩ := env
  simp only at hj hm ⊢
  apply Wp.eq
  unfold M.ref13_members
  simp only
  rw [idx_nat hj]
  simp only [Option.bind_some, allowed_ref]
  generalize ts[j] = t
  unfold mres'
  by_cases ht : Alw op t
  case neg =>
    rw [if_pos (by simp [ht]), if_neg ht]
    exact .some rfl
  rw [if_neg (by simp [ht]), if_pos ht]
  have ht2 : (t.2 : Int) = 0 := (show Alw0 op t.1 t.2 from ht).1
  have e1 : (if decide (op = 37) = true then some (1 : Int) else some (0 : Int)) = some (acc0 op) := by
    unfold acc0; by_cases h : op = 37 <;> simp [h]
  rw [e1]
  simp only [Option.bind_some, ite_some, and_b, made_ref]
  refine Wp.join (Wp.loop (fun s : Int × Int => ∃ k : Nat, ∃ acc : Int, s = (acc, (k : Int)) ∧ k ≤ ms.length ∧ AccOK op t (decide (k = 0)) acc ∧ mfold op t j (ms.drop k) (decide (k = 0)) acc = mfold op t j ms true (acc0 op)) (fun s => (ms.length - s.2).toNat)
    ⟨0, acc0 op, rfl, Nat.zero_le _, acc0_ok hop ht, rfl⟩ (by simp only; omega) ?_)
  rintro _ ⟨k, acc, rfl, hk, hacc, hf⟩
  simp only
  refine Wp.dec (fun h => ?_) fun h => .some ?_
  case refine_2 =>
    have hd : ms.drop k = [] := List.drop_of_length_le (by omega)
    rw [hd] at hf
    show Wp _ _
    by_cases h39 : op = 39 ∧ ms = []
    · rw [if_pos h39]
      refine .some ?_
      rw [if_pos (by simpa using h39)]
    · rw [if_neg h39, ← hf]
      refine .some ?_
      rw [if_neg (by simpa using h39)]
      simp only [mfold]
  have hk' : k < ms.length := by omega
  have hne : ¬ (op = 39 ∧ ms = []) := fun h => by rw [h.2] at hk'; simp at hk'
  rw [if_neg hne]
  have hd : ms.drop k = ms[k] :: ms.drop (k + 1) := List.drop_eq_getElem_cons hk'
  rw [hd] at hf
  rw [idx_nat hk']
  simp only [Option.bind_some]
  rw [mfold] at hf
  by_cases hl : j < ms[k].length
  · rw [List.getElem?_eq_getElem hl] at hf
    simp only at hf
    rw [idx_nat hl]
    simp only [Option.bind_some, ite_some, or_b, Has_ref]
    generalize ms[k][j] = v at hf ⊢
    by_cases hv : (v.1 : Int) = 0
    · rw [if_pos hv] at hf
      rw [if_pos (by simp [hv])]
      refine .some ?_
      show _ = _
      rw [← hf]
    · rw [if_neg hv] at hf
      rw [if_neg (by simp [hv]; omega)]
      by_cases hh : HasT v t
      · rw [if_pos hh] at hf
        rw [if_neg (by simp [hh])]
        obtain ⟨hp, hk1, hk2⟩ := (show HasT0 _ _ _ _ _ from hh)
        have hbits : (op = 36 → -9000000000000000000 ≤ acc + v.2.2 ∧ acc + v.2.2 ≤ 9000000000000000000) ∧ (op = 37 → (0 ≤ (v.2.2 : Int) ∧ (v.2.2 : Int) ≤ 1) ∧ 0 ≤ acc ∧ acc ≤ 1) := by
          have h1 := (show Alw0 op t.1 t.2 from ht).2
          have h2 : op ≠ 39 → Plaus t.1 0 acc := fun hne => by
            rcases hacc with h | h
            · exact absurd h.1 hne
            · exact h
          rw [hk1] at hp
          revert h1 h2 hp
          generalize (v.2.2 : Int) = n
          generalize (v.2.1 : Int) = ve
          generalize (t.1 : Int) = tk
          intro h3 h1 h2
          refine ⟨fun e => ?_, fun e => ?_⟩
          · have h2 := h2 (by omega)
            unfold Plaus at h2 h3
            dsimp only [rInt, Row.den] at *
            omega
          · subst e
            have h2 := h2 (by omega)
            unfold Plaus at h2 h3
            simp at h1
            dsimp only [rInt, Row.den] at *
            omega
        rw [show (decide ((k : Int) = 0)) = decide (k = 0) from by rw [decide_eq_decide]; omega]
        rw [fold_ref hbits.1 hbits.2 hop]
        simp only [Option.bind_some]
        by_cases hpl : Plaus t.1 0 (fold op acc v.2.2 (decide (k = 0)))
        · rw [if_pos hpl] at hf ⊢
          simp only [decide_true, Bool.not_true, Bool.false_eq_true, if_false]
          rw [wrap_succ (by omega)]
          refine .some ⟨⟨k + 1, _, rfl, hk', .inr hpl, ?_⟩, by simp only; omega⟩
          rw [show decide (k + 1 = 0) = false by simp]
          exact hf
        · rw [if_neg hpl] at hf ⊢
          simp only [Int.reduceEq, decide_false, Bool.not_false, if_true]
          refine .some ?_
          show _ = _
          rw [← hf]
      · rw [if_neg hh] at hf
        rw [if_pos (by simp [hh])]
        refine .some ?_
        show _ = _
        rw [← hf]
  · rw [List.getElem?_eq_none (by omega)] at hf
    rw [if_pos (by simp; omega)]
    refine .some ?_
    show _ = _
    rw [← hf]

/-! ## One operation applied -/
theorem arity_mem (N : Nat) (op : Int) (hop : 35 ≤ op ∧ op ≤ 39) : M.expr_Arity N op = some 0 := by
  have : op = 35 ∨ op = 36 ∨ op = 37 ∨ op = 38 ∨ op = 39 := by omega
  rcases this with rfl | rfl | rfl | rfl | rfl <;> (show (_ : Option _) = _; kernel_rfl)
theorem arity_mem_ref (N : Nat) (op : Int) (hop : 35 ≤ op ∧ op ≤ 39) : M.ref10_Arity N op = some 0 := by
  have : op = 35 ∨ op = 36 ∨ op = 37 ∨ op = 38 ∨ op = 39 := by omega
  rcases this with rfl | rfl | rfl | rfl | rfl <;> (show (_ : Option _) = _; kernel_rfl)
theorem uses_mem (N : Nat) (op : Int) (hop : 35 ≤ op ∧ op ≤ 39) : M.expr_UsesN N op = some (!decide (op = 35)) := by
  have : op = 35 ∨ op = 36 ∨ op = 37 ∨ op = 38 ∨ op = 39 := by omega
  rcases this with rfl | rfl | rfl | rfl | rfl <;> (show (_ : Option _) = _; kernel_rfl)
theorem meaning_mem (N : Nat) (op : Int) (hop : 35 ≤ op ∧ op ≤ 39) : M.ref13_meaning N op = some (!decide (op = 35)) := by
  have : op = 35 ∨ op = 36 ∨ op = 37 ∨ op = 38 ∨ op = 39 := by omega
  rcases this with rfl | rfl | rfl | rfl | rfl <;> (show (_ : Option _) = _; kernel_rfl)
theorem formed_mem (N : Nat) (op n : Int) (hop : 35 ≤ op ∧ op ≤ 39) : M.eval_wellFormed N (op, n) = some (!(decide (op = 35) && !decide (n = 0))) := by
  unfold M.eval_wellFormed
  simp only [arity_mem N op hop, uses_mem N op hop]
  have : op = 35 ∨ op = 36 ∨ op = 37 ∨ op = 38 ∨ op = 39 := by omega
  rcases this with rfl | rfl | rfl | rfl | rfl <;> by_cases h : n = 0 <;> simp [h]
theorem formed_ref (N : Nat) (op n : Int) (hop : 35 ≤ op ∧ op ≤ 39) : M.ref13_formed N (op, n) 0 = some (!(decide (op = 35) && !decide (n = 0))) := by
  unfold M.ref13_formed
  simp only [arity_mem_ref N op hop, meaning_mem N op hop]
  have : op = 35 ∨ op = 36 ∨ op = 37 ∨ op = 38 ∨ op = 39 := by omega
  rcases this with rfl | rfl | rfl | rfl | rfl <;> by_cases h : n = 0 <;> simp [h]
theorem exists_mem (N : Nat) (op n : Int) (env : rEnv.den) (hop : 35 ≤ op ∧ op ≤ 39) : M.eval_exists N (op, n) env = some (decide (op = 35) || (decide (0 ≤ n) && decide (n < (env.2.2.2.2.1.length : Int)))) := by
  unfold M.eval_exists
  have : op = 35 ∨ op = 36 ∨ op = 37 ∨ op = 38 ∨ op = 39 := by omega
  rcases this with rfl | rfl | rfl | rfl | rfl <;> by_cases h : 0 ≤ n <;> simp [h]
theorem found_ref (N : Nat) (op n : Int) (env : rEnv.den) (hop : 35 ≤ op ∧ op ≤ 39) : M.ref13_found N (op, n) env = some (decide (op = 35) || (decide (0 ≤ n) && decide (n < (env.2.2.2.2.1.length : Int)))) := by
  unfold M.ref13_found
  have : op = 35 ∨ op = 36 ∨ op = 37 ∨ op = 38 ∨ op = 39 := by omega
  rcases this with rfl | rfl | rfl | rfl | rfl <;> by_cases h : 0 ≤ n <;> simp [h]
theorem all_nil {N : Nat} (hN : 100001 ≤ N) : M.eval_allPlausible N ([] : List Vl) = some true := by
  obtain ⟨N, rfl⟩ : ∃ m, N = m + 1 := ⟨N - 1, by omega⟩
  unfold M.eval_allPlausible Loop
  simp

def ares (op n : Int) (env : rEnv.den) : Vl × Int :=
  if op = 35 then (if n = 0 then ((2, 0, (env.2.2.2.1.length : Int)), 0) else ((0, 0, 0), 2)) else match env.2.2.2.2.1[n.toNat]? with
    | some t => if 0 ≤ n then mres' op t n.toNat env.2.2.2.1 else ((0, 0, 0), 6)
    | none => ((0, 0, 0), 6)

theorem mfold_err {op : Int} {t : Ty} {j : Nat} : {ms : List (List Vl)} → {first : Bool} → {acc c : Int} → mfold op t j ms first acc = .inr c → c = 3 ∨ c = 6 ∨ c = 8
  | [], _, _, _, h => by cases h
  | l :: ms, first, acc, c, h => by
    rw [mfold] at h
    split at h
    · cases h; exact .inr (.inl rfl)
    · split at h
      · cases h; exact .inr (.inl rfl)
      · split at h
        · split at h
          · exact mfold_err h
          · cases h; exact .inl rfl
        · cases h; exact .inr (.inr rfl)

theorem apply_mem {N : Nat} (hN : 100001 ≤ N) (op n : Int) (env : rEnv.den) (hop : 35 ≤ op ∧ op ≤ 39) (hm : env.2.2.2.1.length ≤ 100) : M.eval_Apply N (op, n) ([] : List Vl) env = some (ares op n env) := by
  unfold M.eval_Apply
  simp only [formed_mem N op n hop, arity_mem N op hop, exists_mem N op n env hop, all_nil hN, Option.bind_some, ite_some, or_b]
  unfold ares
  by_cases h35 : op = 35
  · subst h35
    by_cases h0 : n = 0
    · subst h0
      have e1 : M.eval_allowed N ((35 : Int), (0 : Int)) ([] : List Vl) env = some true := by unfold M.eval_allowed; simp
      have e2 : M.eval_compute N ((35 : Int), (0 : Int)) ([] : List Vl) env = some ((2, 0, (env.2.2.2.1.length : Int)), 0) := by unfold M.eval_compute; simp
      have e3 : Plaus 2 0 (env.2.2.2.1.length : Int) := by unfold Plaus; omega
      simp [e1, e2, plausible_eq, e3]
    · simp [h0]
  · have hop' : op = 36 ∨ op = 37 ∨ op = 38 ∨ op = 39 := by omega
    have e1 : M.eval_allowed N (op, n) ([] : List Vl) env = (idx env.2.2.2.2.1 n).bind fun x => M.eval_memberAllowed N op x := by
      unfold M.eval_allowed
      rcases hop' with rfl | rfl | rfl | rfl <;> simp
    have e2 : M.eval_compute N (op, n) ([] : List Vl) env = M.eval_overMembers N (op, n) env := by
      unfold M.eval_compute
      rcases hop' with rfl | rfl | rfl | rfl <;> simp <;> (cases M.eval_overMembers N _ env <;> rfl)
    by_cases hn : 0 ≤ n
    · obtain ⟨j, rfl⟩ : ∃ j : Nat, n = j := ⟨n.toNat, by omega⟩
      by_cases hj : j < env.2.2.2.2.1.length
      · rw [e1, e2, idx_nat hj]
        simp only [Option.bind_some, memberAllowed_eq, Int.toNat_natCast, List.getElem?_eq_getElem hj, if_pos hn, mres']
        by_cases ht : Alw op env.2.2.2.2.1[j]
        · rw [overMembers_eq hN hop' hj hm ht, if_pos ht]
          unfold mres
          by_cases h39 : op = 39 ∧ env.2.2.2.1 = []
          · obtain ⟨rfl, hms⟩ := h39
            simp [hj, ht, hms]
          · rw [if_neg h39, if_neg h39]
            cases hmf : mfold op env.2.2.2.2.1[j] j env.2.2.2.1 true (acc0 op) with
            | inr c =>
              have hc : ¬ c = 0 := by rcases mfold_err hmf with rfl | rfl | rfl <;> decide
              simp [h35, hj, ht, hc]
            | inl a =>
              by_cases hp : Plaus env.2.2.2.2.1[j].1 0 a
              · simp [h35, hj, ht, plausible_eq, hp]
              · simp [h35, hj, ht, plausible_eq, hp]
        · simp [h35, hj, ht]
      · simp [h35, hj]
    · rw [e1, e2]
      cases env.2.2.2.2.1[n.toNat]? <;> simp [h35, hn]
theorem apply_mem_ref {N : Nat} (hN : 100001 ≤ N) (op n : Int) (env : rEnv.den) (hop : 35 ≤ op ∧ op ≤ 39) (hm : env.2.2.2.1.length ≤ 100) : M.ref13_Apply N (op, n) ([] : List Vl) env = some (ares op n env) := by
  obtain ⟨N, rfl⟩ : ∃ m, N = m + 1 := ⟨N - 1, by omega⟩
  unfold M.ref13_Apply
  simp only [List.length_nil, Int.ofNat_zero, formed_ref _ op n hop, found_ref _ op n env hop, Option.bind_some]
  unfold Loop
  simp only [Join, Int.lt_irrefl, decide_false, Bool.false_eq_true, if_false, Option.bind_some, ite_some, and_b, decide_true, if_true]
  unfold ares
  by_cases h35 : op = 35
  · subst h35
    by_cases h0 : n = 0
    · subst h0
      have e2 : M.ref13_literal (N + 1) ((35 : Int), (0 : Int)) env = some ((2, 0, (env.2.2.2.1.length : Int)), 0) := by
        have e3 : Plaus 2 0 (env.2.2.2.1.length : Int) := by unfold Plaus; omega
        unfold M.ref13_literal; simp [made_ref, e3]
      simp [e2]
    · simp [h0]
  · have hop' : op = 36 ∨ op = 37 ∨ op = 38 ∨ op = 39 := by omega
    by_cases hn : 0 ≤ n
    · obtain ⟨j, rfl⟩ : ∃ j : Nat, n = j := ⟨n.toNat, by omega⟩
      by_cases hj : j < env.2.2.2.2.1.length
      · rw [members_ref hN hop' hj hm]
        simp only [Int.toNat_natCast, List.getElem?_eq_getElem hj, if_pos hn]
        have h1 : 36 ≤ op := by omega
        simp [h35, hj, h1, hop.2]
      · simp [h35, hj]
    · cases env.2.2.2.2.1[n.toNat]? <;> simp [h35, hn]

theorem small_big {env : rEnv.den} : Wp (M.ref13_Small big env) fun b => b = true → env.2.2.2.1.length ≤ 20 := by
  unfold M.ref13_Small
  simp only [ite_some, or_b, Option.bind_some]
  refine Wp.ite (fun h => .some (by simp)) fun h => ?_
  have hm : env.2.2.2.1.length ≤ 20 := by
    simp only [Bool.or_eq_true, decide_eq_true_eq, not_or] at h
    omega
  refine Wp.join (Wp.loop (fun s : Int => ∃ k : Nat, s = k ∧ k ≤ env.2.2.2.1.length) (fun s => (env.2.2.2.1.length - s).toNat) ⟨0, rfl, Nat.zero_le _⟩ (by unfold big; omega) ?_)
  rintro _ ⟨k, rfl, hk⟩
  refine Wp.dec (fun h => ?_) fun h => .some ?_
  · have hk' : k < env.2.2.2.1.length := by omega
    rw [idx_nat hk']
    simp only [Option.bind_some]
    rw [wrap_succ (by omega)]
    split
    · exact .some fun h => by cases h
    · exact .some ⟨⟨k + 1, rfl, hk'⟩, by simp only; omega⟩
  · show Wp _ _
    have ht : env.2.2.2.2.2.length ≤ 10 := by
      simp only [Bool.or_eq_true, decide_eq_true_eq, not_or] at *
      omega
    refine Wp.loop (fun s : Int => ∃ k : Nat, s = k ∧ k ≤ env.2.2.2.2.2.length) (fun s => (env.2.2.2.2.2.length - s).toNat) ⟨0, rfl, Nat.zero_le _⟩ (by unfold big; omega) ?_
    rintro _ ⟨k, rfl, hk⟩
    refine Wp.dec (fun h => ?_) fun h => .some fun _ => hm
    have hk' : k < env.2.2.2.2.2.length := by omega
    rw [idx_nat hk']
    simp only [Option.bind_some]
    rw [wrap_succ (by omega)]
    split
    · exact .some fun h => by cases h
    · exact .some ⟨⟨k + 1, rfl, hk'⟩, by simp only; omega⟩

theorem awake : M.law13_awake big = some true := by show (_ : Option Bool) = _; kernel_rfl

theorem EvalMembers_true (op n : Int) (ms : List (List Vl)) (ts : List Ty) (_ : WF rInt op) (_ : WF rInt n) (_ : WF (.slice (.slice rValue)) ms) (_ : WF (.slice rType) ts) : M.law13_EvalMembers big op n ms ts = some true := by
  unfold M.law13_EvalMembers
  obtain ⟨b, hb, hs⟩ := small_big (env := ((0 : Int), (([] : List Vl), (([] : List Vl), (ms, (ts, ([] : List rTable.den)))))))
  rw [hb, awake]
  simp only [Option.bind_some, ite_some, or_b, and_b]
  by_cases hc : (!b || (decide (op < 35) || decide (39 < op))) = true
  · rw [if_pos hc]
  · rw [if_neg hc]
    simp only [Bool.or_eq_true, Bool.not_eq_true', decide_eq_true_eq, not_or] at hc
    have hb' : b = true := by cases b <;> simp_all
    have hm := hs hb'
    rw [apply_mem (by unfold big; omega) op n _ (by omega) (by simp only at hm ⊢; omega), apply_mem_ref (by unfold big; omega) op n _ (by omega) (by simp only at hm ⊢; omega)]
    simp [eqR]
end L
end Go.Proofs.YtbmkhjdoalnkmaaGreatDoor
