/- Apply with typed operands (plain laws). -/
import Derived.Test.YtomgmnkalommeaaGreatDoorPY3
namespace Go.Proofs.YtomgmnkalommeaaGreatDoor
open Go Go.RowKit
set_option maxRecDepth 100000
namespace L

/-- An environment agrees with a signature. -/
structure Agr (s : Sg) (env : rEnv.den) : Prop where
  inp : ∀ (k : Nat) (t : Ty), s.2.2.1[k]? = some t → ∃ v, env.2.1[k]? = some v ∧ HasT v t
  dfs : ∀ (k : Nat) (t : Ty), s.2.2.2.1[k]? = some t → ∃ v, env.2.2.1[k]? = some v ∧ (HasT v t ∨ (v.1 : Int) = 0)
  mts : ∀ (k : Nat) (t : Ty), s.2.2.2.2.1[k]? = some t → env.2.2.2.2.1[k]? = some t
  mem : ∀ l ∈ env.2.2.2.1, ∀ (k : Nat) (t : Ty), s.2.2.2.2.1[k]? = some t → ∃ v, l[k]? = some v ∧ (HasT v t ∨ (v.1 : Int) = 0)
  tbs : ∀ (k : Nat) (T : rTable.den), s.2.1[k]? = some T → ∃ T' : rTable.den, env.2.2.2.2.2[k]? = some T' ∧ T'.2.1 = T.2.1 ∧ T'.2.2.1 = T.2.2.1

def TyOK (t : Ty) (r : Vl × Int) : Prop := C3 r.2 ∧ (r.2 = 0 → HasT r.1 t)

theorem allPl_true {l : List Vl} (hl : l.length ≤ 100000) (h : ∀ v ∈ l, Plaus v.1 v.2.1 v.2.2) : M.eval_allPlausible big l = some true := by
  apply Wp.eq
  unfold M.eval_allPlausible
  refine Wp.loop (fun s : Int => ∃ i : Nat, s = i ∧ i ≤ l.length) (fun s => (l.length - s).toNat) ⟨0, rfl, Nat.zero_le _⟩ (by unfold big; omega) ?_
  rintro _ ⟨i, rfl, hi⟩
  refine Wp.dec (fun hlt => ?_) fun _ => .some rfl
  have hi' : i < l.length := by omega
  rw [idx_nat hi']
  simp only [Option.bind_some, plausible_eq]
  rw [decide_eq_true (h _ (List.getElem_mem hi'))]
  simp only [Bool.not_true, Bool.false_eq_true, if_false]
  rw [wrap_succ (by omega)]
  exact .some ⟨⟨i + 1, rfl, hi'⟩, by simp only; omega⟩
theorem formed_true {op m : Int} (h0 : 0 ≤ ar op) (hu : m = 0 ∨ us op) (h14 : op = 14 ∨ op = 15 ∨ op = 16 → 0 ≤ m ∧ m ≤ 5) (h34 : op = 34 → 0 ≤ m ∧ Int.tmod m 8 ≤ 5) (h6 : op = 6 → 0 ≤ m) : M.eval_wellFormed big (op, m) = some true := by
  apply Wp.eq
  unfold M.eval_wellFormed
  dsimp only [rInt, Row.den]
  rw [arity_eq, or3c]
  simp only [Option.bind_some, ite_some, and_b]
  refine Wp.seq (· = false) ?_ fun j hj => ?_
  · refine Wp.dec (fun h => by omega) fun _ => ?_
    refine Wp.ndec (fun h => Wp.seq _ (uses_wp ..) fun y hy => .some ?_) fun _ => .some rfl
    have : y = true := hy.2 (hu.resolve_left h)
    rw [this]; rfl
  · subst hj
    simp only [Bool.false_eq_true, if_false]
    refine .some ?_
    by_cases c14 : op = 14 ∨ op = 15 ∨ op = 16
    · have := h14 c14
      rw [if_pos (by simpa using c14)]; simpa using this
    rw [if_neg (by simpa using c14)]
    by_cases c34 : op = 34
    · have := h34 c34
      rw [if_pos (by simpa using c34)]; simpa using this
    rw [if_neg (by simpa using c34)]
    by_cases c6 : op = 6
    · have := h6 c6
      rw [if_pos (by simpa using c6)]; simpa using this
    rw [if_neg (by simpa using c6)]

theorem Ap_sk {op m : Int} {args : List Vl} {env : rEnv.den} {t : Ty} (hwf : M.eval_wellFormed big (op, m) = some true) (ha : (args.length : Int) = ar op) (hpl : ∀ v ∈ args, Plaus v.1 v.2.1 v.2.2) (hx : Wp (M.eval_exists big (op, m) env) fun x => x = true → Wp (M.eval_allowed big (op, m) args env) (· = true) ∧ Wp (M.eval_compute big (op, m) args env) (CpOK t)) : Wp (M.eval_Apply big (op, m) args env) (TyOK t) := by
  have har := ar_le op
  unfold M.eval_Apply
  dsimp only [rInt, Row.den]
  rw [hwf]
  simp only [Option.bind_some, arity_eq, Bool.not_true, Bool.false_eq_true, if_false]
  rw [decide_eq_true ha]
  simp only [Bool.not_true, Bool.false_eq_true, if_false]
  refine Wp.seq _ hx fun x hx => ?_
  refine Wp.ite (fun _ => .some ⟨.inr (.inr (.inl rfl)), fun h => by cases h⟩) fun hc => ?_
  obtain ⟨h1, h2⟩ := hx (by simpa using hc)
  rw [allPl_true (by omega) hpl, Wp.eq h1]
  simp only [Option.bind_some, Bool.not_true, Bool.false_eq_true, if_false]
  refine Wp.seq _ h2 fun y hy => ?_
  refine Wp.ndec (fun h => .some ⟨hy.1, fun g => absurd g h⟩) fun h => ?_
  rw [plausible_eq]
  simp only [Option.bind_some]
  exact Wp.ndec (fun _ => .some ⟨.inr (.inl rfl), fun h => by cases h⟩) fun hp => .some ⟨.inl rfl, fun _ => ⟨hp, hy.2 h⟩⟩

theorem allowed0 {N : Nat} {op m : Int} {env : rEnv.den} (h1 : ¬ op = 7) (h2 : ¬ op = 8) (h3 : ¬ op = 33) (h4 : ¬ op = 34) (h5 : ¬ (op = 36 ∨ op = 37 ∨ op = 38 ∨ op = 39)) : M.eval_allowed N (op, m) [] env = some true := by
  unfold M.eval_allowed
  dsimp only [rInt, Row.den]
  rw [or4c, decide_eq_false h1, decide_eq_false h2, decide_eq_false h3, decide_eq_false h4, decide_eq_false h5]
  rfl
theorem idx_of {α : Type} {l : List α} {k : Nat} {x : α} (h : l[k]? = some x) : idx l (k : Int) = some x := by
  obtain ⟨hk, rfl⟩ := List.getElem?_eq_some_iff.1 h
  exact idx_nat hk
theorem mfold_c3 {op : Int} {t : Ty} {j : Nat} : {ms : List (List Vl)} → (∀ l ∈ ms, ∃ v, l[j]? = some v ∧ (HasT v t ∨ (v.1 : Int) = 0)) → {first : Bool} → {acc c : Int} → mfold op t j ms first acc = .inr c → c = 3 ∨ c = 6
  | [], _, _, _, _, h => by cases h
  | l :: ms, hv, first, acc, c, h => by
    obtain ⟨v, h1, h2⟩ := hv l (List.mem_cons_self ..)
    rw [mfold, h1] at h
    simp only at h
    split at h
    · cases h; exact .inr rfl
    · rename_i hn
      rw [if_pos (h2.resolve_right hn)] at h
      split at h
      · exact mfold_c3 (fun l hl => hv l (List.mem_cons_of_mem _ hl)) h
      · cases h; exact .inl rfl
theorem mres_ty {op : Int} {t : Ty} {j : Nat} {ms : List (List Vl)} (h : ∀ l ∈ ms, ∃ v, l[j]? = some v ∧ (HasT v t ∨ (v.1 : Int) = 0)) (ht : (t.2 : Int) = 0) : CpOK t (mres op t j ms) := by
  unfold mres
  split
  · exact ⟨.inr (.inr (.inl rfl)), fun g => by cases g⟩
  · split
    · exact ⟨.inl rfl, fun _ => ⟨rfl, ht.symm⟩⟩
    · rename_i c hc
      have := mfold_c3 h hc
      refine ⟨?_, fun g => ?_⟩
      · show C3 c
        unfold C3; omega
      · exact absurd g (by show ¬ c = 0; omega)

theorem Apply_ty {op m : Int} {ts : List Ty} {s : Sg} {t : Ty} {args : List Vl} {env : rEnv.den} (he : EnvOK env) (ag : Agr s env) (nt : NT op m ts s t) (h0 : 0 ≤ ar op) (hu : m = 0 ∨ us op) (hl : (ts.length : Int) = ar op) (ha : Args args ts) : Wp (M.eval_Apply big (op, m) args env) (TyOK t) := by
  have hal : (args.length : Int) = ar op := by rw [ha.len]; exact hl
  have c0 : C3 0 := .inl rfl
  have no : ar op = 0 → args = [] := fun h => List.length_eq_zero_iff.1 (by omega)
  have wf : ∀ (_ : op = 14 ∨ op = 15 ∨ op = 16 → 0 ≤ m ∧ m ≤ 5) (_ : op = 34 → 0 ≤ m ∧ Int.tmod m 8 ≤ 5) (_ : op = 6 → 0 ≤ m), M.eval_wellFormed big (op, m) = some true := fun a b c => formed_true h0 hu a b c
  have ex : ∀ Q : Prop, (Exs op m env → Q) → Wp (M.eval_exists big (op, m) env) fun x => x = true → Q := fun Q h => (exists_wp big op m env).mono fun x hx g => h (hx g)
  rcases nt with ⟨ho, rfl⟩ | ⟨ho, hm, rfl⟩ | ⟨ho, hL⟩ | ⟨ho, hL⟩ | ⟨ho, rfl⟩ | ⟨ho, a, rfl, hT⟩ | ⟨ho, rfl⟩ | ⟨ho, hL, hk1, hk2, hk3⟩ | ⟨hm, hR⟩
  · obtain rfl := no (by unfold ar; rw [if_pos (by omega)])
    refine Ap_sk (wf (by omega) (by omega) (by omega)) hal ha.pl (ex _ fun _ => ⟨?_, ?_⟩)
    · rw [allowed0 (by omega) (by omega) (by omega) (by omega) (by omega)]; exact .some rfl
    · unfold M.eval_compute
      dsimp only [rInt, Row.den]
      rw [or5c op 1 2 3 4 5]
      simp only [Option.bind_some]
      exact Wp.dec (fun _ => .some ⟨c0, fun _ => ⟨rfl, rfl⟩⟩) fun h => by omega
  · subst ho
    obtain rfl := no rfl
    refine Ap_sk (wf (by omega) (by omega) (fun _ => hm)) hal ha.pl (ex _ fun _ => ⟨?_, ?_⟩)
    · rw [allowed0 (by omega) (by omega) (by omega) (by omega) (by omega)]; exact .some rfl
    · exact .of (x := (((6 : Int), (IntKind.i64.wrap (Int.tdiv m 16), Int.tmod m 16)), (0 : Int))) rfl ⟨c0, fun _ => ⟨rfl, rfl⟩⟩
  · subst ho
    obtain rfl := no rfl
    obtain ⟨k, rfl, h1, _⟩ := hL
    obtain ⟨v, h2, h3⟩ := ag.inp k t h1
    refine Ap_sk (wf (by omega) (by omega) (by omega)) hal ha.pl (ex _ fun _ => ⟨?_, ?_⟩)
    · show Wp ((idx env.2.1 (k : Int)).bind fun x1 => (M.eval_plausible big x1).bind fun y2 => some y2) _
      rw [idx_of h2]
      simp only [Option.bind_some, plausible_eq]
      exact .some (decide_eq_true h3.1)
    · show Wp ((idx env.2.1 (k : Int)).bind fun x2 => some (x2, (0 : Int))) _
      rw [idx_of h2]
      exact .some ⟨c0, fun _ => h3.2⟩
  · subst ho
    obtain rfl := no rfl
    obtain ⟨k, rfl, h1, _⟩ := hL
    obtain ⟨v, h2, h3⟩ := ag.dfs k t h1
    have hk : k < env.2.2.1.length := (List.getElem?_eq_some_iff.1 h2).1
    refine Ap_sk (wf (by omega) (by omega) (by omega)) hal ha.pl ?_
    refine Wp.of (x := !decide ((v.1 : Int) = 0)) ?_ fun hx => ?_
    · unfold M.eval_exists
      dsimp only [rInt, Row.den]
      rw [idx_of h2]
      simp [hk]
    have h3 := h3.resolve_right (by simpa using hx)
    refine ⟨?_, ?_⟩
    · show Wp ((idx env.2.2.1 (k : Int)).bind fun x1 => (M.eval_plausible big x1).bind fun y2 => some y2) _
      rw [idx_of h2]
      simp only [Option.bind_some, plausible_eq]
      exact .some (decide_eq_true h3.1)
    · show Wp ((idx env.2.2.1 (k : Int)).bind fun x2 => some (x2, (0 : Int))) _
      rw [idx_of h2]
      exact .some ⟨c0, fun _ => h3.2⟩
  · subst ho
    obtain rfl := no rfl
    refine Ap_sk (wf (by omega) (by omega) (by omega)) hal ha.pl (ex _ fun _ => ⟨?_, ?_⟩)
    · rw [allowed0 (by omega) (by omega) (by omega) (by omega) (by omega)]; exact .some rfl
    · exact .of (x := (((5 : Int), ((0 : Int), env.1)), (0 : Int))) rfl ⟨c0, fun _ => ⟨rfl, rfl⟩⟩
  · obtain ⟨v, rfl, hv⟩ := args1 ha
    obtain ⟨k, T, h1, v1, v2, rfl, h3⟩ := hT
    obtain ⟨T', g1, g2, g3⟩ := ag.tbs k T h1
    have hTl := he.2 T' (List.mem_of_getElem? g1)
    rcases h3 with ⟨rfl, m0, m1, m2, hw, k1, k2, rfl⟩ | ⟨hne, rfl, rfl⟩
    · have key : T'.2.1 = ((3, 0) : Int × Int) := by
        rw [g2]; refine Prod.ext k1 ?_
        unfold VTp at v1
        rw [k1] at v1
        rcases v1 with h | h
        · exact h.2.2
        · exact absurd h.1 (by decide)
      have val : T'.2.2.1 = ((4, 0) : Int × Int) := by
        rw [g3]; refine Prod.ext k2 ?_
        unfold VTp at v2
        rw [k2] at v2
        rcases v2 with h | h
        · exact h.2.2
        · exact absurd h.1 (by decide)
      refine Ap_sk (wf (by omega) (fun _ => ⟨m0, m2⟩) (by omega)) hal ha.pl (ex _ fun _ => ⟨?_, ?_⟩)
      · unfold M.eval_allowed
        dsimp only [rInt, Row.den]
        rw [hw, idx_of g1]
        simp only [Option.bind_some, idx0]
        rw [key, val, show (v.1 : Int) = 3 from hv.2.1.trans k1]
        exact .of (x := true) rfl rfl
      · unfold M.eval_compute
        dsimp only [rInt, Row.den]
        rw [hw, idx_of g1]
        simp only [Option.bind_some, idx0]
        show Wp ((M.table_Brackets big T' env.1 v.2.2 (Int.tmod m 8)).bind fun y12 => some (((3 : Int), ((0 : Int), y12.1)), y12.2)) _
        refine Wp.seq _ (Brackets_wp ⟨m1, m2⟩ key val hTl) fun r hr => .some ⟨hr.c3, fun _ => ?_⟩
        rw [← g2, key]
        exact ⟨rfl, rfl⟩
    · obtain rfl : op = 33 := by omega
      refine Ap_sk (wf (by omega) (by omega) (by omega)) hal ha.pl (ex _ fun _ => ⟨?_, ?_⟩)
      · unfold M.eval_allowed
        dsimp only [rInt, Row.den]
        rw [idx_of g1]
        simp only [Option.bind_some, idx0, hasType_eq]
        rw [g2, g3, decide_eq_true hv]
        unfold VTp at v2
        refine .of (x := true) ?_ rfl
        have a1 : (1 : Int) ≤ T.2.2.1.1 := by rcases v2 with h | h; exact h.1; rw [h.1]; decide
        have a2 : (T.2.2.1.1 : Int) ≤ 6 := by rcases v2 with h | h; exact Int.le_trans h.2.1 (by decide); rw [h.1]; decide
        simp [a1, a2]
      · unfold M.eval_compute
        dsimp only [rInt, Row.den]
        rw [idx_of g1]
        simp only [Option.bind_some, idx0]
        show Wp ((M.table_Lookup big T' env.1 v.2.2).bind fun y8 => if (!y8.2) = true then some (((0 : Int), ((0 : Int), (0 : Int))), (6 : Int)) else (idx T'.2.2.2 y8.1).bind fun x9 => some ((T'.2.2.1.1, (T'.2.2.1.2, x9.2.2.2)), (0 : Int))) _
        refine Wp.seq _ (Lookup_wp _ _ _ hTl) fun r hr => ?_
        refine Wp.ite (fun _ => .some ⟨.inr (.inr (.inl rfl)), fun g => by cases g⟩) fun hc => ?_
        obtain ⟨a, b⟩ := hr (by simpa using hc)
        refine Wp.bind (Wp.idxI a b fun z _ _ => .some ⟨c0, fun _ => ?_⟩)
        rw [← g3]
        exact ⟨rfl, rfl⟩
  · subst ho
    obtain rfl := no rfl
    refine Ap_sk (wf (by omega) (by omega) (by omega)) hal ha.pl (ex _ fun _ => ⟨?_, ?_⟩)
    · rw [allowed0 (by omega) (by omega) (by omega) (by omega) (by omega)]; exact .some rfl
    · exact .of (x := (((2 : Int), ((0 : Int), (env.2.2.2.1.length : Int))), (0 : Int))) rfl ⟨c0, fun _ => ⟨rfl, rfl⟩⟩
  · obtain rfl := no (by rcases ho with h | h | h | h <;> rw [h] <;> rfl)
    obtain ⟨k, rfl, h1, hvt⟩ := hL
    have g1 := ag.mts k t h1
    obtain ⟨hk, hkt⟩ := List.getElem?_eq_some_iff.1 g1
    have t5 : (t.1 : Int) ≠ 6 := by
      intro h6
      rcases ho with h | h | h | h
      · rcases hk1 h with g | g <;> rw [h6] at g <;> exact absurd g (by decide)
      · have g := hk2 (.inl h); rw [h6] at g; exact absurd g (by decide)
      · have g := hk2 (.inr h); rw [h6] at g; exact absurd g (by decide)
      · rcases hk3 h with g | g <;> rw [h6] at g <;> exact absurd g (by decide)
    have t2 : (t.2 : Int) = 0 := by
      unfold VTp at hvt
      rcases hvt with h | h
      · exact h.2.2
      · exact absurd h.1 t5
    have alw : Alw op t := by
      refine ⟨t2, ?_⟩
      rcases ho with rfl | rfl | rfl | rfl
      · rw [if_pos rfl]; exact hk1 rfl
      · rw [if_neg (by decide), if_neg (by decide)]; exact hk2 (.inl rfl)
      · rw [if_neg (by decide), if_neg (by decide)]; exact hk2 (.inr rfl)
      · rw [if_neg (by decide), if_pos rfl]
        rcases hk3 rfl with (g | g | g) | g <;> rw [g] <;> decide
    refine Ap_sk (wf (by omega) (by omega) (by omega)) hal ha.pl (ex _ fun _ => ⟨?_, ?_⟩)
    · unfold M.eval_allowed
      dsimp only [rInt, Row.den]
      rw [or4c, decide_eq_false (show ¬ op = 7 by omega), decide_eq_false (show ¬ op = 8 by omega), decide_eq_false (show ¬ op = 33 by omega), decide_eq_false (show ¬ op = 34 by omega), decide_eq_true ho]
      simp only [Bool.false_eq_true, if_false, if_true, Option.bind_some]
      rw [idx_of g1]
      simp only [Option.bind_some, memberAllowed_eq]
      exact .some (decide_eq_true alw)
    · unfold M.eval_compute
      dsimp only [rInt, Row.den]
      rw [or5c, or4c, decide_eq_false (show ¬ (op = 1 ∨ op = 2 ∨ op = 3 ∨ op = 4 ∨ op = 5) by omega), decide_eq_false (show ¬ op = 6 by omega), decide_eq_false (show ¬ op = 7 by omega), decide_eq_false (show ¬ op = 8 by omega), decide_eq_false (show ¬ op = 9 by omega), decide_eq_false (show ¬ op = 35 by omega), decide_eq_true ho]
      simp only [Bool.false_eq_true, if_false, if_true, Option.bind_some]
      rw [overMembers_eq (by unfold big; omega) ho hk he.1 (by rw [hkt]; exact alw), hkt]
      exact .some (mres_ty (fun l hl => ag.mem l hl k t h1) t2)
  · have hp : Pln op := by
      unfold Pln
      rcases hR with ⟨h, _⟩ | ⟨h, _⟩ | ⟨h, _⟩ | ⟨h, _⟩ | ⟨h, _⟩ | ⟨h, _⟩ | ⟨h, _⟩ | ⟨h, _⟩ | ⟨h, _⟩ | ⟨h, _⟩ | ⟨h, _⟩ | ⟨h, _⟩ | ⟨h, _⟩ | ⟨h, _⟩ | ⟨h, _⟩ <;> omega
    unfold Pln at hp
    exact Ap_sk (wf hm (by omega) (by omega)) hal ha.pl (ex _ fun _ => RT_apply hm hR ha)

theorem bounds_eq (N : Nat) (k : Int) : M.ref13_bounds N k = some (if k = 1 then (0, 1) else if k = 2 then (-1000000000000, 1000000000000) else if k = 3 then (-1000000000000000, 1000000000000000) else if k = 4 then (-1000000000, 1000000000) else if k = 5 then (0, 109572) else if k = 6 then (0, 15) else (0, -1)) := by
  unfold M.ref13_bounds
  simp only [ite_some, decide_eq_true_eq]
theorem Plausible_ref (N : Nat) (v : Vl) : M.ref13_Plausible N v = some (decide (Plaus v.1 v.2.1 v.2.2)) := by
  revert v; rintro ⟨(k : Int), (e : Int), (n : Int)⟩
  unfold M.ref13_Plausible
  rw [bounds_eq]
  simp only [ite_some, Option.bind_some, or_b, and_b]
  refine congrArg some ?_
  by_cases h1 : k = 1
  · subst h1; rw [Bool.eq_iff_iff]; simp [Plaus]; try (dsimp only [rInt, Row.den] at *; omega)
  by_cases h2 : k = 2
  · subst h2; rw [Bool.eq_iff_iff]; simp [Plaus]; try (dsimp only [rInt, Row.den] at *; omega)
  by_cases h3 : k = 3
  · subst h3; rw [Bool.eq_iff_iff]; simp [Plaus]; try (dsimp only [rInt, Row.den] at *; omega)
  by_cases h4 : k = 4
  · subst h4; rw [Bool.eq_iff_iff]; simp [Plaus]; try (dsimp only [rInt, Row.den] at *; omega)
  by_cases h5 : k = 5
  · subst h5; rw [Bool.eq_iff_iff]; simp [Plaus]; try (dsimp only [rInt, Row.den] at *; omega)
  by_cases h6 : k = 6
  · subst h6; rw [Bool.eq_iff_iff]; simp [Plaus]; try (dsimp only [rInt, Row.den] at *; omega)
  simp [Plaus, h1, h2, h3, h4, h5, h6]; try omega
theorem Has_ref (N : Nat) (v : Vl) (t : Ty) : M.ref13_Has N v t = some (decide (HasT v t)) := by
  unfold M.ref13_Has
  rw [Plausible_ref]
  simp only [ite_some, Option.bind_some, and_b]
  refine congrArg some ?_
  rw [Bool.eq_iff_iff]; simp [HasT0]

def Kn (l : List Vl) (ts : List Ty) (u : Bool) : Prop := l.length = ts.length ∧ ∀ (k : Nat) (t : Ty), ts[k]? = some t → ∃ v, l[k]? = some v ∧ (HasT v t ∨ (u = true ∧ (v.1 : Int) = 0))
theorem known_wp {l : List Vl} {ts : List Ty} {u : Bool} (ht : ts.length ≤ 1000) : Wp (M.ref13_known big l ts u) fun b => b = true → Kn l ts u := by
  unfold M.ref13_known
  refine Wp.ndec (fun _ => .some fun h => by cases h) fun hl => ?_
  have hl : l.length = ts.length := by omega
  refine Wp.loop (fun s : Int => ∃ k : Nat, s = k ∧ k ≤ l.length ∧ ∀ (j : Nat) (t : Ty), j < k → ts[j]? = some t → ∃ v, l[j]? = some v ∧ (HasT v t ∨ (u = true ∧ (v.1 : Int) = 0))) (fun s => (l.length - s).toNat) ⟨0, rfl, Nat.zero_le _, fun j t h => by omega⟩ (by unfold big; omega) ?_
  rintro _ ⟨k, rfl, hk, hp⟩
  refine Wp.dec (fun h => ?_) fun h => .some fun _ => ⟨hl, fun j t hj => hp j t (by have := (List.getElem?_eq_some_iff.1 hj).1; omega) hj⟩
  have hk' : k < l.length := by omega
  have hk2 : k < ts.length := by omega
  rw [idx_nat hk', idx_nat hk2]
  simp only [Option.bind_some, Has_ref]
  refine Wp.seq (fun j => j = false → HasT l[k] ts[k] ∨ (u = true ∧ (l[k].1 : Int) = 0)) ?_ fun j hj => ?_
  · refine Wp.ite (fun _ => ?_) fun h => .some fun _ => .inl (by simpa using h)
    refine Wp.ite (fun hu => .some fun h => .inr ⟨hu, by simpa using h⟩) fun _ => .some fun h => by cases h
  refine Wp.ite (fun _ => .some fun h => by cases h) fun hc => .some ?_
  rw [wrap_succ (by omega)]
  refine ⟨⟨k + 1, rfl, hk', fun j t hlt hjt => ?_⟩, by simp only; omega⟩
  by_cases hjk : j = k
  · subst hjk
    rw [List.getElem?_eq_getElem hk2] at hjt
    cases hjt
    exact ⟨l[j], List.getElem?_eq_getElem hk', hj (by simpa using hc)⟩
  · exact hp j t (by omega) hjt

structure SgOK (s : Sg) : Prop where
  enums : s.1.length ≤ 10
  tables : s.2.1.length ≤ 10
  inputs : s.2.2.1.length ≤ 40
  defs : s.2.2.2.1.length ≤ 40
  mdefs : s.2.2.2.2.1.length ≤ 40
theorem sg_wp (s : Sg) : Wp (M.ref10_Small big s) fun b => b = true → SgOK s := by
  unfold M.ref10_Small
  simp only [ite_some, or_b, Option.bind_some]
  refine Wp.ite (fun _ => .some fun h => by cases h) fun hc => ?_
  simp only [Bool.or_eq_true, decide_eq_true_eq, not_or, Int.not_lt] at hc
  have ok : SgOK s := ⟨by omega, by omega, by omega, by omega, by omega⟩
  have := ok.enums
  refine Wp.loop (fun q : Int => ∃ k : Nat, q = k ∧ k ≤ s.1.length) (fun q => (s.1.length - q).toNat) ⟨0, rfl, Nat.zero_le _⟩ (by unfold big; omega) ?_
  rintro _ ⟨k, rfl, hk⟩
  refine Wp.dec (fun h => ?_) fun h => .some fun _ => ok
  have hk' : k < s.1.length := by omega
  rw [idx_nat hk']
  simp only [Option.bind_some]
  refine .some ?_
  split
  · exact fun h => by cases h
  · rw [wrap_succ (by omega)]
    exact ⟨⟨k + 1, rfl, hk'⟩, by simp only; omega⟩

structure Agr0 (s : Sg) (env : rEnv.den) : Prop where
  inp : Kn env.2.1 s.2.2.1 false
  dfs : Kn env.2.2.1 s.2.2.2.1 true
  mts : ∀ (k : Nat) (t : Ty), s.2.2.2.2.1[k]? = some t → env.2.2.2.2.1[k]? = some t
  mem : ∀ l ∈ env.2.2.2.1, Kn l s.2.2.2.2.1 true
theorem agrees_wp {s : Sg} {env : rEnv.den} (hs : SgOK s) (he : EnvOK env) : Wp (M.ref13_Agrees big env s) fun b => b = true → Agr0 s env := by
  obtain ⟨s1, s2, s3, s4, s5⟩ := hs
  have he1 := he.1
  unfold M.ref13_Agrees
  refine Wp.seq (fun j => j = false → Kn env.2.1 s.2.2.1 false ∧ Kn env.2.2.1 s.2.2.2.1 true ∧ env.2.2.2.2.1.length = s.2.2.2.2.1.length) ?_ fun j hj => ?_
  · refine Wp.seq _ (known_wp (by omega)) fun b1 h1 => ?_
    refine Wp.ite (fun _ => .some fun h => by cases h) fun c1 => ?_
    refine Wp.seq _ (known_wp (by omega)) fun b2 h2 => ?_
    refine Wp.ite (fun _ => .some fun h => by cases h) fun c2 => ?_
    refine Wp.ndec (fun _ => .some fun h => by cases h) fun c3 => ?_
    simp only [ite_some]
    exact .some fun _ => ⟨h1 (by simpa using c1), h2 (by simpa using c2), by omega⟩
  refine Wp.ite (fun _ => .some fun h => by cases h) fun hc => ?_
  obtain ⟨k1, k2, k3⟩ := hj (by simpa using hc)
  refine Wp.join (Wp.loop (fun q : Int => ∃ k : Nat, q = k ∧ k ≤ s.2.2.2.2.1.length ∧ ∀ (j : Nat) (t : Ty), j < k → s.2.2.2.2.1[j]? = some t → env.2.2.2.2.1[j]? = some t) (fun q => (s.2.2.2.2.1.length - q).toNat) ⟨0, rfl, Nat.zero_le _, fun j t h => by omega⟩ (by unfold big; omega) ?_)
  rintro _ ⟨k, rfl, hk, hp⟩
  refine Wp.dec (fun h => ?_) fun h => .some ?_
  · have hk' : k < s.2.2.2.2.1.length := by omega
    have hk2 : k < env.2.2.2.2.1.length := by omega
    rw [idx_nat hk', idx_nat hk2]
    simp only [Option.bind_some, eqT]
    refine Wp.ite (fun _ => .some ?_) fun heq => .some ?_
    · show false = true → _
      exact fun h => by cases h
    rw [wrap_succ (by omega)]
    refine ⟨⟨k + 1, rfl, hk', fun j t hlt hjt => ?_⟩, by simp only; omega⟩
    by_cases hjk : j = k
    · subst hjk
      rw [List.getElem?_eq_getElem hk'] at hjt
      cases hjt
      rw [List.getElem?_eq_getElem hk2]
      congr 1
      simpa using heq
    · exact hp j t (by omega) hjt
  · have hmts : ∀ (j : Nat) (t : Ty), s.2.2.2.2.1[j]? = some t → env.2.2.2.2.1[j]? = some t := fun j t hjt => hp j t (by have := (List.getElem?_eq_some_iff.1 hjt).1; omega) hjt
    show Wp _ _
    refine Wp.loop (fun q : Int => ∃ k : Nat, q = k ∧ k ≤ env.2.2.2.1.length ∧ ∀ l ∈ env.2.2.2.1.take k, Kn l s.2.2.2.2.1 true) (fun q => (env.2.2.2.1.length - q).toNat) ⟨0, rfl, Nat.zero_le _, by simp⟩ (by unfold big; omega) ?_
    rintro _ ⟨k, rfl, hk, hp⟩
    refine Wp.dec (fun h => ?_) fun h => .some fun _ => ⟨k1, k2, hmts, by rw [List.take_of_length_le (by omega)] at hp; exact hp⟩
    have hk' : k < env.2.2.2.1.length := by omega
    rw [idx_nat hk']
    simp only [Option.bind_some]
    refine Wp.seq _ (known_wp (by omega)) fun b hb => ?_
    refine Wp.ite (fun _ => .some fun h => by cases h) fun hc => .some ?_
    rw [wrap_succ (by omega)]
    refine ⟨⟨k + 1, rfl, hk', fun l hl => ?_⟩, by simp only; omega⟩
    rw [List.take_succ_eq_append_getElem hk'] at hl
    rcases List.mem_append.1 hl with hl | hl
    · exact hp l hl
    · rw [List.mem_singleton.1 hl]; exact hb (by simpa using hc)

theorem rows_wp {a b : List rRow.den} (ha : a.length ≤ 100000) : Wp (M.same_Rows big a b) fun _ => True := by
  unfold M.same_Rows
  refine Wp.ndec (fun _ => .some trivial) fun _ => ?_
  refine Wp.loop (fun q : Int => ∃ k : Nat, q = k ∧ k ≤ a.length) (fun q => (a.length - q).toNat) ⟨0, rfl, Nat.zero_le _⟩ (by unfold big; omega) ?_
  rintro _ ⟨k, rfl, hk⟩
  simp only [ite_some, and_b, Option.bind_some]
  refine Wp.ite (fun h => ?_) fun h => .some trivial
  simp only [Bool.and_eq_true, decide_eq_true_eq] at h
  have hk' : k < a.length := by omega
  have hk2 : k < b.length := by omega
  rw [idx_nat hk', idx_nat hk2]
  simp only [Option.bind_some]
  refine .some ?_
  split
  · exact trivial
  · rw [wrap_succ (by omega)]
    exact ⟨⟨k + 1, rfl, hk'⟩, by simp only; omega⟩
theorem table_wp {a b : rTable.den} (ha : a.2.2.2.length ≤ 100000) : Wp (M.same_Table big a b) fun r => r = true → a.2.1 = b.2.1 ∧ a.2.2.1 = b.2.2.1 := by
  unfold M.same_Table
  refine Wp.seq (fun j => j = true → a.2.1 = b.2.1 ∧ a.2.2.1 = b.2.2.1) ?_ fun j hj => .some hj
  rw [eqT, eqT]
  refine Wp.dec (fun _ => ?_) fun _ => .some fun h => by cases h
  refine Wp.dec (fun h1 => ?_) fun _ => .some fun h => by cases h
  refine Wp.dec (fun h2 => ?_) fun _ => .some fun h => by cases h
  exact Wp.seq _ (rows_wp ha) fun y _ => .some fun _ => ⟨h1, h2⟩
theorem tables_wp {s : Sg} {env : rEnv.den} (hs : SgOK s) (he : EnvOK env) : Wp (M.same_Tables big env.2.2.2.2.2 s.2.1) fun r => r = true → env.2.2.2.2.2.length = s.2.1.length ∧ ∀ (k : Nat) (T : rTable.den), s.2.1[k]? = some T → ∃ T' : rTable.den, env.2.2.2.2.2[k]? = some T' ∧ T'.2.1 = T.2.1 ∧ T'.2.2.1 = T.2.2.1 := by
  have hl := hs.tables
  have he2 := he.2
  generalize env.2.2.2.2.2 = a at *
  generalize s.2.1 = b at *
  unfold M.same_Tables
  refine Wp.ndec (fun _ => .some fun h => by cases h) fun hab => ?_
  have hab : a.length = b.length := by omega
  refine Wp.loop (fun q : Int => ∃ k : Nat, q = k ∧ k ≤ a.length ∧ ∀ (j : Nat) (T : rTable.den), j < k → b[j]? = some T → ∃ T' : rTable.den, a[j]? = some T' ∧ T'.2.1 = T.2.1 ∧ T'.2.2.1 = T.2.2.1) (fun q => (a.length - q).toNat) ⟨0, rfl, Nat.zero_le _, fun j T h => by omega⟩ (by unfold big; omega) ?_
  rintro _ ⟨k, rfl, hk, hp⟩
  simp only [ite_some, and_b, Option.bind_some]
  refine Wp.ite (fun h => ?_) fun h => .some fun _ => ⟨hab, fun j T hj => hp j T (by have := (List.getElem?_eq_some_iff.1 hj).1; simp at h; omega) hj⟩
  simp only [Bool.and_eq_true, decide_eq_true_eq] at h
  have hk' : k < a.length := by omega
  have hk2 : k < b.length := by omega
  rw [idx_nat hk', idx_nat hk2]
  simp only [Option.bind_some]
  refine Wp.seq _ (table_wp (he2 _ (List.getElem_mem hk'))) fun y hy => .some ?_
  split
  · exact fun h => by cases h
  · rename_i hc
    rw [wrap_succ (by omega)]
    refine ⟨⟨k + 1, rfl, hk', fun j T hlt hjt => ?_⟩, by simp only; omega⟩
    by_cases hjk : j = k
    · subst hjk
      rw [List.getElem?_eq_getElem hk2] at hjt
      cases hjt
      exact ⟨a[j], List.getElem?_eq_getElem hk', hy (by simpa using hc)⟩
    · exact hp j T (by omega) hjt

theorem valid_ref (N : Nat) (t : Ty) (E : List rEnum.den) : M.ref09_ValidType N t E = some (decide (VTp t E.length)) := by
  obtain ⟨(k : Int), (u : Int)⟩ := t
  unfold M.ref09_ValidType
  dsimp only [rInt, Row.den]
  simp only [ite_some, Option.bind_some, and_b]
  refine congrArg some ?_
  have e : decide (VTp ((k, u) : Int × Int) E.length) = decide ((1 ≤ k ∧ k ≤ 5 ∧ u = 0) ∨ (k = 6 ∧ 0 ≤ u ∧ u < (E.length : Int))) := by
    rw [Bool.eq_iff_iff, decide_eq_true_eq, decide_eq_true_eq]; rfl
  rw [e]
  by_cases h6 : k = 6
  · subst h6
    rw [Bool.eq_iff_iff]; simp
  · rw [Bool.eq_iff_iff]; simp [h6]
theorem in_wp (N : Nat) (n : Int) (t : Ty) (E : List rEnum.den) : Wp (M.ref09_In N n t E) fun _ => True := by
  unfold M.ref09_In
  refine Wp.seq (fun _ => True) ?_ fun y _ => by simp only [ite_some, Option.bind_some]; exact .some trivial
  obtain ⟨(k : Int), (u : Int)⟩ := t
  unfold M.ref09_Bounds
  dsimp only [rInt, Row.den]
  rw [valid_ref]
  simp only [Option.bind_some]
  refine Wp.ite (fun _ => .some trivial) fun hv => ?_
  have hv : VTp ((k, u) : Int × Int) E.length := by simpa using hv
  have hv : (1 ≤ k ∧ k ≤ 5 ∧ u = 0) ∨ (k = 6 ∧ 0 ≤ u ∧ u < (E.length : Int)) := hv
  refine Wp.dec (fun _ => .some trivial) fun _ => ?_
  refine Wp.dec (fun _ => .some trivial) fun _ => ?_
  refine Wp.dec (fun _ => .some trivial) fun _ => ?_
  refine Wp.dec (fun _ => .some trivial) fun _ => ?_
  refine Wp.dec (fun _ => .some trivial) fun _ => ?_
  exact Wp.bind (Wp.idxI (by omega) (by omega) fun _ _ _ => .some trivial)
theorem rvalid_wp (N : Nat) (t : Ty) : Wp (M.ref05_Valid N t) fun _ => True := by
  unfold M.ref05_Valid
  simp only [ite_some, Option.bind_some]
  exact .some trivial
theorem conflict_wp (N : Nat) (a b : rRow.den) : Wp (M.ref12_conflict N a b) fun _ => True := by
  unfold M.ref12_conflict
  refine Wp.seq (fun _ => True) ?_ fun y _ => by simp only [ite_some, Option.bind_some]; exact .some trivial
  unfold M.ref05_Intersect
  refine Wp.seq (fun _ => True) ?_ fun j _ => Wp.ite (fun _ => .some trivial) fun _ => Wp.ite (fun _ => .some trivial) fun _ => .some trivial
  refine Wp.seq _ (rvalid_wp ..) fun _ _ => Wp.ite (fun _ => .some trivial) fun _ => Wp.seq _ (rvalid_wp ..) fun _ _ => .some trivial
theorem wrong_wp (N : Nat) (x : rRow.den) (T : rTable.den) (E : List rEnum.den) : Wp (M.ref12_wrong N x T E) fun _ => True := by
  unfold M.ref12_wrong
  refine Wp.seq (fun _ => True) ?_ fun j _ => Wp.ite (fun _ => .some trivial) fun _ => Wp.seq (fun _ => True) ?_ fun _ _ => .some trivial
  · refine Wp.seq _ (rvalid_wp ..) fun _ _ => Wp.ite (fun _ => .some trivial) fun _ => Wp.ite (fun _ => .some trivial) fun _ => .some trivial
  · refine Wp.seq _ (in_wp ..) fun _ _ => Wp.ite (fun _ => .some trivial) fun _ => Wp.seq _ (in_wp ..) fun _ _ => Wp.ite (fun _ => .some trivial) fun _ => Wp.seq _ (in_wp ..) fun _ _ => .some trivial
theorem validate_wp (T : rTable.den) (E : List rEnum.den) : Wp (M.ref12_Validate big T E) fun _ => True := by
  unfold M.ref12_Validate
  refine Wp.dec (fun _ => .some trivial) fun hl => ?_
  simp only [valid_ref, Option.bind_some, ite_some]
  refine Wp.ite (fun _ => .some trivial) fun _ => ?_
  refine Wp.loop (fun q : Int => ∃ k : Nat, q = k ∧ k ≤ T.2.2.2.length) (fun q => (T.2.2.2.length - q).toNat) ⟨0, rfl, Nat.zero_le _⟩ (by unfold big; omega) ?_
  rintro _ ⟨k, rfl, hk⟩
  refine Wp.dec (fun h => ?_) fun _ => .some trivial
  have hk' : k < T.2.2.2.length := by omega
  rw [idx_nat hk', wrap_succ (by omega)]
  simp only [Option.bind_some]
  refine Wp.join (Wp.seq _ (wrong_wp ..) fun y _ => Wp.ite (fun _ => .some trivial) fun _ => ?_)
  refine Wp.loop (fun q : Int => ∃ i : Nat, q = i ∧ i ≤ k) (fun q => (k - q).toNat) ⟨0, rfl, Nat.zero_le _⟩ (by unfold big; omega) ?_
  rintro _ ⟨i, rfl, hi⟩
  refine Wp.dec (fun h => ?_) fun _ => .some ?_
  · rw [idx_nat (show i < T.2.2.2.length by omega), wrap_succ (by omega)]
    simp only [Option.bind_some]
    refine Wp.seq _ (conflict_wp ..) fun y _ => .some ?_
    split
    · exact trivial
    · exact ⟨⟨i + 1, rfl, by omega⟩, by simp only; omega⟩
  · exact .some ⟨⟨k + 1, rfl, hk'⟩, by simp only; omega⟩
end L
end Go.Proofs.YtomgmnkalommeaaGreatDoor
