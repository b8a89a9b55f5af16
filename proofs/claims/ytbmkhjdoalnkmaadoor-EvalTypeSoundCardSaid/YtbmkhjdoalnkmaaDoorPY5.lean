/- Apply with typed operands (plain laws). -/
import Derived.Test.YtbmkhjdoalnkmaaDoorPY3
namespace Go.Proofs.YtbmkhjdoalnkmaaDoor
open Go Go.RowKit
set_option maxRecDepth 100000
namespace L

/-- An environment agrees with a signature. -/
structure Agr (s : Sg) (env : rEnv.den) : Prop where
  inp : ∀ (k : Nat) (t : Ty), s.2.2.1[k]? = some t → ∃ v, env.2.1[k]? = some v ∧ HasT v t
  dfs : ∀ (k : Nat) (t : Ty), s.2.2.2.1[k]? = some t → ∃ v, env.2.2.1[k]? = some v ∧ (HasT v t ∨ (v.1 : Int) = 0)
  mts : ∀ (k : Nat) (t : Ty), s.2.2.2.2.1[k]? = some t → env.2.2.2.2.1[k]? = some t
  mem : ∀ l ∈ env.2.2.2.1, ∀ (k : Nat) (t : Ty), s.2.2.2.2.1[k]? = some t → ∃ v, l[k]? = some v ∧ (HasT v t ∨ (v.1 : Int) = 0)
  tbs : ∀ (k : Nat) (T : rTable.den), s.2.1[k]? = some T → ∃ T' : rTable.den, env.2.2.2.2.2[k]? = some T' ∧ T'.2.1 = T.2.1 ∧ T'.2.2.1 = T.2.2.1

def TyOK (t : Ty) (r : Vl × Int) : Prop := C3 r.2 ∧ (r.2 = 0 → HasT r.1 t)

theorem allPl_true {l : List Vl} (hl : l.length ≤ 100000) (h : ∀ v ∈ l, Plaus v.1 v.2.1 v.2.2) : M.eval_allPlausible big l = some true := by
  apply Wp.eq
  unfold M.eval_allPlausible
  refine Wp.loop (fun s : Int => ∃ i : Nat, s = i ∧ i ≤ l.length) (fun s => (l.length - s).toNat) ⟨0, rfl, Nat.zero_le _⟩ (by unfold big; omega) ?_
  rintro _ ⟨i, rfl, hi⟩
  refine Wp.dec (fun hlt => ?_) fun _ => .some rfl
  have hi' : i < l.length := by omega
  rw [idx_nat hi']
  simp only [Option.bind_some, plausible_eq]
  rw [decide_eq_true (h _ (List.getElem_mem hi'))]
  simp only [Bool.not_true, Bool.false_eq_true, if_false]
  rw [wrap_succ (by omega)]
  exact .some ⟨⟨i + 1, rfl, hi'⟩, by simp only; omega⟩
theorem formed_true {op m : Int} (h0 : 0 ≤ ar op) (hu : m = 0 ∨ us op) (h14 : op = 14 ∨ op = 15 ∨ op = 16 → 0 ≤ m ∧ m ≤ 5) (h34 : op = 34 → 0 ≤ m ∧ Int.tmod m 8 ≤ 5) (h6 : op = 6 → 0 ≤ m) : M.eval_wellFormed big (op, m) = some true := by
  apply Wp.eq
  unfold M.eval_wellFormed
  dsimp only [rInt, Row.den]
  rw [arity_eq, or3c]
  simp only [Option.bind_some, ite_some, and_b]
  refine Wp.seq (· = false) ?_ fun j hj => ?_
  · refine Wp.dec (fun h => by omega) fun _ => ?_
    refine Wp.ndec (fun h => Wp.seq _ (uses_wp ..) fun y hy => .some ?_) fun _ => .some rfl
    have : y = true := hy.2 (hu.resolve_left h)
    rw [this]; rfl
  · subst hj
    simp only [Bool.false_eq_true, if_false]
    refine .some ?_
    by_cases c14 : op = 14 ∨ op = 15 ∨ op = 16
    · have := h14 c14
      rw [if_pos (by simpa using c14)]; simpa using this
    rw [if_neg (by simpa using c14)]
    by_cases c34 : op = 34
    · have := h34 c34
      rw [if_pos (by simpa using c34)]; simpa using this
    rw [if_neg (by simpa using c34)]
    by_cases c6 : op = 6
    · have := h6 c6
      rw [if_pos (by simpa using c6)]; simpa using this
    rw [if_neg (by simpa using c6)]

theorem Ap_sk {op m : Int} {args : List Vl} {env : rEnv.den} {t : Ty} (hwf : M.eval_wellFormed big (op, m) = some true) (ha : (args.length : Int) = ar op) (hpl : ∀ v ∈ args, Plaus v.1 v.2.1 v.2.2) (hx : Wp (M.eval_exists big (op, m) env) fun x => x = true → Wp (M.eval_allowed big (op, m) args env) (· = true) ∧ Wp (M.eval_compute big (op, m) args env) (CpOK t)) : Wp (M.eval_Apply big (op, m) args env) (TyOK t) := by
  have har := ar_le op
  unfold M.eval_Apply
  dsimp only [rInt, Row.den]
  rw [hwf]
  simp only [Option.bind_some, arity_eq, Bool.not_true, Bool.false_eq_true, if_false]
  rw [decide_eq_true ha]
  simp only [Bool.not_true, Bool.false_eq_true, if_false]
  refine Wp.seq _ hx fun x hx => ?_
  refine Wp.ite (fun _ => .some ⟨.inr (.inr (.inl rfl)), fun h => by cases h⟩) fun hc => ?_
  obtain ⟨h1, h2⟩ := hx (by simpa using hc)
  rw [allPl_true (by omega) hpl, Wp.eq h1]
  simp only [Option.bind_some, Bool.not_true, Bool.false_eq_true, if_false]
  refine Wp.seq _ h2 fun y hy => ?_
  refine Wp.ndec (fun h => .some ⟨hy.1, fun g => absurd g h⟩) fun h => ?_
  rw [plausible_eq]
  simp only [Option.bind_some]
  exact Wp.ndec (fun _ => .some ⟨.inr (.inl rfl), fun h => by cases h⟩) fun hp => .some ⟨.inl rfl, fun _ => ⟨hp, hy.2 h⟩⟩

theorem allowed0 {N : Nat} {op m : Int} {env : rEnv.den} (h1 : ¬ op = 7) (h2 : ¬ op = 8) (h3 : ¬ op = 33) (h4 : ¬ op = 34) (h5 : ¬ (op = 36 ∨ op = 37 ∨ op = 38 ∨ op = 39)) : M.eval_allowed N (op, m) [] env = some true := by
  unfold M.eval_allowed
  dsimp only [rInt, Row.den]
  rw [or4c, decide_eq_false h1, decide_eq_false h2, decide_eq_false h3, decide_eq_false h4, decide_eq_false h5]
  rfl
theorem idx_of {α : Type} {l : List α} {k : Nat} {x : α} (h : l[k]? = some x) : idx l (k : Int) = some x := by
  obtain ⟨hk, rfl⟩ := List.getElem?_eq_some_iff.1 h
  exact idx_nat hk
theorem mfold_c3 {op : Int} {t : Ty} {j : Nat} : {ms : List (List Vl)} → (∀ l ∈ ms, ∃ v, l[j]? = some v ∧ (HasT v t ∨ (v.1 : Int) = 0)) → {first : Bool} → {acc c : Int} → mfold op t j ms first acc = .inr c → c = 3 ∨ c = 6
  | [], _, _, _, _, h => by cases h
  | l :: ms, hv, first, acc, c, h => by
    obtain ⟨v, h1, h2⟩ := hv l (List.mem_cons_self ..)
    rw [mfold, h1] at h
    simp only at h
    split at h
    · cases h; exact .inr rfl
    · rename_i hn
      rw [if_pos (h2.resolve_right hn)] at h
      split at h
      · exact mfold_c3 (fun l hl => hv l (List.mem_cons_of_mem _ hl)) h
      · cases h; exact .inl rfl
theorem mres_ty {op : Int} {t : Ty} {j : Nat} {ms : List (List Vl)} (h : ∀ l ∈ ms, ∃ v, l[j]? = some v ∧ (HasT v t ∨ (v.1 : Int) = 0)) (ht : (t.2 : Int) = 0) : CpOK t (mres op t j ms) := by
  unfold mres
  split
  · exact ⟨.inr (.inr (.inl rfl)), fun g => by cases g⟩
  · split
    · exact ⟨.inl rfl, fun _ => ⟨rfl, ht.symm⟩⟩
    · rename_i c hc
      have := mfold_c3 h hc
      refine ⟨?_, fun g => ?_⟩
      · show C3 c
        unfold C3; omega
      · exact absurd g (by show ¬ c = 0; omega)

theorem Apply_ty {op m : Int} {ts : List Ty} {s : Sg} {t : Ty} {args : List Vl} {env : rEnv.den} (he : EnvOK env) (ag : Agr s env) (nt : NT op m ts s t) (h0 : 0 ≤ ar op) (hu : m = 0 ∨ us op) (hl : (ts.length : Int) = ar op) (ha : Args args ts) : Wp (M.eval_Apply big (op, m) args env) (TyOK t) := by
  have hal : (args.length : Int) = ar op := by rw [ha.len]; exact hl
  have c0 : C3 0 := .inl rfl
  have no : ar op = 0 → args = [] := fun h => List.length_eq_zero_iff.1 (by omega)
  have wf : ∀ (_ : op = 14 ∨ op = 15 ∨ op = 16 → 0 ≤ m ∧ m ≤ 5) (_ : op = 34 → 0 ≤ m ∧ Int.tmod m 8 ≤ 5) (_ : op = 6 → 0 ≤ m), M.eval_wellFormed big (op, m) = some true := fun a b c => formed_true h0 hu a b c
  have ex : ∀ Q : Prop, (Exs op m env → Q) → Wp (M.eval_exists big (op, m) env) fun x => x = true → Q := fun Q h => (exists_wp big op m env).mono fun x hx g => h (hx g)
  rcases nt with ⟨ho, rfl⟩ | ⟨ho, hm, rfl⟩ | ⟨ho, hL⟩ | ⟨ho, hL⟩ | ⟨ho, rfl⟩ | ⟨ho, a, rfl, hT⟩ | ⟨ho, rfl⟩ | ⟨ho, hL, hk1, hk2, hk3⟩ | ⟨hm, hR⟩
  · obtain rfl := no (by unfold ar; rw [if_pos (by omega)])
    refine Ap_sk (wf (by omega) (by omega) (by omega)) hal ha.pl (ex _ fun _ => ⟨?_, ?_⟩)
    · rw [allowed0 (by omega) (by omega) (by omega) (by omega) (by omega)]; exact .some rfl
    · unfold M.eval_compute
      dsimp only [rInt, Row.den]
      rw [or5c op 1 2 3 4 5]
      simp only [Option.bind_some]
      exact Wp.dec (fun _ => .some ⟨c0, fun _ => ⟨rfl, rfl⟩⟩) fun h => by omega
  · subst ho
    obtain rfl := no rfl
    refine Ap_sk (wf (by omega) (by omega) (fun _ => hm)) hal ha.pl (ex _ fun _ => ⟨?_, ?_⟩)
    · rw [allowed0 (by omega) (by omega) (by omega) (by omega) (by omega)]; exact .some rfl
    · exact .of (x := (((6 : Int), (IntKind.i64.wrap (Int.tdiv m 16), Int.tmod m 16)), (0 : Int))) rfl ⟨c0, fun _ => ⟨rfl, rfl⟩⟩
  · subst ho
    obtain rfl := no rfl
    obtain ⟨k, rfl, h1, _⟩ := hL
    obtain ⟨v, h2, h3⟩ := ag.inp k t h1
    refine Ap_sk (wf (by omega) (by omega) (by omega)) hal ha.pl (ex _ fun _ => ⟨?_, ?_⟩)
    · show Wp ((idx env.2.1 (k : Int)).bind fun x1 => (M.eval_plausible big x1).bind fun y2 => some y2) _
      rw [idx_of h2]
      simp only [Option.bind_some, plausible_eq]
      exact .some (decide_eq_true h3.1)
    · show Wp ((idx env.2.1 (k : Int)).bind fun x2 => some (x2, (0 : Int))) _
      rw [idx_of h2]
      exact .some ⟨c0, fun _ => h3.2⟩
  · subst ho
    obtain rfl := no rfl
    obtain ⟨k, rfl, h1, _⟩ := hL
    obtain ⟨v, h2, h3⟩ := ag.dfs k t h1
    have hk : k < env.2.2.1.length := (List.getElem?_eq_some_iff.1 h2).1
    refine Ap_sk (wf (by omega) (by omega) (by omega)) hal ha.pl ?_
    refine Wp.of (x := !decide ((v.1 : Int) = 0)) ?_ fun hx => ?_
    · unfold M.eval_exists
      dsimp only [rInt, Row.den]
      rw [idx_of h2]
      simp [hk]
    have h3 := h3.resolve_right (by simpa using hx)
    refine ⟨?_, ?_⟩
    · show Wp ((idx env.2.2.1 (k : Int)).bind fun x1 => (M.eval_plausible big x1).bind fun y2 => some y2) _
      rw [idx_of h2]
      simp only [Option.bind_some, plausible_eq]
      exact .some (decide_eq_true h3.1)
    · show Wp ((idx env.2.2.1 (k : Int)).bind fun x2 => some (x2, (0 : Int))) _
      rw [idx_of h2]
      exact .some ⟨c0, fun _ => h3.2⟩
  · subst ho
    obtain rfl := no rfl
    refine Ap_sk (wf (by omega) (by omega) (by omega)) hal ha.pl (ex _ fun _ => ⟨?_, ?_⟩)
    · rw [allowed0 (by omega) (by omega) (by omega) (by omega) (by omega)]; exact .some rfl
    · exact .of (x := (((5 : Int), ((0 : Int), env.1)), (0 : Int))) rfl ⟨c0, fun _ => ⟨rfl, rfl⟩⟩
  · obtain ⟨v, rfl, hv⟩ := args1 ha
    obtain ⟨k, T, h1, v1, v2, rfl, h3⟩ := hT
    obtain ⟨T', g1, g2, g3⟩ := ag.tbs k T h1
    have hTl := he.2 T' (List.mem_of_getElem? g1)
    rcases h3 with ⟨rfl, m0, m1, m2, hw, k1, k2, rfl⟩ | ⟨hne, rfl, rfl⟩
    · have key : T'.2.1 = ((3, 0) : Int × Int) := by
        rw [g2]; refine Prod.ext k1 ?_
        unfold VTp at v1
        rw [k1] at v1
        rcases v1 with h | h
        · exact h.2.2
        · exact absurd h.1 (by decide)
      have val : T'.2.2.1 = ((4, 0) : Int × Int) := by
        rw [g3]; refine Prod.ext k2 ?_
        unfold VTp at v2
        rw [k2] at v2
        rcases v2 with h | h
        · exact h.2.2
        · exact absurd h.1 (by decide)
      refine Ap_sk (wf (by omega) (fun _ => ⟨m0, m2⟩) (by omega)) hal ha.pl (ex _ fun _ => ⟨?_, ?_⟩)
      · unfold M.eval_allowed
        dsimp only [rInt, Row.den]
        rw [hw, idx_of g1]
        simp only [Option.bind_some, idx0]
        rw [key, val, show (v.1 : Int) = 3 from hv.2.1.trans k1]
        exact .of (x := true) rfl rfl
      · unfold M.eval_compute
        dsimp only [rInt, Row.den]
        rw [hw, idx_of g1]
        simp only [Option.bind_some, idx0]
        show Wp ((M.table_Brackets big T' env.1 v.2.2 (Int.tmod m 8)).bind fun y12 => some (((3 : Int), ((0 : Int), y12.1)), y12.2)) _
        refine Wp.seq _ (Brackets_wp ⟨m1, m2⟩ key val hTl) fun r hr => .some ⟨hr.c3, fun _ => ?_⟩
        rw [← g2, key]
        exact ⟨rfl, rfl⟩
    · obtain rfl : op = 33 := by omega
      refine Ap_sk (wf (by omega) (by omega) (by omega)) hal ha.pl (ex _ fun _ => ⟨?_, ?_⟩)
      · unfold M.eval_allowed
        dsimp only [rInt, Row.den]
        rw [idx_of g1]
        simp only [Option.bind_some, idx0, hasType_eq]
        rw [g2, g3, decide_eq_true hv]
        unfold VTp at v2
        refine .of (x := true) ?_ rfl
        have a1 : (1 : Int) ≤ T.2.2.1.1 := by rcases v2 with h | h; exact h.1; rw [h.1]; decide
        have a2 : (T.2.2.1.1 : Int) ≤ 6 := by rcases v2 with h | h; exact Int.le_trans h.2.1 (by decide); rw [h.1]; decide
        simp [a1, a2]
      · unfold M.eval_compute
        dsimp only [rInt, Row.den]
        rw [idx_of g1]
        simp only [Option.bind_some, idx0]
        show Wp ((M.table_Lookup big T' env.1 v.2.2).bind fun y8 => if (!y8.2) = true then some (((0 : Int), ((0 : Int), (0 : Int))), (6 : Int)) else (idx T'.2.2.2 y8.1).bind fun x9 => some ((T'.2.2.1.1, (T'.2.2.1.2, x9.2.2.2)), (0 : Int))) _
        refine Wp.seq _ (Lookup_wp _ _ _ hTl) fun r hr => ?_
        refine Wp.ite (fun _ => .some ⟨.inr (.inr (.inl rfl)), fun g => by cases g⟩) fun hc => ?_
        obtain ⟨a, b⟩ := hr (by simpa using hc)
        refine Wp.bind (Wp.idxI a b fun z _ _ => .some ⟨c0, fun _ => ?_⟩)
        rw [← g3]
        exact ⟨rfl, rfl⟩
  · subst ho
    obtain rfl := no rfl
    refine Ap_sk (wf (by omega) (by omega) (by omega)) hal ha.pl (ex _ fun _ => ⟨?_, ?_⟩)
    · rw [allowed0 (by omega) (by omega) (by omega) (by omega) (by omega)]; exact .some rfl
    · exact .of (x := (((2 : Int), ((0 : Int), (env.2.2.2.1.length : Int))), (0 : Int))) rfl ⟨c0, fun _ => ⟨rfl, rfl⟩⟩
  · obtain rfl := no (by rcases ho with h | h | h | h <;> rw [h] <;> rfl)
    obtain ⟨k, rfl, h1, hvt⟩ := hL
    have g1 := ag.mts k t h1
    obtain ⟨hk, hkt⟩ := List.getElem?_eq_some_iff.1 g1
    have t5 : (t.1 : Int) ≠ 6 := by
      intro h6
      rcases ho with h | h | h | h
      · rcases hk1 h with g | g <;> rw [h6] at g <;> exact absurd g (by decide)
      · have g := hk2 (.inl h); rw [h6] at g; exact absurd g (by decide)
      · have g := hk2 (.inr h); rw [h6] at g; exact absurd g (by decide)
      · rcases hk3 h with g | g <;> rw [h6] at g <;> exact absurd g (by decide)
    have t2 : (t.2 : Int) = 0 := by
      unfold VTp at hvt
      rcases hvt with h | h
      · exact h.2.2
      · exact absurd h.1 t5
    have alw : Alw op t := by
      refine ⟨t2, ?_⟩
      rcases ho with rfl | rfl | rfl | rfl
      · rw [if_pos rfl]; exact hk1 rfl
      · rw [if_neg (by decide), if_neg (by decide)]; exact hk2 (.inl rfl)
      · rw [if_neg (by decide), if_neg (by decide)]; exact hk2 (.inr rfl)
      · rw [if_neg (by decide), if_pos rfl]
        rcases hk3 rfl with (g | g | g) | g <;> rw [g] <;> decide
    refine Ap_sk (wf (by omega) (by omega) (by omega)) hal ha.pl (ex _ fun _ => ⟨?_, ?_⟩)
    · unfold M.eval_allowed
      dsimp only [rInt, Row.den]
      rw [or4c, decide_eq_false (show ¬ op = 7 by omega), decide_eq_false (show ¬ op = 8 by omega), decide_eq_false (show ¬ op = 33 by omega), decide_eq_false (show ¬ op = 34 by omega), decide_eq_true ho]
      simp only [Bool.false_eq_true, if_false, if_true, Option.bind_some]
      rw [idx_of g1]
      simp only [Option.bind_some, memberAllowed_eq]
      exact .some (decide_eq_true alw)
    · unfold M.eval_compute
      dsimp only [rInt, Row.den]
      rw [or5c, or4c, decide_eq_false (show ¬ (op = 1 ∨ op = 2 ∨ op = 3 ∨ op = 4 ∨ op = 5) by omega), decide_eq_false (show ¬ op = 6 by omega), decide_eq_false (show ¬ op = 7 by omega), decide_eq_false (show ¬ op = 8 by omega), decide_eq_false (show ¬ op = 9 by omega), decide_eq_false (show ¬ op = 35 by omega), decide_eq_true ho]
      simp only [Bool.false_eq_true, if_false, if_true, Option.bind_some]
      rw [overMembers_eq (by unfold big; omega) ho hk he.1 (by rw [hkt]; exact alw), hkt]
      exact .some (mres_ty (fun l hl => ag.mem l hl k t h1) t2)
  · have hp : Pln op := by
      unfold Pln
      rcases hR with ⟨h, _⟩ | ⟨h, _⟩ | ⟨h, _⟩ | ⟨h, _⟩ | ⟨h, _⟩ | ⟨h, _⟩ | ⟨h, _⟩ | ⟨h, _⟩ | ⟨h, _⟩ | ⟨h, _⟩ | ⟨h, _⟩ | ⟨h, _⟩ | ⟨h, _⟩ | ⟨h, _⟩ | ⟨h, _⟩ <;> omega
    unfold Pln at hp
    exact Ap_sk (wf hm (by omega) (by omega)) hal ha.pl (ex _ fun _ => RT_apply hm hR ha)
end L
end Go.Proofs.YtbmkhjdoalnkmaaDoor
