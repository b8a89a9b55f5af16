/- Literals, and operations that do not ask the environment (plain laws). -/
import Derived.Test.YtpgggmcpflgniaaDoorPQ3
namespace Go.Proofs.YtpgggmcpflgniaaDoor
open Go Go.RowKit
set_option maxRecDepth 100000
namespace L

theorem pisJump_eq (N : Nat) (op : Int) : M.peephole_isJump N op = some (decide (50 ≤ op ∧ op ≤ 53)) := by
  unfold M.peephole_isJump
  by_cases h : 50 ≤ op <;> simp [h]

/-- No environment. -/
def e0 : rEnv.den := ((0, [], [], [], [], []) : Int × List Vl × List Vl × List (List Vl) × List Ty × List rTable.den)
theorem e0_ok : EnvOK e0 := ⟨by decide, fun t h => by cases h⟩

theorem ap_args {n : Ty} {args : List Vl} {env : rEnv.den} (he : EnvOK env) (hn : WF rNode n) (hl : args.length ≤ 100000) : Wp (M.eval_Apply big n args env) fun r => r.2 = 0 → (args.length : Int) = ar n.1 ∧ ∀ v ∈ args, Plaus v.1 v.2.1 v.2.2 := by
  obtain ⟨op, m⟩ := n
  have hm := hn.2
  unfold M.eval_Apply
  refine Wp.seq (fun j => j = false → Fm op m ∧ (args.length : Int) = ar op) ?_ fun j hj => ?_
  · refine Wp.seq _ (formed_wp ..) fun y hy => ?_
    refine Wp.ite (fun _ => .some fun h => by cases h) fun hc => ?_
    rw [arity_eq]
    exact .some fun h => ⟨hy (by simpa using hc), by simpa using h⟩
  refine Wp.ite (fun _ => .some fun h => absurd h (by decide)) fun hc => ?_
  obtain ⟨hf, ha⟩ := hj (by simpa using hc)
  refine Wp.seq _ (exists_wp ..) fun y hy => ?_
  refine Wp.ite (fun _ => .some fun h => absurd h (by decide)) fun hc2 => ?_
  have hx := hy (by simpa using hc2)
  have h34 : op = 34 → 0 ≤ IntKind.i64.wrap (Int.tdiv m 8) := fun e => by
    have h0 := (hf.2.2.1 e).1
    have h1 : (m : Int) ≤ 9223372036854775807 := hm.2
    rw [Int.tdiv_eq_ediv_of_nonneg h0]
    dsimp only [rInt, Row.den] at h0 h1 ⊢
    rw [wrap_id (by omega) (by omega)]
    omega
  refine Wp.seq (fun j => j = false → Aws op m env ∧ ∀ v ∈ args, Plaus v.1 v.2.1 v.2.2) ?_ fun j5 hj5 => ?_
  · refine Wp.seq _ (allPl_wp _ hl (by unfold big; omega)) fun y hy => ?_
    refine Wp.ite (fun _ => .some fun h => by cases h) fun hc => ?_
    exact Wp.seq _ (allowed_wp hx ha h34) fun z hz => .some fun h => ⟨hz (by simpa using h), hy (by simpa using hc)⟩
  refine Wp.ite (fun _ => .some fun h => absurd h (by decide)) fun hc3 => ?_
  obtain ⟨haw, hpl⟩ := hj5 (by simpa using hc3)
  refine Wp.seq _ (compute_wp he hf hx ha haw h34) fun r hr => ?_
  refine Wp.ndec (fun _ => .some fun _ => ⟨ha, hpl⟩) fun _ => ?_
  rw [plausible_eq]
  simp only [Option.bind_some]
  exact Wp.ndec (fun _ => .some fun _ => ⟨ha, hpl⟩) fun hp => .some fun _ => ⟨ha, hpl⟩

/-- A look into a table that is not there. -/
theorem ap_look {op m : Int} (h : op = 33 ∨ op = 34) (hm : m ≤ 9223372036854775807) (args : List Vl) : Wp (M.eval_Apply big ((op, m) : Int × Int) args e0) fun r => r.2 ≠ 0 := by
  unfold M.eval_Apply
  refine Wp.seq (fun j => j = false → Fm op m) ?_ fun j hj => ?_
  · refine Wp.seq _ (formed_wp ..) fun y hy => ?_
    refine Wp.ite (fun _ => .some fun h => by cases h) fun hc => ?_
    rw [arity_eq]
    exact .some fun _ => hy (by simpa using hc)
  refine Wp.ite (fun _ => .some (by decide)) fun hc => ?_
  have hf := hj (by simpa using hc)
  have he : M.eval_exists big ((op, m) : Int × Int) e0 = some false := by
    unfold M.eval_exists
    rcases h with rfl | rfl
    · by_cases h0 : 0 ≤ m
      · simp [e0, h0]
        exact decide_eq_false (Int.not_lt.2 h0)
      · simp [h0]
    · have h0 := (hf.2.2.1 rfl).1
      have hw : IntKind.i64.wrap (Int.tdiv m 8) = m / 8 := by
        rw [Int.tdiv_eq_ediv_of_nonneg h0, wrap_id (by omega) (by omega)]
      simp [e0, hw]
      omega
  rw [he]
  simp only [Option.bind_some, Bool.not_false, if_true]
  exact .some (by decide)

theorem ap_env {n : Ty} (hn : WF rNode n) (h1 : 1 ≤ ar n.1) {args : List Vl} (h0 : (apE e0 n args).2 = 0) (env : rEnv.den) : apE env n args = apE e0 n args := by
  obtain ⟨(op : Int), (m : Int)⟩ := n
  by_cases h : op = 33 ∨ op = 34
  · obtain ⟨r, hr, hne⟩ := ap_look h hn.2.2 args
    unfold apE at h0
    rw [hr] at h0
    exact absurd h0 hne
  · have ha : 10 ≤ op ∧ op ≤ 32 := by
      revert h1
      show 1 ≤ ar op → _
      unfold ar
      intro h1
      split at h1
      · omega
      · omega
    have ne : ∀ k : Int, (k ≤ 9 ∨ 33 ≤ k) → decide (op = k) = false := fun k hk => decide_eq_false (by omega)
    have e : M.eval_Apply big ((op, m) : Int × Int) args env = M.eval_Apply big ((op, m) : Int × Int) args e0 := by
      unfold M.eval_Apply M.eval_exists M.eval_allowed M.eval_compute
      simp only [ne 1 (by omega), ne 2 (by omega), ne 3 (by omega), ne 4 (by omega), ne 5 (by omega), ne 6 (by omega), ne 7 (by omega), ne 8 (by omega), ne 9 (by omega), ne 33 (by omega), ne 34 (by omega), ne 35 (by omega), ne 36 (by omega), ne 37 (by omega), ne 38 (by omega), ne 39 (by omega), Bool.false_eq_true, if_false, Option.bind_some]
    unfold apE
    exact congrArg (fun x => x.getD (z3, 0)) e

/-! ## Literals -/
def litV (n : Ty) : Option Vl :=
  if 1 ≤ (n.1 : Int) ∧ (n.1 : Int) ≤ 5 then some ((n.1, 0, n.2) : Int × Int × Int) else if (n.1 : Int) = 6 ∧ 0 ≤ (n.2 : Int) ∧ (n.2 : Int) < 128 then some ((6, (n.2 : Int) / 16, (n.2 : Int) % 16) : Int × Int × Int) else none
def litN (v : Vl) : Ty := if 1 ≤ (v.1 : Int) ∧ (v.1 : Int) ≤ 5 then ((v.1, v.2.2) : Int × Int) else ((6, 16 * (v.2.1 : Int) + v.2.2) : Int × Int)

theorem literalValue_eq (N : Nat) (n : Ty) : M.peephole_literalValue N n = some (match litV n with
    | some v => (v, true)
    | none => (z3, false)) := by
  obtain ⟨(op : Int), (m : Int)⟩ := n
  unfold M.peephole_literalValue litV Join
  dsimp only [rInt, Row.den]
  by_cases h1 : op = 1
  · subst h1; simp
  by_cases h2 : op = 2
  · subst h2; simp
  by_cases h3 : op = 3
  · subst h3; simp
  by_cases h4 : op = 4
  · subst h4; simp
  by_cases h5 : op = 5
  · subst h5; simp
  rw [if_neg (show ¬ (1 ≤ op ∧ op ≤ 5) by omega)]
  by_cases h6 : op = 6
  · subst h6
    by_cases h7 : 0 ≤ m
    · by_cases h8 : m < 128
      · have w : IntKind.i64.wrap (Int.tdiv m 16) = m / 16 := by rw [Int.tdiv_eq_ediv_of_nonneg h7, wrap_id (by omega) (by omega)]
        have w2 : Int.tmod m 16 = m % 16 := Int.tmod_eq_emod_of_nonneg h7
        simp [h7, h8, w, w2]
      · simp [h7, h8, z3]
    · simp [h7, z3]
  · simp [h1, h2, h3, h4, h5, h6, z3]

theorem plaus_cases {k e n : Int} (h : Plaus k e n) : ((1 ≤ k ∧ k ≤ 5) ∧ e = 0 ∧ -1000000000000000 ≤ n ∧ n ≤ 1000000000000000) ∨ (k = 6 ∧ 0 ≤ e ∧ e ≤ 7 ∧ 0 ≤ n ∧ n ≤ 15) := by
  unfold Plaus at h
  omega

theorem literalFor_eq (N : Nat) {v : Vl} (hp : Plaus v.1 v.2.1 v.2.2) : M.peephole_literalFor N v = some (litN v) := by
  obtain ⟨(k : Int), (e : Int), (n : Int)⟩ := v
  unfold M.peephole_literalFor litN
  dsimp only [rInt, Row.den] at *
  by_cases h1 : k = 1
  · subst h1; simp
  by_cases h2 : k = 2
  · subst h2; simp
  by_cases h3 : k = 3
  · subst h3; simp
  by_cases h4 : k = 4
  · subst h4; simp
  by_cases h5 : k = 5
  · subst h5; simp
  rcases plaus_cases hp with h | ⟨h6, h7, h8, h9, h10⟩
  · omega
  · have w1 : IntKind.i64.wrap (16 * e) = 16 * e := wrap_id (by omega) (by omega)
    have w2 : IntKind.i64.wrap (16 * e + n) = 16 * e + n := wrap_id (by omega) (by omega)
    rw [if_neg (show ¬ (1 ≤ k ∧ k ≤ 5) by omega)]
    simp [h1, h2, h3, h4, h5, w1, w2]

theorem litV_lit {n : Ty} {v : Vl} (h : litV n = some v) : ¬ jop n ∧ ar n.1 = 0 ∧ ¬ isLazy n.1 := by
  obtain ⟨(op : Int), (m : Int)⟩ := n
  have : 1 ≤ op ∧ op ≤ 6 := by
    unfold litV at h
    dsimp only [rInt, Row.den] at h
    split at h
    · omega
    · split at h
      · omega
      · cases h
  refine ⟨?_, ?_, ?_⟩
  · show ¬ (50 ≤ op ∧ op ≤ 53); omega
  · show ar op = 0
    unfold ar; rw [if_pos (by omega)]
  · show ¬ (op = 23 ∨ op = 24 ∨ op = 26); omega

theorem litN_ok {v : Vl} (hp : Plaus v.1 v.2.1 v.2.2) : litV (litN v) = some v ∧ WF rNode (litN v) := by
  obtain ⟨(k : Int), (e : Int), (n : Int)⟩ := v
  dsimp only [rInt, Row.den] at hp
  rcases plaus_cases hp with ⟨h1, rfl, h3, h4⟩ | ⟨rfl, h7, h8, h9, h10⟩
  · have e1 : litN ((k, 0, n) : Int × Int × Int) = ((k, n) : Int × Int) := by unfold litN; dsimp only [rInt, Row.den]; rw [if_pos h1]
    rw [e1]
    refine ⟨by unfold litV; dsimp only [rInt, Row.den]; rw [if_pos h1], ⟨?_, ?_⟩, ?_, ?_⟩
    · show (-9223372036854775808 : Int) ≤ k; omega
    · show k ≤ (9223372036854775807 : Int); omega
    · show (-9223372036854775808 : Int) ≤ n; omega
    · show n ≤ (9223372036854775807 : Int); omega
  · have e1 : litN ((6, e, n) : Int × Int × Int) = ((6, 16 * e + n) : Int × Int) := by unfold litN; dsimp only [rInt, Row.den]; rw [if_neg (by decide)]
    rw [e1]
    refine ⟨?_, ⟨?_, ?_⟩, ?_, ?_⟩
    · unfold litV
      dsimp only [rInt, Row.den]
      rw [if_neg (by decide), if_pos ⟨rfl, by omega, by omega⟩, show (16 * e + n) / 16 = e by omega, show (16 * e + n) % 16 = n by omega]
    · show (-9223372036854775808 : Int) ≤ 6; decide
    · show (6 : Int) ≤ 9223372036854775807; decide
    · show (-9223372036854775808 : Int) ≤ 16 * e + n; omega
    · show 16 * e + n ≤ (9223372036854775807 : Int); omega

theorem lit_ap0 {op m : Int} (hop : op = 1 ∨ op = 2 ∨ op = 3 ∨ op = 4 ∨ op = 5 ∨ op = 6) (h6 : op = 6 → 0 ≤ m ∧ m < 128) {v : Vl} (hv : litV ((op, m) : Int × Int) = some v) (hp : Plaus v.1 v.2.1 v.2.2) (env : rEnv.den) : M.eval_Apply big ((op, m) : Int × Int) [] env = some (v, 0) := by
  have ha : ar op = 0 := by unfold ar; rw [if_pos (by omega)]
  have ne : ∀ k : Int, 7 ≤ k → decide (op = k) = false := fun k hk => decide_eq_false (by omega)
  have hu : M.expr_UsesN big op = some true := by
    rcases hop with rfl | rfl | rfl | rfl | rfl | rfl <;> (show (_ : Option Bool) = _; kernel_rfl)
  have hwf : M.eval_wellFormed big ((op, m) : Int × Int) = some true := by
    unfold M.eval_wellFormed
    simp only [arity_eq, ha, hu, ne 14 (by omega), ne 15 (by omega), ne 16 (by omega), ne 34 (by omega), Option.bind_some, Bool.false_eq_true, if_false]
    by_cases hm : m = 0 <;> by_cases h : op = 6 <;> simp [hm, h]
    exact (h6 h).1
  have hex : M.eval_exists big ((op, m) : Int × Int) env = some true := by
    unfold M.eval_exists
    simp only [ne 7 (by omega), ne 8 (by omega), ne 33 (by omega), ne 34 (by omega), ne 36 (by omega), ne 37 (by omega), ne 38 (by omega), ne 39 (by omega), Option.bind_some, Bool.false_eq_true, if_false]
  have hpl : M.eval_allPlausible big [] = some true := by
    apply Wp.eq
    unfold M.eval_allPlausible
    refine Wp.loop (fun s => s = 0) (fun _ => 0) rfl (by unfold big; omega) ?_
    rintro _ rfl
    exact Wp.dec (fun h => absurd h (by simp)) fun _ => .some rfl
  have hal : M.eval_allowed big ((op, m) : Int × Int) [] env = some true := by
    unfold M.eval_allowed
    simp only [ne 7 (by omega), ne 8 (by omega), ne 33 (by omega), ne 34 (by omega), ne 36 (by omega), ne 37 (by omega), ne 38 (by omega), ne 39 (by omega), Option.bind_some, Bool.false_eq_true, if_false]
    simp
  have hco : M.eval_compute big ((op, m) : Int × Int) [] env = some (v, 0) := by
    unfold M.eval_compute
    unfold litV at hv
    dsimp only [rInt, Row.den] at hv ⊢
    by_cases h : op = 6
    · subst h
      obtain ⟨m1, m2⟩ := h6 rfl
      rw [if_neg (by decide), if_pos ⟨rfl, m1, m2⟩] at hv
      obtain rfl := Option.some.inj hv
      have w : IntKind.i64.wrap (Int.tdiv m 16) = m / 16 := by rw [Int.tdiv_eq_ediv_of_nonneg m1, wrap_id (by omega) (by omega)]
      have w2 : Int.tmod m 16 = m % 16 := Int.tmod_eq_emod_of_nonneg m1
      simp [w, w2]
    · rw [if_pos (by omega)] at hv
      obtain rfl := Option.some.inj hv
      rcases hop with rfl | rfl | rfl | rfl | rfl | rfl
      · simp
      · simp
      · simp
      · simp
      · simp
      · exact absurd rfl h
  unfold M.eval_Apply
  simp only [hwf, arity_eq, ha, hex, hpl, hal, hco, Option.bind_some, plausible_eq, decide_eq_true hp]
  simp

theorem lit_ap {n : Ty} {v : Vl} (hv : litV n = some v) (hp : Plaus v.1 v.2.1 v.2.2) (env : rEnv.den) : apE env n [] = (v, 0) := by
  obtain ⟨(op : Int), (m : Int)⟩ := n
  have h : (op = 1 ∨ op = 2 ∨ op = 3 ∨ op = 4 ∨ op = 5 ∨ op = 6) ∧ (op = 6 → 0 ≤ m ∧ m < 128) := by
    have hv' := hv
    unfold litV at hv'
    dsimp only [rInt, Row.den] at hv'
    split at hv'
    · omega
    · split at hv'
      · omega
      · cases hv'
  unfold apE
  rw [lit_ap0 h.1 h.2 hv hp env]
  rfl
end L
end Go.Proofs.YtpgggmcpflgniaaDoor
