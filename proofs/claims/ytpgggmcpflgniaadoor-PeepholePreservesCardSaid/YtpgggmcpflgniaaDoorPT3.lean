/- One operation applied comes to an end (plain laws). -/
import Derived.Test.YtpgggmcpflgniaaDoorPT2
namespace Go.Proofs.YtpgggmcpflgniaaDoor
open Go Go.RowKit
set_option maxRecDepth 100000
namespace L

theorem or2c (x a b : Int) : (if decide (x = a) = true then some (decide (x = a)) else some (decide (x = b))) = some (decide (x = a ∨ x = b)) := by
  by_cases h : x = a <;> simp [h]
theorem or3c (x a b c : Int) : (if decide (x = a) = true then some (decide (x = a)) else (if decide (x = b) = true then some (decide (x = b)) else some (decide (x = c)))) = some (decide (x = a ∨ x = b ∨ x = c)) := by
  rw [or2c]
  by_cases h : x = a <;> simp [h]
theorem or4c (x a b c d : Int) : (if decide (x = a) = true then some (decide (x = a)) else (if decide (x = b) = true then some (decide (x = b)) else (if decide (x = c) = true then some (decide (x = c)) else some (decide (x = d))))) = some (decide (x = a ∨ x = b ∨ x = c ∨ x = d)) := by
  rw [or3c]
  by_cases h : x = a <;> simp [h]
theorem or5c (x a b c d e : Int) : (if decide (x = a) = true then some (decide (x = a)) else (if decide (x = b) = true then some (decide (x = b)) else (if decide (x = c) = true then some (decide (x = c)) else (if decide (x = d) = true then some (decide (x = d)) else some (decide (x = e)))))) = some (decide (x = a ∨ x = b ∨ x = c ∨ x = d ∨ x = e)) := by
  rw [or4c]
  by_cases h : x = a <;> simp [h]

theorem Wp.idxI {α : Type} {l : List α} {i : Int} {Q : α → Prop} (h0 : 0 ≤ i) (h1 : i < l.length) (h : ∀ x, x ∈ l → idx l i = Option.some x → Q x) : Wp (idx l i) Q := by
  obtain ⟨k, rfl⟩ : ∃ k : Nat, i = k := ⟨i.toNat, by omega⟩
  have hk : k < l.length := by omega
  exact ⟨_, idx_nat hk, h _ (List.getElem_mem hk) (idx_nat hk)⟩

/-- How many operands. -/
def ar (op : Int) : Int :=
  if (1 ≤ op ∧ op ≤ 9) ∨ (35 ≤ op ∧ op ≤ 39) then 0 else if op = 10 ∨ op = 25 ∨ (31 ≤ op ∧ op ≤ 34) then 1 else if (11 ≤ op ∧ op ≤ 24) ∨ (27 ≤ op ∧ op ≤ 30) then 2 else if op = 26 then 3 else -1
theorem arity_eq (N : Nat) (op : Int) : M.expr_Arity N op = some (ar op) := by
  by_cases h : 1 ≤ op ∧ op ≤ 39
  · have : op = 1 ∨ op = 2 ∨ op = 3 ∨ op = 4 ∨ op = 5 ∨ op = 6 ∨ op = 7 ∨ op = 8 ∨ op = 9 ∨ op = 10 ∨ op = 11 ∨ op = 12 ∨ op = 13 ∨ op = 14 ∨ op = 15 ∨ op = 16 ∨ op = 17 ∨ op = 18 ∨ op = 19 ∨ op = 20 ∨ op = 21 ∨ op = 22 ∨ op = 23 ∨ op = 24 ∨ op = 25 ∨ op = 26 ∨ op = 27 ∨ op = 28 ∨ op = 29 ∨ op = 30 ∨ op = 31 ∨ op = 32 ∨ op = 33 ∨ op = 34 ∨ op = 35 ∨ op = 36 ∨ op = 37 ∨ op = 38 ∨ op = 39 := by omega
    rcases this with rfl | rfl | rfl | rfl | rfl | rfl | rfl | rfl | rfl | rfl | rfl | rfl | rfl | rfl | rfl | rfl | rfl | rfl | rfl | rfl | rfl | rfl | rfl | rfl | rfl | rfl | rfl | rfl | rfl | rfl | rfl | rfl | rfl | rfl | rfl | rfl | rfl | rfl | rfl <;> (show (_ : Option Int) = _; kernel_rfl)
  · have ha : ar op = -1 := by unfold ar; rw [if_neg (by omega), if_neg (by omega), if_neg (by omega), if_neg (by omega)]
    rw [ha]
    have ne : ∀ k : Int, 1 ≤ k → k ≤ 39 → decide (op = k) = false := fun k h1 h2 => by simp; omega
    unfold M.expr_Arity
    simp [ne]
theorem ar_le (op : Int) : ar op ≤ 3 := by unfold ar; split <;> (try split) <;> (try split) <;> (try split) <;> omega

def EnvOK (env : rEnv.den) : Prop := env.2.2.2.1.length ≤ 100 ∧ ∀ t ∈ env.2.2.2.2.2, t.2.2.2.length ≤ 9223372036854775807

def Fm (op m : Int) : Prop := 0 ≤ ar op ∧ (op = 14 ∨ op = 15 ∨ op = 16 → 0 ≤ m ∧ m ≤ 5) ∧ (op = 34 → 0 ≤ m ∧ Int.tmod m 8 ≤ 5) ∧ (op = 6 → 0 ≤ m)
theorem usesN_wp (N : Nat) (op : Int) : Wp (M.expr_UsesN N op) fun _ => True := by
  unfold M.expr_UsesN
  simp only [ite_some, Option.bind_some]
  exact .some trivial
theorem formed_wp (N : Nat) (op m : Int) : Wp (M.eval_wellFormed N (op, m)) fun b => b = true → Fm op m := by
  unfold M.eval_wellFormed
  simp only [arity_eq, Option.bind_some]
  refine Wp.seq (fun j => j = false → 0 ≤ ar op) ?_ fun j hj => ?_
  · refine Wp.dec (fun _ => .some fun h => by cases h) fun h => ?_
    refine Wp.ndec (fun _ => Wp.seq _ (usesN_wp ..) fun y _ => .some fun _ => by omega) fun _ => .some fun _ => by omega
  · refine Wp.ite (fun _ => .some fun h => by cases h) fun hc => ?_
    have ha := hj (by simpa using hc)
    rw [or3c]
    simp only [Option.bind_some, ite_some, and_b]
    refine .some fun hb => ?_
    unfold Fm
    by_cases h1 : op = 14 ∨ op = 15 ∨ op = 16
    · rw [if_pos (by simpa using h1)] at hb
      simp at hb
      exact ⟨ha, fun _ => hb, fun e => by omega, fun e => by omega⟩
    · rw [if_neg (by simpa using h1)] at hb
      by_cases h2 : op = 34
      · rw [if_pos (by simpa using h2)] at hb
        simp at hb
        exact ⟨ha, fun e => absurd e h1, fun _ => hb, fun e => by omega⟩
      · rw [if_neg (by simpa using h2)] at hb
        by_cases h3 : op = 6
        · rw [if_pos (by simpa using h3)] at hb
          simp at hb
          exact ⟨ha, fun e => absurd e h1, fun e => absurd e h2, fun _ => hb⟩
        · exact ⟨ha, fun e => absurd e h1, fun e => absurd e h2, fun e => absurd e h3⟩

def Exs (op m : Int) (env : rEnv.den) : Prop :=
  (op = 7 → 0 ≤ m ∧ m < env.2.1.length) ∧ (op = 8 → 0 ≤ m ∧ m < env.2.2.1.length) ∧ (op = 33 → 0 ≤ m ∧ m < env.2.2.2.2.2.length) ∧ (op = 34 → IntKind.i64.wrap (Int.tdiv m 8) < env.2.2.2.2.2.length) ∧ (op = 36 ∨ op = 37 ∨ op = 38 ∨ op = 39 → 0 ≤ m ∧ m < env.2.2.2.2.1.length)
theorem exists_wp (N : Nat) (op m : Int) (env : rEnv.den) : Wp (M.eval_exists N (op, m) env) fun b => b = true → Exs op m env := by
  unfold M.eval_exists Exs
  simp only
  refine Wp.dec (fun h => ?_) fun h7 => ?_
  · subst h
    simp only [ite_some, Option.bind_some, and_b]
    exact .some fun hb => ⟨fun _ => by simpa using hb, fun e => by omega, fun e => by omega, fun e => by omega, fun e => by omega⟩
  refine Wp.dec (fun h => ?_) fun h8 => ?_
  · subst h
    refine Wp.seq (fun j => j = true → 0 ≤ m ∧ m < env.2.2.1.length) ?_ fun j hj => .some fun hb => ⟨fun e => by omega, fun _ => hj hb, fun e => by omega, fun e => by omega, fun e => by omega⟩
    refine Wp.dec (fun h0 => Wp.dec (fun h1 => Wp.bind (Wp.idxI h0 h1 fun x _ _ => .some fun _ => ⟨h0, h1⟩)) fun _ => .some fun h => by cases h) fun _ => .some fun h => by cases h
  refine Wp.dec (fun h => ?_) fun h33 => ?_
  · subst h
    simp only [ite_some, Option.bind_some, and_b]
    exact .some fun hb => ⟨fun e => by omega, fun e => by omega, fun _ => by simpa using hb, fun e => by omega, fun e => by omega⟩
  refine Wp.dec (fun h => ?_) fun h34 => ?_
  · subst h
    exact .some fun hb => ⟨fun e => by omega, fun e => by omega, fun e => by omega, fun _ => by simpa using hb, fun e => by omega⟩
  rw [or4c]
  simp only [Option.bind_some]
  refine Wp.dec (fun h => ?_) fun h36 => .some fun _ => ⟨fun e => absurd e h7, fun e => absurd e h8, fun e => absurd e h33, fun e => absurd e h34, fun e => absurd e h36⟩
  simp only [ite_some, Option.bind_some, and_b]
  exact .some fun hb => ⟨fun e => absurd e h7, fun e => absurd e h8, fun e => absurd e h33, fun e => absurd e h34, fun _ => by simpa using hb⟩

theorem allPl_wp {N : Nat} (l : List Vl) (hl : l.length ≤ 100000) (hN : 100001 ≤ N) : Wp (M.eval_allPlausible N l) fun b => b = true → ∀ v ∈ l, Plaus v.1 v.2.1 v.2.2 := by
  unfold M.eval_allPlausible
  refine Wp.loop (fun s : Int => ∃ i : Nat, s = i ∧ i ≤ l.length ∧ ∀ v ∈ l.take i, Plaus v.1 v.2.1 v.2.2) (fun s => (l.length - s).toNat) ⟨0, rfl, Nat.zero_le _, by simp⟩ (by omega) ?_
  rintro _ ⟨i, rfl, hi, hp⟩
  refine Wp.dec (fun h => ?_) fun h => .some fun _ => ?_
  · have hi' : i < l.length := by omega
    rw [idx_nat hi']
    simp only [Option.bind_some, plausible_eq]
    refine Wp.ndec (fun _ => .some fun h => by cases h) fun hq => .some ?_
    rw [wrap_succ (by omega)]
    refine ⟨⟨i + 1, rfl, hi', fun v hv => ?_⟩, by simp only; omega⟩
    rw [List.take_succ_eq_append_getElem hi'] at hv
    rcases List.mem_append.1 hv with hv | hv
    · exact hp v hv
    · rw [List.mem_singleton.1 hv]; exact hq
  · rw [List.take_of_length_le (by omega)] at hp
    exact hp
theorem sameType_wp (N : Nat) (a b : Vl) : Wp (M.eval_sameType N a b) fun _ => True := by
  unfold M.eval_sameType
  simp only [ite_some, Option.bind_some]
  exact .some trivial
theorem unA_wp (N : Nat) (a b : Int) : Wp (M.eval_unaryAllowed N a b) fun _ => True := by
  unfold M.eval_unaryAllowed
  simp only [isNumber_eq, ite_some, Option.bind_some]
  exact .some trivial
theorem binA_wp (N : Nat) (op : Int) (a b : Vl) : Wp (M.eval_binaryAllowed N op a b) fun _ => True := by
  unfold M.eval_binaryAllowed M.eval_sameType
  simp only [isNumber_eq, ite_some, Option.bind_some]
  exact .some trivial

def Aws (op m : Int) (env : rEnv.den) : Prop :=
  (op = 34 → ∀ t, idx env.2.2.2.2.2 (IntKind.i64.wrap (Int.tdiv m 8)) = some t → t.2.1 = ((3, 0) : Int × Int) ∧ t.2.2.1 = ((4, 0) : Int × Int)) ∧ (op = 36 ∨ op = 37 ∨ op = 38 ∨ op = 39 → ∀ t, idx env.2.2.2.2.1 m = some t → Alw op t)
theorem allowed_wp {N : Nat} {op m : Int} {args : List Vl} {env : rEnv.den} (hx : Exs op m env) (ha : (args.length : Int) = ar op) (h34 : op = 34 → 0 ≤ IntKind.i64.wrap (Int.tdiv m 8)) : Wp (M.eval_allowed N (op, m) args env) fun b => b = true → Aws op m env := by
  obtain ⟨x7, x8, x33, x34, x36⟩ := hx
  unfold M.eval_allowed Aws
  dsimp only [rInt, Row.den]
  have no : ∀ {b : Bool}, ¬ op = 34 → ¬ (op = 36 ∨ op = 37 ∨ op = 38 ∨ op = 39) → b = true → (op = 34 → ∀ t, idx env.2.2.2.2.2 (IntKind.i64.wrap (Int.tdiv m 8)) = some t → t.2.1 = ((3, 0) : Int × Int) ∧ t.2.2.1 = ((4, 0) : Int × Int)) ∧ (op = 36 ∨ op = 37 ∨ op = 38 ∨ op = 39 → ∀ t, idx env.2.2.2.2.1 m = some t → Alw op t) := fun h1 h2 _ => ⟨fun e => absurd e h1, fun e => absurd e h2⟩
  refine Wp.dec (fun h => ?_) fun h7 => ?_
  · obtain ⟨a, b⟩ := x7 h
    exact Wp.bind (Wp.idxI a b fun x _ _ => by rw [plausible_eq]; exact .some (no (by omega) (by omega)))
  refine Wp.dec (fun h => ?_) fun h8 => ?_
  · obtain ⟨a, b⟩ := x8 h
    exact Wp.bind (Wp.idxI a b fun x _ _ => by rw [plausible_eq]; exact .some (no (by omega) (by omega)))
  have arg0 : 1 ≤ ar op → 0 < args.length := fun h => by omega
  refine Wp.dec (fun h => ?_) fun h33 => ?_
  · obtain ⟨a, b⟩ := x33 h
    have h1 : ar op = 1 := by rw [h]; decide
    refine Wp.bind (Wp.idxI a b fun x _ _ => ?_)
    refine Wp.seq (fun _ => True) ?_ fun j _ => .some (no (by omega) (by omega))
    refine Wp.bind (Wp.idxI (Int.le_refl 0) (by omega) fun y _ _ => ?_)
    rw [hasType_eq]
    simp only [Option.bind_some, ite_some]
    exact .some trivial
  refine Wp.dec (fun h => ?_) fun h34' => ?_
  · have b := x34 h
    have h1 : ar op = 1 := by rw [h]; decide
    refine Wp.bind (Wp.idxI (h34 h) b fun x _ hxx => ?_)
    refine Wp.seq (fun j => j = true → x.2.1 = ((3, 0) : Int × Int) ∧ x.2.2.1 = ((4, 0) : Int × Int)) ?_ fun j hj => .some fun hb => ⟨fun _ t ht => ?_, fun e => by omega⟩
    · refine Wp.bind (Wp.idxI (Int.le_refl 0) (by omega) fun y _ _ => ?_)
      simp only [ite_some, and_b]
      refine .some fun hb => ?_
      simp only [Bool.and_eq_true, eqR, decide_eq_true_eq] at hb
      exact ⟨hb.2.1, hb.2.2⟩
    · rw [hxx] at ht
      obtain rfl := Option.some.inj ht
      exact hj hb
  rw [or4c]
  simp only [Option.bind_some]
  refine Wp.dec (fun h => ?_) fun h36 => ?_
  · obtain ⟨a, b⟩ := x36 h
    refine Wp.bind (Wp.idxI a b fun x _ hxx => ?_)
    rw [memberAllowed_eq]
    refine .some fun hb => ⟨fun e => absurd e h34', fun _ t ht => ?_⟩
    rw [hxx] at ht
    obtain rfl := Option.some.inj ht
    simpa using hb
  have no' : ∀ b : Bool, b = true → _ := fun b => no (b := b) h34' h36
  refine Wp.dec (fun h => ?_) fun _ => ?_
  · refine Wp.bind (Wp.idxI (Int.le_refl 0) (by omega) fun y _ _ => ?_)
    exact Wp.seq _ (unA_wp ..) fun b _ => .some (no' b)
  refine Wp.dec (fun h => ?_) fun _ => ?_
  · refine Wp.bind (Wp.idxI (Int.le_refl 0) (by omega) fun y _ _ => ?_)
    refine Wp.bind (Wp.idxI (by omega) (by omega) fun z _ _ => ?_)
    exact Wp.seq _ (binA_wp ..) fun b _ => .some (no' b)
  refine Wp.dec (fun h => ?_) fun _ => .some (no' _)
  refine Wp.seq (fun _ => True) ?_ fun b _ => .some (no' b)
  refine Wp.bind (Wp.idxI (Int.le_refl 0) (by omega) fun y _ _ => ?_)
  refine Wp.dec (fun _ => ?_) fun _ => .some trivial
  refine Wp.bind (Wp.idxI (by omega) (by omega) fun z _ _ => ?_)
  refine Wp.bind (Wp.idxI (by omega) (by omega) fun z' _ _ => ?_)
  exact Wp.seq _ (sameType_wp ..) fun b _ => .some trivial

/-! ## Computing -/
/-- The codes of one operation that has been checked. -/
def Ce (c : Int) : Prop := c = 0 ∨ c = 3 ∨ c = 12 ∨ c = 6 ∨ c = 8
theorem Cd.e {c : Int} (h : Cd c) : Ce c := by unfold Cd at h; unfold Ce; omega
theorem mfold_ce {op : Int} {t : Ty} {j : Nat} : {ms : List (List Vl)} → {first : Bool} → {acc c : Int} → mfold op t j ms first acc = .inr c → c = 3 ∨ c = 6 ∨ c = 8
  | [], _, _, _, h => by cases h
  | l :: ms, first, acc, c, h => by
    rw [mfold] at h
    split at h
    · cases h; exact .inr (.inl rfl)
    · split at h
      · cases h; exact .inr (.inl rfl)
      · split at h
        · split at h
          · exact mfold_ce h
          · cases h; exact .inl rfl
        · cases h; exact .inr (.inr rfl)
theorem mres_ce (op : Int) (t : Ty) (j : Nat) (ms : List (List Vl)) : Ce (mres op t j ms).2 := by
  unfold mres
  split
  · unfold Ce; omega
  · split
    · unfold Ce; omega
    · rename_i c hc
      have := mfold_ce hc
      show Ce c
      unfold Ce; omega
theorem truth_wp (N : Nat) (b : Bool) : Wp (M.eval_truth N b) fun _ => True := by
  unfold M.eval_truth
  simp only [ite_some]
  exact .some trivial
theorem unary_wp (op : Int) (a : Vl) : Wp (M.eval_unary big op a) fun _ => True := by
  unfold M.eval_unary
  refine Wp.dec (fun _ => .some trivial) fun _ => ?_
  refine Wp.dec (fun _ => Wp.seq _ (truth_wp ..) fun _ _ => .some trivial) fun _ => ?_
  refine Wp.seq _ (ToYMD_wp ..) fun y _ => ?_
  simp only [ite_some]
  exact .some trivial
theorem product_wp (N : Nat) (a b : Int) : Wp (M.eval_product N a b) fun r => Cd r.2 := by
  unfold M.eval_product
  refine Wp.seq _ (Mul64_wp ..) fun r _ => ?_
  simp only [ite_some, Option.bind_some]
  exact .some (Cd_ite (Cd3 _) (Cd_ite (Cd0 _) (Cd0 _)))
theorem scaled_wp {op m : Int} {a b : Vl} (hm : op = 14 ∨ op = 15 ∨ op = 16 → 0 ≤ m ∧ m ≤ 5) (hop : 13 ≤ op ∧ op ≤ 16) : Wp (M.eval_scaled big (op, m) a b) fun r => Cd r.2 := by
  unfold M.eval_scaled
  dsimp only [rInt, Row.den]
  refine Wp.seq (fun j => Cd j.1) ?_ fun j hj => .some hj
  refine Wp.dec (fun _ => Wp.seq _ (product_wp ..) fun r hr => .some hr) fun h13 => ?_
  have hm' := hm (by omega)
  simp only [ite_some, Option.bind_some, and_b]
  refine Wp.ite (fun _ => Wp.seq _ (RApply_wp hm') fun r hr => .some hr) fun _ => ?_
  refine Wp.dec (fun _ => Wp.seq _ (RMul_wp hm') fun r hr => .some hr) fun _ => ?_
  refine Wp.dec (fun _ => Wp.seq _ (RoundTo_wp hm') fun r hr => .some hr) fun _ => ?_
  refine Wp.dec (fun _ => Wp.seq _ (DivRound_wp _ hm') fun r hr => .some hr) fun _ => ?_
  exact Wp.seq _ (FromRatio_wp hm') fun r hr => .some hr
theorem binary_wp {op m : Int} {a b : Vl} (hm : op = 14 ∨ op = 15 ∨ op = 16 → 0 ≤ m ∧ m ≤ 5) : Wp (M.eval_binary big (op, m) a b) fun r => Cd r.2 := by
  unfold M.eval_binary
  dsimp only [rInt, Row.den]
  rw [or2c, or4c, or2c]
  simp only [Option.bind_some]
  refine Wp.ite (fun _ => .some (Cd0 0)) fun _ => ?_
  refine Wp.dec (fun _ => .some (Cd0 0)) fun _ => ?_
  refine Wp.dec (fun h => Wp.seq _ (scaled_wp hm (by omega)) fun r hr => .some hr) fun _ => ?_
  refine Wp.dec (fun _ => ?_) fun _ => ?_
  · simp only [ite_some]
    exact .some (by split <;> exact Cd0 0)
  refine Wp.dec (fun _ => Wp.seq _ (truth_wp ..) fun _ _ => .some (Cd0 0)) fun _ => ?_
  refine Wp.dec (fun _ => Wp.seq _ (truth_wp ..) fun _ _ => .some (Cd0 0)) fun _ => ?_
  refine Wp.dec (fun _ => Wp.seq _ (truth_wp ..) fun _ _ => .some (Cd0 0)) fun _ => ?_
  refine Wp.dec (fun _ => Wp.seq _ (truth_wp ..) fun _ _ => .some (Cd0 0)) fun _ => ?_
  refine Wp.dec (fun _ => Wp.seq (fun j => j.1 = 0) (Wp.dec (fun _ => Wp.seq _ (truth_wp ..) fun _ _ => .some rfl) fun _ => Wp.seq _ (truth_wp ..) fun _ _ => .some rfl) fun j hj => .some (.inl hj)) fun _ => ?_
  refine Wp.dec (fun _ => Wp.seq (fun j => j.1 = 0) (Wp.dec (fun _ => Wp.seq _ (truth_wp ..) fun _ _ => .some rfl) fun _ => Wp.seq _ (truth_wp ..) fun _ _ => .some rfl) fun j hj => .some (.inl hj)) fun _ => ?_
  refine Wp.dec (fun _ => Wp.seq _ (AddMonths_wp ..) fun r hr => .some hr) fun _ => ?_
  refine Wp.dec (fun _ => .some (Cd0 0)) fun _ => ?_
  exact Wp.seq _ (YearsBetween_wp ..) fun r _ => .some (Cd0 0)

theorem compute_wp {op m : Int} {args : List Vl} {env : rEnv.den} (he : EnvOK env) (hf : Fm op m) (hx : Exs op m env) (ha : (args.length : Int) = ar op) (haw : Aws op m env) (h34 : op = 34 → 0 ≤ IntKind.i64.wrap (Int.tdiv m 8)) : Wp (M.eval_compute big (op, m) args env) fun r => Ce r.2 := by
  obtain ⟨x7, x8, x33, x34, x36⟩ := hx
  obtain ⟨f0, f14, f34, _⟩ := hf
  obtain ⟨w34, w36⟩ := haw
  have ce0 : Ce 0 := .inl rfl
  unfold M.eval_compute
  dsimp only [rInt, Row.den]
  rw [or5c, or4c]
  simp only [Option.bind_some]
  refine Wp.dec (fun _ => .some ce0) fun _ => ?_
  refine Wp.dec (fun _ => .some ce0) fun _ => ?_
  refine Wp.dec (fun h => Wp.bind (Wp.idxI (x7 h).1 (x7 h).2 fun x _ _ => .some ce0)) fun _ => ?_
  refine Wp.dec (fun h => Wp.bind (Wp.idxI (x8 h).1 (x8 h).2 fun x _ _ => .some ce0)) fun _ => ?_
  refine Wp.dec (fun _ => .some ce0) fun _ => ?_
  refine Wp.dec (fun _ => .some ce0) fun _ => ?_
  refine Wp.dec (fun h => ?_) fun _ => ?_
  · obtain ⟨a, b⟩ := x36 h
    obtain ⟨j, rfl⟩ : ∃ j : Nat, m = j := ⟨m.toNat, by omega⟩
    have hj : j < env.2.2.2.2.1.length := by omega
    rw [overMembers_eq (by unfold big; omega) h hj he.1 (w36 h _ (idx_nat hj))]
    exact .some (mres_ce ..)
  refine Wp.dec (fun h => ?_) fun _ => ?_
  · have h1 : ar op = 1 := by rw [h]; decide
    refine Wp.bind (Wp.idxI (x33 h).1 (x33 h).2 fun x hx _ => ?_)
    refine Wp.bind (Wp.idxI (Int.le_refl 0) (by omega) fun y _ _ => ?_)
    refine Wp.seq _ (Lookup_wp _ _ _ (he.2 x hx)) fun r hr => ?_
    refine Wp.ite (fun _ => .some (by unfold Ce; omega)) fun hc => ?_
    obtain ⟨a, b⟩ := hr (by simpa using hc)
    exact Wp.bind (Wp.idxI a b fun z _ _ => .some ce0)
  refine Wp.dec (fun h => ?_) fun _ => ?_
  · have h1 : ar op = 1 := by rw [h]; decide
    refine Wp.bind (Wp.idxI (h34 h) (x34 h) fun x hx hxx => ?_)
    refine Wp.bind (Wp.idxI (Int.le_refl 0) (by omega) fun y _ _ => ?_)
    obtain ⟨k1, k2⟩ := w34 h x hxx
    obtain ⟨m1, m2⟩ := f34 h
    have : 0 ≤ Int.tmod m 8 := by rw [Int.tmod_eq_emod_of_nonneg m1]; omega
    exact Wp.seq _ (Brackets_wp ⟨this, m2⟩ k1 k2 (he.2 x hx)) fun r hr => .some hr.e
  refine Wp.dec (fun h => ?_) fun _ => ?_
  · refine Wp.bind (Wp.idxI (Int.le_refl 0) (by omega) fun y _ _ => ?_)
    exact Wp.seq _ (unary_wp ..) fun r _ => .some ce0
  refine Wp.dec (fun h => ?_) fun _ => ?_
  · refine Wp.bind (Wp.idxI (Int.le_refl 0) (by omega) fun y _ _ => ?_)
    refine Wp.bind (Wp.idxI (by omega) (by omega) fun z _ _ => ?_)
    exact Wp.seq _ (binary_wp f14) fun r hr => .some hr.e
  have h3 : ar op = 3 := by
    have : ¬ ar op = 0 := by unfold ar; split <;> (try split) <;> (try split) <;> (try split) <;> omega
    have := ar_le op
    omega
  refine Wp.bind (Wp.idxI (Int.le_refl 0) (by omega) fun y _ _ => ?_)
  refine Wp.dec (fun _ => Wp.bind (Wp.idxI (by omega) (by omega) fun z _ _ => .some ce0)) fun _ => Wp.bind (Wp.idxI (by omega) (by omega) fun z _ _ => .some ce0)

/-- What an operation applied answers: a plausible value, or a code and no value. -/
structure ApOK (r : Vl × Int) : Prop where
  ok : r.2 = 0 → Plaus r.1.1 r.1.2.1 r.1.2.2
  bad : r.2 ≠ 0 → r.1 = ((0, 0, 0) : Int × Int × Int)
  code : r.2 = 0 ∨ r.2 = 2 ∨ r.2 = 3 ∨ r.2 = 6 ∨ r.2 = 8 ∨ r.2 = 12

theorem Apply_wp {n : Ty} {args : List Vl} {env : rEnv.den} (he : EnvOK env) (hn : WF rNode n) (hl : args.length ≤ 100000) : Wp (M.eval_Apply big n args env) ApOK := by
  obtain ⟨op, m⟩ := n
  have hm := hn.2
  unfold M.eval_Apply
  have err : ∀ c : Int, c ≠ 0 → (c = 2 ∨ c = 3 ∨ c = 6 ∨ c = 8 ∨ c = 12) → ApOK (((0 : Int), ((0 : Int), (0 : Int))), c) := fun c h1 h2 => ⟨fun h => absurd h h1, fun _ => rfl, .inr h2⟩
  refine Wp.seq (fun j => j = false → Fm op m ∧ (args.length : Int) = ar op) ?_ fun j hj => ?_
  · refine Wp.seq _ (formed_wp ..) fun y hy => ?_
    refine Wp.ite (fun _ => .some fun h => by cases h) fun hc => ?_
    rw [arity_eq]
    exact .some fun h => ⟨hy (by simpa using hc), by simpa using h⟩
  refine Wp.ite (fun _ => .some (err 2 (by decide) (by omega))) fun hc => ?_
  obtain ⟨hf, ha⟩ := hj (by simpa using hc)
  refine Wp.seq _ (exists_wp ..) fun y hy => ?_
  refine Wp.ite (fun _ => .some (err 6 (by decide) (by omega))) fun hc2 => ?_
  have hx := hy (by simpa using hc2)
  have h34 : op = 34 → 0 ≤ IntKind.i64.wrap (Int.tdiv m 8) := fun e => by
    have h0 := (hf.2.2.1 e).1
    have h1 : (m : Int) ≤ 9223372036854775807 := hm.2
    rw [Int.tdiv_eq_ediv_of_nonneg h0]
    dsimp only [rInt, Row.den] at h0 h1 ⊢
    rw [wrap_id (by omega) (by omega)]
    omega
  refine Wp.seq (fun j => j = false → Aws op m env) ?_ fun j5 hj5 => ?_
  · refine Wp.seq _ (allPl_wp _ hl (by unfold big; omega)) fun y _ => ?_
    refine Wp.ite (fun _ => .some fun h => by cases h) fun _ => ?_
    exact Wp.seq _ (allowed_wp hx ha h34) fun z hz => .some fun h => hz (by simpa using h)
  refine Wp.ite (fun _ => .some (err 8 (by decide) (by omega))) fun hc3 => ?_
  have haw := hj5 (by simpa using hc3)
  refine Wp.seq _ (compute_wp he hf hx ha haw h34) fun r hr => ?_
  refine Wp.ndec (fun h => .some (err _ h (by unfold Ce at hr; omega))) fun _ => ?_
  rw [plausible_eq]
  simp only [Option.bind_some]
  refine Wp.ndec (fun _ => .some (err 3 (by decide) (by omega))) fun hp => .some ⟨fun _ => hp, fun h => absurd rfl h, .inl rfl⟩
end L
end Go.Proofs.YtpgggmcpflgniaaDoor
