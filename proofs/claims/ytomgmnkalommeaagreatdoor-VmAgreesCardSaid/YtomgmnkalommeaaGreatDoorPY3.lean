/- Operations with typed operands (plain laws). -/
import Derived.Test.YtomgmnkalommeaaGreatDoorPY
namespace Go.Proofs.YtomgmnkalommeaaGreatDoor
open Go Go.RowKit
set_option maxRecDepth 100000
namespace L

def Args : List Vl → List Ty → Prop
  | [], [] => True
  | v :: vs, t :: ts => HasT v t ∧ Args vs ts
  | [], _ :: _ => False
  | _ :: _, [] => False
theorem Args.len : ∀ {vs : List Vl} {ts : List Ty}, Args vs ts → vs.length = ts.length
  | [], [], _ => rfl
  | _ :: _, _ :: _, h => by simp [Args.len h.2]
  | [], _ :: _, h => h.elim
  | _ :: _, [], h => h.elim
theorem Args.pl : ∀ {vs : List Vl} {ts : List Ty}, Args vs ts → ∀ v ∈ vs, Plaus v.1 v.2.1 v.2.2
  | [], [], _, v, h => by simp at h
  | w :: vs, t :: ts, h, v, hv => by
    rcases List.mem_cons.1 hv with rfl | hv
    · exact h.1.1
    · exact Args.pl h.2 v hv
  | [], _ :: _, h, _, _ => h.elim
  | _ :: _, [], h, _, _ => h.elim
theorem args0 {vs : List Vl} (h : Args vs []) : vs = [] := by
  match vs, h with
  | [], _ => rfl
theorem args1 {vs : List Vl} {a : Ty} (h : Args vs [a]) : ∃ v, vs = [v] ∧ HasT v a := by
  match vs, h with
  | [v], h => exact ⟨v, rfl, h.1⟩
theorem args2 {vs : List Vl} {a b : Ty} (h : Args vs [a, b]) : ∃ v w, vs = [v, w] ∧ HasT v a ∧ HasT w b := by
  match vs, h with
  | [v, w], h => exact ⟨v, w, rfl, h.1, h.2.1⟩
theorem args3 {vs : List Vl} {a b c : Ty} (h : Args vs [a, b, c]) : ∃ v w x, vs = [v, w, x] ∧ HasT v a ∧ HasT w b ∧ HasT x c := by
  match vs, h with
  | [v, w, x], h => exact ⟨v, w, x, rfl, h.1, h.2.1, h.2.2.1⟩

/-- Operations that need nothing but their operands. -/
def Pln (op : Int) : Prop := 10 ≤ op ∧ op ≤ 32
theorem pln {op : Int} (h : Pln op) : ¬ op = 7 ∧ ¬ op = 8 ∧ ¬ op = 33 ∧ ¬ op = 34 ∧ ¬ (op = 36 ∨ op = 37 ∨ op = 38 ∨ op = 39) ∧ ¬ (op = 1 ∨ op = 2 ∨ op = 3 ∨ op = 4 ∨ op = 5) ∧ ¬ op = 6 ∧ ¬ op = 9 ∧ ¬ op = 35 := by unfold Pln at h; omega

theorem allowed1 {N : Nat} {op m : Int} {v : Vl} {env : rEnv.den} (h : Pln op) : M.eval_allowed N (op, m) [v] env = M.eval_unaryAllowed N op v.1 := by
  obtain ⟨h1, h2, h3, h4, h5, _⟩ := pln h
  unfold M.eval_allowed
  dsimp only [rInt, Row.den]
  rw [or4c, decide_eq_false h1, decide_eq_false h2, decide_eq_false h3, decide_eq_false h4, decide_eq_false h5]
  simp [idx0]
theorem allowed2 {N : Nat} {op m : Int} {v w : Vl} {env : rEnv.den} (h : Pln op) : M.eval_allowed N (op, m) [v, w] env = M.eval_binaryAllowed N op v w := by
  obtain ⟨h1, h2, h3, h4, h5, _⟩ := pln h
  unfold M.eval_allowed
  dsimp only [rInt, Row.den]
  rw [or4c, decide_eq_false h1, decide_eq_false h2, decide_eq_false h3, decide_eq_false h4, decide_eq_false h5]
  simp [idx0, idx1]
theorem allowed3 {N : Nat} {op m : Int} {v w x : Vl} {env : rEnv.den} (h : Pln op) (hv : (v.1 : Int) = 1) : M.eval_allowed N (op, m) [v, w, x] env = M.eval_sameType N w x := by
  obtain ⟨h1, h2, h3, h4, h5, _⟩ := pln h
  unfold M.eval_allowed
  dsimp only [rInt, Row.den]
  rw [or4c, decide_eq_false h1, decide_eq_false h2, decide_eq_false h3, decide_eq_false h4, decide_eq_false h5]
  simp [idx0, idx1, idx2, hv]
theorem compute1 {N : Nat} {op m : Int} {v : Vl} {env : rEnv.den} (h : Pln op) : M.eval_compute N (op, m) [v] env = (M.eval_unary N op v).bind fun y => some (y, (0 : Int)) := by
  obtain ⟨h1, h2, h3, h4, h5, h6, h7, h8, h9⟩ := pln h
  unfold M.eval_compute
  dsimp only [rInt, Row.den]
  rw [or5c, or4c, decide_eq_false h1, decide_eq_false h2, decide_eq_false h3, decide_eq_false h4, decide_eq_false h5, decide_eq_false h6, decide_eq_false h7, decide_eq_false h8, decide_eq_false h9]
  simp [idx0]
theorem compute2 {N : Nat} {op m : Int} {v w : Vl} {env : rEnv.den} (h : Pln op) : M.eval_compute N (op, m) [v, w] env = (M.eval_binary N (op, m) v w).bind fun y => some (y.1, y.2) := by
  obtain ⟨h1, h2, h3, h4, h5, h6, h7, h8, h9⟩ := pln h
  unfold M.eval_compute
  dsimp only [rInt, Row.den]
  rw [or5c, or4c, decide_eq_false h1, decide_eq_false h2, decide_eq_false h3, decide_eq_false h4, decide_eq_false h5, decide_eq_false h6, decide_eq_false h7, decide_eq_false h8, decide_eq_false h9]
  simp [idx0, idx1]
theorem compute3 {N : Nat} {op m : Int} {v w x : Vl} {env : rEnv.den} (h : Pln op) : M.eval_compute N (op, m) [v, w, x] env = if (v.2.2 : Int) = 1 then some (w, (0 : Int)) else some (x, (0 : Int)) := by
  obtain ⟨h1, h2, h3, h4, h5, h6, h7, h8, h9⟩ := pln h
  unfold M.eval_compute
  dsimp only [rInt, Row.den]
  rw [or5c, or4c, decide_eq_false h1, decide_eq_false h2, decide_eq_false h3, decide_eq_false h4, decide_eq_false h5, decide_eq_false h6, decide_eq_false h7, decide_eq_false h8, decide_eq_false h9]
  simp [idx0, idx1, idx2]

theorem truth_ty (N : Nat) (b : Bool) : Wp (M.eval_truth N b) fun y => (y.1 : Int) = 1 ∧ (y.2.1 : Int) = 0 := by
  unfold M.eval_truth
  exact Wp.ite (fun _ => .some ⟨rfl, rfl⟩) fun _ => .some ⟨rfl, rfl⟩
theorem unary_ty (op : Int) (a : Vl) : Wp (M.eval_unary big op a) fun y => (y.2.1 : Int) = 0 ∧ (op = 10 → (y.1 : Int) = a.1) ∧ (op = 25 → (y.1 : Int) = 1) ∧ (op = 31 ∨ op = 32 → (y.1 : Int) = 2) := by
  unfold M.eval_unary
  refine Wp.dec (fun h => .some ⟨rfl, fun _ => rfl, fun g => by omega, fun g => by omega⟩) fun h => ?_
  refine Wp.dec (fun h => Wp.seq _ (truth_ty ..) fun y hy => .some ⟨hy.2, fun g => by omega, fun _ => hy.1, fun g => by omega⟩) fun h' => ?_
  refine Wp.seq _ (ToYMD_wp ..) fun y _ => ?_
  exact Wp.dec (fun _ => .some ⟨rfl, fun g => absurd g h, fun g => absurd g h', fun _ => rfl⟩) fun _ => .some ⟨rfl, fun g => absurd g h, fun g => absurd g h', fun _ => rfl⟩
theorem scaled_ty {op m : Int} {a b : Vl} (hm : op = 14 ∨ op = 15 ∨ op = 16 → 0 ≤ m ∧ m ≤ 5) (hop : 13 ≤ op ∧ op ≤ 16) : Wp (M.eval_scaled big (op, m) a b) fun r => Cd r.2 ∧ (r.1.2.1 : Int) = 0 ∧ (r.1.1 : Int) = if op = 15 ∧ ¬ (b.1 : Int) = 2 then 4 else a.1 := by
  unfold M.eval_scaled
  dsimp only [rInt, Row.den]
  refine Wp.seq (fun j => Cd j.1 ∧ (j.2.2.1 : Int) = 0 ∧ (j.2.1 : Int) = if op = 15 ∧ ¬ (b.1 : Int) = 2 then 4 else a.1) ?_ fun j hj => .some hj
  refine Wp.dec (fun h => Wp.seq _ (product_wp ..) fun r hr => .some ⟨hr, rfl, by rw [if_neg (by omega)]⟩) fun h13 => ?_
  have hm' := hm (by omega)
  simp only [ite_some, Option.bind_some, and_b]
  refine Wp.ite (fun h => Wp.seq _ (RApply_wp hm') fun r hr => .some ⟨hr, rfl, by rw [if_neg (by simp at h; omega)]⟩) fun _ => ?_
  refine Wp.dec (fun h => Wp.seq _ (RMul_wp hm') fun r hr => .some ⟨hr, rfl, by rw [if_neg (by omega)]⟩) fun h14 => ?_
  refine Wp.dec (fun h => Wp.seq _ (RoundTo_wp hm') fun r hr => .some ⟨hr, rfl, by rw [if_neg (by omega)]⟩) fun h16 => ?_
  refine Wp.dec (fun h => Wp.seq _ (DivRound_wp _ hm') fun r hr => .some ⟨hr, rfl, by rw [if_neg (fun g => g.2 h)]⟩) fun h2 => ?_
  exact Wp.seq _ (FromRatio_wp hm') fun r hr => .some ⟨hr, rfl, by rw [if_pos ⟨by omega, h2⟩]⟩

def bk (op p q : Int) : Int :=
  if op = 15 ∧ ¬ q = 2 then 4 else if op = 11 ∨ op = 27 ∨ op = 12 ∨ (13 ≤ op ∧ op ≤ 16) then p else if 19 ≤ op ∧ op ≤ 24 then 1 else if op = 28 then 5 else 2
theorem bk_a {op p q : Int} (h : op = 11 ∨ op = 27 ∨ op = 12) : bk op p q = p := by unfold bk; rw [if_neg (by omega), if_pos (by omega)]
theorem bk_s {op p q : Int} (h : 13 ≤ op ∧ op ≤ 16) : bk op p q = if op = 15 ∧ ¬ q = 2 then 4 else p := by unfold bk; rw [if_pos (c := op = 11 ∨ op = 27 ∨ op = 12 ∨ (13 ≤ op ∧ op ≤ 16)) (by omega)]
theorem bk_1 {op p q : Int} (h : 19 ≤ op ∧ op ≤ 24) : bk op p q = 1 := by unfold bk; rw [if_neg (by omega), if_neg (by omega), if_pos h]
theorem bk_5 {op p q : Int} (h : op = 28) : bk op p q = 5 := by unfold bk; rw [if_neg (by omega), if_neg (by omega), if_neg (by omega), if_pos h]
theorem bk_2 {op p q : Int} (h : op = 29 ∨ op = 30) : bk op p q = 2 := by unfold bk; rw [if_neg (by omega), if_neg (by omega), if_neg (by omega), if_neg (by omega)]
theorem binary_ty {op m : Int} {a b : Vl} (hm : op = 14 ∨ op = 15 ∨ op = 16 → 0 ≤ m ∧ m ≤ 5) (hop : ¬ (op = 17 ∨ op = 18)) (hlo : 11 ≤ op ∧ op ≤ 30 ∧ ¬ op = 25 ∧ ¬ op = 26) : Wp (M.eval_binary big (op, m) a b) fun r => Cd r.2 ∧ (r.1.2.1 : Int) = 0 ∧ (r.1.1 : Int) = bk op a.1 b.1 := by
  unfold M.eval_binary
  dsimp only [rInt, Row.den]
  rw [or2c, or4c, or2c]
  simp only [Option.bind_some]
  refine Wp.dec (fun h => .some ⟨Cd0 0, rfl, (bk_a (by omega)).symm⟩) fun _ => ?_
  refine Wp.dec (fun h => .some ⟨Cd0 0, rfl, (bk_a (by omega)).symm⟩) fun _ => ?_
  refine Wp.dec (fun h => Wp.seq _ (scaled_ty hm (by omega)) fun r hr => .some ⟨hr.1, hr.2.1, hr.2.2.trans (bk_s (by omega)).symm⟩) fun _ => ?_
  refine Wp.dec (fun h => absurd h hop) fun _ => ?_
  refine Wp.dec (fun h => Wp.seq _ (truth_ty ..) fun y hy => .some ⟨Cd0 0, hy.2, hy.1.trans (bk_1 (by omega)).symm⟩) fun _ => ?_
  refine Wp.dec (fun h => Wp.seq _ (truth_ty ..) fun y hy => .some ⟨Cd0 0, hy.2, hy.1.trans (bk_1 (by omega)).symm⟩) fun _ => ?_
  refine Wp.dec (fun h => Wp.seq _ (truth_ty ..) fun y hy => .some ⟨Cd0 0, hy.2, hy.1.trans (bk_1 (by omega)).symm⟩) fun _ => ?_
  refine Wp.dec (fun h => Wp.seq _ (truth_ty ..) fun y hy => .some ⟨Cd0 0, hy.2, hy.1.trans (bk_1 (by omega)).symm⟩) fun _ => ?_
  refine Wp.dec (fun h => Wp.seq (fun j : Int × Vl => j.1 = 0 ∧ (j.2.1 : Int) = 1 ∧ (j.2.2.1 : Int) = 0) (Wp.dec (fun _ => Wp.seq _ (truth_ty ..) fun _ hy => .some ⟨rfl, hy⟩) fun _ => Wp.seq _ (truth_ty ..) fun _ hy => .some ⟨rfl, hy⟩) fun j hj => .some ⟨.inl hj.1, hj.2.2, hj.2.1.trans (bk_1 (by omega)).symm⟩) fun _ => ?_
  refine Wp.dec (fun h => Wp.seq (fun j : Int × Vl => j.1 = 0 ∧ (j.2.1 : Int) = 1 ∧ (j.2.2.1 : Int) = 0) (Wp.dec (fun _ => Wp.seq _ (truth_ty ..) fun _ hy => .some ⟨rfl, hy⟩) fun _ => Wp.seq _ (truth_ty ..) fun _ hy => .some ⟨rfl, hy⟩) fun j hj => .some ⟨.inl hj.1, hj.2.2, hj.2.1.trans (bk_1 (by omega)).symm⟩) fun _ => ?_
  refine Wp.dec (fun h => Wp.seq _ (AddMonths_wp ..) fun r hr => .some ⟨hr, rfl, (bk_5 h).symm⟩) fun h28 => ?_
  refine Wp.dec (fun h => .some ⟨Cd0 0, rfl, (bk_2 (by omega)).symm⟩) fun h29 => ?_
  exact Wp.seq _ (YearsBetween_wp ..) fun r _ => .some ⟨Cd0 0, rfl, (bk_2 (by omega)).symm⟩
theorem minmax_ty {op m : Int} {a b : Vl} (hop : op = 17 ∨ op = 18) : Wp (M.eval_binary big (op, m) a b) fun r => r.2 = 0 ∧ (r.1 = a ∨ r.1 = b) := by
  unfold M.eval_binary
  dsimp only [rInt, Row.den]
  rw [or2c, or4c, or2c]
  simp only [Option.bind_some]
  refine Wp.dec (fun h => by omega) fun _ => ?_
  refine Wp.dec (fun h => by omega) fun _ => ?_
  refine Wp.dec (fun h => by omega) fun _ => ?_
  refine Wp.dec (fun h => ?_) fun h => absurd hop h
  exact Wp.ite (fun _ => .some ⟨rfl, .inr rfl⟩) fun _ => .some ⟨rfl, .inl rfl⟩

def C3 (c : Int) : Prop := c = 0 ∨ c = 3 ∨ c = 6 ∨ c = 12
theorem Cd.c3 {c : Int} (h : Cd c) : C3 c := by unfold Cd at h; unfold C3; omega
def CpOK (t : Ty) (y : Vl × Int) : Prop := C3 y.2 ∧ (y.2 = 0 → (y.1.1 : Int) = t.1 ∧ (y.1.2.1 : Int) = t.2)

theorem enum0 {v : Vl} {a : Ty} (h : HasT v a) (h6 : (a.1 : Int) ≠ 6) : (a.2 : Int) = 0 := by
  obtain ⟨(k : Int), (e : Int), (n : Int)⟩ := v
  obtain ⟨(p : Int), (q : Int)⟩ := a
  obtain ⟨h1, h2, h3⟩ := h
  dsimp only [rInt, Row.den] at *
  unfold Plaus at h1
  omega
theorem same_eq (N : Nat) (v w : Vl) : M.eval_sameType N v w = some (decide ((v.1 : Int) = w.1 ∧ (v.2.1 : Int) = w.2.1)) := by
  unfold M.eval_sameType
  by_cases h : (v.1 : Int) = w.1
  · simp [h]
  · simp [h]
theorem binA {op : Int} {v w : Vl} {a b : Ty} (hv : HasT v a) (hw : HasT w b)
    (h : ((op = 11 ∨ op = 12) ∧ a = b ∧ Num a.1) ∨ (op = 13 ∧ (b.1 : Int) = 2 ∧ ((a.1 : Int) = 2 ∨ (a.1 : Int) = 3)) ∨ (op = 14 ∧ (b.1 : Int) = 4 ∧ ((a.1 : Int) = 3 ∨ (a.1 : Int) = 4)) ∨ (op = 15 ∧ (((b.1 : Int) = 2 ∧ ((a.1 : Int) = 2 ∨ (a.1 : Int) = 3)) ∨ ((a.1 : Int) = 3 ∧ (b.1 : Int) = 3))) ∨ (op = 16 ∧ (a.1 : Int) = 3 ∧ (b.1 : Int) = 3) ∨ ((op = 17 ∨ op = 18 ∨ op = 21 ∨ op = 22) ∧ a = b ∧ (Num a.1 ∨ (a.1 : Int) = 5)) ∨ ((op = 19 ∨ op = 20) ∧ a = b) ∨ ((op = 23 ∨ op = 24) ∧ (a.1 : Int) = 1 ∧ (b.1 : Int) = 1) ∨ ((op = 27 ∨ op = 28) ∧ (a.1 : Int) = 5 ∧ (b.1 : Int) = 2) ∨ ((op = 29 ∨ op = 30) ∧ (a.1 : Int) = 5 ∧ (b.1 : Int) = 5)) : M.eval_binaryAllowed big op v w = some true := by
  obtain ⟨(k : Int), (e : Int), (n : Int)⟩ := v
  obtain ⟨(k' : Int), (e' : Int), (n' : Int)⟩ := w
  obtain ⟨(p : Int), (q : Int)⟩ := a
  obtain ⟨(p' : Int), (q' : Int)⟩ := b
  obtain ⟨_, h2, h3⟩ := hv
  obtain ⟨_, h5, h6⟩ := hw
  dsimp only [rInt, Row.den] at *
  subst h2 h3 h5 h6
  unfold M.eval_binaryAllowed
  dsimp only [rInt, Row.den]
  simp only [same_eq, isNumber_eq]
  rcases h with ⟨ho, hab, hn⟩ | ⟨ho, hb, ha⟩ | ⟨ho, hb, ha⟩ | ⟨ho, ⟨hb, ha⟩ | ⟨ha, hb⟩⟩ | ⟨ho, ha, hb⟩ | ⟨ho, hab, hn⟩ | ⟨ho, hab⟩ | ⟨ho, ha, hb⟩ | ⟨ho, ha, hb⟩ | ⟨ho, ha, hb⟩
  · obtain ⟨rfl, rfl⟩ : k = k' ∧ e = e' := by simpa using hab
    rcases ho with rfl | rfl <;> rcases hn with rfl | rfl | rfl <;> simp
  · subst ho hb; rcases ha with rfl | rfl <;> simp
  · subst ho hb; rcases ha with rfl | rfl <;> simp
  · subst ho hb; rcases ha with rfl | rfl <;> simp
  · subst ho hb ha; simp
  · subst ho hb ha; simp
  · obtain ⟨rfl, rfl⟩ : k = k' ∧ e = e' := by simpa using hab
    rcases ho with rfl | rfl | rfl | rfl <;> rcases hn with (rfl | rfl | rfl) | rfl <;> simp
  · obtain ⟨rfl, rfl⟩ : k = k' ∧ e = e' := by simpa using hab
    rcases ho with rfl | rfl <;> simp
  · subst hb ha; rcases ho with rfl | rfl <;> simp
  · subst hb ha; rcases ho with rfl | rfl <;> simp
  · subst hb ha; rcases ho with rfl | rfl <;> simp

theorem RT_apply {op m : Int} {ts : List Ty} {t : Ty} {args : List Vl} {env : rEnv.den} (hm : op = 14 ∨ op = 15 ∨ op = 16 → 0 ≤ m ∧ m ≤ 5) (h : RT op ts t) (ha : Args args ts) : Wp (M.eval_allowed big (op, m) args env) (· = true) ∧ Wp (M.eval_compute big (op, m) args env) (CpOK t) := by
  have c0 : C3 0 := .inl rfl
  have un : ∀ {v : Vl} {a : Ty}, Pln op → HasT v a → M.eval_unaryAllowed big op a.1 = some true → (∀ y : Vl, (y.2.1 : Int) = 0 ∧ (op = 10 → (y.1 : Int) = v.1) ∧ (op = 25 → (y.1 : Int) = 1) ∧ (op = 31 ∨ op = 32 → (y.1 : Int) = 2) → (y.1 : Int) = t.1 ∧ (y.2.1 : Int) = t.2) → Wp (M.eval_allowed big (op, m) [v] env) (· = true) ∧ Wp (M.eval_compute big (op, m) [v] env) (CpOK t) := by
    intro v a hp hv h1 h2
    rw [allowed1 hp, compute1 hp, show v.1 = a.1 from hv.2.1, h1]
    exact ⟨.some rfl, Wp.seq _ (unary_ty ..) fun y hy => .some ⟨c0, fun _ => h2 y hy⟩⟩
  have bin : ∀ {v w : Vl} {a b : Ty}, Pln op → HasT v a → HasT w b → ¬ (op = 17 ∨ op = 18) → (11 ≤ op ∧ op ≤ 30 ∧ ¬ op = 25 ∧ ¬ op = 26) → M.eval_binaryAllowed big op v w = some true → (t.2 : Int) = 0 → bk op a.1 b.1 = t.1 → Wp (M.eval_allowed big (op, m) [v, w] env) (· = true) ∧ Wp (M.eval_compute big (op, m) [v, w] env) (CpOK t) := by
    intro v w a b hp hv hw h17 hlo h1 h2 h3
    rw [allowed2 hp, compute2 hp, h1]
    refine ⟨.some rfl, Wp.seq _ (binary_ty hm h17 hlo) fun y hy => .some ⟨hy.1.c3, fun _ => ⟨?_, hy.2.1.trans h2.symm⟩⟩⟩
    rw [← h3, ← show v.1 = a.1 from hv.2.1, ← show w.1 = b.1 from hw.2.1]
    exact hy.2.2
  have p : 10 ≤ op ∧ op ≤ 32 → Pln op := fun h => h
  rcases h with ⟨ho, a, rfl, hn, rfl⟩ | ⟨ho, a, rfl, hn, rfl⟩ | ⟨ho, a, rfl, hn, rfl⟩ | ⟨ho, a, rfl, hn, rfl⟩ | ⟨ho, a, b, rfl, hb, hk, rfl⟩ | ⟨ho, a, b, rfl, hb, hk, rfl⟩ | ⟨ho, a, b, rfl, ⟨hb, hk, rfl⟩ | ⟨hk, hb, rfl⟩⟩ | ⟨ho, a, b, rfl, hk, hb, rfl⟩ | ⟨ho, a, rfl, hn, rfl⟩ | ⟨ho, a, rfl, rfl⟩ | ⟨ho, a, rfl, hn, rfl⟩ | ⟨ho, a, b, rfl, hk, hb, rfl⟩ | ⟨ho, a, b, rfl, hk, rfl⟩ | ⟨ho, a, b, rfl, hk, hb, rfl⟩ | ⟨ho, a, b, rfl, hk, hb, rfl⟩
  · obtain ⟨v, rfl, hv⟩ := args1 ha
    refine un (p (by omega)) hv ?_ fun y hy => ⟨(hy.2.1 ho).trans hv.2.1, hy.1.trans (enum0 hv (by rcases hn with h | h | h <;> rw [h] <;> decide)).symm⟩
    subst ho
    unfold M.eval_unaryAllowed
    rw [isNumber_eq]
    rcases hn with h | h | h <;> rw [h] <;> simp
  · obtain ⟨v, rfl, hv⟩ := args1 ha
    refine un (p (by omega)) hv ?_ fun y hy => ⟨hy.2.2.1 ho, hy.1⟩
    subst ho
    unfold M.eval_unaryAllowed
    rw [hn]; simp
  · obtain ⟨v, rfl, hv⟩ := args1 ha
    refine un (p (by omega)) hv ?_ fun y hy => ⟨hy.2.2.2 ho, hy.1⟩
    unfold M.eval_unaryAllowed
    rw [hn]
    rcases ho with rfl | rfl <;> simp
  · obtain ⟨v, w, rfl, hv, hw⟩ := args2 ha
    exact bin (p (by omega)) hv hw (by omega) (by omega) (binA hv hw (.inl ⟨ho, rfl, hn⟩)) (enum0 hv (by rcases hn with h | h | h <;> rw [h] <;> decide)) (bk_a (by omega))
  · obtain ⟨v, w, rfl, hv, hw⟩ := args2 ha
    exact bin (p (by omega)) hv hw (by omega) (by omega) (binA hv hw (.inr (.inl ⟨ho, hb, hk⟩))) rfl (by rw [bk_s (by omega), if_neg (by omega)])
  · obtain ⟨v, w, rfl, hv, hw⟩ := args2 ha
    exact bin (p (by omega)) hv hw (by omega) (by omega) (binA hv hw (.inr (.inr (.inl ⟨ho, hb, hk⟩)))) rfl (by rw [bk_s (by omega), if_neg (by omega)])
  · obtain ⟨v, w, rfl, hv, hw⟩ := args2 ha
    exact bin (p (by omega)) hv hw (by omega) (by omega) (binA hv hw (.inr (.inr (.inr (.inl ⟨ho, .inl ⟨hb, hk⟩⟩))))) rfl (by rw [bk_s (by omega), if_neg (fun h => h.2 hb)])
  · obtain ⟨v, w, rfl, hv, hw⟩ := args2 ha
    exact bin (p (by omega)) hv hw (by omega) (by omega) (binA hv hw (.inr (.inr (.inr (.inl ⟨ho, .inr ⟨hk, hb⟩⟩))))) rfl (by rw [bk_s (by omega), if_pos ⟨ho, by rw [hb]; decide⟩])
  · obtain ⟨v, w, rfl, hv, hw⟩ := args2 ha
    exact bin (p (by omega)) hv hw (by omega) (by omega) (binA hv hw (.inr (.inr (.inr (.inr (.inl ⟨ho, hk, hb⟩)))))) (enum0 hv (by rw [hk]; decide)) (by rw [bk_s (by omega), if_neg (by omega)])
  · obtain ⟨v, w, rfl, hv, hw⟩ := args2 ha
    have hp : Pln op := p (by omega)
    rw [allowed2 hp, compute2 hp, binA hv hw (.inr (.inr (.inr (.inr (.inr (.inl ⟨by omega, rfl, hn⟩))))))]
    refine ⟨.some rfl, Wp.seq _ (minmax_ty ho) fun y hy => .some ⟨.inl hy.1, fun _ => ?_⟩⟩
    rcases hy.2 with h | h <;> simp only [h]
    · exact hv.2
    · exact hw.2
  · obtain ⟨v, w, rfl, hv, hw⟩ := args2 ha
    exact bin (p (by omega)) hv hw (by omega) (by omega) (binA hv hw (.inr (.inr (.inr (.inr (.inr (.inr (.inl ⟨ho, rfl⟩)))))))) rfl (bk_1 (by omega))
  · obtain ⟨v, w, rfl, hv, hw⟩ := args2 ha
    exact bin (p (by omega)) hv hw (by omega) (by omega) (binA hv hw (.inr (.inr (.inr (.inr (.inr (.inl ⟨by omega, rfl, hn⟩))))))) rfl (bk_1 (by omega))
  · obtain ⟨v, w, rfl, hv, hw⟩ := args2 ha
    exact bin (p (by omega)) hv hw (by omega) (by omega) (binA hv hw (.inr (.inr (.inr (.inr (.inr (.inr (.inr (.inl ⟨ho, hk, hb⟩))))))))) rfl (bk_1 (by omega))
  · obtain ⟨v, w, x, rfl, hv, hw, hx⟩ := args3 ha
    have hp : Pln op := p (by omega)
    rw [allowed3 hp (hv.2.1.trans hk), compute3 hp, same_eq]
    refine ⟨.some ?_, Wp.ite (fun _ => .some ⟨c0, fun _ => hw.2⟩) fun _ => .some ⟨c0, fun _ => hx.2⟩⟩
    exact decide_eq_true ⟨hw.2.1.trans hx.2.1.symm, hw.2.2.trans hx.2.2.symm⟩
  · obtain ⟨v, w, rfl, hv, hw⟩ := args2 ha
    refine bin (p (by omega)) hv hw (by omega) (by omega) (binA hv hw (.inr (.inr (.inr (.inr (.inr (.inr (.inr (.inr (.inl ⟨ho, hk, hb⟩)))))))))) (enum0 hv (by rw [hk]; decide)) ?_
    rcases ho with h | h
    · exact bk_a (by omega)
    · rw [bk_5 h]; exact hk.symm
  · obtain ⟨v, w, rfl, hv, hw⟩ := args2 ha
    exact bin (p (by omega)) hv hw (by omega) (by omega) (binA hv hw (.inr (.inr (.inr (.inr (.inr (.inr (.inr (.inr (.inr ⟨ho, hk, hb⟩)))))))))) rfl (bk_2 ho)
end L
end Go.Proofs.YtomgmnkalommeaaGreatDoor
