/- Values: plausible ones, their types; the operations on members (plain laws). -/
import Derived.Test.YtpgggmcpflgniaaDoorModel
import Derived.Test.YtpgggmcpflgniaaDoorWp
import Derived.Test.YtpgggmcpflgniaaDoorOpen
namespace Go.Proofs.YtpgggmcpflgniaaDoor
open Go Go.RowKit
namespace L

abbrev Vl : Type := rValue.den
abbrev Ty : Type := rNode.den

theorem ite_some {α : Type} {c : Prop} [Decidable c] {a b : α} : (if c then some a else some b) = some (if c then a else b) := by split <;> rfl
theorem or_b (a b : Bool) : (if a = true then true else b) = (a || b) := by cases a <;> rfl
theorem and_b (a b : Bool) : (if a = true then b else false) = (a && b) := by cases a <;> rfl

/-- A plausible value: its kind, its enumeration, its number. -/
def Plaus (k e n : Int) : Prop :=
  (k = 1 ∧ e = 0 ∧ 0 ≤ n ∧ n ≤ 1) ∨ (k = 2 ∧ e = 0 ∧ -1000000000000 ≤ n ∧ n ≤ 1000000000000) ∨ (k = 3 ∧ e = 0 ∧ -1000000000000000 ≤ n ∧ n ≤ 1000000000000000) ∨
  (k = 4 ∧ e = 0 ∧ -1000000000 ≤ n ∧ n ≤ 1000000000) ∨ (k = 5 ∧ e = 0 ∧ 0 ≤ n ∧ n ≤ 109572) ∨ (k = 6 ∧ 0 ≤ e ∧ e ≤ 7 ∧ 0 ≤ n ∧ n ≤ 15)
instance (k e n : Int) : Decidable (Plaus k e n) := by unfold Plaus; infer_instance

theorem plausible_eq (N : Nat) (v : Vl) : M.eval_plausible N v = some (decide (Plaus v.1 v.2.1 v.2.2)) := by
  revert v; rintro ⟨(k : Int), (e : Int), (n : Int)⟩
  unfold M.eval_plausible
  simp only [ite_some, Option.bind_some, or_b, and_b]
  refine congrArg some ?_
  by_cases h1 : k = 1
  · subst h1; rw [Bool.eq_iff_iff]; simp [Plaus]; try (dsimp only [rInt, Row.den] at *; omega)
  by_cases h2 : k = 2
  · subst h2; rw [Bool.eq_iff_iff]; simp [Plaus]; try (dsimp only [rInt, Row.den] at *; omega)
  by_cases h3 : k = 3
  · subst h3; rw [Bool.eq_iff_iff]; simp [Plaus]; try (dsimp only [rInt, Row.den] at *; omega)
  by_cases h4 : k = 4
  · subst h4; rw [Bool.eq_iff_iff]; simp [Plaus]; try (dsimp only [rInt, Row.den] at *; omega)
  by_cases h5 : k = 5
  · subst h5; rw [Bool.eq_iff_iff]; simp [Plaus]; try (dsimp only [rInt, Row.den] at *; omega)
  by_cases h6 : k = 6
  · subst h6; rw [Bool.eq_iff_iff]; simp [Plaus]; try (dsimp only [rInt, Row.den] at *; omega)
  simp [Plaus, h1, h2, h3, h4, h5, h6]

def HasT0 (k e n a b : Int) : Prop := Plaus k e n ∧ k = a ∧ e = b
instance (k e n a b : Int) : Decidable (HasT0 k e n a b) := by unfold HasT0; infer_instance
abbrev HasT (v : Vl) (t : Ty) : Prop := HasT0 v.1 v.2.1 v.2.2 t.1 t.2
theorem hasType_eq (N : Nat) (v : Vl) (t : Ty) : M.eval_hasType N v t = some (decide (HasT v t)) := by
  unfold M.eval_hasType
  rw [plausible_eq]
  simp only [ite_some, Option.bind_some, and_b]
  refine congrArg some ?_
  rw [Bool.eq_iff_iff]; simp [HasT0]
/-- The types that an operation on members takes. -/
def Alw0 (op k e : Int) : Prop := e = 0 ∧ (if op = 36 then k = 2 ∨ k = 3 else if op = 39 then 2 ≤ k ∧ k ≤ 5 else k = 1)
instance (op k e : Int) : Decidable (Alw0 op k e) := by unfold Alw0; infer_instance
abbrev Alw (op : Int) (t : Ty) : Prop := Alw0 op t.1 t.2
theorem isNumber_eq (N : Nat) (k : Int) : M.eval_isNumber N k = some (decide (2 ≤ k ∧ k ≤ 4)) := by
  unfold M.eval_isNumber
  simp only [ite_some, Option.bind_some, or_b]
  refine congrArg some ?_
  rw [Bool.eq_iff_iff]; simp; omega
theorem memberAllowed_eq (N : Nat) (op : Int) (t : Ty) : M.eval_memberAllowed N op t = some (decide (Alw op t)) := by
  unfold M.eval_memberAllowed
  rw [isNumber_eq]
  simp only [ite_some, Option.bind_some, or_b, and_b]
  refine congrArg some ?_
  obtain ⟨(k : Int), (e : Int)⟩ := t
  rw [Bool.eq_iff_iff]
  show _ ↔ decide (Alw0 op k e) = true
  unfold Alw0
  by_cases h0 : e = 0 <;> by_cases h1 : op = 36 <;> by_cases h2 : op = 39 <;> simp [h0, h1, h2] <;> try (dsimp only [rInt, Row.den] at *; omega)
/-- One member more. -/
def fold (op acc n : Int) (first : Bool) : Int :=
  if op = 36 then acc + n else if op = 37 then acc * n else if op = 38 then (if acc < n then n else acc) else (if first = true ∨ acc < n then n else acc)
def mfold (op : Int) (t : Ty) (j : Nat) : List (List Vl) → Bool → Int → Int ⊕ Int
  | [], _, acc => .inl acc
  | l :: ms, first, acc => match l[j]? with
    | none => .inr 6
    | some v => if (v.1 : Int) = 0 then .inr 6 else if HasT v t then
        (if Plaus t.1 0 (fold op acc v.2.2 first) then mfold op t j ms false (fold op acc v.2.2 first) else .inr 3) else .inr 8
def acc0 (op : Int) : Int := if op = 37 then 1 else 0
def mres (op : Int) (t : Ty) (j : Nat) (ms : List (List Vl)) : Vl × Int :=
  if op = 39 ∧ ms = [] then ((0, 0, 0), 6) else match mfold op t j ms true (acc0 op) with
    | .inl a => ((t.1, 0, a), 0)
    | .inr c => ((0, 0, 0), c)
/-- What the accumulated number keeps to. -/
def AccOK (op : Int) (t : Ty) (first : Bool) (acc : Int) : Prop := (op = 39 ∧ first = true ∧ acc = 0) ∨ Plaus t.1 0 acc
theorem acc0_ok {op : Int} {t : Ty} (hop : op = 36 ∨ op = 37 ∨ op = 38 ∨ op = 39) (ht : Alw op t) : AccOK op t true (acc0 op) := by
  obtain ⟨(k : Int), (e : Int)⟩ := t
  obtain ⟨h0, h1⟩ := (show Alw0 op k e from ht)
  show (op = 39 ∧ true = true ∧ acc0 op = 0) ∨ Plaus k 0 (acc0 op)
  unfold Plaus acc0
  rcases hop with rfl | rfl | rfl | rfl <;> simp at h1 ⊢ <;> omega

theorem overMembers_eq {N : Nat} (hN : 100001 ≤ N) {op : Int} (hop : op = 36 ∨ op = 37 ∨ op = 38 ∨ op = 39) {j : Nat} {env : rEnv.den} (hj : j < env.2.2.2.2.1.length) (hm : env.2.2.2.1.length ≤ 100) (ht : Alw op env.2.2.2.2.1[j]) :
    M.eval_overMembers N (op, (j : Int)) env = some (mres op env.2.2.2.2.1[j] j env.2.2.2.1) := by
  obtain ⟨d, ip, df, ms, ts, tb⟩ := env
  simp only at hj hm ht ⊢
  apply Wp.eq
  unfold M.eval_overMembers
  simp only
  rw [idx_nat hj]
  simp only [Option.bind_some]
  generalize ts[j] = t at ht ⊢
  have ht2 : (t.2 : Int) = 0 := (show Alw0 op t.1 t.2 from ht).1
  have e1 : (if decide (op = 37) = true then some (t.1, t.2, (1 : Int)) else some (t.1, t.2, (0 : Int)) : Option Vl) = some (t.1, t.2, acc0 op) := by
    unfold acc0; by_cases h : op = 37 <;> simp [h]
  rw [e1]
  simp only [Option.bind_some, ite_some, and_b]
  unfold mres
  refine Wp.ite (fun h => ?_) fun h => ?_
  · have : op = 39 ∧ ms = [] := by simpa using h
    rw [if_pos this]
    exact .some rfl
  · have h39 : ¬ (op = 39 ∧ ms = []) := by simpa using h
    rw [if_neg h39]
    refine Wp.join (Wp.loop (fun s : Int × Vl => ∃ k : Nat, ∃ acc : Int, s = ((k : Int), (t.1, t.2, acc)) ∧ k ≤ ms.length ∧ AccOK op t (decide (k = 0)) acc ∧ mfold op t j (ms.drop k) (decide (k = 0)) acc = mfold op t j ms true (acc0 op)) (fun s => (ms.length - s.1).toNat)
      ⟨0, acc0 op, rfl, Nat.zero_le _, acc0_ok hop ht, rfl⟩ (by simp only; omega) ?_)
    rintro _ ⟨k, acc, rfl, hk, hacc, hf⟩
    simp only
    refine Wp.dec (fun h => ?_) fun h => .some (.some ?_)
    case refine_2 =>
      have hd : ms.drop k = [] := List.drop_of_length_le (by omega)
      rw [hd] at hf
      rw [← hf]
      simp only [mfold]
      rw [ht2]
    have hk' : k < ms.length := by omega
    have hd : ms.drop k = ms[k] :: ms.drop (k + 1) := List.drop_eq_getElem_cons hk'
    rw [hd] at hf
    rw [idx_nat hk']
    simp only [Option.bind_some]
    rw [mfold] at hf
    by_cases hl : j < ms[k].length
    · rw [List.getElem?_eq_getElem hl] at hf
      simp only at hf
      rw [idx_nat hl]
      simp only [Option.bind_some, ite_some, or_b, hasType_eq, plausible_eq]
      generalize ms[k][j] = v at hf ⊢
      by_cases hv : (v.1 : Int) = 0
      · rw [if_pos hv] at hf
        rw [if_pos (by simp [hv])]
        refine .some ?_
        show _ = _
        rw [← hf]
      · rw [if_neg hv] at hf
        rw [if_neg (by simp [hv]; omega)]
        by_cases hh : HasT v t
        · rw [if_pos hh] at hf
          rw [if_neg (by simp [hh])]
          obtain ⟨hp, hk1, hk2⟩ := (show HasT0 _ _ _ _ _ from hh)
          refine Wp.join ?_
          have key : ∀ a, fold op acc v.2.2 (decide (k = 0)) = a → Plaus t.1 0 a → LoopW (fun s : Int × Vl => ∃ k : Nat, ∃ acc : Int, s = ((k : Int), (t.1, t.2, acc)) ∧ k ≤ ms.length ∧ AccOK op t (decide (k = 0)) acc ∧ mfold op t j (ms.drop k) (decide (k = 0)) acc = mfold op t j ms true (acc0 op)) (fun s => (ms.length - s.1).toNat) ((k : Int), (t.1, t.2, acc)) (JoinQ (fun j4 => some (j4, (0 : Int))) fun x => x = match mfold op t j ms true (acc0 op) with
              | .inl a => ((t.1, 0, a), 0)
              | .inr c => ((0, 0, 0), c)) (.inl (IntKind.i64.wrap ((k : Int) + 1), (t.1, t.2, a))) := by
            intro a ha hpa
            subst ha
            rw [if_pos hpa] at hf
            rw [wrap_succ (by omega)]
            refine ⟨⟨k + 1, _, rfl, hk', .inr hpa, ?_⟩, by simp only; omega⟩
            rw [show decide (k + 1 = 0) = false by simp]
            exact hf
          rcases hop with rfl | rfl | rfl | rfl
          all_goals simp only [decide_true, decide_false, if_true, if_false, Int.reduceEq, Bool.false_eq_true, Bool.not_true, Bool.not_false]
          · have hacc' : Plaus t.1 0 acc := by
              rcases hacc with h | h
              · exact absurd h.1 (by decide)
              · exact h
            have hfo : fold 36 acc v.2.2 (decide (k = 0)) = acc + v.2.2 := by simp [fold]
            have hw : IntKind.i64.wrap (acc + v.2.2) = acc + v.2.2 := by
              revert hacc' hp
              generalize (v.2.2 : Int) = n
              generalize (v.1 : Int) = vk
              generalize (v.2.1 : Int) = ve
              generalize (t.1 : Int) = tk
              intro h1 h2
              unfold Plaus at h1 h2
              dsimp only [rInt, Row.den] at *
              exact wrap_id (by omega) (by omega)
            rw [hw]
            rw [hfo] at hf
            by_cases hpl : Plaus t.1 0 (acc + v.2.2)
            · rw [if_neg (by rw [ht2]; simp [hpl])]
              exact .some (.some (key _ hfo hpl))
            · rw [if_pos (by rw [ht2]; simp [hpl])]
              rw [if_neg hpl] at hf
              refine .some ?_
              show _ = _
              rw [← hf]
          · have hb : (0 ≤ (v.2.2 : Int) ∧ (v.2.2 : Int) ≤ 1) ∧ 0 ≤ acc ∧ acc ≤ 1 ∧ (t.1 : Int) = 1 := by
              have h1 := (show Alw0 37 t.1 t.2 from ht).2
              have h2 : Plaus t.1 0 acc := by
                rcases hacc with h | h
                · exact absurd h.1 (by decide)
                · exact h
              rw [hk1] at hp
              revert h1 h2 hp
              generalize (v.2.2 : Int) = n
              generalize (v.2.1 : Int) = ve
              generalize (t.1 : Int) = tk
              intro h3 h1 h2
              unfold Plaus at h2 h3
              simp at h1
              dsimp only [rInt, Row.den] at *
              omega
            obtain ⟨⟨b1, b2⟩, b3, b4, b5⟩ := hb
            have hfo : fold 37 acc v.2.2 (decide (k = 0)) = (if v.2.2 < acc then v.2.2 else acc : Int) := by
              have b2' : (v.2.2 : Int) = 0 ∨ (v.2.2 : Int) = 1 := by revert b1 b2; generalize (v.2.2 : Int) = n; intro b1 b2; dsimp only [rInt, Row.den] at *; omega
              have b4' : acc = 0 ∨ acc = 1 := by omega
              rcases b2' with e1 | e1 <;> rcases b4' with e2 | e2 <;> simp [fold, e1, e2]
            refine .some (.some (key _ hfo ?_))
            refine .inl ⟨b5, rfl, ?_⟩
            revert b1 b2
            generalize (v.2.2 : Int) = n
            intro b1 b2
            dsimp only [rInt, Row.den] at *
            split <;> omega
          · have hfo : fold 38 acc v.2.2 (decide (k = 0)) = (if acc < v.2.2 then v.2.2 else acc : Int) := by simp [fold]
            have h2 : Plaus t.1 0 acc := by
              rcases hacc with h | h
              · exact absurd h.1 (by decide)
              · exact h
            refine .some (.some (key _ hfo ?_))
            rw [hk1, hk2, ht2] at hp
            split
            · exact hp
            · exact h2
          · have h3 : Plaus t.1 0 v.2.2 := by rw [hk1, hk2, ht2] at hp; exact hp
            by_cases hc : ((k : Int) = 0) ∨ acc < v.2.2
            · have hfo : fold 39 acc v.2.2 (decide (k = 0)) = v.2.2 := by
                have : k = 0 ∨ acc < v.2.2 := hc.imp (fun h => by omega) id
                simp [fold, this]
              rw [if_pos (by simpa using hc)]
              have hv3 : v = (t.1, t.2, v.2.2) := by rw [← hk1, ← hk2]
              rw [hv3]
              exact .some (.some (key _ hfo h3))
            · have hfo : fold 39 acc v.2.2 (decide (k = 0)) = acc := by
                have : ¬ (k = 0 ∨ acc < v.2.2) := fun h => hc (h.imp (fun h => by omega) id)
                simp [fold, this]
              rw [if_neg (by simpa using hc)]
              refine .some (.some (key _ hfo ?_))
              rcases hacc with h | h
              · exact absurd h.2.1 (by simp; omega)
              · exact h
        · rw [if_neg hh] at hf
          rw [if_pos (by simp [hh])]
          refine .some ?_
          show _ = _
          rw [← hf]
    · rw [List.getElem?_eq_none (by omega)] at hf
      rw [if_pos (by simp; omega)]
      refine .some ?_
      show _ = _
      rw [← hf]
end L
end Go.Proofs.YtpgggmcpflgniaaDoor
