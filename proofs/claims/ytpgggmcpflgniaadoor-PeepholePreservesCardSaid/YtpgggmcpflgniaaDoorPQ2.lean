/- The machine as a relation, for any accepted code (plain laws). -/
import Derived.Test.YtpgggmcpflgniaaDoorPQ
namespace Go.Proofs.YtpgggmcpflgniaaDoor
open Go Go.RowKit
set_option maxRecDepth 100000
namespace L

theorem idx_mid' {α : Type} (p : List α) (x : α) : idx (p ++ [x]) (p.length : Int) = some x := by
  rw [idx_nat (by simp)]
  simp
def jmp (n : Ty) (top : Vl) : Bool := decide (decide ((top.2.2 : Int) = 1) = decide ((n.1 : Int) = 53))
/-- From position p and stack S the machine ends with a value and a code. -/
inductive Runs (code : List Ty) (env : rEnv.den) : Nat → List Vl → Vl × Int → Prop
  | done {v : Vl} {S : List Vl} : Runs code env code.length (v :: S) (v, 0)
  | jump {p t : Nat} {S : List Vl} {r : Vl × Int} {n : Ty} (h : code[p]? = some n) (h51 : (n.1 : Int) = 51) (ht : (n.2 : Int) = t) (hpt : p < t) (htl : t ≤ code.length) (next : Runs code env t S r) : Runs code env p S r
  | op {p a : Nat} {S : List Vl} {r : Vl × Int} {n : Ty} (h : code[p]? = some n) (hne : ¬ (50 ≤ (n.1 : Int) ∧ (n.1 : Int) ≤ 53)) (ha : ar n.1 = a) (hs : a ≤ S.length) (h0 : (apE env n (S.drop (S.length - a))).2 = 0) (next : Runs code env (p + 1) (S.take (S.length - a) ++ [(apE env n (S.drop (S.length - a))).1]) r) : Runs code env p S r
  | fail {p a : Nat} {S : List Vl} {n : Ty} (h : code[p]? = some n) (hne : ¬ (50 ≤ (n.1 : Int) ∧ (n.1 : Int) ≤ 53)) (ha : ar n.1 = a) (hs : a ≤ S.length) (h0 : (apE env n (S.drop (S.length - a))).2 ≠ 0) : Runs code env p S (z3, (apE env n (S.drop (S.length - a))).2)
  | cond {p t : Nat} {S : List Vl} {r : Vl × Int} {n : Ty} {top : Vl} (h : code[p]? = some n) (hop : (n.1 : Int) = 50 ∨ (n.1 : Int) = 52 ∨ (n.1 : Int) = 53) (ht : (n.2 : Int) = t) (hpt : p < t) (htl : t ≤ code.length) (hk : (top.1 : Int) = 1) (hv : (top.2.2 : Int) = 0 ∨ (top.2.2 : Int) = 1) (next : Runs code env (if jmp n top = true then t else p + 1) (if jmp n top = false ∨ (n.1 : Int) = 50 then S else S ++ [top]) r) : Runs code env p (S ++ [top]) r
  | cbad {p : Nat} {S : List Vl} {n : Ty} {top : Vl} (h : code[p]? = some n) (hop : (n.1 : Int) = 50 ∨ (n.1 : Int) = 52 ∨ (n.1 : Int) = 53) (hk : ¬ ((top.1 : Int) = 1 ∧ ((top.2.2 : Int) = 0 ∨ (top.2.2 : Int) = 1))) : Runs code env p (S ++ [top]) (z3, 8)

theorem Run_runs {code : List Ty} {env : rEnv.den} {r : Vl × Int} (he : EnvOK env) (hw : ∀ n ∈ code, WF rNode n) (hl : code.length ≤ 128) (hver : Wp (M.bytecode_Verify big code) fun y => y.2 = 0) (hr : Runs code env 0 [] r) : Wp (M.vm_Run big code env) fun x => x.1 = r.1 ∧ x.2.2 = r.2 := by
  unfold M.vm_Run
  refine Wp.seq _ hver fun y hy => ?_
  refine Wp.ndec (fun h => absurd hy h) fun _ => ?_
  refine Wp.join (Wp.loop (fun s : Int × Int × List Vl => ∃ q k : Nat, s.1 = q ∧ s.2.1 = k ∧ k ≤ code.length ∧ q ≤ k ∧ s.2.2.length ≤ k ∧ Runs code env k s.2.2 r) (fun s => (code.length - s.2.1).toNat) ⟨0, 0, rfl, rfl, Nat.zero_le _, Nat.le_refl _, Nat.le_refl _, hr⟩ (by unfold big; simp only; omega) ?_)
  rintro ⟨_, _, stk⟩ ⟨q, k, rfl, rfl, hk, hq, hsk, hrun⟩
  dsimp only at hsk hrun ⊢
  cases hrun with
  | @done v S =>
    refine Wp.dec (fun h => by omega) fun _ => .some ?_
    show Wp ((idx (v :: S) (0 : Int)).bind _) _
    exact .some ⟨rfl, rfl⟩
  | @jump _ t _ _ n h h51 ht hpt htl next =>
    obtain ⟨hlt, hn⟩ := List.getElem?_eq_some_iff.1 h
    refine Wp.dec (fun _ => ?_) fun h => by omega
    rw [idx_nat hlt, hn]
    simp only [Option.bind_some]
    rw [wrap_succ (k := q) (by omega)]
    refine Wp.join (Wp.dec (fun _ => .some ?_) fun h => absurd h51 h)
    refine Wp.some ⟨⟨q + 1, t, rfl, ht, htl, by omega, by show stk.length ≤ t; omega, next⟩, ?_⟩
    simp only [ht]; omega
  | @op _ a _ _ n h hne ha hs h0 next =>
    obtain ⟨hlt, hn⟩ := List.getElem?_eq_some_iff.1 h
    have hwn : WF rNode n := hw n (List.mem_of_getElem? h)
    refine Wp.dec (fun _ => ?_) fun h => by omega
    rw [idx_nat hlt, hn]
    simp only [Option.bind_some, isCond_eq, arity_eq, ite_some]
    rw [wrap_succ (k := q) (by omega)]
    have n1 : ¬ (n.1 : Int) = 51 := fun h => hne (by rw [h]; decide)
    have n2 : ¬ ((n.1 : Int) = 50 ∨ (n.1 : Int) = 52 ∨ (n.1 : Int) = 53) := fun h => hne (by rcases h with h | h | h <;> rw [h] <;> decide)
    refine Wp.join (Wp.dec (fun h => absurd h n1) fun _ => ?_)
    rw [decide_eq_false n2]
    simp only [Bool.not_false, if_true]
    have wl : IntKind.i64.wrap ((stk.length : Int) - (a : Int)) = ((stk.length - a : Nat) : Int) := by rw [wrap_id (by omega) (by omega)]; omega
    rw [ha, wl, cutA_eq (stk.length - a) stk.length rfl rfl (by omega) (Nat.le_refl _), cutA_zero (by omega), List.take_length, wrap_succ (k := k) (by omega)]
    simp only [Option.bind_some]
    rw [ap_eq he hwn (by simp; omega)]
    simp only [Option.bind_some]
    refine Wp.ndec (fun h => absurd h0 h) fun _ => ?_
    rw [appA_some (by simp; omega)]
    simp only [Option.bind_some]
    refine .some (Wp.some ⟨⟨q + 1, k + 1, rfl, rfl, hlt, by omega, ?_, next⟩, by simp only; omega⟩)
    simp; omega
  | @fail _ a _ n h hne ha hs h0 =>
    obtain ⟨hlt, hn⟩ := List.getElem?_eq_some_iff.1 h
    have hwn : WF rNode n := hw n (List.mem_of_getElem? h)
    refine Wp.dec (fun _ => ?_) fun h => by omega
    rw [idx_nat hlt, hn]
    simp only [Option.bind_some, isCond_eq, arity_eq, ite_some]
    have n1 : ¬ (n.1 : Int) = 51 := fun h => hne (by rw [h]; decide)
    have n2 : ¬ ((n.1 : Int) = 50 ∨ (n.1 : Int) = 52 ∨ (n.1 : Int) = 53) := fun h => hne (by rcases h with h | h | h <;> rw [h] <;> decide)
    refine Wp.join (Wp.dec (fun h => absurd h n1) fun _ => ?_)
    rw [decide_eq_false n2]
    simp only [Bool.not_false, if_true]
    have wl : IntKind.i64.wrap ((stk.length : Int) - (a : Int)) = ((stk.length - a : Nat) : Int) := by rw [wrap_id (by omega) (by omega)]; omega
    rw [ha, wl, cutA_eq (stk.length - a) stk.length rfl rfl (by omega) (Nat.le_refl _), List.take_length]
    simp only [Option.bind_some]
    rw [ap_eq he hwn (by simp; omega)]
    simp only [Option.bind_some]
    refine Wp.ndec (fun _ => .some ?_) fun h => absurd h h0
    exact ⟨rfl, rfl⟩
  | @cond _ t S _ n top h hop ht hpt htl hkd hv next =>
    obtain ⟨hlt, hn⟩ := List.getElem?_eq_some_iff.1 h
    refine Wp.dec (fun _ => ?_) fun h => by omega
    rw [idx_nat hlt, hn]
    simp only [Option.bind_some, isCond_eq, arity_eq, ite_some]
    rw [wrap_succ (k := q) (by omega)]
    have n1 : ¬ (n.1 : Int) = 51 := fun h => by rcases hop with g | g | g <;> (rw [h] at g; exact absurd g (by decide))
    refine Wp.join (Wp.dec (fun h => absurd h n1) fun _ => ?_)
    rw [decide_eq_true hop]
    simp only [Bool.not_true, Bool.false_eq_true, if_false]
    rw [List.length_append, List.length_singleton] at hsk ⊢
    have wl : IntKind.i64.wrap (((S.length + 1 : Nat) : Int) - 1) = (S.length : Int) := by rw [wrap_id (by omega) (by omega)]; omega
    rw [wl, idx_mid' S top]
    simp only [Option.bind_some]
    rw [if_neg (by rw [hkd]; rcases hv with g | g <;> rw [g] <;> simp)]
    rw [cutA_zero (by simp), wrap_succ (k := k) (by omega), List.take_append_of_le_length (Nat.le_refl _), List.take_length]
    simp only [Option.bind_some]
    have hjt : ∀ b : Bool, (if b = true then n.2 else ((k + 1 : Nat) : Int)) = ((if b = true then t else k + 1 : Nat) : Int) := fun b => by cases b <;> simp [ht]
    rw [hjt]
    have hb : decide (decide ((top.2.2 : Int) = 1) = decide ((n.1 : Int) = 53)) = jmp n top := rfl
    rw [hb]
    generalize jmp n top = b at *
    have fin : ∀ (S' : List Vl), S'.length ≤ k → Runs code env (if b = true then t else k + 1) S' r → LoopW (fun s : Int × Int × List Vl => ∃ q k : Nat, s.1 = q ∧ s.2.1 = k ∧ k ≤ code.length ∧ q ≤ k ∧ s.2.2.length ≤ k ∧ Runs code env k s.2.2 r) (fun s => (code.length - s.2.1).toNat) ((q : Int), (k : Int), S ++ [top]) (JoinQ (fun j2 : Int × List Vl => (idx j2.2 0).bind fun x17 => some (x17, j2.1, 0)) fun x : Vl × Int × Int => x.1 = r.1 ∧ x.2.2 = r.2) (Sum.inl (((q + 1 : Nat) : Int), ((if b = true then t else k + 1 : Nat) : Int), S')) := by
      intro S' hS hR
      refine ⟨⟨q + 1, if b = true then t else k + 1, rfl, rfl, by split <;> omega, by split <;> omega, by show S'.length ≤ _; split <;> omega, hR⟩, ?_⟩
      simp only; split <;> omega
    refine Wp.ite (fun hp => .some ?_) fun hp => .some ?_
    · have hx : b = false ∨ (n.1 : Int) = 50 := by
        cases b with
        | false => exact .inl rfl
        | true => exact .inr (by simpa using hp)
      have ex : (if b = false ∨ (n.1 : Int) = 50 then S else S ++ [top]) = S := if_pos hx
      rw [ex] at next
      exact Wp.some (fin S (by omega) next)
    · have hx : ¬ (b = false ∨ (n.1 : Int) = 50) := by
        cases b with
        | false => simp at hp
        | true => simpa using hp
      have ex : (if b = false ∨ (n.1 : Int) = 50 then S else S ++ [top]) = S ++ [top] := if_neg hx
      rw [ex] at next
      exact Wp.some (fin (S ++ [top]) (by rw [List.length_append, List.length_singleton]; exact hsk) next)
  | @cbad _ S n top h hop hbad =>
    obtain ⟨hlt, hn⟩ := List.getElem?_eq_some_iff.1 h
    refine Wp.dec (fun _ => ?_) fun h => by omega
    rw [idx_nat hlt, hn]
    simp only [Option.bind_some, isCond_eq, arity_eq, ite_some]
    have n1 : ¬ (n.1 : Int) = 51 := fun h => by rcases hop with g | g | g <;> (rw [h] at g; exact absurd g (by decide))
    refine Wp.join (Wp.dec (fun h => absurd h n1) fun _ => ?_)
    rw [decide_eq_true hop]
    simp only [Bool.not_true, Bool.false_eq_true, if_false]
    rw [List.length_append, List.length_singleton] at hsk ⊢
    have wl : IntKind.i64.wrap (((S.length + 1 : Nat) : Int) - 1) = (S.length : Int) := by rw [wrap_id (by omega) (by omega)]; omega
    rw [wl, idx_mid' S top]
    simp only [Option.bind_some]
    rw [if_pos (by
      by_cases h1 : (top.1 : Int) = 1
      · have h2 : ¬ (top.2.2 : Int) = 0 := fun h => hbad ⟨h1, .inl h⟩
        have h3 : ¬ (top.2.2 : Int) = 1 := fun h => hbad ⟨h1, .inr h⟩
        simp [h1, h2, h3]
      · simp [h1])]
    exact .some ⟨rfl, rfl⟩

/-- Code that fits depths runs to an end. -/
theorem Fits.runs {code : List Ty} {F : List Int} {env : rEnv.den} (f : Fits code F) : ∀ (m p : Nat) (S : List Vl), code.length - p ≤ m → p ≤ code.length → gd F p = S.length → ∃ r, Runs code env p S r := by
  intro m
  induction m with
  | zero =>
    intro p S hm hp hS
    obtain rfl : p = code.length := by omega
    have hl := f.last
    cases S with
    | nil => simp at hS; omega
    | cons v S => exact ⟨_, .done⟩
  | succ m ih =>
    intro p S hm hp hS
    by_cases hlt : p < code.length
    case neg =>
      obtain rfl : p = code.length := by omega
      have hl := f.last
      cases S with
      | nil => simp at hS; omega
      | cons v S => exact ⟨_, .done⟩
    have hge := List.getElem?_eq_getElem hlt
    rcases (f.step p hlt (by omega)).1 with ⟨h1, t, h2, h3, h4, h5⟩ | ⟨h1, h2, h3, t, h4, h5, h6, h7⟩ | ⟨h1, h2, h3, h4, h5, h6⟩
    · obtain ⟨r, hr⟩ := ih t S (by omega) h4 (by omega)
      exact ⟨r, .jump hge h1 h2 h3 h4 hr⟩
    · rcases List.eq_nil_or_concat S with rfl | ⟨S', top, rfl⟩
      · simp at hS; omega
      simp only [List.concat_eq_append] at hS ⊢
      rw [List.length_append, List.length_singleton] at hS
      by_cases hg : (top.1 : Int) = 1 ∧ ((top.2.2 : Int) = 0 ∨ (top.2.2 : Int) = 1)
      · obtain ⟨r, hr⟩ := ih (if jmp code[p] top = true then t else p + 1) (if jmp code[p] top = false ∨ (code[p].1 : Int) = 50 then S' else S' ++ [top]) (by split <;> omega) (by split <;> omega) (by
          by_cases hj : jmp code[p] top = true
          · rw [if_pos hj, h7]
            by_cases h50 : (code[p].1 : Int) = 50
            · rw [if_pos h50, if_pos (.inr h50)]; omega
            · rw [if_neg h50, if_neg (by simp [hj, h50]), List.length_append, List.length_singleton]; omega
          · rw [if_neg hj, if_pos (.inl (by simpa using hj)), h3]; omega)
        exact ⟨r, .cond hge h1 h4 h5 h6 hg.1 hg.2 hr⟩
      · exact ⟨_, .cbad hge h1 hg⟩
    · obtain ⟨a, ha⟩ : ∃ a : Nat, ar code[p].1 = a := ⟨(ar code[p].1).toNat, by omega⟩
      have hnj : ¬ (50 ≤ (code[p].1 : Int) ∧ (code[p].1 : Int) ≤ 53) := by
        generalize (code[p].1 : Int) = o at h1 h2
        dsimp only [rInt, Row.den] at *
        omega
      by_cases h0 : (apE env code[p] (S.drop (S.length - a))).2 = 0
      · obtain ⟨r, hr⟩ := ih (p + 1) (S.take (S.length - a) ++ [(apE env code[p] (S.drop (S.length - a))).1]) (by omega) hlt (by
          rw [h5, List.length_append, List.length_take, List.length_singleton, Nat.min_eq_left (by omega)]; omega)
        exact ⟨r, .op hge hnj ha (by omega) h0 hr⟩
      · exact ⟨_, .fail hge hnj ha (by omega) h0⟩
end L
end Go.Proofs.YtpgggmcpflgniaaDoor
