/- The operands on the stack: the evaluation as a run (plain laws). -/
import Derived.Test.YtomgmnkalommeaaGreatDoorPX5
namespace Go.Proofs.YtomgmnkalommeaaGreatDoor
open Go Go.RowKit
set_option maxRecDepth 100000
namespace L

theorem nodeE_fuel {e : List Ty} {st : List Nat} (w : Whole e st) {env : rEnv.den} (he : EnvOK env) (hw : ∀ n ∈ e, WF rType n) {f f' i : Nat} (hi : i < e.length) (h : i < f) (h' : i < f') : nodeE (apE env) e st f i = nodeE (apE env) e st f' i := by
  have hle : e.length ≤ 100000 := by have := w.le; omega
  have a := node_eq w.val hle he hw f (3 * f + 3 * f') i h hi (by omega)
  rw [node_eq w.val hle he hw f' (3 * f + 3 * f') i h' hi (by omega)] at a
  exact (Option.some.inj a).symm

theorem argsE_app {g : Nat → Vl × Int} : ∀ (xs ys : List Nat), argsE g (xs ++ ys) = match argsE g xs with
    | .inl v => (match argsE g ys with | .inl w => .inl (v ++ w) | .inr c => .inr c)
    | .inr c => .inr c
  | [], ys => by
    rw [List.nil_append]
    simp only [argsE, List.nil_append]
    cases argsE g ys <;> rfl
  | x :: xs, ys => by
    rw [List.cons_append, argsE, argsE, argsE_app xs ys]
    split
    · cases argsE g xs with
      | inr c => rfl
      | inl v => cases argsE g ys <;> rfl
    · rfl

theorem argsE_ne {g : Nat → Vl × Int} : ∀ {os : List Nat} {c : Int}, argsE g os = .inr c → c ≠ 0
  | [], c, h => by cases h
  | o :: os, c, h => by
    rw [argsE] at h
    split at h
    · cases hq : argsE g os with
      | inl vs => rw [hq] at h; cases h
      | inr d => rw [hq] at h; cases h; exact argsE_ne hq
    · rename_i h0
      cases h; exact h0
/-- The stack's nodes: those ahead of the operands, then the operands. -/
theorem opsL_split {st : List Nat} : ∀ {i : Nat} {l : List Nat}, Ch st i l → ∀ a : Nat, a ≤ l.length → opsL st l.length i = opsL st (l.length - a) (sst (a : Int) i l) ++ opsL st a i := by
  intro i l c
  induction c with
  | nil =>
    intro a ha
    obtain rfl : a = 0 := by simpa using ha
    simp [opsL]
  | @snoc j s l h1 h2 c ih =>
    intro a ha
    rw [List.length_append, List.length_singleton] at ha ⊢
    have hg : st.getD (j + 1 - 1) 0 = s := by simp [List.getD, h1]
    cases a with
    | zero => simp [sst, opsL]
    | succ a =>
      have e1 : opsL st (l.length + 1) (j + 1) = opsL st l.length s ++ [j] := by rw [opsL, hg]; rfl
      have e2 : opsL st (a + 1) (j + 1) = opsL st a s ++ [j] := by rw [opsL, hg]; rfl
      rw [e1, e2, ih a (by omega), List.append_assoc]
      have e3 : l.length + 1 - (a + 1) = l.length - a := by omega
      rw [e3]
      congr 1
      have en : ((a + 1 : Nat) : Int).toNat = a + 1 := by omega
      have s1 : sst ((a + 1 : Nat) : Int) (j + 1) (l ++ [s]) = (l ++ [s]).getD (l.length - a) 0 := by
        unfold sst
        rw [if_neg (by omega), List.length_append, List.length_singleton, en, e3]
      rw [s1]
      unfold sst
      by_cases h0 : (a : Int) = 0
      · rw [if_pos h0]
        have : a = 0 := by omega
        subst this
        simp [List.getD]
      · rw [if_neg h0, Int.toNat_natCast]
        have hlt : l.length - a < l.length := by omega
        simp [List.getD, List.getElem?_append_left hlt]

noncomputable def runV (env : rEnv.den) (n : Ty) (a L : Nat) : List Vl ⊕ Int → List Vl ⊕ Int
  | .inr c => .inr c
  | .inl vs => if (apE env n (vs.drop (L - a))).2 = 0 then .inl (vs.take (L - a) ++ [(apE env n (vs.drop (L - a))).1]) else .inr (apE env n (vs.drop (L - a))).2

theorem V_step {e : List Ty} {st : List Nat} (w : Whole e st) {env : rEnv.den} (he : EnvOK env) (hw : ∀ n ∈ e, WF rType n) {i : Nat} (hi : i < e.length) (hnl : ¬ isLazy e[i].1) {l : List Nat} (c : Ch st i l) (h0 : 0 ≤ ar e[i].1) (ha : (ar e[i].1).toNat ≤ l.length) (hs : st[i]? = some (sst (ar e[i].1) i l)) : argsE (nodeE (apE env) e st e.length) (opsL st (l.length - (ar e[i].1).toNat + 1) (i + 1)) = runV env e[i] (ar e[i].1).toNat l.length (argsE (nodeE (apE env) e st e.length) (opsL st l.length i)) := by
  have hle := w.le
  have hops := w.val.ops hi
  obtain ⟨m, hm⟩ : ∃ m, e.length = m + 1 := ⟨e.length - 1, by omega⟩
  have hge : e.getD i ((0, 0) : Int × Int) = e[i] := by simp only [List.getD, List.getElem?_eq_getElem hi, Option.getD_some]
  have hnode : nodeE (apE env) e st e.length i = match argsE (nodeE (apE env) e st e.length) (opsL st (ar e[i].1).toNat i) with
      | .inl vs => apE env e[i] vs
      | .inr c => (z3, c) := by
    conv => lhs; rw [show nodeE (apE env) e st e.length = nodeE (apE env) e st (m + 1) by rw [← hm]]
    rw [nodeE, hge, if_neg hnl]
    have : argsE (nodeE (apE env) e st m) (opsL st (ar e[i].1).toNat i) = argsE (nodeE (apE env) e st e.length) (opsL st (ar e[i].1).toNat i) := argsE_congr rfl fun k h h' => by
      obtain ⟨o1, _⟩ := hops _ (List.getElem_mem h)
      exact nodeE_fuel w he hw (by omega) (by omega) (by omega)
    rw [this]
    rfl
  generalize ha' : (ar e[i].1).toNat = a at *
  have hae : ar e[i].1 = (a : Int) := by omega
  rw [hae] at hs
  have e1 : opsL st (l.length - a + 1) (i + 1) = opsL st (l.length - a) (sst (a : Int) i l) ++ [i] := by
    have hg : st.getD (i + 1 - 1) 0 = sst (a : Int) i l := by simp [List.getD, hs]
    rw [opsL, hg]; rfl
  have hlen := opsL_len st (l.length - a) (sst (a : Int) i l)
  rw [e1, opsL_split c a ha, argsE_app, argsE_app]
  cases h1 : argsE (nodeE (apE env) e st e.length) (opsL st (l.length - a) (sst (a : Int) i l)) with
  | inr c => rfl
  | inl v =>
    have hv : v.length = l.length - a := by rw [argsE_len h1, hlen]
    simp only [argsE]
    rw [hnode]
    cases h2 : argsE (nodeE (apE env) e st e.length) (opsL st a i) with
    | inr c =>
      simp only [runV]
      have hc : c ≠ 0 := argsE_ne h2
      rw [if_neg hc]
    | inl u =>
      simp only [runV]
      rw [List.drop_append_of_le_length (by omega), List.drop_of_length_le (by omega), List.nil_append, List.take_append_of_le_length (by omega), List.take_of_length_le (by omega)]
      by_cases hz : (apE env e[i] u).2 = 0
      · rw [if_pos hz, if_pos hz]
      · rw [if_neg hz, if_neg hz]

theorem one_ops {e : List Ty} {st : List Nat} (w : Whole e st) {l : List Nat} (c : Ch st e.length l) : opsL st l.length e.length = [e.length - 1] := by
  have hp : 0 < e.length := List.length_pos_iff.2 w.ne
  have h1 : l.length = 1 := by
    have := (c.one hp).2 w.one
    have := List.length_pos_iff.2 (c.pos hp)
    omega
  rw [h1, opsL]
  rfl

end L
end Go.Proofs.YtomgmnkalommeaaGreatDoor
