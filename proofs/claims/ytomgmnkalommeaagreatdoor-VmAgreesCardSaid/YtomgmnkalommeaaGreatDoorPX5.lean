/- Whole expressions (plain laws). -/
import Derived.Test.YtomgmnkalommeaaGreatDoorPX3
namespace Go.Proofs.YtomgmnkalommeaaGreatDoor
open Go Go.RowKit
set_option maxRecDepth 100000
namespace L

structure Whole (e : List Ty) (st : List Nat) : Prop where
  val : Val e st
  ne : e ≠ []
  le : e.length ≤ 48
  one : st[e.length - 1]? = some 0
  res : sres e = (0, 0, natL st)

theorem srun_code : ∀ (e : List Ty) (i : Nat) (st sk : List Nat) (j : Nat) (c : Int), srun e i st sk = .inl (j, c) → c = 2 ∨ c = 5 ∨ c = 16
  | [], _, _, _, _, _, h => by rw [srun] at h; cases h
  | n :: e, i, st, sk, j, c, h => by
    rw [srun] at h
    split at h
    · cases h; exact .inl rfl
    split at h
    · cases h; exact .inr (.inl rfl)
    split at h
    · cases h; exact .inr (.inr rfl)
    exact srun_code e _ _ _ j c h
theorem Ch.nil_inv {st l : List Nat} {n : Nat} (h : Ch st n l) (hl : l = []) : n = 0 := by
  cases h with
  | nil => rfl
  | snoc => simp at hl
theorem Ch.zero_inv {st l : List Nat} {n : Nat} (h : Ch st n l) (hl : n = 0) : l = [] := by
  cases h with
  | nil => rfl
  | snoc => omega
theorem Ch.one {st l : List Nat} {n : Nat} (h : Ch st n l) (hn : 0 < n) : l.length ≤ 1 ↔ st[n - 1]? = some 0 := by
  cases h with
  | nil => omega
  | @snoc i s l h1 h2 c =>
    rw [Nat.add_sub_cancel, h1]
    constructor
    · intro hl
      have : l = [] := List.length_eq_zero_iff.1 (by rw [List.length_append, List.length_singleton] at hl; omega)
      rw [c.nil_inv this]
    · intro hs
      have h0 : s = 0 := by simpa using hs
      rw [h0] at c
      rw [c.zero_inv rfl]; simp
theorem whole_of {e : List Ty} {st : List Nat} (v : Val e st) (hne : e ≠ []) (hl : e.length ≤ 48) (h1 : st[e.length - 1]? = some 0) : Whole e st := by
  have hpos : 0 < e.length := List.length_pos_iff.2 hne
  refine ⟨v, hne, hl, h1, ?_⟩
  obtain ⟨sk, g1, g2⟩ := val_srun v e [] [] rfl .nil
  simp only [List.length_nil, List.take_zero] at g1
  unfold sres
  rw [if_neg (by omega), if_neg (by omega), g1]
  simp only
  rw [if_neg]
  have := (g2.one hpos).2 h1
  omega
theorem sres_cases (e : List Ty) : (sres e).2.1 ≠ 0 ∨ ∃ st, Whole e st := by
  unfold sres
  split
  · left; show (4 : Int) ≠ 0; decide
  rename_i hl
  split
  · left; show (5 : Int) ≠ 0; decide
  rename_i hne
  cases hs : srun e 0 [] [] with
  | inl p =>
    left
    obtain ⟨j, c⟩ := p
    show c ≠ 0
    have := srun_code _ _ _ _ _ _ hs
    omega
  | inr p =>
    obtain ⟨st, sk⟩ := p
    obtain ⟨v, c⟩ := srun_val e [] [] [] st sk Val.nil .nil hs
    simp only [List.nil_append] at v c
    by_cases h1 : 1 < sk.length
    · left
      simp only [if_pos h1]
      decide
    · right
      exact ⟨st, whole_of v (fun h => hne (by rw [h]; rfl)) (by omega) ((c.one (by omega)).1 (by omega))⟩
/-- A subexpression is an expression. -/
theorem Whole.sub {e : List Ty} {st : List Nat} (w : Whole e st) {o s : Nat} (ho : st[o]? = some s) (hs : s ≤ o) : Whole ((e.take (o + 1)).drop s) (cutS st s o) := by
  have hlt : o < e.length := by rw [← w.val.len]; exact (List.getElem?_eq_some_iff.1 ho).1
  have hlen : ((e.take (o + 1)).drop s).length = o + 1 - s := by simp; omega
  have hle := w.le
  refine whole_of (w.val.cut ho) (fun h => ?_) (by omega) ?_
  · rw [h] at hlen; simp at hlen; omega
  · rw [hlen, show o + 1 - s - 1 = o - s by omega, cutS_get ho hs (Nat.le_refl _), Nat.sub_self]

theorem wf_mem {e : List Ty} (h : WF (.slice rType) e) : ∀ n ∈ e, WF rType n := h.2
theorem Eval_whole {e : List Ty} {st : List Nat} (w : Whole e st) {env : rEnv.den} (he : EnvOK env) (hw : ∀ n ∈ e, WF rType n) : M.eval_Eval big e env = some (nodeE (apE env) e st e.length (e.length - 1)) := by
  have hpos : 0 < e.length := List.length_pos_iff.2 w.ne
  have hle := w.le
  unfold M.eval_Eval M.expr_Starts
  rw [structure_eq, w.res]
  simp only [Option.bind_some]
  rw [if_neg (by simp)]
  unfold M.eval_evaluator_node
  rw [show IntKind.i64.wrap ((e.length : Int) - 1) = ((e.length - 1 : Nat) : Int) by rw [wrap_id (by omega) (by omega)]; omega]
  rw [node_eq w.val (by omega) he hw e.length big (e.length - 1) (by omega) (by omega) (by unfold big; omega)]
  rfl
theorem Eval_bad {e : List Ty} (h : (sres e).2.1 ≠ 0) (env : rEnv.den) : M.eval_Eval big e env = some (z3, (sres e).2.1) := by
  unfold M.eval_Eval M.expr_Starts
  rw [structure_eq]
  simp only [Option.bind_some]
  rw [if_pos (by simp [h])]
  rfl
end L
end Go.Proofs.YtomgmnkalommeaaGreatDoor
