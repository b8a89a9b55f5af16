/- Expressions in postfix order: evaluated (plain laws). -/
import Derived.Test.YtomgmnkalommeaaDoorPX2
namespace Go.Proofs.YtomgmnkalommeaaDoor
open Go Go.RowKit
namespace L

/-- The operands of the node i, a of them. -/
def opsL (st : List Nat) : Nat → Nat → List Nat
  | 0, _ => []
  | a + 1, i => opsL st a (st.getD (i - 1) 0) ++ [i - 1]
theorem opsL_len (st : List Nat) : ∀ a i, (opsL st a i).length = a
  | 0, _ => rfl
  | a + 1, i => by simp [opsL, opsL_len st a]
/-- The operands, and where they begin. -/
theorem ops_ok {st l : List Nat} {i : Nat} (c : Ch st i l) : ∀ a, a ≤ l.length → (∀ o ∈ opsL st a i, o < i ∧ (if h : l.length - a < l.length then l[l.length - a] else i) ≤ o ∧ ∃ s, st[o]? = some s ∧ s ≤ o ∧ (if h : l.length - a < l.length then l[l.length - a] else i) ≤ s) := by
  induction c with
  | nil => intro a ha o ho; simp at ha; subst ha; simp [opsL] at ho
  | @snoc i s l h1 h2 c ih =>
    intro a ha o ho
    cases a with
    | zero => simp [opsL] at ho
    | succ a =>
      have hlt : (l ++ [s]).length - (a + 1) < (l ++ [s]).length := by simp; omega
      rw [dif_pos hlt]
      have e1 : (l ++ [s])[(l ++ [s]).length - (a + 1)] = (if h : l.length - a < l.length then l[l.length - a] else s) := by
        split
        · rename_i h
          rw [List.getElem_append_left (by simp; omega)]
          congr 1
          simp
        · rename_i h
          rw [List.getElem_append_right (by simp; omega)]
          simp
      rw [e1]
      have hg : st.getD (i + 1 - 1) 0 = s := by simp [List.getD, h1]
      rw [opsL, hg] at ho
      simp at ha
      have hle : (if h : l.length - a < l.length then l[l.length - a] else s) ≤ s := by
        split
        · rename_i h
          exact Nat.le_of_lt (c.lt _ (List.getElem_mem h))
        · exact Nat.le_refl _
      rcases List.mem_append.1 ho with ho | ho
      · obtain ⟨g1, g2, t, g3, g4, g5⟩ := ih a ha o ho
        exact ⟨by omega, g2, t, g3, g4, g5⟩
      · rw [List.mem_singleton.1 ho, Nat.add_sub_cancel]
        exact ⟨by omega, by omega, s, h1, h2, hle⟩
theorem Val.ops {e : List Ty} {st : List Nat} (v : Val e st) {p : Nat} (h : p < e.length) : ∀ o ∈ opsL st (ar e[p].1).toNat p, o < p ∧ ∃ s t, st[o]? = some s ∧ s ≤ o ∧ st[p]? = some t ∧ t ≤ s := by
  obtain ⟨h0, l, h1, h2, _, h4⟩ := v.node p h
  intro o ho
  obtain ⟨g1, g2, s, g3, g4, g5⟩ := ops_ok h1 _ h2 o ho
  refine ⟨g1, s, _, g3, g4, h4, ?_⟩
  unfold sst
  split
  · rename_i hz
    rw [hz] at ho
    simp [opsL] at ho
  · have hm : l.length - (ar e[p].1).toNat < l.length := by omega
    rw [dif_pos hm] at g5
    simpa [List.getD, List.getElem?_eq_getElem hm] using g5

/-! ## Evaluation -/
def z3 : Vl := ((0, 0, 0) : Int × Int × Int)
def argsE (g : Nat → Vl × Int) : List Nat → List Vl ⊕ Int
  | [] => .inl []
  | o :: os => if (g o).2 = 0 then (match argsE g os with
    | .inl vs => .inl ((g o).1 :: vs)
    | .inr c => .inr c) else .inr (g o).2
def boolE (r : Vl × Int) : Vl × Int := if r.2 ≠ 0 then (z3, r.2) else if (r.1.1 : Int) = 1 ∧ Plaus r.1.1 r.1.2.1 r.1.2.2 then (r.1, 0) else (z3, 8)
def lazyE (g : Nat → Vl × Int) (n : Ty) (ops : List Nat) : Vl × Int :=
  if (n.2 : Int) ≠ 0 then (z3, 2) else
  if (boolE (g (ops.getD 0 0))).2 ≠ 0 then (z3, (boolE (g (ops.getD 0 0))).2) else
  if (n.1 : Int) = 26 ∧ ((boolE (g (ops.getD 0 0))).1.2.2 : Int) = 1 then g (ops.getD 1 0) else
  if (n.1 : Int) = 26 then g (ops.getD 2 0) else
  if ((n.1 : Int) = 23) = (((boolE (g (ops.getD 0 0))).1.2.2 : Int) = 0) then ((boolE (g (ops.getD 0 0))).1, 0) else boolE (g (ops.getD 1 0))
def isLazy (op : Int) : Prop := op = 23 ∨ op = 24 ∨ op = 26
instance (op : Int) : Decidable (isLazy op) := by unfold isLazy; infer_instance
noncomputable def nodeE (ap : Ty → List Vl → Vl × Int) (e : List Ty) (st : List Nat) : Nat → Nat → Vl × Int
  | 0, _ => (z3, 0)
  | f + 1, i => if isLazy (e.getD i ((0, 0) : Int × Int)).1 then lazyE (nodeE ap e st f) (e.getD i ((0, 0) : Int × Int)) (opsL st (ar (e.getD i ((0, 0) : Int × Int)).1).toNat i)
    else match argsE (nodeE ap e st f) (opsL st (ar (e.getD i ((0, 0) : Int × Int)).1).toNat i) with
      | .inl vs => ap (e.getD i ((0, 0) : Int × Int)) vs
      | .inr c => (z3, c)

theorem argsE_congr {g g' : Nat → Vl × Int} : ∀ {os os' : List Nat}, os.length = os'.length → (∀ k (h : k < os.length) (h' : k < os'.length), g os[k] = g' os'[k]) → argsE g os = argsE g' os'
  | [], [], _, _ => rfl
  | o :: os, o' :: os', hl, h => by
    have h0 := h 0 (by simp) (by simp)
    simp only [List.getElem_cons_zero] at h0
    have ih := argsE_congr (g := g) (g' := g') (os := os) (os' := os') (by simpa using hl) fun k hk hk' => by
      have := h (k + 1) (by simpa using hk) (by simpa using hk')
      simpa using this
    unfold argsE
    rw [h0, ih]
  | [], _ :: _, hl, _ => by simp at hl
  | _ :: _, [], hl, _ => by simp at hl

/-- The value of a node: of what lies ahead of it alone. -/
theorem nodeE_cut {ap : Ty → List Vl → Vl × Int} {e : List Ty} {st : List Nat} (v : Val e st) {P s : Nat} (hP : st[P]? = some s) : ∀ (f f' i : Nat), s ≤ i → i ≤ P → i < f → i - s < f' → nodeE ap ((e.take (P + 1)).drop s) (cutS st s P) f' (i - s) = nodeE ap e st f i := by
  have hlt : P < e.length := by rw [← v.len]; exact (List.getElem?_eq_some_iff.1 hP).1
  intro f
  induction f with
  | zero => intro f' i _ _ h; omega
  | succ f ih =>
    intro f' i h1 h2 h3 h4
    obtain ⟨f', rfl⟩ : ∃ m, f' = m + 1 := ⟨f' - 1, by omega⟩
    have hi : i < e.length := by omega
    have hget : ((e.take (P + 1)).drop s).getD (i - s) ((0, 0) : Int × Int) = e.getD i ((0, 0) : Int × Int) := by
      simp only [List.getD, List.getElem?_drop, show s + (i - s) = i by omega]
      rw [List.getElem?_take_of_lt (by omega)]
    have hge : e.getD i ((0, 0) : Int × Int) = e[i] := by simp [List.getD, hi]
    unfold nodeE
    rw [hget, hge]
    obtain ⟨h0, l, hc, ha, _, hsi⟩ := v.node i hi
    obtain ⟨t, ht1, ht2⟩ := v.nest P i s hP h1 h2
    -- the operands, shifted
    have hops : ∀ (a j : Nat) (l : List Nat), Ch st j l → a ≤ l.length → j ≤ P + 1 → (a = 0 ∨ s ≤ l.getD (l.length - a) 0) → s ≤ j → opsL (cutS st s P) a (j - s) = (opsL st a j).map (· - s) := by
      intro a
      induction a with
      | zero => intro j l _ _ _ _ _; simp [opsL]
      | succ a iha =>
        intro j l c hal hj hs hsj
        cases c with
        | nil => simp at hal
        | @snoc j u l g1 g2 c =>
          simp at hal
          have hu : s ≤ u := by
            rcases hs with hs | hs
            · omega
            · by_cases ha0 : a = 0
              · subst ha0
                simpa [List.getD] using hs
              · have hm : l.length - a < l.length := by omega
                have : (l ++ [u]).getD ((l ++ [u]).length - (a + 1)) 0 = l[l.length - a] := by
                  have : (l ++ [u]).length - (a + 1) = l.length - a := by simp
                  rw [this]
                  simp [List.getD, List.getElem?_append_left hm, hm]
                rw [this] at hs
                have := c.lt _ (List.getElem_mem hm)
                omega
          have e1 : j + 1 - s - 1 = j - s := by omega
          have e2 : (cutS st s P).getD (j - s) 0 = u - s := by
            have := cutS_get (s := s) (P := P) g1 (by omega) (by omega)
            simp [List.getD, this]
          have e3 : st.getD (j + 1 - 1) 0 = u := by simp [List.getD, g1]
          rw [opsL, opsL, e1, e2, e3, List.map_append]
          rw [iha u l c hal (by omega) ?_ hu]
          · simp
          · by_cases ha0 : a = 0
            · exact .inl ha0
            · rcases hs with hs | hs
              · omega
              · have hm : l.length - a < l.length := by omega
                have : (l ++ [u]).getD ((l ++ [u]).length - (a + 1)) 0 = l.getD (l.length - a) 0 := by
                  have : (l ++ [u]).length - (a + 1) = l.length - a := by simp
                  rw [this]
                  simp [List.getD, List.getElem?_append_left hm]
                rw [this] at hs
                exact .inr hs
    have hsst : (ar e[i].1).toNat = 0 ∨ s ≤ l.getD (l.length - (ar e[i].1).toNat) 0 := by
      rw [hsi] at ht1
      have ht1 := Option.some.inj ht1
      unfold sst at ht1
      split at ht1
      · left; omega
      · right; omega
    rw [hops _ i l hc ha (by omega) hsst h1]
    have hin := v.ops hi
    -- the operands' values
    have hval : ∀ k (hk : k < (opsL st (ar e[i].1).toNat i).length), nodeE ap ((e.take (P + 1)).drop s) (cutS st s P) f' ((opsL st (ar e[i].1).toNat i)[k] - s) = nodeE ap e st f ((opsL st (ar e[i].1).toNat i)[k]) := by
      intro k hk
      obtain ⟨g1, u, w, g2, g3, g4, g5⟩ := hin _ (List.getElem_mem hk)
      rw [ht1] at g4
      obtain rfl := Option.some.inj g4
      exact ih f' _ (by omega) (by omega) (by omega) (by omega)
    have hargs : argsE (nodeE ap ((e.take (P + 1)).drop s) (cutS st s P) f') ((opsL st (ar e[i].1).toNat i).map (· - s)) = argsE (nodeE ap e st f) (opsL st (ar e[i].1).toNat i) :=
      argsE_congr (by simp) fun k hk hk' => by
        rw [List.getElem_map]
        exact hval k hk'
    rw [hargs]
    by_cases hz : isLazy e[i].1
    · rw [if_pos hz, if_pos hz]
      have har : 2 ≤ ar e[i].1 ∧ (e[i].1 = (26 : Int) → ar e[i].1 = 3) := by
        revert hz
        generalize (e[i].1 : Int) = op
        intro hz
        rcases hz with rfl | rfl | rfl <;> decide
      have hlen := opsL_len st (ar e[i].1).toNat i
      have hd : ∀ k, k < (ar e[i].1).toNat → nodeE ap ((e.take (P + 1)).drop s) (cutS st s P) f' (((opsL st (ar e[i].1).toNat i).map (· - s)).getD k 0) = nodeE ap e st f ((opsL st (ar e[i].1).toNat i).getD k 0) := by
        intro k hk
        have := hval k (by omega)
        simpa [List.getD, hlen, hk] using this
      unfold lazyE
      rw [hd 0 (by omega), hd 1 (by omega)]
      by_cases h26 : (e[i].1 : Int) = 26
      · rw [hd 2 (by rw [har.2 h26]; decide)]
      · simp only [h26, false_and, if_false]
    · rw [if_neg hz, if_neg hz]
end L
end Go.Proofs.YtomgmnkalommeaaDoor
