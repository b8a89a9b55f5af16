/- Chapter 17: the program's types of expressions are those of the reference (plain laws). -/
/- Chapter 17: the program's types of nodes with one operand or none (plain laws). -/
/- Chapter 17: the program's TypeOf is that of the reference (plain laws). -/
import Derived.Test.YtjeeligfdpociaaGreatRU
import Derived.Test.YtjeeligfdpociaaGreatRU
namespace Go.Proofs.YtjeeligfdpociaaGreat
open Go Go.RowKit
set_option maxRecDepth 100000
set_option linter.unusedSimpArgs false
namespace L


theorem par_eq (op : Int) : M.expr_Arity big op = some (ar op) := by
  apply Wp.eq; unfold M.expr_Arity ar; simp only [a_, b_, c_, d_, e_, f_, g_, h_, i_, j_, k_, l_, m_, n_, o_, p_, q_, r_, s_, t_, u_, v_, w_, x_, y_, z_, A_, B_, C_, D_, E_, F_, G_, H_, I_, J_, K_, L_, M_, N_, O_, P_, reduceCtorEq]; omega
theorem usesN_eq (op : Int) : M.expr_UsesN big op = some (decide ((1 ≤ op ∧ op ≤ 8) ∨ (14 ≤ op ∧ op ≤ 16) ∨ op = 33 ∨ op = 34 ∨ (36 ≤ op ∧ op ≤ 39))) := by
  apply Wp.eq; unfold M.expr_UsesN; simp only [a_, b_, c_, d_, e_, f_, g_, h_, i_, j_, k_, l_, m_, n_, o_, p_, q_, r_, s_, t_, u_, v_, w_, x_, y_, z_, A_, B_, C_, D_, E_, F_, G_, H_, I_, J_, K_, L_, M_, N_, O_, P_, reduceCtorEq]; omega
theorem pnum_eq (k : Int) : M.expr_isNumber big k = some (decide (k = 2 ∨ k = 3 ∨ k = 4)) := by
  apply Wp.eq; unfold M.expr_isNumber; simp only [a_, b_, c_, d_, e_, f_, g_, h_, i_, j_, k_, l_, m_, n_, o_, p_, q_, r_, s_, t_, u_, v_, w_, x_, y_, z_, A_, B_, C_, D_, E_, F_, G_, H_, I_, J_, K_, L_, M_, N_, O_, P_, reduceCtorEq]; omega
theorem pmode_eq (k : Int) : M.expr_validMode big k = some (decide (0 ≤ k ∧ k ≤ 5)) := by
  apply Wp.eq; unfold M.expr_validMode; simp only [a_, b_, c_, d_, e_, f_, g_, h_, i_, j_, k_, l_, m_, n_, o_, p_, q_, r_, s_, t_, u_, v_, w_, x_, y_, z_, A_, B_, C_, D_, E_, F_, G_, H_, I_, J_, K_, L_, M_, N_, O_, P_, reduceCtorEq]; omega
theorem plit_eq (m k : Int) (s : Sgn) : M.expr_literalType big m k s = some (if InB m (k, (0 : Int)) s.1 then ((k, (0 : Int)), (0 : Int)) else (((0 : Int), (0 : Int)), (3 : Int))) := by
  apply Wp.eq
  unfold M.expr_literalType
  simp only [pBnd_eq, a_, b_, c_, d_, e_, f_, g_, h_, i_, j_, k_, l_, m_, n_, o_, p_, q_, r_, s_, t_, u_, v_, w_, x_, y_, z_, A_, B_, C_, D_, E_, F_, G_, H_, I_, J_, K_, L_, M_, N_, O_, P_, reduceCtorEq]
  have hI : InB m (k, (0 : Int)) s.1 ↔ (bnd (k, (0 : Int)) s.1).1 ≤ m ∧ m ≤ (bnd (k, (0 : Int)) s.1).2 := Iff.rfl
  exact ⟨fun h => by rw [if_neg fun g => by have := hI.1 g; omega], fun h => ⟨fun h' => by rw [if_neg fun g => by have := hI.1 g; omega], fun h' => by rw [if_pos (hI.2 (by omega))]⟩⟩
/-- The program's type of a node. -/
noncomputable def pN (n : Ty) (l : List Ty) (s : Sgn) : Option (Ty × Int) :=
  if (n.2 : Int) ≠ 0 ∧ ¬ ((1 ≤ (n.1 : Int) ∧ (n.1 : Int) ≤ 8) ∨ (14 ≤ (n.1 : Int) ∧ (n.1 : Int) ≤ 16) ∨ (n.1 : Int) = 33 ∨ (n.1 : Int) = 34 ∨ (36 ≤ (n.1 : Int) ∧ (n.1 : Int) ≤ 39)) then some (((0 : Int), (0 : Int)), 2) else M.expr_nodeType big n l s
/-- A type whose second part is idle where its kind is no enumeration. -/
def Nrm (t : Ty) : Prop := 1 ≤ (t.1 : Int) ∧ (t.1 : Int) ≤ 5 → (t.2 : Int) = 0
theorem two_eq (op m : Int) (a b : Ty) (s : Sgn) (h2 : ar op = 2) (ha : Nrm a) (_ : Nrm b) : pN (op, m) [a, b] s = M.ref10_Result big (op, m) [a, b] s := by
  have hr := Rgd_eq (op, m) s
  have hR : Rgd op m s ↔ (14 ≤ op ∧ op ≤ 16 → 0 ≤ m ∧ m ≤ 5) := by
    unfold ar at h2
    unfold Rgd
    exact ⟨fun h => h.2.1, fun h => ⟨fun _ => by omega, h, fun _ => by omega, fun _ => by omega⟩⟩
  have hop : op = 11 ∨ op = 12 ∨ op = 13 ∨ op = 14 ∨ op = 15 ∨ op = 16 ∨ op = 17 ∨ op = 18 ∨ op = 19 ∨ op = 20 ∨ op = 21 ∨ op = 22 ∨ op = 23 ∨ op = 24 ∨ op = 27 ∨ op = 28 ∨ op = 29 ∨ op = 30 := by unfold ar at h2; omega
  obtain ⟨(a1 : Int), (a2 : Int)⟩ := a
  obtain ⟨(b1 : Int), (b2 : Int)⟩ := b
  simp only [Nrm] at ha
  rcases hop with rfl | rfl | rfl | rfl | rfl | rfl | rfl | rfl | rfl | rfl | rfl | rfl | rfl | rfl | rfl | rfl | rfl | rfl
  all_goals
    unfold pN M.expr_nodeType M.expr_resultType M.expr_productType M.ref10_Result M.ref10_found M.ref10_double M.ref10_scaled
    simp [meaning_eq, number_eq, ordered_eq, kind_eq, pnum_eq, pmode_eq, Join, hr, hR, idx, eqT]
    grind
theorem three_eq (op m : Int) (a b c : Ty) (s : Sgn) (h3 : ar op = 3) : pN (op, m) [a, b, c] s = M.ref10_Result big (op, m) [a, b, c] s := by
  have hop : op = 26 := by unfold ar at h3; omega
  subst hop
  have hr := Rgd_eq ((26 : Int), m) s
  have hR : Rgd 26 m s := by unfold Rgd; omega
  obtain ⟨(a1 : Int), (a2 : Int)⟩ := a
  obtain ⟨(b1 : Int), (b2 : Int)⟩ := b
  obtain ⟨(c1 : Int), (c2 : Int)⟩ := c
  unfold pN M.expr_nodeType M.expr_resultType M.ref10_Result M.ref10_found
  simp [meaning_eq, number_eq, ordered_eq, kind_eq, pnum_eq, pmode_eq, Join, hr, hR, idx, eqT]
  grind


theorem one_eq (op m : Int) (a : Ty) (s : Sgn) (hm : m ≤ 9223372036854775807) (h1 : ar op = 1) (ha : Nrm a) : pN (op, m) [a] s = M.ref10_Result big (op, m) [a] s := by
  have hr := Rgd_eq (op, m) s
  have hR : Rgd op m s ↔ (op = 34 → 0 ≤ m ∧ Int.tmod m 8 ≤ 5) := by
    unfold ar at h1
    unfold Rgd
    exact ⟨fun h => h.2.2.1, fun h => ⟨fun _ => by omega, fun _ => by omega, h, fun _ => by omega⟩⟩
  have hd : 0 ≤ m → 0 ≤ IntKind.i64.wrap (Int.tdiv m 8) := fun h => div16 h hm (by omega)
  have ht : 0 ≤ m → 0 ≤ Int.tmod m 8 := fun h => Int.tmod_nonneg _ h
  have hop : op = 10 ∨ op = 25 ∨ op = 31 ∨ op = 32 ∨ op = 33 ∨ op = 34 := by unfold ar at h1; omega
  obtain ⟨(a1 : Int), (a2 : Int)⟩ := a
  simp only [Nrm] at ha
  rcases hop with rfl | rfl | rfl | rfl | rfl | rfl
  · unfold pN M.expr_nodeType M.expr_resultType M.ref10_Result M.ref10_found M.ref10_single
    simp [meaning_eq, number_eq, ordered_eq, kind_eq, pnum_eq, pmode_eq, Join, hr, hR, idx, eqT]
    grind
  · unfold pN M.expr_nodeType M.expr_resultType M.ref10_Result M.ref10_found M.ref10_single
    simp [meaning_eq, number_eq, ordered_eq, kind_eq, pnum_eq, pmode_eq, Join, hr, hR, idx, eqT]
    grind
  · unfold pN M.expr_nodeType M.expr_resultType M.ref10_Result M.ref10_found M.ref10_single
    simp [meaning_eq, number_eq, ordered_eq, kind_eq, pnum_eq, pmode_eq, Join, hr, hR, idx, eqT]
    grind
  · unfold pN M.expr_nodeType M.expr_resultType M.ref10_Result M.ref10_found M.ref10_single
    simp [meaning_eq, number_eq, ordered_eq, kind_eq, pnum_eq, pmode_eq, Join, hr, hR, idx, eqT]
    grind
  · have i0 : idx [((a1, a2) : Ty)] 0 = some (a1, a2) := rfl
    unfold pN M.expr_nodeType M.expr_tableType M.ref10_Result M.ref10_found M.ref10_single
    by_cases h : 0 ≤ m ∧ m < (s.2.1.length : Int)
    · obtain ⟨k, rfl⟩ := Int.eq_ofNat_of_zero_le h.1
      have hk : k < s.2.1.length := by omega
      simp [meaning_eq, number_eq, ordered_eq, kind_eq, Join, hr, hR, eqT, pVT_eq, VTp_eq, i0, idx_nat hk, hk, show ¬ ((s.2.1.length : Int) ≤ (k : Int)) by omega, show ¬ ((k : Int) < 0) by omega]
      generalize s.2.1[k] = t
      by_cases c1 : VTp t.2.1 s.1.length <;> by_cases c2 : VTp t.2.2.1 s.1.length <;> by_cases c3 : ((a1, a2) : Ty) = t.2.1 <;> simp [c1, c2, c3]
    · simp [meaning_eq, number_eq, ordered_eq, kind_eq, Join, hr, hR, eqT, pVT_eq, VTp_eq, i0]
      by_cases hm0 : m < 0
      · simp [hm0, show ¬ 0 ≤ m by omega]
      · simp [hm0, show 0 ≤ m by omega, show (s.2.1.length : Int) ≤ m by omega, show ¬ m < (s.2.1.length : Int) by omega]
  · have i0 : idx [((a1, a2) : Ty)] 0 = some (a1, a2) := rfl
    unfold pN M.expr_nodeType M.expr_tableType M.ref10_Result M.ref10_found M.ref10_single
    simp only [hr, hR]
    by_cases h : 0 ≤ m ∧ Int.tmod m 8 ≤ 5
    · have hd := hd h.1
      have ht := ht h.1
      generalize IntKind.i64.wrap (Int.tdiv m 8) = j at *
      generalize Int.tmod m 8 = q at *
      by_cases h' : j < (s.2.1.length : Int)
      · obtain ⟨k, rfl⟩ := Int.eq_ofNat_of_zero_le hd
        have hk : k < s.2.1.length := by omega
        simp [meaning_eq, number_eq, ordered_eq, kind_eq, pmode_eq, Join, h, ht, eqT, pVT_eq, VTp_eq, i0, idx_nat hk, hk, show ¬ (m < 0) by omega, show ¬ ((s.2.1.length : Int) ≤ (k : Int)) by omega, show ¬ ((k : Int) < 0) by omega]
        generalize s.2.1[k] = t
        obtain ⟨nm, ⟨(k1 : Int), (k2 : Int)⟩, ⟨(v1 : Int), (v2 : Int)⟩, rs⟩ := t
        generalize s.1.length = ne
        by_cases R : a1 = 3 ∧ k1 = 3 ∧ k2 = 0 ∧ v1 = 4 ∧ v2 = 0
        · obtain ⟨rfl, rfl, rfl, rfl, rfl⟩ := R
          obtain rfl : a2 = 0 := ha ⟨by decide, by decide⟩
          have v3 : VTp (((3 : Int), (0 : Int)) : Ty) ne := by simp [VTp]
          have v4 : VTp (((4 : Int), (0 : Int)) : Ty) ne := by simp [VTp]
          simp [v3, v4]
        · have hR2 : (((if a1 = 3 then if ((k1, k2) : Int × Int) = (3, 0) then some (decide (((v1, v2) : Int × Int) = (4, 0)), a1, a2) else some (false, a1, a2) else some (false, a1, a2)) : Option (Bool × Int × Int))) = some (false, a1, a2) := by
            by_cases q1 : a1 = 3 <;> by_cases q2 : k1 = 3 <;> by_cases q3 : k2 = 0 <;> by_cases q4 : v1 = 4 <;> by_cases q5 : v2 = 0 <;> simp [q1, q2, q3, q4, q5] <;> exact absurd ⟨q1, q2, q3, q4, q5⟩ R
          rw [hR2]
          by_cases c1 : VTp ((k1, k2) : Ty) ne
          · by_cases c2 : VTp ((v1, v2) : Ty) ne
            · by_cases e : ((a1, a2) : Ty) = (k1, k2)
              · injection e with e1 e2
                subst e1 e2
                have c1' := c1
                have c2' := c2
                simp only [VTp] at c1' c2'
                dsimp only [rInt, Row.den] at c1' c2'
                by_cases f : a1 = 3
                · have g : ¬ v1 = 4 := fun g => R (by omega)
                  subst f
                  obtain rfl : a2 = 0 := by omega
                  simp [c1, c2, g]
                · simp [c1, c2, f]
              · simp [c1, c2, e]
            · simp [c1, c2]
          · simp [c1]
      · simp [meaning_eq, number_eq, ordered_eq, kind_eq, pmode_eq, Join, h, ht, eqT, pVT_eq, VTp_eq, i0, show ¬ (m < 0) by omega, show (s.2.1.length : Int) ≤ j by omega, show ¬ j < 0 by omega]
    · simp [meaning_eq, number_eq, ordered_eq, kind_eq, pmode_eq, Join, eqT, pVT_eq, VTp_eq, i0]
      by_cases hm0 : m < 0
      · simp [hm0, show ¬ 0 ≤ m by omega]
      · have h5 : 5 < Int.tmod m 8 := by omega
        simp [hm0, h5, show ¬ Int.tmod m 8 ≤ 5 by omega]
/-- What is listed in a signature. -/
theorem listed_eq (m : Int) (ls : List Ty) (s : Sgn) : M.expr_listedType big m ls s = if 0 ≤ m ∧ m < (ls.length : Int) then (match ls[m.toNat]? with
    | some t => if VTp t s.1.length then some (t, (0 : Int)) else some (((0 : Int), (0 : Int)), (8 : Int))
    | none => none) else some (((0 : Int), (0 : Int)), (6 : Int)) := by
  unfold M.expr_listedType
  by_cases h : 0 ≤ m ∧ m < (ls.length : Int)
  · obtain ⟨k, rfl⟩ := Int.eq_ofNat_of_zero_le h.1
    have hk : k < ls.length := by omega
    rw [if_neg (by rw [decide_eq_true_eq]; omega), Option.bind_some, if_neg (by rw [decide_eq_true_eq]; omega), idx_nat hk, Option.bind_some, pVT_eq, Option.bind_some, if_pos h, Int.toNat_natCast, List.getElem?_eq_getElem hk]
    by_cases hv : VTp ls[k] s.1.length
    · rw [if_neg (by simp [hv])]; simp only [if_pos hv, Option.bind_some]
    · rw [if_pos (by simp [hv])]; simp only [if_neg hv]
  · rw [if_neg h]
    by_cases h0 : m < 0
    · rw [if_pos (decide_eq_true h0)]; rfl
    · rw [if_neg (by simpa using h0), Option.bind_some, if_pos (decide_eq_true (by omega))]
theorem idx_if {α : Type} (ls : List α) (m : Int) : idx ls m = if 0 ≤ m then ls[m.toNat]? else none := rfl
theorem zero_eq (op m : Int) (s : Sgn) (hm : m ≤ 9223372036854775807) (h0 : ar op = 0) : pN (op, m) [] s = M.ref10_Result big (op, m) [] s := by
  have hr := Rgd_eq (op, m) s
  have hR : Rgd op m s ↔ (1 ≤ op ∧ op ≤ 5 → InB m (op, (0 : Int)) s.1) ∧ (op = 6 → 0 ≤ m) := by
    unfold ar at h0
    unfold Rgd
    exact ⟨fun h => ⟨h.1, h.2.2.2⟩, fun h => ⟨h.1, fun _ => by omega, fun _ => by omega, h.2⟩⟩
  have hd : 0 ≤ m → 0 ≤ IntKind.i64.wrap (Int.tdiv m 16) := fun h => div16 h hm (by omega)
  have hop : op = 1 ∨ op = 2 ∨ op = 3 ∨ op = 4 ∨ op = 5 ∨ op = 6 ∨ op = 7 ∨ op = 8 ∨ op = 9 ∨ op = 35 ∨ op = 36 ∨ op = 37 ∨ op = 38 ∨ op = 39 := by unfold ar at h0; omega
  have v : ∀ k : Int, 1 ≤ k → k ≤ 5 → VTp ((k, (0 : Int)) : Ty) s.1.length := fun k h1 h2 => .inl ⟨h1, h2, rfl⟩
  rcases hop with rfl | rfl | rfl | rfl | rfl | rfl | rfl | rfl | rfl | rfl | rfl | rfl | rfl | rfl
  · unfold pN M.expr_nodeType M.expr_memberType M.expr_enumType M.ref10_Result M.ref10_found M.ref10_leaf
    have v := v 1 (by decide) (by decide)
    by_cases h : InB m ((1 : Int), (0 : Int)) s.1 <;> simp [meaning_eq, number_eq, ordered_eq, kind_eq, pnum_eq, pmode_eq, plit_eq, listed_eq, Join, hr, hR, VTp_eq, h, v]
  · unfold pN M.expr_nodeType M.expr_memberType M.expr_enumType M.ref10_Result M.ref10_found M.ref10_leaf
    have v := v 2 (by decide) (by decide)
    by_cases h : InB m ((2 : Int), (0 : Int)) s.1 <;> simp [meaning_eq, number_eq, ordered_eq, kind_eq, pnum_eq, pmode_eq, plit_eq, listed_eq, Join, hr, hR, VTp_eq, h, v]
  · unfold pN M.expr_nodeType M.expr_memberType M.expr_enumType M.ref10_Result M.ref10_found M.ref10_leaf
    have v := v 3 (by decide) (by decide)
    by_cases h : InB m ((3 : Int), (0 : Int)) s.1 <;> simp [meaning_eq, number_eq, ordered_eq, kind_eq, pnum_eq, pmode_eq, plit_eq, listed_eq, Join, hr, hR, VTp_eq, h, v]
  · unfold pN M.expr_nodeType M.expr_memberType M.expr_enumType M.ref10_Result M.ref10_found M.ref10_leaf
    have v := v 4 (by decide) (by decide)
    by_cases h : InB m ((4 : Int), (0 : Int)) s.1 <;> simp [meaning_eq, number_eq, ordered_eq, kind_eq, pnum_eq, pmode_eq, plit_eq, listed_eq, Join, hr, hR, VTp_eq, h, v]
  · unfold pN M.expr_nodeType M.expr_memberType M.expr_enumType M.ref10_Result M.ref10_found M.ref10_leaf
    have v := v 5 (by decide) (by decide)
    by_cases h : InB m ((5 : Int), (0 : Int)) s.1 <;> simp [meaning_eq, number_eq, ordered_eq, kind_eq, pnum_eq, pmode_eq, plit_eq, listed_eq, Join, hr, hR, VTp_eq, h, v]
  · unfold pN M.expr_nodeType M.expr_memberType M.expr_enumType M.ref10_Result M.ref10_found M.ref10_leaf
    by_cases h : m < 0
    · simp [meaning_eq, number_eq, ordered_eq, kind_eq, pnum_eq, pmode_eq, plit_eq, listed_eq, Join, hr, hR, VTp_eq, h]
    · have hd := hd (by omega)
      have h' : 0 ≤ m := by omega
      generalize IntKind.i64.wrap (Int.tdiv m 16) = j at *
      generalize Int.tmod m 16 = q at *
      by_cases hj : j < (s.1.length : Int)
      · obtain ⟨k, rfl⟩ := Int.eq_ofNat_of_zero_le hd
        have hk : k < s.1.length := by omega
        have v6 : VTp (((6 : Int), (k : Int)) : Ty) s.1.length := .inr ⟨rfl, by show (0 : Int) ≤ (k : Int); omega, hj⟩
        by_cases hq : q < (s.1[k].2.length : Int)
        · simp [meaning_eq, number_eq, ordered_eq, kind_eq, pnum_eq, pmode_eq, plit_eq, listed_eq, Join, hr, hR, VTp_eq, h, h', hk, idx_nat hk, v6, hq, show ¬ (s.1.length : Int) ≤ (k : Int) by omega, show ¬ (s.1[k].2.length : Int) ≤ q by omega]
        · simp [meaning_eq, number_eq, ordered_eq, kind_eq, pnum_eq, pmode_eq, plit_eq, listed_eq, Join, hr, hR, VTp_eq, h, h', hk, idx_nat hk, v6, hq, show ¬ (s.1.length : Int) ≤ (k : Int) by omega, show (s.1[k].2.length : Int) ≤ q by omega]
      · simp [meaning_eq, number_eq, ordered_eq, kind_eq, pnum_eq, pmode_eq, plit_eq, listed_eq, Join, hr, hR, VTp_eq, h, h', hj, show (s.1.length : Int) ≤ j by omega]
  · unfold pN M.expr_nodeType M.expr_memberType M.expr_enumType M.ref10_Result M.ref10_found M.ref10_leaf
    by_cases h : 0 ≤ m ∧ m < (s.2.2.1.length : Int)
    · obtain ⟨k, rfl⟩ := Int.eq_ofNat_of_zero_le h.1
      have hk : k < s.2.2.1.length := by omega
      by_cases hv : VTp s.2.2.1[k] s.1.length <;> simp [meaning_eq, number_eq, ordered_eq, kind_eq, pnum_eq, pmode_eq, plit_eq, listed_eq, Join, hr, hR, VTp_eq, hk, idx_nat hk, hv]
    · by_cases h0 : 0 ≤ m
      · have h1 : ¬ m < (s.2.2.1.length : Int) := fun g => h ⟨h0, g⟩
        simp [meaning_eq, number_eq, ordered_eq, kind_eq, pnum_eq, pmode_eq, plit_eq, listed_eq, Join, hr, hR, VTp_eq, h0, h1]
      · simp [meaning_eq, number_eq, ordered_eq, kind_eq, pnum_eq, pmode_eq, plit_eq, listed_eq, Join, hr, hR, VTp_eq, h0]
  · unfold pN M.expr_nodeType M.expr_memberType M.expr_enumType M.ref10_Result M.ref10_found M.ref10_leaf
    by_cases h : 0 ≤ m ∧ m < (s.2.2.2.1.length : Int)
    · obtain ⟨k, rfl⟩ := Int.eq_ofNat_of_zero_le h.1
      have hk : k < s.2.2.2.1.length := by omega
      by_cases hv : VTp s.2.2.2.1[k] s.1.length <;> simp [meaning_eq, number_eq, ordered_eq, kind_eq, pnum_eq, pmode_eq, plit_eq, listed_eq, Join, hr, hR, VTp_eq, hk, idx_nat hk, hv]
    · by_cases h0 : 0 ≤ m
      · have h1 : ¬ m < (s.2.2.2.1.length : Int) := fun g => h ⟨h0, g⟩
        simp [meaning_eq, number_eq, ordered_eq, kind_eq, pnum_eq, pmode_eq, plit_eq, listed_eq, Join, hr, hR, VTp_eq, h0, h1]
      · simp [meaning_eq, number_eq, ordered_eq, kind_eq, pnum_eq, pmode_eq, plit_eq, listed_eq, Join, hr, hR, VTp_eq, h0]
  · unfold pN M.expr_nodeType M.expr_memberType M.expr_enumType M.ref10_Result M.ref10_found M.ref10_leaf
    have v := v 5 (by decide) (by decide)
    by_cases h : m = 0
    · subst h; simp [meaning_eq, number_eq, ordered_eq, kind_eq, pnum_eq, pmode_eq, plit_eq, listed_eq, Join, hr, hR, VTp_eq, v]
    · simp [meaning_eq, number_eq, ordered_eq, kind_eq, pnum_eq, pmode_eq, plit_eq, listed_eq, Join, hr, hR, VTp_eq, h]
  · unfold pN M.expr_nodeType M.expr_memberType M.expr_enumType M.ref10_Result M.ref10_found M.ref10_leaf
    have v := v 2 (by decide) (by decide)
    by_cases h : m = 0
    · subst h; cases hs : s.2.2.2.2.2 <;> simp [meaning_eq, number_eq, ordered_eq, kind_eq, pnum_eq, pmode_eq, plit_eq, listed_eq, Join, hr, hR, VTp_eq, v, hs]
    · simp [meaning_eq, number_eq, ordered_eq, kind_eq, pnum_eq, pmode_eq, plit_eq, listed_eq, Join, hr, hR, VTp_eq, h]
  · unfold pN M.expr_nodeType M.expr_memberType M.expr_enumType M.ref10_Result M.ref10_found M.ref10_leaf
    cases hs : s.2.2.2.2.2
    · simp [meaning_eq, number_eq, ordered_eq, kind_eq, pnum_eq, pmode_eq, plit_eq, listed_eq, Join, hr, hR, VTp_eq, hs]
    by_cases h : 0 ≤ m ∧ m < (s.2.2.2.2.1.length : Int)
    · obtain ⟨k, rfl⟩ := Int.eq_ofNat_of_zero_le h.1
      have hk : k < s.2.2.2.2.1.length := by omega
      by_cases hv : VTp s.2.2.2.2.1[k] s.1.length
      · simp [meaning_eq, number_eq, ordered_eq, kind_eq, pnum_eq, pmode_eq, plit_eq, listed_eq, Join, hr, hR, VTp_eq, hk, idx_nat hk, hv, hs]
        generalize s.2.2.2.2.1[k] = t at *
        obtain ⟨(t1 : Int), (t2 : Int)⟩ := t
        by_cases q2 : t1 = 2 <;> by_cases q3 : t1 = 3 <;> simp [q2, q3]
      · simp [meaning_eq, number_eq, ordered_eq, kind_eq, pnum_eq, pmode_eq, plit_eq, listed_eq, Join, hr, hR, VTp_eq, hk, idx_nat hk, hv, hs]
    · by_cases h0 : 0 ≤ m
      · have h1 : ¬ m < (s.2.2.2.2.1.length : Int) := fun g => h ⟨h0, g⟩
        simp [meaning_eq, number_eq, ordered_eq, kind_eq, pnum_eq, pmode_eq, plit_eq, listed_eq, Join, hr, hR, VTp_eq, h0, h1, hs]
      · simp [meaning_eq, number_eq, ordered_eq, kind_eq, pnum_eq, pmode_eq, plit_eq, listed_eq, Join, hr, hR, VTp_eq, h0, hs]
  · unfold pN M.expr_nodeType M.expr_memberType M.expr_enumType M.ref10_Result M.ref10_found M.ref10_leaf
    cases hs : s.2.2.2.2.2
    · simp [meaning_eq, number_eq, ordered_eq, kind_eq, pnum_eq, pmode_eq, plit_eq, listed_eq, Join, hr, hR, VTp_eq, hs]
    by_cases h : 0 ≤ m ∧ m < (s.2.2.2.2.1.length : Int)
    · obtain ⟨k, rfl⟩ := Int.eq_ofNat_of_zero_le h.1
      have hk : k < s.2.2.2.2.1.length := by omega
      by_cases hv : VTp s.2.2.2.2.1[k] s.1.length
      · simp [meaning_eq, number_eq, ordered_eq, kind_eq, pnum_eq, pmode_eq, plit_eq, listed_eq, Join, hr, hR, VTp_eq, hk, idx_nat hk, hv, hs]
        generalize s.2.2.2.2.1[k] = t at *
        obtain ⟨(t1 : Int), (t2 : Int)⟩ := t
        by_cases q : t1 = 1 <;> simp [q]
      · simp [meaning_eq, number_eq, ordered_eq, kind_eq, pnum_eq, pmode_eq, plit_eq, listed_eq, Join, hr, hR, VTp_eq, hk, idx_nat hk, hv, hs]
    · by_cases h0 : 0 ≤ m
      · have h1 : ¬ m < (s.2.2.2.2.1.length : Int) := fun g => h ⟨h0, g⟩
        simp [meaning_eq, number_eq, ordered_eq, kind_eq, pnum_eq, pmode_eq, plit_eq, listed_eq, Join, hr, hR, VTp_eq, h0, h1, hs]
      · simp [meaning_eq, number_eq, ordered_eq, kind_eq, pnum_eq, pmode_eq, plit_eq, listed_eq, Join, hr, hR, VTp_eq, h0, hs]
  · unfold pN M.expr_nodeType M.expr_memberType M.expr_enumType M.ref10_Result M.ref10_found M.ref10_leaf
    cases hs : s.2.2.2.2.2
    · simp [meaning_eq, number_eq, ordered_eq, kind_eq, pnum_eq, pmode_eq, plit_eq, listed_eq, Join, hr, hR, VTp_eq, hs]
    by_cases h : 0 ≤ m ∧ m < (s.2.2.2.2.1.length : Int)
    · obtain ⟨k, rfl⟩ := Int.eq_ofNat_of_zero_le h.1
      have hk : k < s.2.2.2.2.1.length := by omega
      by_cases hv : VTp s.2.2.2.2.1[k] s.1.length
      · simp [meaning_eq, number_eq, ordered_eq, kind_eq, pnum_eq, pmode_eq, plit_eq, listed_eq, Join, hr, hR, VTp_eq, hk, idx_nat hk, hv, hs]
        generalize s.2.2.2.2.1[k] = t at *
        obtain ⟨(t1 : Int), (t2 : Int)⟩ := t
        by_cases q : t1 = 1 <;> simp [q]
      · simp [meaning_eq, number_eq, ordered_eq, kind_eq, pnum_eq, pmode_eq, plit_eq, listed_eq, Join, hr, hR, VTp_eq, hk, idx_nat hk, hv, hs]
    · by_cases h0 : 0 ≤ m
      · have h1 : ¬ m < (s.2.2.2.2.1.length : Int) := fun g => h ⟨h0, g⟩
        simp [meaning_eq, number_eq, ordered_eq, kind_eq, pnum_eq, pmode_eq, plit_eq, listed_eq, Join, hr, hR, VTp_eq, h0, h1, hs]
      · simp [meaning_eq, number_eq, ordered_eq, kind_eq, pnum_eq, pmode_eq, plit_eq, listed_eq, Join, hr, hR, VTp_eq, h0, hs]
  · unfold pN M.expr_nodeType M.expr_memberType M.expr_enumType M.ref10_Result M.ref10_found M.ref10_leaf
    cases hs : s.2.2.2.2.2
    · simp [meaning_eq, number_eq, ordered_eq, kind_eq, pnum_eq, pmode_eq, plit_eq, listed_eq, Join, hr, hR, VTp_eq, hs]
    by_cases h : 0 ≤ m ∧ m < (s.2.2.2.2.1.length : Int)
    · obtain ⟨k, rfl⟩ := Int.eq_ofNat_of_zero_le h.1
      have hk : k < s.2.2.2.2.1.length := by omega
      by_cases hv : VTp s.2.2.2.2.1[k] s.1.length
      · simp [meaning_eq, number_eq, ordered_eq, kind_eq, pnum_eq, pmode_eq, plit_eq, listed_eq, Join, hr, hR, VTp_eq, hk, idx_nat hk, hv, hs]
        generalize s.2.2.2.2.1[k] = t at *
        obtain ⟨(t1 : Int), (t2 : Int)⟩ := t
        by_cases q2 : t1 = 2 <;> by_cases q3 : t1 = 3 <;> by_cases q4 : t1 = 4 <;> by_cases q5 : t1 = 5 <;> simp [q2, q3, q4, q5]
      · simp [meaning_eq, number_eq, ordered_eq, kind_eq, pnum_eq, pmode_eq, plit_eq, listed_eq, Join, hr, hR, VTp_eq, hk, idx_nat hk, hv, hs]
    · by_cases h0 : 0 ≤ m
      · have h1 : ¬ m < (s.2.2.2.2.1.length : Int) := fun g => h ⟨h0, g⟩
        simp [meaning_eq, number_eq, ordered_eq, kind_eq, pnum_eq, pmode_eq, plit_eq, listed_eq, Join, hr, hR, VTp_eq, h0, h1, hs]
      · simp [meaning_eq, number_eq, ordered_eq, kind_eq, pnum_eq, pmode_eq, plit_eq, listed_eq, Join, hr, hR, VTp_eq, h0, hs]
/-- The program's type of a node is that of the reference. -/
theorem pN_eq (n : Ty) (l : List Ty) (s : Sgn) (hw : WF rType n) (hl : (l.length : Int) = ar n.1) (hN : ∀ t ∈ l, Nrm t) : pN n l s = some (tyN n l s) := by
  rw [← tyN_eq hw hl]
  obtain ⟨(op : Int), (m : Int)⟩ := n
  have hm : m ≤ 9223372036854775807 := hw.2.2
  have h3 := ar_le op
  dsimp only at hl
  match l, hl with
  | [], hl => exact zero_eq op m s hm hl.symm
  | [a], hl => exact one_eq op m a s hm hl.symm (hN a (by simp))
  | [a, b], hl => exact two_eq op m a b s hl.symm (hN a (by simp)) (hN b (by simp))
  | [a, b, c], hl => exact three_eq op m a b c s hl.symm
  | a :: b :: c :: d :: l, hl => simp at hl; omega
theorem VTp.nrm {t : Ty} {n : Nat} (h : VTp t n) : Nrm t := fun h' => by
  obtain ⟨(k : Int), (e : Int)⟩ := t
  rcases h with h | h
  · exact h.2.2
  · dsimp only [rInt, Row.den] at *; omega
/-- Whatever comes out. -/
def Pc {α : Type} (m : Option α) (Q : α → Prop) : Prop := ∀ r, m = some r → Q r
theorem pc_some {α : Type} {x : α} {Q : α → Prop} : Pc (some x) Q ↔ Q x := ⟨fun h => h x rfl, fun h r e => by cases e; exact h⟩
theorem pc_bind {α β : Type} {m : Option α} {k : α → Option β} {Q : β → Prop} : Pc (m.bind k) Q ↔ Pc m fun x => Pc (k x) Q := by
  constructor
  · intro h x hx r hr
    exact h r (by rw [hx]; exact hr)
  · intro h r hr
    obtain ⟨x, hx, hr⟩ := Option.bind_eq_some_iff.1 hr
    exact h x hx r hr
theorem pc_ite {α : Type} {c : Prop} [Decidable c] {a b : Option α} {Q : α → Prop} : Pc (if c then a else b) Q ↔ (c → Pc a Q) ∧ (¬ c → Pc b Q) := by
  split <;> simp_all
theorem pc_true {α : Type} {m : Option α} : Pc m (fun _ => True) ↔ True := ⟨fun _ => trivial, fun _ _ _ => trivial⟩
theorem Pc.of {α : Type} {m : Option α} {Q : α → Prop} (h : ∀ x, Q x) : Pc m Q := fun x _ => h x
theorem Nrm.kind (k : Int) : Nrm ((k, (0 : Int)) : Ty) := fun _ => rfl
theorem leaf_nrm (n : Ty) (s : Sgn) : Pc (M.ref10_leaf big n s) fun r => r.2 = true → Nrm r.1 := by
  have ho : ∀ k, M.ref10_ordered big k = some (decide (k = 2 ∨ k = 3 ∨ k = 4 ∨ k = 5)) := ordered_eq
  unfold M.ref10_leaf
  rw [pc_bind]
  refine Pc.of fun j => ?_
  simp only [VTp_eq, ho, Option.bind_some]
  by_cases hv : VTp j s.1.length
  · simp only [pc_bind, pc_ite, pc_some]
    simp [hv.nrm]
  · simp [hv, pc_bind, pc_ite, pc_some]
theorem single_nrm (n a : Ty) (s : Sgn) (ha : Nrm a) : Pc (M.ref10_single big n a s) fun r => r.2 = true → Nrm r.1 := by
  unfold M.ref10_single
  simp only [kind_eq, number_eq, VTp_eq, Option.bind_some, pc_bind, pc_ite, pc_some]
  refine ⟨fun _ _ => ha, fun _ => ⟨fun _ _ => ha, fun _ => ?_⟩⟩
  have h33 : Pc (idx s.2.1 n.2) fun x => (decide (VTp x.2.1 s.1.length) = true → (decide (VTp x.2.2.1 s.1.length) = true → eqR rType a x.2.1 = true → Nrm x.2.2.1) ∧ (¬ decide (VTp x.2.2.1 s.1.length) = true → false = true → Nrm x.2.2.1)) ∧ (¬ decide (VTp x.2.1 s.1.length) = true → false = true → Nrm x.2.2.1) := Pc.of fun x => ⟨fun _ => ⟨fun h _ => (of_decide_eq_true h : VTp x.2.2.1 s.1.length).nrm, fun _ h => (by cases h)⟩, fun _ h => (by cases h)⟩
  have h34 : Pc (idx s.2.1 (IntKind.i64.wrap (Int.tdiv n.2 8))) fun x => (decide ((a.1 : Int) = 3) = true → (eqR rType x.2.1 ((3 : Int), (0 : Int)) = true → eqR rType x.2.2.1 ((4 : Int), (0 : Int)) = true → Nrm a) ∧ (¬ eqR rType x.2.1 ((3 : Int), (0 : Int)) = true → false = true → Nrm a)) ∧ (¬ decide ((a.1 : Int) = 3) = true → false = true → Nrm a) := Pc.of fun x => ⟨fun _ => ⟨fun _ _ => ha, fun _ _ => ha⟩, fun _ _ => ha⟩
  exact ⟨fun _ => ⟨fun _ _ => Nrm.kind 2, fun _ => ⟨fun _ => h33, fun _ => h34⟩⟩, fun _ => ⟨fun _ _ => Nrm.kind 2, fun _ => ⟨fun _ => h33, fun _ => h34⟩⟩⟩
theorem double_nrm (op : Int) (a b : Ty) (ha : Nrm a) : Pc (M.ref10_double big op a b) fun r => r.2 = true → Nrm r.1 := by
  have hk : ∀ k : Int, Nrm ((k, (0 : Int)) : Ty) := Nrm.kind
  unfold M.ref10_double M.ref10_scaled
  simp only [kind_eq, number_eq, ordered_eq, Option.bind_some, pc_bind, pc_ite, pc_some]
  simp [ha, hk]
theorem tyN_nrm (n : Ty) (l : List Ty) (s : Sgn) (hw : WF rType n) (hl : (l.length : Int) = ar n.1) (hN : ∀ t ∈ l, Nrm t) (h0 : (tyN n l s).2 = 0) : Nrm (tyN n l s).1 := by
  have hat : ∀ i, Pc (idx l i) Nrm := fun i x hx => by
    unfold idx at hx
    split at hx
    · exact hN _ (List.mem_of_getElem? hx)
    · cases hx
  have key : Pc (M.ref10_Result big n l s) fun r => r.2 = 0 → Nrm r.1 := by
    unfold M.ref10_Result
    rw [pc_bind]
    refine Pc.of fun j1 => ?_
    rw [pc_ite]
    refine ⟨fun _ => pc_some.2 fun h => (by cases h), fun _ => ?_⟩
    rw [pc_bind]
    refine Pc.of fun y3 => ?_
    rw [pc_ite]
    refine ⟨fun _ => pc_some.2 fun h => (by cases h), fun _ => ?_⟩
    rw [pc_bind]
    refine Pc.of fun y4 => ?_
    rw [pc_ite]
    refine ⟨fun _ => pc_some.2 fun h => (by cases h), fun _ => ?_⟩
    rw [pc_bind]
    have fin : ∀ {m : Option (Bool × Ty)}, Pc m (fun j => j.1 = true → Nrm j.2) → Pc m fun j5 => Pc (if (!j5.1) = true then some (((0 : Int), (0 : Int)), (8 : Int)) else some (j5.2, (0 : Int))) fun r : Ty × Int => r.2 = 0 → Nrm r.1 := fun {m} h j hj => by
      have := h j hj
      refine pc_ite.2 ⟨fun _ => pc_some.2 fun h => (by cases h), fun h => pc_some.2 fun _ => this (by simpa using h)⟩
    refine fin ?_
    rw [pc_ite]
    refine ⟨fun _ => ?_, fun _ => ?_⟩
    · rw [pc_bind]
      exact fun x hx => pc_some.2 fun h => leaf_nrm n s x hx h
    rw [pc_ite]
    refine ⟨fun _ => ?_, fun _ => ?_⟩
    · rw [pc_bind]
      refine fun a ha => pc_bind.2 ?_
      exact fun x hx => pc_some.2 fun h => single_nrm n a s (hat _ a ha) x hx h
    rw [pc_ite]
    refine ⟨fun _ => ?_, fun _ => ?_⟩
    · rw [pc_bind]
      refine fun a ha => pc_bind.2 fun b _ => pc_bind.2 ?_
      exact fun x hx => pc_some.2 fun h => double_nrm n.1 a b (hat _ a ha) x hx h
    · rw [pc_bind]
      refine fun a ha => ?_
      have ha := hat _ a ha
      simp only [pc_bind, pc_ite, pc_some]
      refine Pc.of fun x => ⟨fun _ => Pc.of fun y => Pc.of fun z => fun _ => ha, fun _ _ => ha⟩
  exact key _ (tyN_eq hw hl) h0


theorem set_rep (st : List Nat) (m : Nat) (v : Nat) : setL (natL st ++ List.replicate (m + 1) (0 : Int)) (st.length : Int) (v : Int) = natL (st ++ [v]) ++ List.replicate m (0 : Int) := by
  unfold setL
  rw [Int.toNat_natCast, List.set_append_right _ _ (by simp), List.replicate_succ]
  simp
theorem set_again (st : List Nat) (m : Nat) (u v : Nat) : setL (natL (st ++ [u]) ++ List.replicate m (0 : Int)) (st.length : Int) (v : Int) = natL (st ++ [v]) ++ List.replicate m (0 : Int) := by
  unfold setL
  rw [Int.toNat_natCast, List.set_append_left _ _ (by simp)]
  congr 1
  simp only [natL, List.map_append]
  rw [List.set_append_right _ _ (by simp)]
  simp

theorem pstruct_eq (e : List Ty) : M.expr_structure big e = some (sres e) := by
  apply Wp.eq
  unfold M.expr_structure sres
  refine Wp.dec (fun h => .some ?_) fun h1 => ?_
  · rw [if_pos (by omega)]
  rw [if_neg (show ¬ 48 < e.length by omega)]
  refine Wp.dec (fun h => .some ?_) fun h2 => ?_
  · rw [if_pos (show e.length = 0 by omega)]
  rw [if_neg (show ¬ e.length = 0 by omega)]
  have hmk : mkL (e.length : Int) (0 : Int) = some (List.replicate e.length 0) := by
    unfold mkL
    rw [if_pos (by omega), Int.toNat_natCast]
  rw [hmk]
  simp only [Option.bind_some]
  refine Wp.join (Wp.loop (fun s : Int × List Int × List Int => ∃ st sk : List Nat, s = ((st.length : Int), natL st ++ List.replicate (e.length - st.length) 0, natL sk) ∧ st.length ≤ e.length ∧ sk.length ≤ 12 ∧ srun (e.drop st.length) st.length st sk = srun e 0 [] []) (fun s => (e.length - s.1).toNat) ⟨[], [], by simp, by simp, by simp, by simp⟩ (by simp only; unfold big; omega) ?_)
  rintro _ ⟨st, sk, rfl, hst, hsk, hrun⟩
  simp only
  refine Wp.dec (fun hk => ?_) fun hk => .some ?_
  case refine_2 =>
    have hd : e.drop st.length = [] := List.drop_of_length_le (by omega)
    rw [hd] at hrun
    rw [← hrun]
    have h0 : e.length - st.length = 0 := by omega
    rw [h0]
    simp only [srun, List.replicate_zero, List.append_nil]
    show Wp _ _
    refine Wp.dec (fun h => .some ?_) fun h => .some ?_
    · rw [if_pos (by simp at h; omega)]
    · rw [if_neg (by simp at h; omega)]
  have hk' : st.length < e.length := by omega
  have hd : e.drop st.length = e[st.length] :: e.drop (st.length + 1) := List.drop_eq_getElem_cons hk'
  obtain ⟨m, hm⟩ : ∃ m, e.length - st.length = m + 1 := ⟨e.length - st.length - 1, by omega⟩
  rw [hd] at hrun
  rw [idx_nat hk', hm]
  simp only [Option.bind_some, par_eq]
  generalize hop : (e[st.length].1 : Int) = op
  rw [srun] at hrun
  rw [hop] at hrun
  have har := ar_le op
  refine Wp.dec (fun h => .some ?_) fun hneg => ?_
  · rw [if_pos h] at hrun
    show _ = _
    rw [← hrun]
  rw [if_neg hneg] at hrun
  refine Wp.dec (fun h => .some ?_) fun hlen => ?_
  · rw [if_pos (by simpa using h)] at hrun
    show _ = _
    rw [← hrun]
  have hlen : ¬ (sk.length : Int) < ar op := by simpa using hlen
  rw [if_neg hlen] at hrun
  obtain ⟨a, ha⟩ : ∃ a : Nat, ar op = a := ⟨(ar op).toNat, by omega⟩
  rw [ha] at hrun hneg hlen har ⊢
  have hale : a ≤ sk.length := by omega
  have e6 : idx (natL st ++ List.replicate (m + 1) (0 : Int)) (st.length : Int) = some 0 := by
    rw [idx_nat (by simp)]
    rw [List.getElem_append_right (by simp)]
    simp
  rw [e6]
  have hw : IntKind.i64.wrap (((natL sk).length : Int) - (a : Int)) = ((sk.length - a : Nat) : Int) := by
    rw [List.length_map, wrap_id (by omega) (by omega)]; omega
  have hs : sst (a : Int) st.length sk = (if a = 0 then st.length else sk.getD (sk.length - a) 0) := by
    unfold sst
    by_cases h0 : a = 0
    · subst h0; simp
    · rw [if_neg (by omega), if_neg h0, Int.toNat_natCast]
  simp only [Option.bind_some, set_rep, hw]
  refine Wp.seq (· = natL (st ++ [sst (a : Int) st.length sk]) ++ List.replicate m (0 : Int)) ?_ ?_
  · refine Wp.dec (fun h => ?_) fun h => ?_
    · have hlt : sk.length - a < (natL sk).length := by simp; omega
      rw [idx_nat hlt]
      have e9 : idx (natL (st ++ [st.length]) ++ List.replicate m (0 : Int)) (st.length : Int) = some (st.length : Int) := by
        rw [idx_nat (by simp)]
        rw [List.getElem_append_left (by simp)]
        simp
      simp only [Option.bind_some, e9, List.getElem_map, set_again]
      refine .some ?_
      rw [hs, if_neg (by omega), show sk.getD (sk.length - a) 0 = sk[sk.length - a]'(by simpa using hlt) by simp [List.getD, show sk.length - a < sk.length by omega]]
    · refine .some ?_
      rw [hs, if_pos (by omega)]
  · rintro _ rfl
    generalize sst (a : Int) st.length sk = s at hrun ⊢
    have hcut : cutA (natL sk) (0 : Int) ((sk.length - a : Nat) : Int) = some (natL (sk.take (sk.length - a))) := by
      rw [cutA_zero (by simp)]
      simp
    have e11 : idx (natL (st ++ [s]) ++ List.replicate m (0 : Int)) (st.length : Int) = some (s : Int) := by
      rw [idx_nat (by simp)]
      rw [List.getElem_append_left (by simp)]
      simp
    have happ : appA (natL (sk.take (sk.length - a))) [(s : Int)] = some (natL (sk.take (sk.length - a) ++ [s])) := by
      rw [appA_some (by simp; omega)]
      simp
    rw [hcut]
    simp only [Option.bind_some, e11, happ]
    have hl : (natL (sk.take (sk.length - a) ++ [s])).length = sk.length - a + 1 := by simp
    rw [hl]
    rw [Int.toNat_natCast] at hrun
    refine Wp.dec (fun h => .some ?_) fun h => .some ?_
    · rw [if_pos (by omega)] at hrun
      show _ = _
      rw [← hrun]
    · rw [if_neg (by omega)] at hrun
      rw [wrap_succ (by omega)]
      refine ⟨⟨st ++ [s], sk.take (sk.length - a) ++ [s], ?_, by simp; omega, by simp; omega, ?_⟩, by simp only; omega⟩
      · have : e.length - (st ++ [s]).length = m := by simp; omega
        rw [this]
        simp
      · rw [List.length_append]
        exact hrun

theorem TyOK.all (s : Sgn) : TyOK s := fun e hw => by
  apply Wp.eq
  unfold M.expr_TypeOf
  simp only [pstruct_eq, par_eq, usesN_eq, a_, b_, c_, d_, e_, f_, g_, h_, i_, j_, k_, l_, m_, n_, o_, p_, q_, r_, s_, t_, u_, v_, w_, x_, y_, z_, A_, B_, C_, D_, E_, F_, G_, H_, I_, J_, K_, L_, M_, N_, O_, P_, reduceCtorEq]
  refine ⟨fun h => by unfold tyE; rw [if_pos h], fun h0 => ?_⟩
  obtain ⟨h48, hne, st', sk', hsr⟩ := sres_ok h0
  have hT : tyE e s = match tyRun s e 0 [] with
    | .inl (i, c) => (((0 : Int), (0 : Int)), (i : Int), c)
    | .inr stk => (stk.headD ((0 : Int), (0 : Int)), 0, 0) := by unfold tyE; rw [if_neg (by omega)]; cases tyRun s e 0 [] <;> rfl
  refine Wp.count (fun s => s.1) e.length (fun k q => ∃ st sk, q.2.length = sk.length ∧ srun e 0 [] [] = srun (e.drop k) k st sk ∧ tyRun s e 0 [] = tyRun s (e.drop k) k q.2 ∧ q.2.length ≤ k ∧ (0 < k → q.2 ≠ []) ∧ ∀ t ∈ q.2, Nrm t) (by omega) rfl ⟨[], [], rfl, rfl, rfl, Nat.le_refl _, fun h => by omega, fun _ h => by cases h⟩ fun k q hk hs hJ => ?_
  obtain ⟨i, stk⟩ := q
  obtain ⟨st, sk, hl, hr, ht, hlk, hpos, hnrm⟩ := hJ
  dsimp only at hs hl ht hlk hpos hnrm
  subst hs
  simp only [a_, b_, c_, d_, e_, f_, g_, h_, i_, j_, k_, l_, m_, n_, o_, p_, q_, r_, s_, t_, u_, v_, w_, x_, y_, z_, A_, B_, C_, D_, E_, F_, G_, H_, I_, J_, K_, L_, M_, N_, O_, P_, reduceCtorEq, countQ_inl, countQ_inr]
  refine ⟨fun hlt => ?_, fun hge => ?_⟩
  · have hlt : k < e.length := by omega
    rw [List.drop_eq_getElem_cons hlt, srun] at hr
    rw [List.drop_eq_getElem_cons hlt, tyRun] at ht
    rw [hsr] at hr
    have ha3 := ar_le e[k].1
    split at hr
    · cases hr
    split at hr
    · cases hr
    split at hr
    · cases hr
    rename_i ha0 ha1 ha2
    have w1 : IntKind.i64.wrap ((stk.length : Int) - ar e[k].1) = ((stk.length - (ar e[k].1).toNat : Nat) : Int) := by rw [wrap_id (by omega) (by omega)]; omega
    have hd : ((stk.drop (stk.length - (ar e[k].1).toNat)).length : Int) = ar e[k].1 := by rw [List.length_drop]; omega
    have hwk := hw _ (List.getElem_mem hlt)
    have hdn : ∀ t ∈ stk.drop (stk.length - (ar e[k].1).toNat), Nrm t := fun t h => hnrm t (List.mem_of_mem_drop h)
    have hp := pN_eq e[k] _ s hwk hd hdn
    have hres := tyN_nrm e[k] _ s hwk hd hdn
    have bad : ∀ c : Int, c ≠ 0 → (tyN e[k] (stk.drop (stk.length - (ar e[k].1).toNat)) s).2 = c → (((0 : Int), (0 : Int)), (k : Int), c) = tyE e s := fun c h0 hc => by
      rw [hT, ht, if_pos (by rw [hc]; exact h0), hc]
    have rest : ¬ ((e[k].2 : Int) ≠ 0 ∧ ¬ ((1 ≤ (e[k].1 : Int) ∧ (e[k].1 : Int) ≤ 8) ∨ (14 ≤ (e[k].1 : Int) ∧ (e[k].1 : Int) ≤ 16) ∨ (e[k].1 : Int) = 33 ∨ (e[k].1 : Int) = 34 ∨ (36 ≤ (e[k].1 : Int) ∧ (e[k].1 : Int) ≤ 39))) → M.expr_nodeType big e[k] (stk.drop (stk.length - (ar e[k].1).toNat)) s = some (tyN e[k] (stk.drop (stk.length - (ar e[k].1).toNat)) s) := fun h => by
      rw [← hp]
      exact (if_neg h).symm
    have cond : ((e[k].2 : Int) ≠ 0 ∧ ¬ ((1 ≤ (e[k].1 : Int) ∧ (e[k].1 : Int) ≤ 8) ∨ (14 ≤ (e[k].1 : Int) ∧ (e[k].1 : Int) ≤ 16) ∨ (e[k].1 : Int) = 33 ∨ (e[k].1 : Int) = 34 ∨ (36 ≤ (e[k].1 : Int) ∧ (e[k].1 : Int) ≤ 39))) → (tyN e[k] (stk.drop (stk.length - (ar e[k].1).toNat)) s).2 = 2 := fun h => by
      have : some (tyN e[k] (stk.drop (stk.length - (ar e[k].1).toNat)) s) = some (((0 : Int), (0 : Int)), (2 : Int)) := by
        rw [← hp]
        exact if_pos h
      rw [Option.some.inj this]
    have good : ¬ ((e[k].2 : Int) ≠ 0 ∧ ¬ ((1 ≤ (e[k].1 : Int) ∧ (e[k].1 : Int) ≤ 8) ∨ (14 ≤ (e[k].1 : Int) ∧ (e[k].1 : Int) ≤ 16) ∨ (e[k].1 : Int) = 33 ∨ (e[k].1 : Int) = 34 ∨ (36 ≤ (e[k].1 : Int) ∧ (e[k].1 : Int) ≤ 39))) → Wp (M.expr_nodeType big e[k] (stk.drop (stk.length - (ar e[k].1).toNat)) s) fun y9 => (¬ (y9.2 : Int) = 0 → (((0 : Int), (0 : Int)), (k : Int), y9.2) = tyE e s) ∧ ((y9.2 : Int) = 0 → Wp (appA (stk.take (stk.length - (ar e[k].1).toNat)) [y9.1]) fun x => k < e.length ∧ IntKind.i64.wrap ((k : Int) + 1) = ((k + 1 : Nat) : Int) ∧ ∃ st sk, x.length = sk.length ∧ srun e 0 [] [] = srun (e.drop (k + 1)) (k + 1) st sk ∧ tyRun s e 0 [] = tyRun s (e.drop (k + 1)) (k + 1) x ∧ x.length ≤ k + 1 ∧ (0 < k + 1 → x ≠ []) ∧ ∀ t ∈ x, Nrm t) := fun h => by
      rw [rest h]
      refine .some ⟨fun hc => bad _ hc rfl, fun hc => ?_⟩
      rw [if_neg (fun g => g hc)] at ht
      refine wp_app.2 ⟨by rw [List.length_take]; simp; omega, hlt, wrapS (m := e.length) (by omega) hlt, _, _, ?_, hsr.trans hr, ht, ?_, fun _ => by simp, fun t h => ?_⟩
      · simp only [List.length_append, List.length_take, List.length_cons, List.length_nil, hl]
      · simp only [List.length_append, List.length_take, List.length_cons, List.length_nil]; omega
      · rcases List.mem_append.1 h with h | h
        · exact hnrm t (List.mem_of_mem_take h)
        · rw [List.mem_singleton.1 h]
          exact hres hc
    simp only [idx_nat hlt, w1, cutA_zero (show stk.length - (ar e[k].1).toNat ≤ stk.length by omega), cutA_eq (l := stk) (stk.length - (ar e[k].1).toNat) stk.length rfl rfl (by omega) (Nat.le_refl _), List.take_length, a_, b_, c_, d_, e_, f_, g_, h_, i_, j_, k_, l_, m_, n_, o_, p_, q_, r_, s_, t_, u_, v_, w_, x_, y_, z_, A_, B_, C_, D_, E_, F_, G_, H_, I_, J_, K_, L_, M_, N_, O_, P_, reduceCtorEq]
    exact ⟨fun h1 => ⟨fun h2 => bad 2 (by decide) (cond ⟨h1, h2⟩), fun h2 => good fun g => g.2 h2⟩, fun h1 => good fun g => g.1 h1⟩
  · obtain rfl : k = e.length := by omega
    rw [List.drop_length, tyRun] at ht
    rw [hT, ht]
    have : stk ≠ [] := hpos (List.length_pos_iff.2 hne)
    obtain ⟨a, l, rfl⟩ := List.exists_cons_of_ne_nil this
    exact wp_idx.2 ⟨by simp, rfl⟩
end L
end Go.Proofs.YtjeeligfdpociaaGreat
