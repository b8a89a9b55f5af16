/- Chapter 17: LawDuplicate (plain law): a repeated definition, or a repeated scope, is the first error of a law that was valid. -/
import Derived.Test.YtjeeligfdpociaaGreatRK
import Derived.Test.YtjeeligfdpociaaGreatRN
namespace Go.Proofs.YtjeeligfdpociaaGreat
open Go Go.RowKit
set_option maxRecDepth 100000
set_option linter.unusedSimpArgs false
namespace L

theorem sigS_same {l l' : Lw} {x : Scp} (h1 : l'.1 = l.1) (h2 : l'.2.1 = l.2.1) (hm : (x.2.1 : Int) = -1 ∨ ∃ j : Nat, (x.2.1 : Int) = (j : Int) ∧ j < l.2.2.length ∧ j < l'.2.2.length ∧ l'.2.2[j]? = l.2.2[j]?) : sigS l' x = sigS l x := by
  obtain ⟨nm, (m : Int), z⟩ := x
  unfold sigS
  dsimp only at hm ⊢
  rw [h1, h2]
  rcases hm with rfl | ⟨j, rfl, a, b, c⟩
  · refine Prod.ext rfl (Prod.ext rfl (Prod.ext rfl (Prod.ext rfl (Prod.ext ?_ ?_))))
    · dsimp only
      repeat' split
      all_goals first | rfl | exact absurd (by assumption) (by decide : ¬ ((0 : Int) ≤ -1))
    · dsimp only
      rw [decide_eq_false (fun h => absurd h.1 (by decide)), decide_eq_false (fun h => absurd h.1 (by decide))]
  · refine Prod.ext rfl (Prod.ext rfl (Prod.ext rfl (Prod.ext rfl (Prod.ext ?_ ?_))))
    · dsimp only
      rw [Int.toNat_natCast, c]
    · dsimp only
      rw [decide_eq_true (show 0 ≤ (j : Int) ∧ (j : Int) < (l'.2.2.length : Int) by omega), decide_eq_true (show 0 ≤ (j : Int) ∧ (j : Int) < (l.2.2.length : Int) by omega)]
theorem fldS_same {l l' : Lw} (h1 : l'.1 = l.1) (x : Scp) : fldS l' x = fldS l x := by
  have e1 : inpE l' x = inpE l x := by funext i; unfold inpE; rw [h1]
  have e2 : defE l' x = defE l x := by funext i; unfold defE; rw [h1]
  unfold fldS
  rw [e1, e2]
theorem rulS_same {l l' : Lw} {x : Scp} (h : sigS l' x = sigS l x) : rulS l' x = rulS l x := by
  funext i
  unfold rulS
  have : ∀ r, rulE l' x i r = rulE l x i r := fun r => by unfold rulE; rw [h]
  cases x.2.2.2.2[i]? with
  | none => rfl
  | some r => simp only [this]
theorem take_same {α : Type} {l m : List α} {i : Nat} (h : ∀ j, j < i → m[j]? = l[j]?) : m.take i = l.take i := by
  apply List.ext_getElem?
  intro j
  rw [List.getElem?_take, List.getElem?_take]
  by_cases e : j < i
  · rw [if_pos e, if_pos e, h j e]
  · rw [if_neg e, if_neg e]
/-- What is known of a scope without an error. -/
theorem scp_none {l : Lw} {k : Nat} (hk : k < l.2.2.length) (h : scpS l k = none) : isId l.2.2[k].1 = true ∧ ¬ (hasN l.1 l.2.2[k].1 ∨ hasN l.2.1 l.2.2[k].1 ∨ hasN (l.2.2.take k) l.2.2[k].1) ∧ ¬ badMem l k l.2.2[k] ∧ l.2.2[k].2.2.1.length ≤ 12 ∧ l.2.2[k].2.2.2.1.length ≤ 12 ∧
    fldS l l.2.2[k] = none := by
  unfold scpS at h
  rw [List.getElem?_eq_getElem hk] at h
  dsimp only at h
  split at h
  · cases h
  split at h
  · cases h
  split at h
  · cases h
  split at h
  · cases h
  split at h
  · cases h
  rename_i h1 h2 h3 h4 h5
  rw [Option.or_eq_none_iff, Option.or_eq_none_iff] at h
  exact ⟨by simpa using h1, h2, h3, by omega, by omega, h.1.1⟩
theorem mem_ok {l : Lw} {k : Nat} {x : Scp} (h : ¬ badMem l k x) : (x.2.1 : Int) = -1 ∨ ∃ j : Nat, (x.2.1 : Int) = (j : Int) ∧ j < k := by
  unfold badMem at h
  obtain ⟨nm, (m : Int), z⟩ := x
  dsimp only at h ⊢
  by_cases e : m = -1
  · exact .inl e
  · right
    have a : 0 ≤ m := Classical.byContradiction fun g => h ⟨e, .inl (Int.not_le.1 g)⟩
    have b : m < (k : Int) := Classical.byContradiction fun g => h ⟨e, .inr (.inl (Int.not_lt.1 g))⟩
    have a' : (0 : Int) ≤ m := a
    have b' : m < (k : Int) := b
    exact ⟨m.toNat, (Int.toNat_of_nonneg a').symm, by omega⟩
theorem scp_keep {l l' : Lw} (h1 : l'.1 = l.1) (h2 : l'.2.1 = l.2.1) {i : Nat} (hi : i < l.2.2.length) (hj : ∀ j, j ≤ i → l'.2.2[j]? = l.2.2[j]?) (h0 : scpS l i = none) : scpS l' i = none := by
  obtain ⟨_, _, hb, _⟩ := scp_none hi h0
  have hi' : i < l'.2.2.length := by
    have := hj i (Nat.le_refl _)
    rw [List.getElem?_eq_getElem hi] at this
    exact (List.getElem?_eq_some_iff.1 this).1
  have htk : l'.2.2.take i = l.2.2.take i := take_same fun j h => hj j (by omega)
  rw [← h0]
  unfold scpS
  rw [hj i (Nat.le_refl _), List.getElem?_eq_getElem hi]
  dsimp only
  have hb' : ¬ badMem l' i l.2.2[i] := fun g => hb ⟨g.1, by
    rcases g.2 with g1 | g1 | ⟨y, g1, g2⟩
    · exact .inl g1
    · exact .inr (.inl g1)
    · by_cases c : (i : Int) ≤ (l.2.2[i].2.1 : Int)
      · exact .inr (.inl c)
      · rw [hj _ (by omega)] at g1
        exact .inr (.inr ⟨y, g1, g2⟩)⟩
  have hs : sigS l' l.2.2[i] = sigS l l.2.2[i] := sigS_same h1 h2 ((mem_ok hb).imp id fun ⟨j, e, h⟩ => ⟨j, e, by omega, by omega, hj j (by omega)⟩)
  rw [if_neg hb, if_neg hb', fldS_same h1, rulS_same hs, h1, h2, htk]
theorem valS_at {l l' : Lw} (hv : Valid l) (h1 : l'.1 = l.1) (h2 : l'.2.1 = l.2.1) {k : Nat} {e : Int × Int} (hl : l'.2.2.length ≤ 4) (hk : k < l'.2.2.length) (hp : ∀ i, i < k → scpS l' i = none) (he : scpS l' k = some e) : valS l' = errOf 3 (k : Int) (some e) := by
  obtain ⟨a1, a2, a3, a4, a5, a6⟩ := hv.scopes
  have en : ∀ i, enumS l' i = enumS l i := fun i => by unfold enumS; rw [h1]
  have tn : ∀ i, tabS l' i = tabS l i := fun i => by unfold tabS; rw [h1, h2]
  unfold valS
  rw [h1, h2, if_neg (by omega), firstE_none.2 (fun i hi => by rw [en, a4 i hi]; rfl)]
  dsimp only
  rw [if_neg (by omega), firstE_none.2 (fun i hi => by rw [tn, a5 i hi]; rfl)]
  dsimp only
  rw [if_neg (by omega), firstE_at (k := k) (x := (k, e)) (by rw [he]; rfl) (fun i hi => by rw [hp i hi]; rfl) hk]

theorem defE_eq {l : Lw} {x : Scp} {i : Nat} {f : Fd} (h : x.2.2.2.1[i]? = some f) : defE l x i = if isId f.1 = false then some (2, 200 + (i : Int)) else if hasN x.2.2.1 f.1 ∨ hasN (x.2.2.2.1.take i) f.1 then some (7, 200 + (i : Int)) else if ¬ VTp f.2 l.1.length then some (8, 200 + (i : Int)) else none := by
  unfold defE
  rw [h]
def dupD (x : Scp) (d : Fd) : Scp := (x.1, (x.2.1, (x.2.2.1, (x.2.2.2.1 ++ [d], x.2.2.2.2))))
theorem dup_def {l : Lw} (hv : Valid l) {k : Nat} (hk : k < l.2.2.length) (h0 : 0 < l.2.2[k].2.2.2.1.length) (h12 : l.2.2[k].2.2.2.1.length < 12) :
    valS ((l.1, (l.2.1, l.2.2.set k (dupD l.2.2[k] l.2.2[k].2.2.2.1[0]))) : Lw) = errOf 3 (k : Int) (some (7, 200 + (l.2.2[k].2.2.2.1.length : Int))) := by
  obtain ⟨a1, a2, a3, a4, a5, a6⟩ := hv.scopes
  obtain ⟨b1, b2, b3, b4, b5, b6⟩ := scp_none hk (a6 k hk)
  obtain ⟨l', hl'⟩ : ∃ l' : Lw, l' = ((l.1, (l.2.1, l.2.2.set k (dupD l.2.2[k] l.2.2[k].2.2.2.1[0]))) : Lw) := ⟨_, rfl⟩
  rw [← hl']
  have e1 : l'.1 = l.1 := by rw [hl']
  have e2 : l'.2.1 = l.2.1 := by rw [hl']
  have e3 : l'.2.2 = l.2.2.set k (dupD l.2.2[k] l.2.2[k].2.2.2.1[0]) := by rw [hl']
  have e4 : l'.2.2.length = l.2.2.length := by rw [e3, List.length_set]
  have same : ∀ j, j < k → l'.2.2[j]? = l.2.2[j]? := fun j hj => by rw [e3, List.getElem?_set_ne (by omega)]
  have htk : l'.2.2.take k = l.2.2.take k := take_same same
  refine valS_at hv e1 e2 (by omega) (by omega) (fun i hi => scp_keep e1 e2 (by omega) (fun j hj => same j (by omega)) (a6 i (by omega))) ?_
  obtain ⟨x, hx⟩ : ∃ x, x = l.2.2[k] := ⟨_, rfl⟩
  have hx' : l'.2.2[k]? = some (dupD x (x.2.2.2.1[0]'(by rw [hx]; exact h0))) := by
    rw [e3, List.getElem?_set_self hk]; simp only [hx]
  have hb' : ¬ badMem l' k (dupD x (x.2.2.2.1[0]'(by rw [hx]; exact h0))) := fun g => b3 (by
    rw [← hx]
    refine ⟨g.1, ?_⟩
    rcases g.2 with g1 | g1 | ⟨y, g1, g2⟩
    · exact .inl g1
    · exact .inr (.inl g1)
    · by_cases c : (k : Int) ≤ (x.2.1 : Int)
      · exact .inr (.inl c)
      by_cases c0 : (x.2.1 : Int) < 0
      · exact .inl c0
      · have c1 : (x.2.1 : Int) < (k : Int) := Int.not_le.1 c
        have c2 : (0 : Int) ≤ x.2.1 := Int.not_lt.1 c0
        obtain ⟨(m : Int), hm⟩ : ∃ m : Int, m = x.2.1 := ⟨_, rfl⟩
        have g1 : l'.2.2[(x.2.1 : Int).toNat]? = some y := g1
        rw [← hm] at c1 c2 g1
        rw [same _ (by omega)] at g1
        exact .inr (.inr ⟨y, by rw [← hm]; exact g1, g2⟩))
  rw [← hx] at b1 b2 b4 b5 b6 h0 h12 ⊢
  unfold scpS
  rw [hx']
  dsimp only
  have f0 : (firstE (inpE l x) x.2.2.1.length) = none ∧ (firstE (defE l x) x.2.2.2.1.length) = none := by
    unfold fldS at b6
    rwa [Option.or_eq_none_iff] at b6
  have hfld : fldS l' (dupD x x.2.2.2.1[0]) = some (7, 200 + (x.2.2.2.1.length : Int)) := by
    rw [fldS_same e1]
    have i1 : inpE l (dupD x x.2.2.2.1[0]) = inpE l x := rfl
    unfold fldS
    rw [i1, show (dupD x x.2.2.2.1[0]).2.2.1 = x.2.2.1 from rfl, f0.1, Option.none_or]
    have d1 := firstE_none.1 f0.2
    refine firstE_at (k := x.2.2.2.1.length) ?_ (fun j hj => ?_) (by show x.2.2.2.1.length < (x.2.2.2.1 ++ [x.2.2.2.1[0]]).length; simp)
    · have := d1 0 h0
      rw [defE_eq (List.getElem?_eq_getElem h0)] at this
      rw [defE_eq (x := dupD x x.2.2.2.1[0]) (f := x.2.2.2.1[0]) (show (x.2.2.2.1 ++ [x.2.2.2.1[0]])[x.2.2.2.1.length]? = _ by rw [List.getElem?_append_right (Nat.le_refl _), Nat.sub_self]; rfl)]
      split at this
      · cases this
      rename_i g1
      rw [if_neg g1, if_pos (.inr ⟨_, by show _ ∈ (x.2.2.2.1 ++ [x.2.2.2.1[0]]).take x.2.2.2.1.length; rw [List.take_left' rfl]; exact List.getElem_mem h0, rfl⟩)]
    · have := d1 j hj
      rw [defE_eq (List.getElem?_eq_getElem hj)] at this
      rw [defE_eq (x := dupD x x.2.2.2.1[0]) (f := x.2.2.2.1[j]) (show (x.2.2.2.1 ++ [x.2.2.2.1[0]])[j]? = _ by rw [List.getElem?_append_left hj, List.getElem?_eq_getElem hj])]
      rw [show (dupD x x.2.2.2.1[0]).2.2.2.1.take j = x.2.2.2.1.take j from List.take_append_of_le_length (by omega)]
      exact this
  have n1 : (dupD x x.2.2.2.1[0]).1 = x.1 := rfl
  have n2 : (dupD x x.2.2.2.1[0]).2.2.1 = x.2.2.1 := rfl
  have n3 : (dupD x x.2.2.2.1[0]).2.2.2.1 = x.2.2.2.1 ++ [x.2.2.2.1[0]] := rfl
  rw [if_neg hb', n1, e1, e2, htk, if_neg (by rw [b1]; decide), if_neg b2, n2, if_neg (show ¬ 12 < x.2.2.1.length by omega), n3, if_neg (show ¬ 12 < (x.2.2.2.1 ++ [x.2.2.2.1[0]]).length by simp; omega), hfld]
  rfl
theorem dup_scope {l : Lw} (hv : Valid l) (h0 : 0 < l.2.2.length) (h4 : l.2.2.length < 4) :
    valS ((l.1, (l.2.1, l.2.2 ++ [l.2.2[0]])) : Lw) = errOf 3 (l.2.2.length : Int) (some (7, 0)) := by
  obtain ⟨a1, a2, a3, a4, a5, a6⟩ := hv.scopes
  obtain ⟨b1, b2, _⟩ := scp_none h0 (a6 0 h0)
  refine valS_at (l' := ((l.1, (l.2.1, l.2.2 ++ [l.2.2[0]])) : Lw)) hv rfl rfl (by simp; omega) (by simp) (fun i hi => scp_keep (l := l) (l' := ((l.1, (l.2.1, l.2.2 ++ [l.2.2[0]])) : Lw)) rfl rfl hi (fun j hj => List.getElem?_append_left (by omega)) (a6 i hi)) ?_
  unfold scpS
  show (match (l.2.2 ++ [l.2.2[0]])[l.2.2.length]? with
    | none => none
    | some x => _) = _
  rw [List.getElem?_append_right (Nat.le_refl _), Nat.sub_self]
  dsimp only [List.getElem?_cons_zero]
  rw [if_neg (by rw [b1]; decide), if_pos]
  right; right
  rw [List.take_left' rfl]
  exact ⟨_, List.getElem_mem h0, rfl⟩
theorem LawDuplicate_true (l : Lw) (at_ : Int) (hw : WF rLaw l) (_ : WF rInt at_) : M.law17_LawDuplicate big l at_ = some true := by
  apply Wp.eq
  unfold M.law17_LawDuplicate
  refine Wp.seq (fun j => j = false → (SmallL l ∧ Valid l) ∧ 0 < l.2.2.length) ?_ fun j hj => ?_
  · rw [wp_bind]
    refine (smallL_wp l hw).mono fun y hy => ?_
    cases y with
    | false => exact .some fun h => (by cases h)
    | true =>
      rw [if_neg (by decide), pval_eq l hw (hy rfl), Option.bind_some]
      by_cases e : eqR rLawError (valS l) ((0 : Int), ((0 : Int), ((0 : Int), (0 : Int)))) = true
      · rw [if_neg (by simp [e])]
        refine .some fun h => ⟨⟨hy rfl, ?_⟩, ?_⟩
        · have hv : valS l = okE := eqR_iff.1 e
          unfold Valid; rw [hv]; rfl
        · have := of_decide_eq_false h
          omega
      · rw [if_pos (by simpa using e)]
        exact .some fun h => (by cases h)
  cases j with
  | true => rw [if_pos rfl, awake17k]; exact .some rfl
  | false =>
  obtain ⟨⟨hsm, hval⟩, h0⟩ := hj rfl
  have hm := hval.mild hsm
  have h5 := hsm.2.2.1
  rw [if_neg (by decide), awake17k, cLaw l hm, Option.bind_some, if_neg (by simp)]
  obtain ⟨q, k, hk, p1, p2⟩ := place h0 (by omega) at_
  have hss := hsm.2.2.2.2.2 _ (List.getElem_mem hk)
  rw [p1, Option.bind_some, p2, Option.bind_some, idx_nat hk, Option.bind_some, wp_join, Option.bind_some]
  have hself : modL l.2.2 (k : Int) (fun m : Scp => (m.1, (m.2.1, (m.2.2.1, (l.2.2[k].2.2.2.1, m.2.2.2.2))))) = l.2.2 := by
    apply List.ext_getElem (by rw [modL_length])
    intro i h1 h2
    rw [modL_at h1 h2]
    by_cases e : (k : Int) = (i : Int)
    · rw [if_pos e]
      have e : k = i := by omega
      subst e
      rfl
    · rw [if_neg e]
  have okR : ∀ (v w : LE), v = w → Wp (if (eqR rLawError v w) = true then (some true).bind fun y24 => some y24 else some false) (· = true) := fun v w e => by
    rw [if_pos (eqR_iff.2 e)]; exact .some rfl
  have tail : Wp (Join (J := List rScope.den) (R := Bool) (if (decide ((4 : Int) ≤ (l.2.2.length : Int))) = true then (some true).bind fun y26 => some (Sum.inr y26) else some (Sum.inl l.2.2)) fun j25 =>
      (idx j25 (0 : Int)).bind fun x27 => (appA j25 ([x27] : List rScope.den)).bind fun l28 =>
      ((M.law_Validate big (l.1, (l.2.1, l28))).bind fun y30 => (if (eqR rLawError y30 ((7 : Int), ((3 : Int), (IntKind.i64.wrap ((l28.length : Int) - (1 : Int)), (0 : Int))))) = true then (some true).bind fun y31 => some y31 else some false) : Option (Bool)).bind fun j29 => some j29) (· = true) := by
    rw [wp_join]
    by_cases c4 : 4 ≤ l.2.2.length
    · rw [if_pos (by rw [decide_eq_true_eq]; omega), Option.bind_some]
      exact .some rfl
    · rw [if_neg (by rw [decide_eq_true_eq]; omega)]
      refine .some ?_
      show Wp ((idx l.2.2 (0 : Int)).bind _) _
      rw [idx0 h0, Option.bind_some, appA_some (by simp; omega), Option.bind_some]
      have hlaw := dup_scope hval h0 (by omega)
      have hW : WF rLaw ((l.1, (l.2.1, l.2.2 ++ [l.2.2[0]])) : Lw) := by
        refine ⟨hw.1, hw.2.1, by simp; unfold maxLen; omega, fun y hy => ?_⟩
        rcases List.mem_append.1 hy with h | h
        · exact hw.2.2.2 y h
        · rw [List.mem_singleton.1 h]; exact hw.2.2.2 _ (List.getElem_mem h0)
      have hS : SmallL ((l.1, (l.2.1, l.2.2 ++ [l.2.2[0]])) : Lw) := by
        refine ⟨hsm.1, hsm.2.1, by simp; omega, hsm.2.2.2.1, hsm.2.2.2.2.1, fun y hy => ?_⟩
        rcases List.mem_append.1 hy with h | h
        · exact hsm.2.2.2.2.2 y h
        · rw [List.mem_singleton.1 h]; exact hsm.2.2.2.2.2 _ (List.getElem_mem h0)
      rw [pval_eq _ hW hS, Option.bind_some, hlaw, wp_bind]
      refine (okR _ _ ?_).mono fun r hr => .some hr
      rw [wrap_id (by simp) (by simp; omega)]
      show ((7 : Int), ((3 : Int), ((l.2.2.length : Int), (0 : Int)))) = _
      congr 3
      simp
  by_cases c : 0 < l.2.2[k].2.2.2.1.length ∧ l.2.2[k].2.2.2.1.length < 12
  · rw [if_pos (by rw [decide_eq_true_eq]; omega), if_pos (by simp), Option.bind_some, if_pos (by rw [decide_eq_true_eq]; omega), if_pos (by simp), Option.bind_some, if_pos (by simp), Option.bind_some, idx0 c.1, Option.bind_some, appA_some (by simp; omega), Option.bind_some, if_pos (by simp), Option.bind_some]
    have hset : modL l.2.2 (k : Int) (fun m : Scp => (m.1, (m.2.1, (m.2.2.1, (l.2.2[k].2.2.2.1 ++ [l.2.2[k].2.2.2.1[0]'c.1], m.2.2.2.2))))) = l.2.2.set k (dupD l.2.2[k] (l.2.2[k].2.2.2.1[0]'c.1)) := by
      apply List.ext_getElem (by rw [modL_length, List.length_set])
      intro i h1 h2
      rw [modL_at h1 (by rw [List.length_set] at h2; exact h2), List.getElem_set]
      by_cases e : (k : Int) = (i : Int)
      · have e' : k = i := by omega
        subst e'
        rw [if_pos e, if_pos rfl]; rfl
      · rw [if_neg e, if_neg (by omega)]
    rw [hset, idx_nat (show k < (l.2.2.set k (dupD l.2.2[k] (l.2.2[k].2.2.2.1[0]'c.1))).length by rw [List.length_set]; exact hk), Option.bind_some, Option.bind_some, List.getElem_set_self]
    dsimp only
    have hlaw : valS ((l.1, (l.2.1, l.2.2.set k (dupD l.2.2[k] (l.2.2[k].2.2.2.1[0]'c.1)))) : Lw) = _ := dup_def hval hk c.1 c.2
    have hwx := hw.2.2.2 _ (List.getElem_mem hk)
    have hW : WF rLaw ((l.1, (l.2.1, l.2.2.set k (dupD l.2.2[k] (l.2.2[k].2.2.2.1[0]'c.1)))) : Lw) := by
      refine ⟨hw.1, hw.2.1, by rw [List.length_set]; exact hw.2.2.1, fun y hy => ?_⟩
      rcases List.mem_or_eq_of_mem_set hy with h | rfl
      · exact hw.2.2.2 y h
      · refine ⟨hwx.1, hwx.2.1, hwx.2.2.1, ⟨by show (l.2.2[k].2.2.2.1 ++ [_]).length ≤ _; simp; unfold maxLen; omega, fun f hf => ?_⟩, hwx.2.2.2.2⟩
        rcases List.mem_append.1 hf with h | h
        · exact hwx.2.2.2.1.2 f h
        · rw [List.mem_singleton.1 h]; exact hwx.2.2.2.1.2 _ (List.getElem_mem c.1)
    have hS : SmallL ((l.1, (l.2.1, l.2.2.set k (dupD l.2.2[k] (l.2.2[k].2.2.2.1[0]'c.1)))) : Lw) := by
      refine ⟨hsm.1, hsm.2.1, by rw [List.length_set]; exact hsm.2.2.1, hsm.2.2.2.1, hsm.2.2.2.2.1, fun y hy => ?_⟩
      rcases List.mem_or_eq_of_mem_set hy with h | rfl
      · exact hsm.2.2.2.2.2 y h
      · refine ⟨hss.1, hss.2.1, by show (l.2.2[k].2.2.2.1 ++ [_]).length ≤ 14; simp; omega, hss.2.2.2.1, hss.2.2.2.2.1, fun f hf => ?_, hss.2.2.2.2.2.2⟩
        rcases List.mem_append.1 hf with h | h
        · exact hss.2.2.2.2.2.1 f h
        · rw [List.mem_singleton.1 h]; exact hss.2.2.2.2.2.1 _ (List.getElem_mem c.1)
    rw [pval_eq _ hW hS, Option.bind_some, hlaw, wp_bind]
    refine (okR _ _ ?_).mono fun r hr => .some hr
    have hlen : ((dupD l.2.2[k] (l.2.2[k].2.2.2.1[0]'c.1)).2.2.2.1.length : Int) = (l.2.2[k].2.2.2.1.length : Int) + 1 := by show (((l.2.2[k].2.2.2.1 ++ [_]).length : Nat) : Int) = _; simp
    rw [hlen, wrap_id (n := 200 + ((l.2.2[k].2.2.2.1.length : Int) + 1)) (by omega) (by omega), wrap_id (by omega) (by omega)]
    show ((7 : Int), ((3 : Int), ((k : Int), 200 + (l.2.2[k].2.2.2.1.length : Int)))) = _
    congr 3
    omega
  · by_cases c0 : 0 < l.2.2[k].2.2.2.1.length
    · rw [if_pos (by rw [decide_eq_true_eq]; omega), if_pos (by simp), Option.bind_some, if_neg (by rw [decide_eq_true_eq]; omega), hself]
      exact .some tail
    · rw [if_neg (by rw [decide_eq_true_eq]; omega), hself]
      exact .some tail
end L
end Go.Proofs.YtjeeligfdpociaaGreat
