/- Chapter 17: the restriction of a law to a date as plain lists (LawOnDateValid, begun). -/
/- Chapter 17: the rules that remain on a date, with their parents (LawOnDateValid, begun). -/
/- Chapter 17: what remains on a date: kept rules in their order, parents among them (LawOnDateValid, begun). -/
/- Chapter 17: the restriction of a scope to a date as plain lists (LawOnDateValid, begun). -/
/- Chapter 17: the restriction of a valid law is valid (LawOnDateValid, begun). -/
/- Chapter 17: the restriction of a valid law is valid: rules, scopes, cycles; LawOnDateValid. -/
import Derived.Test.YtjeeligfdpociaaGreatRW
import Derived.Test.YtjeeligfdpociaaGreatRG
namespace Go.Proofs.YtjeeligfdpociaaGreat
open Go Go.RowKit
set_option maxRecDepth 100000
set_option linter.unusedSimpArgs false
namespace L


def InR (r : Ty) (d : Int) : Prop := VR r ∧ (r.1 : Int) ≤ d ∧ d < (r.2 : Int)
instance (r : Ty) (d : Int) : Decidable (InR r d) := by unfold InR; infer_instance
theorem inR_eq (r : Ty) (d : Int) : M.daterange_Contains big r d = some (decide (InR r d)) := by
  obtain ⟨(r1 : Int), (r2 : Int)⟩ := r
  apply Wp.eq
  unfold M.daterange_Contains
  simp only [pVR_eq, a_, b_, c_, d_, e_, f_, g_, h_, i_, j_, k_, l_, m_, n_, o_, p_, q_, r_, s_, t_, u_, v_, w_, x_, y_, z_, A_, B_, C_, D_, E_, F_, G_, H_, I_, J_, K_, L_, M_, N_, O_, P_, reduceCtorEq]
  unfold InR
  dsimp only [rInt, Row.den]
  by_cases h : VR ((r1, r2) : Ty) <;> simp only [h, a_, b_, c_, d_, e_, f_, g_, h_, i_, j_, k_, l_, m_, n_, o_, p_, q_, r_, s_, t_, u_, v_, w_, x_, y_, z_, A_, B_, C_, D_, E_, F_, G_, H_, I_, J_, K_, L_, M_, N_, O_, P_, reduceCtorEq]
  omega
/-- All dates. -/
def allD : Ty := ((0 : Int), (109573 : Int))
def rowsOn (rows : List Rw) (d : Int) : List Rw := (rows.filter fun x => decide (InR x.1 d)).map fun x => (allD, x.2)
theorem filtLoop {α β : Type} (l : List α) (p : α → Bool) (F : α → β) {body : Int × List β → Option ((Int × List β) ⊕ List β)} (hl : l.length ≤ 4294967295)
    (hb : ∀ k, ∀ h : k < l.length, ∀ o : List β, o.length ≤ k → body ((k : Int), o) = some (.inl (IntKind.i64.wrap ((k : Int) + 1), if p l[k] = true then o ++ [F l[k]] else o)))
    (he : ∀ o : List β, body ((l.length : Int), o) = some (.inr o)) : Loop body big ((0 : Int), []) = some ((l.filter p).map F) := by
  have hbig : l.length < big := by unfold big; omega
  refine Loop_eq (fun k => ((k : Int), ((l.take k).filter p).map F)) l.length _ (by simp) (fun k hk => ?_) (by rw [he, List.take_length]) hbig
  have hle : (((l.take k).filter p).map F).length ≤ k := by
    rw [List.length_map]
    exact Nat.le_trans (List.length_filter_le _ _) (by simp; omega)
  rw [hb k hk _ hle, wrapS (m := l.length) (by omega) hk, List.take_add_one, List.getElem?_eq_getElem hk]
  rw [List.filter_append, List.map_append]
  by_cases h : p l[k] = true
  · rw [if_pos h]
    have : ([l[k]] : List α).filter p = [l[k]] := by simp [h]
    show some (Sum.inl (_, _)) = some (Sum.inl (_, _ ++ (List.filter p [l[k]]).map F))
    rw [this]
    rfl
  · rw [if_neg h]
    have : ([l[k]] : List α).filter p = [] := by simp [h]
    show some (Sum.inl (_, _)) = some (Sum.inl (_, _ ++ (List.filter p [l[k]]).map F))
    rw [this, List.map_nil, List.append_nil]
theorem tableOn_eq (t : Tab) (d : Int) (hl : t.2.2.2.length ≤ 1048576) : M.effective_tableOn big t d = some (t.1, t.2.1, t.2.2.1, rowsOn t.2.2.2 d) := by
  unfold M.effective_tableOn
  have := filtLoop t.2.2.2 (fun x => decide (InR x.1 d)) (fun x : Rw => ((allD, x.2) : Rw)) (body := fun s2 => (if (decide (s2.1 < (t.2.2.2.length : Int))) = true then ((idx t.2.2.2 s2.1).bind fun x4 => (M.daterange_Contains big x4.1 d).bind fun y5 => (if y5 = true then (M.effective_allDates big).bind fun y6 => (appA s2.2 ([(y6, x4.2)] : List rRow.den)).bind fun l7 => some l7 else some s2.2) : Option (List rRow.den)).bind fun j3 => some (Sum.inl (IntKind.i64.wrap (s2.1 + (1 : Int)), j3)) else some (Sum.inr s2.2))) (by omega)
    (fun k hk o ho => by
      have ea : M.effective_allDates big = some allD := rfl
      simp only [lt_dec' hk, idx_nat hk, inR_eq, ea, Option.bind_some, if_true, appA_some (show o.length + [((allD, t.2.2.2[k].2) : Rw)].length ≤ 4294967296 by simp; omega)]
      by_cases h : InR t.2.2.2[k].1 d
      · simp only [decide_eq_true h, if_true, Option.bind_some]
      · simp only [decide_eq_false h, Bool.false_eq_true, if_false, Option.bind_some])
    (fun o => by simp only [nlt_self, decide_false, Bool.false_eq_true, if_false])
  rw [this]
  rfl
/-- A restricted table has no errors where the table has none. -/
theorem tabE_ok {t : Tab} {E : List En} : (tabE t E).2 = 0 ↔ t.2.2.2.length ≤ 64 ∧ (VTp t.2.1 E.length ∧ VTp t.2.2.1 E.length) ∧ ∀ k, ∀ h : k < t.2.2.2.length, ¬ Wrong t.2.2.2[k] t E ∧ ¬ ∃ y ∈ t.2.2.2.take k, Confl y t.2.2.2[k] := by
  have hrow : ∀ k e, rowE t E k = some e → e.2 ≠ 0 := fun k e he => by
    unfold rowE at he
    split at he
    · cases he
    split at he
    · cases he; simp
    split at he
    · cases he; simp
    · cases he
  unfold tabE
  by_cases h1 : 64 < t.2.2.2.length
  · rw [if_pos h1]
    exact iff_of_false (by decide) fun g => by omega
  rw [if_neg h1]
  by_cases h2 : ¬ (VTp t.2.1 E.length ∧ VTp t.2.2.1 E.length)
  · rw [if_pos h2]
    exact iff_of_false (by decide) fun g => h2 g.2.1
  rw [if_neg h2]
  have key : firstE (rowE t E) t.2.2.2.length = none ↔ ∀ k, ∀ h : k < t.2.2.2.length, ¬ Wrong t.2.2.2[k] t E ∧ ¬ ∃ y ∈ t.2.2.2.take k, Confl y t.2.2.2[k] := by
    rw [firstE_none]
    refine forall_congr' fun k => ⟨fun g h => ?_, fun g h => ?_⟩
    · have := g h
      unfold rowE at this
      rw [List.getElem?_eq_getElem h] at this
      dsimp only at this
      split at this
      · cases this
      split at this
      · cases this
      · exact ⟨‹_›, ‹_›⟩
    · unfold rowE
      rw [List.getElem?_eq_getElem h]
      dsimp only
      rw [if_neg (g h).1, if_neg (g h).2]
  cases hf : firstE (rowE t E) t.2.2.2.length with
  | none => exact iff_of_true rfl ⟨by omega, Classical.not_not.1 h2, key.1 hf⟩
  | some e =>
    obtain ⟨k, _, he, _⟩ := firstE_some hf
    exact iff_of_false (hrow k e he) fun g => by rw [key.2 g.2.2] at hf; cases hf
theorem mem_rowsOn {rows : List Rw} {d : Int} {y : Rw} : y ∈ rowsOn rows d ↔ ∃ x ∈ rows, InR x.1 d ∧ y = ((allD, x.2) : Rw) := by
  unfold rowsOn
  rw [List.mem_map]
  constructor
  · rintro ⟨x, hx, rfl⟩
    obtain ⟨h1, h2⟩ := List.mem_filter.1 hx
    exact ⟨x, h1, of_decide_eq_true h2, rfl⟩
  · rintro ⟨x, hx, h, rfl⟩
    exact ⟨x, List.mem_filter.2 ⟨hx, decide_eq_true h⟩, rfl⟩
theorem allD_VR : VR allD := by decide
/-- Two rows that are in force on a date and conflict once restricted conflicted before. -/
theorem confl_on {x y : Rw} {d : Int} (hx : InR x.1 d) (hy : InR y.1 d) (h : Confl ((allD, x.2) : Rw) ((allD, y.2) : Rw)) : Confl x y := by
  obtain ⟨⟨(x1 : Int), (x2 : Int)⟩, (x3 : Int), (x4 : Int), (x5 : Int)⟩ := x
  obtain ⟨⟨(y1 : Int), (y2 : Int)⟩, (y3 : Int), (y4 : Int), (y5 : Int)⟩ := y
  unfold Confl at h ⊢
  unfold InR at hx hy
  dsimp only [rInt, Row.den] at *
  exact ⟨hx.1, hy.1, by omega, h.2.2.2⟩
theorem wrong_on {x : Rw} {t : Tab} {E : List En} {rows : List Rw} (h : ¬ Wrong x t E) : ¬ Wrong ((allD, x.2) : Rw) ((t.1, (t.2.1, (t.2.2.1, rows))) : Tab) E := by
  intro g
  apply h
  unfold Wrong at g ⊢
  rcases g with g | g | g
  · exact absurd allD_VR g
  · exact absurd (show (0 : Int) = 109573 from g) (by decide)
  · exact .inr (.inr g)
/-- Places of a filtered list. -/
theorem filter_at {α : Type} {p : α → Bool} : ∀ {l : List α} {k : Nat} (h : k < (l.filter p).length), ∃ j, ∃ hj : j < l.length, (l.filter p)[k] = l[j] ∧ p l[j] = true ∧ ∀ i, ∀ hi : i < (l.filter p).length, i < k → ∃ m, ∃ hm : m < l.length, m < j ∧ (l.filter p)[i] = l[m] ∧ p l[m] = true
  | [], k, h => absurd h (by simp)
  | a :: l, k, h => by
    by_cases ha : p a = true
    · have e : (a :: l).filter p = a :: l.filter p := List.filter_cons_of_pos ha
      cases k with
      | zero => exact ⟨0, by simp, by simp [e], ha, fun i _ hi => by omega⟩
      | succ k =>
        have hk : k < (l.filter p).length := by rw [e] at h; simpa using h
        obtain ⟨j, hj, h1, h2, h3⟩ := filter_at (l := l) hk
        refine ⟨j + 1, by simpa using hj, by simpa [e] using h1, h2, fun i hi hik => ?_⟩
        cases i with
        | zero => exact ⟨0, by simp, by omega, by simp [e], ha⟩
        | succ i =>
          obtain ⟨m, hm, h4, h5, h6⟩ := h3 i (by rw [e] at hi; simpa using hi) (by omega)
          exact ⟨m + 1, by simpa using hm, by omega, by simpa [e] using h5, h6⟩
    · have e : (a :: l).filter p = l.filter p := List.filter_cons_of_neg ha
      have hk : k < (l.filter p).length := by rw [e] at h; exact h
      obtain ⟨j, hj, h1, h2, h3⟩ := filter_at (l := l) hk
      refine ⟨j + 1, by simpa using hj, by simpa [e] using h1, h2, fun i hi hik => ?_⟩
      obtain ⟨m, hm, h4, h5, h6⟩ := h3 i (by rw [e] at hi; exact hi) hik
      exact ⟨m + 1, by simpa using hm, by omega, by simpa [e] using h5, h6⟩
theorem rowsOn_at {rows : List Rw} {d : Int} {k : Nat} (h : k < (rowsOn rows d).length) (h' : k < (rows.filter fun x => decide (InR x.1 d)).length) : (rowsOn rows d)[k] = ((allD, (rows.filter fun x => decide (InR x.1 d))[k].2) : Rw) := List.getElem_map ..
theorem tab_on {t : Tab} {E : List En} (d : Int) (h : (tabE t E).2 = 0) : (tabE ((t.1, (t.2.1, (t.2.2.1, rowsOn t.2.2.2 d))) : Tab) E).2 = 0 := by
  obtain ⟨h1, h2, h3⟩ := tabE_ok.1 h
  refine tabE_ok.2 ⟨?_, h2, fun k hk => ?_⟩
  · show (rowsOn t.2.2.2 d).length ≤ 64
    unfold rowsOn
    rw [List.length_map]
    exact Nat.le_trans (List.length_filter_le _ _) h1
  · have hk' : k < (t.2.2.2.filter fun x => decide (InR x.1 d)).length := by
      have : k < (rowsOn t.2.2.2 d).length := hk
      unfold rowsOn at this
      rwa [List.length_map] at this
    obtain ⟨j, hj, e, hp, hprev⟩ := filter_at hk'
    have hat : (rowsOn t.2.2.2 d)[k]'hk = ((allD, t.2.2.2[j].2) : Rw) := (rowsOn_at hk hk').trans (by rw [e])
    show ¬ Wrong ((rowsOn t.2.2.2 d)[k]'hk) _ E ∧ ¬ ∃ y ∈ (rowsOn t.2.2.2 d).take k, Confl y ((rowsOn t.2.2.2 d)[k]'hk)
    rw [hat]
    refine ⟨wrong_on (h3 j hj).1, ?_⟩
    rintro ⟨y, hy, hc⟩
    obtain ⟨i, hi, rfl⟩ := List.mem_take_iff_getElem.1 hy
    have hi' : i < (t.2.2.2.filter fun x => decide (InR x.1 d)).length := by omega
    obtain ⟨m, hm, hmj, e2, hp2⟩ := hprev i hi' (by omega)
    have hat2 : (rowsOn t.2.2.2 d)[i]'(by omega) = ((allD, t.2.2.2[m].2) : Rw) := (rowsOn_at _ hi').trans (by rw [e2])
    rw [hat2] at hc
    exact (h3 j hj).2 ⟨_, List.mem_take_iff_getElem.2 ⟨m, by omega, rfl⟩, confl_on (of_decide_eq_true hp2) (of_decide_eq_true hp) hc⟩


/-- One rule more: the nearest kept ancestors, the kept rules, their parents. -/
def remStep (d : Int) (c : List Int × List Int × List Int) (r : Rul) : List Int × List Int × List Int :=
  if InR r.2.2.2.2.1 d then (c.1 ++ [(c.2.1.length : Int)], c.2.1 ++ [(c.1.length : Int)], c.2.2 ++ [if 0 ≤ (r.2.2.1 : Int) ∧ (r.2.2.1 : Int) < (c.1.length : Int) then c.1.getD (r.2.2.1 : Int).toNat (-1) else -1])
  else (c.1 ++ [if 0 ≤ (r.2.2.1 : Int) ∧ (r.2.2.1 : Int) < (c.1.length : Int) then c.1.getD (r.2.2.1 : Int).toNat (-1) else -1], c.2.1, c.2.2)
def remS (d : Int) (rules : List Rul) : List Int × List Int × List Int := rules.foldl (remStep d) ([], [], [])
theorem remS_len (d : Int) (rules : List Rul) : (remS d rules).1.length = rules.length ∧ (remS d rules).2.1.length ≤ rules.length ∧ (remS d rules).2.2.length = (remS d rules).2.1.length := by
  unfold remS
  suffices ∀ (rules : List Rul) (c : List Int × List Int × List Int), c.2.2.length = c.2.1.length → (rules.foldl (remStep d) c).1.length = c.1.length + rules.length ∧ (rules.foldl (remStep d) c).2.1.length ≤ c.2.1.length + rules.length ∧ (rules.foldl (remStep d) c).2.2.length = (rules.foldl (remStep d) c).2.1.length by simpa using this rules ([], [], []) rfl
  intro rules
  induction rules with
  | nil => intro c h; exact ⟨rfl, Nat.le_refl _, h⟩
  | cons r rules ih =>
    intro c h
    rw [List.foldl_cons, List.length_cons]
    have h1 : (remStep d c r).1.length = c.1.length + 1 := by unfold remStep; split <;> simp
    have h2 : (remStep d c r).2.1.length ≤ c.2.1.length + 1 := by unfold remStep; split <;> simp
    have h3 : (remStep d c r).2.2.length = (remStep d c r).2.1.length := by unfold remStep; split <;> simp [h]
    obtain ⟨g1, g2, g3⟩ := ih _ h3
    exact ⟨by omega, by omega, g3⟩
theorem set_next (l : List Int) (m : Nat) (v : Int) : setL (l ++ List.replicate (m + 1) (0 : Int)) (l.length : Int) v = (l ++ [v]) ++ List.replicate m (0 : Int) := by
  unfold setL
  rw [Int.toNat_natCast, List.set_append_right _ _ (Nat.le_refl _), Nat.sub_self, List.replicate_succ, List.set_cons_zero]
  simp
theorem set_here (l : List Int) (m : Nat) (u v : Int) : setL ((l ++ [u]) ++ List.replicate m (0 : Int)) (l.length : Int) v = (l ++ [v]) ++ List.replicate m (0 : Int) := by
  unfold setL
  rw [Int.toNat_natCast, List.append_assoc, List.set_append_right _ _ (Nat.le_refl _), Nat.sub_self]
  simp
theorem remaining_eq (rules : List Rul) (d : Int) (hl : rules.length ≤ 100000) : M.effective_remaining_v1 big rules d = some (d, (remS d rules).2.1, (remS d rules).2.2) := by
  apply Wp.eq
  unfold M.effective_remaining_v1
  rw [wp_bind]
  refine wp_mkL.2 ⟨by omega, ?_⟩
  rw [Int.toNat_natCast]
  refine Wp.count (fun s => s.1) rules.length (fun k s => s.2 = (d, (remS d (rules.take k)).1 ++ List.replicate (rules.length - k) 0, (remS d (rules.take k)).2.1, (remS d (rules.take k)).2.2)) (by omega) rfl (by simp [remS]) fun k s hk hs hJ => ?_
  obtain ⟨i, s2⟩ := s
  dsimp only at hs hJ
  subst hs hJ
  simp only [a_, b_, c_, d_, e_, f_, g_, h_, i_, j_, k_, l_, m_, n_, o_, p_, q_, r_, s_, t_, u_, v_, w_, x_, y_, z_, A_, B_, C_, D_, E_, F_, G_, H_, I_, J_, K_, L_, M_, N_, O_, P_, reduceCtorEq, countQ_inl, countQ_inr]
  refine ⟨fun hlt => ?_, fun hge => ?_⟩
  · have hlt : k < rules.length := by omega
    obtain ⟨l1, l2, l3⟩ := remS_len d (rules.take k)
    have hlk : (rules.take k).length = k := by rw [List.length_take]; omega
    rw [hlk] at l1 l2
    have hst : remS d (rules.take (k + 1)) = remStep d (remS d (rules.take k)) rules[k] := by
      unfold remS
      rw [List.take_add_one, List.getElem?_eq_getElem hlt, List.foldl_append]
      rfl
    obtain ⟨m, hm⟩ : ∃ m, rules.length - k = m + 1 := ⟨rules.length - k - 1, by omega⟩
    have hm' : rules.length - (k + 1) = m := by omega
    rw [hst, hm, hm']
    generalize remS d (rules.take k) = c at *
    obtain ⟨near, li, pa⟩ := c
    dsimp only at l1 l2 l3 ⊢
    subst l1
    rw [idx_nat hlt]
    refine .some ?_
    generalize rules[near.length] = r at *
    have hc : M.effective_scopeOn_c1_v1 big r d = some (decide (InR r.2.2.2.2.1 d), d) := by
      unfold M.effective_scopeOn_c1_v1
      rw [inR_eq, Option.bind_some]
    have hw : IntKind.i64.wrap ((near.length : Int) + 1) = ((near.length + 1 : Nat) : Int) := wrapS (m := rules.length) (by omega) hlt
    have tail : ∀ a : Int, a = (if 0 ≤ (r.2.2.1 : Int) ∧ (r.2.2.1 : Int) < (near.length : Int) then near.getD (r.2.2.1 : Int).toNat (-1) else -1) →
        Wp (idx (near ++ List.replicate (m + 1) (0 : Int)) (near.length : Int)) fun _ => Wp (M.effective_scopeOn_c1_v1 big r d) fun x => (x.1 = true → Wp (idx (setL (near ++ List.replicate (m + 1) (0 : Int)) (near.length : Int) a) (near.length : Int)) fun _ => Wp (appA li [(near.length : Int)]) fun x4 => Wp (appA pa [a]) fun x5 => near.length < rules.length ∧ IntKind.i64.wrap ((near.length : Int) + 1) = ((near.length + 1 : Nat) : Int) ∧ (x.2, setL (setL (near ++ List.replicate (m + 1) (0 : Int)) (near.length : Int) a) (near.length : Int) (li.length : Int), x4, x5) = (d, (remStep d (near, li, pa) r).1 ++ List.replicate m 0, (remStep d (near, li, pa) r).2.1, (remStep d (near, li, pa) r).2.2)) ∧
          (x.1 = false → near.length < rules.length ∧ IntKind.i64.wrap ((near.length : Int) + 1) = ((near.length + 1 : Nat) : Int) ∧ (x.2, setL (near ++ List.replicate (m + 1) (0 : Int)) (near.length : Int) a, li, pa) = (d, (remStep d (near, li, pa) r).1 ++ List.replicate m 0, (remStep d (near, li, pa) r).2.1, (remStep d (near, li, pa) r).2.2)) := by
      intro a ha
      refine wp_idx.2 ⟨by simp; omega, ?_⟩
      rw [hc]
      refine .some ⟨fun h => ?_, fun h => ?_⟩
      · have h : InR r.2.2.2.2.1 d := of_decide_eq_true h
        refine wp_idx.2 ⟨by rw [set_next]; simp; omega, wp_app.2 ⟨by simp; omega, wp_app.2 ⟨by simp; omega, hlt, hw, ?_⟩⟩⟩
        rw [set_next, set_here]
        unfold remStep
        rw [if_pos h, ha]
      · have h : ¬ InR r.2.2.2.2.1 d := of_decide_eq_false h
        refine ⟨hlt, hw, ?_⟩
        rw [set_next]
        unfold remStep
        rw [if_neg h, ha]
    obtain ⟨(p : Int), hp⟩ : ∃ p : Int, p = r.2.2.1 := ⟨_, rfl⟩
    simp only [← hp] at tail ⊢
    refine ⟨fun h0 => ⟨fun h1 => ?_, fun h1 => tail _ (by rw [if_neg fun g => h1 g.2])⟩, fun h0 => tail _ (by rw [if_neg fun g => h0 g.1])⟩
    obtain ⟨c, rfl⟩ := Int.eq_ofNat_of_zero_le h0
    have hcl : c < near.length := Int.ofNat_lt.1 h1
    refine wp_idx.2 ⟨by simp; omega, tail _ ?_⟩
    rw [if_pos ⟨h0, h1⟩]
    simp only [Int.toNat_natCast]
    rw [List.getElem_append_left hcl]
    simp [List.getD, hcl]
  · obtain rfl : k = rules.length := by omega
    rw [List.take_length]


theorem remS_snoc (d : Int) (rules : List Rul) (r : Rul) : remS d (rules ++ [r]) = remStep d (remS d rules) r := by
  unfold remS
  rw [List.foldl_append]
  rfl
/-- The parent of a rule comes ahead of it and is of the same definition. -/
def ParOK (rules : List Rul) : Prop := ∀ i, ∀ h : i < rules.length, (rules[i].2.2.1 : Int) = -1 ∨ ∃ p, ∃ hp : p < i, (rules[i].2.2.1 : Int) = (p : Int) ∧ ((rules[p]'(by omega)).2.1 : Int) = rules[i].2.1
/-- A place among those kept that is of a definition, or none. -/
def Anc (rules : List Rul) (li : List Int) (b : Nat) (df : Int) (a : Int) : Prop := a = -1 ∨ ∃ j : Nat, a = (j : Int) ∧ j < b ∧ ∃ i, ∃ h : i < rules.length, li[j]? = some (i : Int) ∧ (rules[i].2.1 : Int) = df
structure RemOK (d : Int) (rules : List Rul) (c : List Int × List Int × List Int) : Prop where
  near : c.1.length = rules.length
  same : c.2.2.length = c.2.1.length
  nr : ∀ i, ∀ h : i < rules.length, ∀ h' : i < c.1.length, Anc rules c.2.1 c.2.1.length rules[i].2.1 c.1[i]
  li : ∀ j, ∀ h : j < c.2.1.length, ∃ i, ∃ hi : i < rules.length, c.2.1[j] = (i : Int) ∧ InR rules[i].2.2.2.2.1 d ∧ ∀ h' : j < c.2.2.length, Anc rules c.2.1 j rules[i].2.1 c.2.2[j]
  inc : c.2.1.Pairwise (· < ·)
theorem Anc.more {rules : List Rul} {li : List Int} {b b' : Nat} {df a : Int} (r : Rul) (l' : List Int) (hb : b ≤ b') (h : Anc rules li b df a) : Anc (rules ++ [r]) (li ++ l') b' df a := by
  rcases h with h | ⟨j, h1, h2, i, hi, h3, h4⟩
  · exact .inl h
  · refine .inr ⟨j, h1, by omega, i, by simp; omega, ?_, ?_⟩
    · rw [List.getElem?_append_left (List.getElem?_eq_some_iff.1 h3).1]; exact h3
    · rw [List.getElem_append_left hi]; exact h4
theorem ParOK.init {rules : List Rul} {r : Rul} (h : ParOK (rules ++ [r])) : ParOK rules := fun i hi => by
  have := h i (by simp; omega)
  rw [List.getElem_append_left hi] at this
  rcases this with g | ⟨p, hp, g1, g2⟩
  · exact .inl g
  · refine .inr ⟨p, hp, g1, ?_⟩
    rw [List.getElem_append_left (show p < rules.length by omega)] at g2
    exact g2
theorem RemOK.snoc {d : Int} {rules : List Rul} {r : Rul} {c : List Int × List Int × List Int} (h : RemOK d rules c) (hp : ParOK (rules ++ [r])) : RemOK d (rules ++ [r]) (remStep d c r) := by
  obtain ⟨near, li, pa⟩ := c
  obtain ⟨h1, h2, h3, h4, h5⟩ := h
  dsimp only at h1 h2 h3 h4 h5
  have last : (rules ++ [r])[rules.length]'(by simp) = r := by simp
  have hanc : Anc rules li li.length r.2.1 (if 0 ≤ (r.2.2.1 : Int) ∧ (r.2.2.1 : Int) < (near.length : Int) then near.getD (r.2.2.1 : Int).toNat (-1) else -1) := by
    have := hp rules.length (by simp)
    rw [last] at this
    rcases this with g | ⟨p, hpl, g1, g2⟩
    · rw [if_neg (fun q => by rw [g] at q; exact absurd q.1 (by decide))]
      exact .inl rfl
    · have h1' : near.length = rules.length := h1
      rw [g1, if_pos ⟨Int.natCast_nonneg p, Int.ofNat_lt.2 (by omega)⟩, Int.toNat_natCast]
      rw [List.getElem_append_left hpl] at g2
      have hpn : p < near.length := by omega
      have := h3 p hpl hpn
      rw [g2] at this
      simpa [List.getD, hpn] using this
  have hlt : ∀ x ∈ li, x < (rules.length : Int) := fun x hx => by
    obtain ⟨j, hj, rfl⟩ := List.getElem_of_mem hx
    obtain ⟨i, hi, e, _⟩ := h4 j hj
    omega
  unfold remStep
  dsimp only
  generalize (if 0 ≤ (r.2.2.1 : Int) ∧ (r.2.2.1 : Int) < (near.length : Int) then near.getD (r.2.2.1 : Int).toNat (-1) else -1) = a at hanc ⊢
  by_cases hin : InR r.2.2.2.2.1 d
  · rw [if_pos hin]
    refine ⟨by simp [h1], by simp [h2], fun i hi hi' => ?_, fun j hj => ?_, ?_⟩
    · dsimp only at hi' ⊢
      by_cases e : i < rules.length
      · rw [List.getElem_append_left e, List.getElem_append_left (show i < near.length by omega)]
        exact (h3 i e (by omega)).more r [_] (by simp)
      · obtain rfl : i = rules.length := by simp at hi; omega
        rw [last]
        have : (near ++ [(li.length : Int)])[rules.length]'hi' = (li.length : Int) := by
          rw [List.getElem_append_right (by omega)]; simp
        rw [this]
        exact .inr ⟨li.length, rfl, by simp, rules.length, by simp, by simp [h1], by rw [last]⟩
    · dsimp only at hj ⊢
      by_cases e : j < li.length
      · obtain ⟨i, hi, g1, g2, g3⟩ := h4 j e
        refine ⟨i, by simp; omega, by rw [List.getElem_append_left e]; exact g1, by rw [List.getElem_append_left hi]; exact g2, fun h' => ?_⟩
        rw [List.getElem_append_left hi, List.getElem_append_left (show j < pa.length by omega)]
        exact (g3 (by omega)).more r [_] (Nat.le_refl _)
      · obtain rfl : j = li.length := by simp at hj; omega
        refine ⟨rules.length, by simp, by rw [List.getElem_append_right (by omega)]; simp [h1], by rw [last]; exact hin, fun h' => ?_⟩
        rw [last]
        have : (pa ++ [a])[li.length]? = some a := by rw [← h2]; simp
        have := (List.getElem?_eq_some_iff.1 this).2
        rw [this]
        exact hanc.more r [_] (Nat.le_refl _)
    · exact List.pairwise_append.2 ⟨h5, List.pairwise_singleton .., fun x hx y hy => by
        rw [List.mem_singleton.1 hy]
        have := hlt x hx
        have h1' : near.length = rules.length := h1
        show x < (near.length : Int)
        omega⟩
  · rw [if_neg hin]
    refine ⟨by simp [h1], h2, fun i hi hi' => ?_, fun j hj => ?_, h5⟩
    · dsimp only at hi' ⊢
      by_cases e : i < rules.length
      · rw [List.getElem_append_left e, List.getElem_append_left (show i < near.length by omega)]
        have := (h3 i e (by omega)).more r [] (Nat.le_refl _)
        rwa [List.append_nil] at this
      · obtain rfl : i = rules.length := by simp at hi; omega
        rw [last]
        have : (near ++ [a])[rules.length]? = some a := by rw [← h1]; simp
        have := (List.getElem?_eq_some_iff.1 this).2
        rw [this]
        have := hanc.more r [] (Nat.le_refl _)
        rwa [List.append_nil] at this
    · dsimp only at hj ⊢
      obtain ⟨i, hi, g1, g2, g3⟩ := h4 j hj
      refine ⟨i, by simp; omega, g1, by rw [List.getElem_append_left hi]; exact g2, fun h' => ?_⟩
      rw [List.getElem_append_left hi]
      have := (g3 h').more r [] (Nat.le_refl _)
      rwa [List.append_nil] at this
theorem remS_ok (d : Int) : ∀ (n : Nat) (rules : List Rul), rules.length = n → ParOK rules → RemOK d rules (remS d rules)
  | 0, rules, hn, _ => by
    obtain rfl := List.length_eq_zero_iff.1 hn
    exact ⟨rfl, rfl, fun i h => absurd h (by simp), fun j h => absurd h (by simp [remS]), .nil⟩
  | n + 1, rules, hn, hp => by
    obtain ⟨rs, r, rfl⟩ : ∃ rs r, rules = rs ++ [r] := by
      have hne : rules ≠ [] := fun e => by rw [e] at hn; cases hn
      exact ⟨rules.dropLast, rules.getLast hne, (List.dropLast_concat_getLast hne).symm⟩
    rw [remS_snoc]
    exact (remS_ok d n rs (by simpa using hn) hp.init).snoc hp


theorem cloneNode_eq (l : List Ty) (h : l.length ≤ 1048576) : M.slices_Clone_guerdon_api_Node_guerdon_api_Node big l = some l := by
  unfold M.slices_Clone_guerdon_api_Node_guerdon_api_Node
  rw [appA_some (by simp; omega), List.nil_append, Option.bind_some]
  split
  · rename_i h0
    obtain rfl := List.length_eq_zero_iff.1 (beq_true h0)
    exact both_same
  · rfl
theorem cloneField_eq (l : List Fd) (h : l.length ≤ 1048576) : M.slices_Clone_guerdon_api_Field_guerdon_api_Field big l = some l := by
  unfold M.slices_Clone_guerdon_api_Field_guerdon_api_Field
  rw [appA_some (by simp; omega), List.nil_append, Option.bind_some]
  split
  · rename_i h0
    obtain rfl := List.length_eq_zero_iff.1 (beq_true h0)
    exact both_same
  · rfl
/-- A rule that is in force, with its parent. -/
def rulD (r : Rul) (p : Int) : Rul := (r.1, (r.2.1, (p, (r.2.2.2.1, (allD, (r.2.2.2.2.2.1, (r.2.2.2.2.2.2.1, r.2.2.2.2.2.2.2)))))))
def rulOn (rules : List Rul) (p : Int × Int) : Rul := rulD (rules[p.1.toNat]?.getD (⟨#[]⟩, ((0 : Int), ((0 : Int), ((0 : Int), (((0 : Int), (0 : Int)), ([], ([], ⟨#[]⟩)))))))) p.2
def rulesOn (rules : List Rul) (d : Int) : List Rul := ((remS d rules).2.1.zip (remS d rules).2.2).map (rulOn rules)
theorem scopeOn_eq (x : Scp) (d : Int) (hs : SmallS x) (hp : ParOK x.2.2.2.2) : M.effective_scopeOn big x d = some (x.1, x.2.1, x.2.2.1, x.2.2.2.1, rulesOn x.2.2.2.2 d) := by
  have h60 := hs.2.2.2.1
  have h14 := hs.2.1
  have h14' := hs.2.2.1
  have hru := hs.2.2.2.2.2.2
  unfold M.effective_scopeOn
  rw [remaining_eq _ _ (by omega), Option.bind_some, cloneField_eq _ (by omega), cloneField_eq _ (by omega)]
  have hok := remS_ok d _ x.2.2.2.2 rfl hp
  have hlen := remS_len d x.2.2.2.2
  unfold rulesOn
  generalize remS d x.2.2.2.2 = c at *
  obtain ⟨near, li, pa⟩ := c
  have hsm : pa.length = li.length := hok.same
  have hli := hok.li
  dsimp only at hlen hli ⊢
  have hz : (li.zip pa).length = li.length := by rw [List.length_zip]; omega
  have := mapLoop (li.zip pa) (rulOn x.2.2.2.2) (body := fun s3 => (if (decide (s3.1 < (li.length : Int))) = true then (idx li s3.1).bind fun x4 => (idx x.2.2.2.2 x4).bind fun x5 => (idx pa s3.1).bind fun x6 => (M.effective_allDates big).bind fun y7 => (M.slices_Clone_guerdon_api_Node_guerdon_api_Node big x5.2.2.2.2.2.1).bind fun y8 => (M.slices_Clone_guerdon_api_Node_guerdon_api_Node big x5.2.2.2.2.2.2.1).bind fun y9 => (appA s3.2 ([(x5.1, (x5.2.1, (x6, (x5.2.2.2.1, (y7, (y8, (y9, x5.2.2.2.2.2.2.2)))))))] : List rRule.den)).bind fun l10 => some (Sum.inl (IntKind.i64.wrap (s3.1 + (1 : Int)), l10)) else some (Sum.inr s3.2))) (by omega)
    (fun k hk o ho => by
      have hkl : k < li.length := by omega
      have hkp : k < pa.length := by omega
      obtain ⟨i, hi, e1, _⟩ := hli k hkl
      have ea : M.effective_allDates big = some allD := rfl
      have hri := hru _ (List.getElem_mem hi)
      simp only [lt_dec' hkl, idx_nat hkl, e1, idx_nat hi, idx_nat hkp, ea, cloneNode_eq _ (show x.2.2.2.2[i].2.2.2.2.2.1.length ≤ 1048576 by omega), cloneNode_eq _ (show x.2.2.2.2[i].2.2.2.2.2.2.1.length ≤ 1048576 by omega), Option.bind_some, if_true]
      rw [appA_some (by simp; omega), Option.bind_some, List.getElem_zip, e1]
      unfold rulOn rulD
      simp only [Int.toNat_natCast, List.getElem?_eq_getElem hi, Option.getD_some])
    (fun o => by rw [hz]; simp only [nlt_self, decide_false, Bool.false_eq_true, if_false])
  rw [this]
  rfl
def tabOn (t : Tab) (d : Int) : Tab := (t.1, (t.2.1, (t.2.2.1, rowsOn t.2.2.2 d)))
def scpOn (x : Scp) (d : Int) : Scp := (x.1, (x.2.1, (x.2.2.1, (x.2.2.2.1, rulesOn x.2.2.2.2 d))))
theorem lawOn_eq (l : Lw) (d : Int) (hm : Mild l) (hsm : SmallL l) (hp : ∀ x ∈ l.2.2, ParOK x.2.2.2.2) : M.effective_LawOn big l d = some (l.1, l.2.1.map (tabOn · d), l.2.2.map (scpOn · d)) := by
  have h1 := hm.en'
  have h2 := hm.tb'
  have h3 := hm.sc'
  unfold M.effective_LawOn
  have e1 : Loop (S := Int × List rEnum.den) (X := List rEnum.den) (fun s2 => (if (decide (s2.1 < (l.1.length : Int))) = true then (idx l.1 s2.1).bind fun x3 => (M.slices_Clone_string_string big x3.2).bind fun y4 => (appA s2.2 ([(x3.1, y4)] : List rEnum.den)).bind fun l5 => some (Sum.inl (IntKind.i64.wrap (s2.1 + (1 : Int)), l5)) else some (Sum.inr s2.2))) big ((0 : Int), ([] : List rEnum.den)) = some l.1 := by
    have := mapLoop (l := l.1) (F := fun x : En => x) (body := fun s2 => (if (decide (s2.1 < (l.1.length : Int))) = true then (idx l.1 s2.1).bind fun x3 => (M.slices_Clone_string_string big x3.2).bind fun y4 => (appA s2.2 ([(x3.1, y4)] : List rEnum.den)).bind fun l5 => some (Sum.inl (IntKind.i64.wrap (s2.1 + (1 : Int)), l5)) else some (Sum.inr s2.2))) (by omega)
      (fun k hk o ho => by simp only [lt_dec' hk, idx_nat hk, cloneStr_eq _ (hm.en _ (List.getElem_mem hk)), Option.bind_some, if_true, appA_some (show o.length + [l.1[k]].length ≤ 4294967296 by simp; omega)])
      (fun o => by simp only [nlt_self, decide_false, Bool.false_eq_true, if_false])
    rw [List.map_id'] at this
    exact this
  rw [e1, Option.bind_some]
  have e2 := mapLoopF l.2.1 (tabOn · d) (fun i o => ((i, l.1, o) : Int × (List rEnum.den) × List rTable.den)) (fun o => (l.1, o)) (body := fun s7 => (if (decide (s7.1 < (l.2.1.length : Int))) = true then (idx l.2.1 s7.1).bind fun x8 => (M.effective_tableOn big x8 d).bind fun y9 => (appA s7.2.2 ([(y9.1, (y9.2.1, (y9.2.2.1, y9.2.2.2)))] : List rTable.den)).bind fun l10 => some (Sum.inl (IntKind.i64.wrap (s7.1 + (1 : Int)), s7.2.1, l10)) else some (Sum.inr (s7.2.1, s7.2.2)))) (by omega)
    (fun k hk o ho => by
      simp only [lt_dec' hk, idx_nat hk, tableOn_eq _ d (hm.tb _ (List.getElem_mem hk)), Option.bind_some, if_true]
      rw [appA_some (by simp; omega), Option.bind_some]
      rfl)
    (fun o => by simp only [nlt_self, decide_false, Bool.false_eq_true, if_false])
  rw [e2, Option.bind_some]
  have e3 := mapLoopF l.2.2 (scpOn · d) (fun i o => ((i, l.1, l.2.1.map (tabOn · d), o) : Int × (List rEnum.den) × (List rTable.den) × List rScope.den)) (fun o => (l.1, l.2.1.map (tabOn · d), o)) (body := fun s12 => (if (decide (s12.1 < (l.2.2.length : Int))) = true then (idx l.2.2 s12.1).bind fun x13 => (M.effective_scopeOn big x13 d).bind fun y14 => (appA s12.2.2.2 ([(y14.1, (y14.2.1, (y14.2.2.1, (y14.2.2.2.1, y14.2.2.2.2))))] : List rScope.den)).bind fun l15 => some (Sum.inl (IntKind.i64.wrap (s12.1 + (1 : Int)), s12.2.1, s12.2.2.1, l15)) else some (Sum.inr (s12.2.1, s12.2.2.1, s12.2.2.2)))) (by omega)
    (fun k hk o ho => by
      have hx := List.getElem_mem hk
      simp only [lt_dec' hk, idx_nat hk, scopeOn_eq _ d (hsm.2.2.2.2.2 _ hx) (hp _ hx), Option.bind_some, if_true]
      rw [appA_some (by simp; omega), Option.bind_some]
      rfl)
    (fun o => by simp only [nlt_self, decide_false, Bool.false_eq_true, if_false])
  rw [e3]
  rfl


noncomputable def lawOn (l : Lw) (d : Int) : Lw := (l.1, (l.2.1.map (tabOn · d), l.2.2.map (scpOn · d)))
theorem hasN_map {β γ : Type} {l : List (ByteArray × β)} {f : ByteArray × β → ByteArray × γ} (hf : ∀ x, (f x).1 = x.1) (nm : ByteArray) : hasN (l.map f) nm ↔ hasN l nm := by
  unfold hasN
  constructor
  · rintro ⟨y, hy, e⟩
    obtain ⟨x, hx, rfl⟩ := List.mem_map.1 hy
    exact ⟨x, hx, by rw [← hf]; exact e⟩
  · rintro ⟨x, hx, e⟩
    exact ⟨f x, List.mem_map.2 ⟨x, hx, rfl⟩, by rw [hf]; exact e⟩
theorem enumS_on (l : Lw) (d : Int) (k : Nat) : enumS (lawOn l d) k = enumS l k := rfl
theorem tabS_on (l : Lw) (d : Int) (k : Nat) (hk : k < l.2.1.length) (h : tabS l k = none) : tabS (lawOn l d) k = none := by
  have hk' : k < (l.2.1.map (tabOn · d)).length := by simpa using hk
  have e : (l.2.1.map (tabOn · d))[k] = tabOn l.2.1[k] d := List.getElem_map ..
  unfold tabS at h ⊢
  rw [List.getElem?_eq_getElem hk] at h
  rw [show (lawOn l d).2.1 = l.2.1.map (tabOn · d) from rfl, List.getElem?_eq_getElem hk', e]
  dsimp only at h ⊢
  rw [← List.map_take]
  split at h
  · cases h
  split at h
  · cases h
  split at h
  case isFalse => cases h
  rename_i h1 h2 h3
  have n1 : (tabOn l.2.1[k] d).1 = l.2.1[k].1 := rfl
  rw [if_neg (by rw [n1]; exact h1), if_neg, if_pos (show (tabE (tabOn l.2.1[k] d) (lawOn l d).1).2 = 0 from tab_on d h3)]
  rw [n1]
  rintro (g | g)
  · exact h2 (.inl g)
  · exact h2 (.inr ((hasN_map (f := fun x : Tab => tabOn x d) (fun _ => rfl) _).1 g))
theorem idx_map {α β : Type} (l : List α) (f : α → β) (i : Int) : idx (l.map f) i = (idx l i).map f := by
  rw [idx_if, idx_if]
  split
  · rw [List.getElem?_map]
  · rfl
theorem result_on (n : Ty) (l : List Ty) (s : Sgn) (f : Tab → Tab) (hf : ∀ t, (f t).2.1 = t.2.1 ∧ (f t).2.2.1 = t.2.2.1) : M.ref10_Result big n l ((s.1, (s.2.1.map f, s.2.2)) : Sgn) = M.ref10_Result big n l s := by
  have e1 : M.ref10_ranged big n ((s.1, (s.2.1.map f, s.2.2)) : Sgn) = M.ref10_ranged big n s := rfl
  have e2 : M.ref10_found big n ((s.1, (s.2.1.map f, s.2.2)) : Sgn) = M.ref10_found big n s := by
    unfold M.ref10_found
    simp only [List.length_map]
  have e3 : M.ref10_leaf big n ((s.1, (s.2.1.map f, s.2.2)) : Sgn) = M.ref10_leaf big n s := rfl
  have e4 : ∀ a, M.ref10_single big n a ((s.1, (s.2.1.map f, s.2.2)) : Sgn) = M.ref10_single big n a s := fun a => by
    unfold M.ref10_single
    simp only [idx_map, Option.bind_map, Function.comp_def, fun t => (hf t).1, fun t => (hf t).2]
  unfold M.ref10_Result
  simp only [e1, e2, e3, e4]
theorem tyE_on (e : List Ty) (s : Sgn) (f : Tab → Tab) (hf : ∀ t, (f t).2.1 = t.2.1 ∧ (f t).2.2.1 = t.2.2.1) : tyE e ((s.1, (s.2.1.map f, s.2.2)) : Sgn) = tyE e s := by
  have h : ∀ n l, tyN n l ((s.1, (s.2.1.map f, s.2.2)) : Sgn) = tyN n l s := fun n l => by
    unfold tyN
    rw [result_on n l s f hf]
  have hr : ∀ (e : List Ty) (i : Nat) (stk : List Ty), tyRun ((s.1, (s.2.1.map f, s.2.2)) : Sgn) e i stk = tyRun s e i stk := by
    intro e
    induction e with
    | nil => intro i stk; rfl
    | cons n e ih =>
      intro i stk
      rw [tyRun, tyRun, h, ih]
  unfold tyE
  rw [hr]


/-- When a rule has no error. -/
theorem rulE_ok {l : Lw} {x : Scp} {k : Nat} {r : Rul} : rulE l x k r = 0 ↔ isId r.1 = true ∧ ¬ hasN (x.2.2.2.2.take k) r.1 ∧ (0 ≤ (r.2.1 : Int) ∧ (r.2.1 : Int) < (x.2.2.2.1.length : Int)) ∧ ¬ badPar x k r ∧
    ¬ ((r.2.2.2.1 : Int) < 0 ∨ 9 < (r.2.2.2.1 : Int) ∨ ¬ VR r.2.2.2.2.1 ∨ (r.2.2.2.2.1.1 : Int) = r.2.2.2.2.1.2) ∧ sibs x k r.2.1 < 8 ∧ plain r.2.2.2.2.2.2.2 ∧
    (0 < r.2.2.2.2.2.1.length → expE r.2.2.2.2.2.1 (sigS l x) ((1 : Int), (0 : Int)) = 0) ∧ (match x.2.2.2.1[(r.2.1 : Int).toNat]? with
      | some d => expE r.2.2.2.2.2.2.1 (sigS l x) d.2
      | none => 0) = 0 := by
  unfold rulE
  by_cases h1 : isId r.1 = false
  · rw [if_pos h1]
    exact iff_of_false (by decide) fun g => by rw [h1] at g; cases g.1
  rw [if_neg h1]
  by_cases h2 : hasN (x.2.2.2.2.take k) r.1
  · rw [if_pos h2]
    exact iff_of_false (by decide) fun g => g.2.1 h2
  rw [if_neg h2]
  by_cases h3 : 0 ≤ (r.2.1 : Int) ∧ (r.2.1 : Int) < (x.2.2.2.1.length : Int)
  case neg =>
    rw [if_pos h3]
    exact iff_of_false (by decide) fun g => h3 g.2.2.1
  rw [if_neg (fun g => g h3)]
  by_cases h4 : badPar x k r
  · rw [if_pos h4]
    exact iff_of_false (by decide) fun g => g.2.2.2.1 h4
  rw [if_neg h4]
  by_cases h5 : (r.2.2.2.1 : Int) < 0 ∨ 9 < (r.2.2.2.1 : Int) ∨ ¬ VR r.2.2.2.2.1 ∨ (r.2.2.2.2.1.1 : Int) = r.2.2.2.2.1.2
  · rw [if_pos h5]
    exact iff_of_false (by decide) fun g => g.2.2.2.2.1 h5
  rw [if_neg h5]
  by_cases h6 : 8 ≤ sibs x k r.2.1
  · rw [if_pos h6]
    exact iff_of_false (by decide) fun g => by have := g.2.2.2.2.2.1; omega
  rw [if_neg h6]
  by_cases h7 : plain r.2.2.2.2.2.2.2
  case neg =>
    rw [if_pos h7]
    exact iff_of_false (by decide) fun g => h7 g.2.2.2.2.2.2.1
  rw [if_neg (fun g => g h7)]
  by_cases h8 : 0 < r.2.2.2.2.2.1.length ∧ expE r.2.2.2.2.2.1 (sigS l x) ((1 : Int), (0 : Int)) ≠ 0
  · rw [if_pos h8]
    exact iff_of_false h8.2 fun g => h8.2 (g.2.2.2.2.2.2.2.1 h8.1)
  rw [if_neg h8]
  exact ⟨fun g => ⟨by simpa using h1, h2, h3, h4, h5, by omega, h7, fun a => Classical.not_not.1 fun b => h8 ⟨a, b⟩, g⟩, fun g => g.2.2.2.2.2.2.2.2⟩
theorem par_ok {l : Lw} {x : Scp} (h : ∀ i, ∀ hi : i < x.2.2.2.2.length, rulE l x i x.2.2.2.2[i] = 0) : ParOK x.2.2.2.2 := fun i hi => by
  have hb := (rulE_ok.1 (h i hi)).2.2.2.1
  unfold badPar at hb
  generalize x.2.2.2.2[i] = r at *
  obtain ⟨nm, (df : Int), (p : Int), z⟩ := r
  dsimp only [rInt, Row.den] at *
  by_cases h1 : p = -1
  · exact .inl h1
  right
  have h2 : 0 ≤ p := Classical.not_not.1 fun g => hb ⟨h1, .inl (by omega)⟩
  have h3 : p < (i : Int) := Classical.not_not.1 fun g => hb ⟨h1, .inr (.inl (by omega))⟩
  obtain ⟨q, rfl⟩ := Int.eq_ofNat_of_zero_le h2
  have hq : q < i := Int.ofNat_lt.1 h3
  refine ⟨q, hq, rfl, Classical.not_not.1 fun g => hb ⟨h1, .inr (.inr ⟨_, ?_, g⟩)⟩⟩
  rw [Int.toNat_natCast]
  exact List.getElem?_eq_getElem (by omega)
/-- Where a kept rule comes from. -/
structure Kept (rules : List Rul) (d : Int) (j : Nat) (y : Rul) (i : Nat) : Prop where
  lt : i < rules.length
  at_ : (remS d rules).2.1[j]? = some (i : Int)
  rul : ∃ p, y = rulD (rules[i]'lt) p ∧ (p = -1 ∨ ∃ q : Nat, p = (q : Int) ∧ q < j ∧ ∃ i', ∃ h : i' < rules.length, (remS d rules).2.1[q]? = some (i' : Int) ∧ (rules[i'].2.1 : Int) = (rules[i]'lt).2.1)
theorem rulesOn_len (rules : List Rul) (d : Int) : (rulesOn rules d).length = (remS d rules).2.1.length := by
  have := (remS_len d rules).2.2
  unfold rulesOn
  rw [List.length_map, List.length_zip]
  omega
theorem rulesOn_at {rules : List Rul} (d : Int) (hp : ParOK rules) {j : Nat} (h : j < (rulesOn rules d).length) : ∃ i, Kept rules d j (rulesOn rules d)[j] i := by
  have hok := remS_ok d _ rules rfl hp
  have hl := rulesOn_len rules d
  have hj : j < (remS d rules).2.1.length := by omega
  have hj' : j < (remS d rules).2.2.length := by have := hok.same; omega
  obtain ⟨i, hi, e, _, ha⟩ := hok.li j hj
  have ez : (rulesOn rules d)[j] = rulOn rules ((remS d rules).2.1[j], (remS d rules).2.2[j]) := by
    have hz : j < ((remS d rules).2.1.zip (remS d rules).2.2).length := by rw [List.length_zip]; omega
    show (((remS d rules).2.1.zip (remS d rules).2.2).map (rulOn rules))[j]'(by simpa using hz) = _
    rw [List.getElem_map, List.getElem_zip]
  have er : (rulesOn rules d)[j] = rulD rules[i] ((remS d rules).2.2[j]) := by
    rw [ez, e]
    unfold rulOn
    simp only [Int.toNat_natCast, List.getElem?_eq_getElem hi, Option.getD_some]
  exact ⟨i, hi, by rw [List.getElem?_eq_getElem hj, e], _, er, ha hj'⟩
theorem Kept.lt_of {rules : List Rul} {d : Int} (hp : ParOK rules) {j j' i i' : Nat} {y y' : Rul} (h : Kept rules d j y i) (h' : Kept rules d j' y' i') (hj : j' < j) : i' < i := by
  have hok := (remS_ok d _ rules rfl hp).inc
  obtain ⟨h1, e1⟩ := List.getElem?_eq_some_iff.1 h.at_
  obtain ⟨h2, e2⟩ := List.getElem?_eq_some_iff.1 h'.at_
  have := List.pairwise_iff_getElem.1 hok j' j h2 h1 hj
  rw [e1, e2] at this
  omega
theorem Kept.eqs {rules : List Rul} {d : Int} {j i : Nat} {y : Rul} (h : Kept rules d j y i) : y.1 = (rules[i]'h.lt).1 ∧ (y.2.1 : Int) = (rules[i]'h.lt).2.1 := by
  obtain ⟨p, e, _⟩ := h.rul
  have e1 : y.1 = (rulD (rules[i]'h.lt) p).1 := congrArg (fun r : Rul => r.1) e
  have e2 : (y.2.1 : Int) = (rulD (rules[i]'h.lt) p).2.1 := congrArg (fun r : Rul => (r.2.1 : Int)) e
  exact ⟨e1, e2⟩
/-- How many of a list stand at given places. -/
theorem count_take {α : Type} (l : List α) (q : α → Bool) : ∀ n, n ≤ l.length → (l.take n).countP q = (((List.range n).filter fun a => ((l[a]?).map q).getD false).map fun a : Nat => (a : Int)).length
  | 0, _ => by simp
  | n + 1, h => by
    have hl : n < l.length := by omega
    rw [List.range_succ, List.filter_append, List.map_append, List.length_append, ← count_take l q n (by omega), List.take_add_one, List.countP_append, List.getElem?_eq_getElem hl]
    congr 1
    simp only [Option.toList_some, List.countP_cons, List.countP_nil, List.length_map]
    by_cases hq : q l[n] = true
    · rw [if_pos hq, List.filter_cons_of_pos (by rw [List.getElem?_eq_getElem hl]; exact hq)]; rfl
    · rw [if_neg hq, List.filter_cons_of_neg (by rw [List.getElem?_eq_getElem hl]; exact hq)]; rfl
theorem sibs_on {x : Scp} {d : Int} (hp : ParOK x.2.2.2.2) {j i : Nat} (h : j < (rulesOn x.2.2.2.2 d).length) (hk : Kept x.2.2.2.2 d j (rulesOn x.2.2.2.2 d)[j] i) (df : Int) : sibs (scpOn x d) j df ≤ sibs x i df := by
  unfold sibs
  show ((rulesOn x.2.2.2.2 d).take j).countP _ ≤ _
  rw [count_take _ _ j (by omega), count_take _ _ i (by have := hk.lt; omega)]
  -- places of kept rules ahead of j, as places of the rules
  have hinc := (remS_ok d _ x.2.2.2.2 rfl hp).inc
  generalize hL : (List.range j).filter (fun a => (((rulesOn x.2.2.2.2 d)[a]?).map fun r : Rul => decide ((r.2.1 : Int) = df)).getD false) = L
  have hLp : L.Pairwise (· < ·) := by rw [← hL]; exact List.pairwise_lt_range.filter _
  have hLm : ∀ a ∈ L, a < j ∧ ∃ h : a < (rulesOn x.2.2.2.2 d).length, ((rulesOn x.2.2.2.2 d)[a].2.1 : Int) = df := fun a ha => by
    rw [← hL] at ha
    obtain ⟨h1, h2⟩ := List.mem_filter.1 ha
    have hj := List.mem_range.1 h1
    have hl : a < (rulesOn x.2.2.2.2 d).length := by omega
    rw [List.getElem?_eq_getElem hl] at h2
    exact ⟨hj, hl, of_decide_eq_true h2⟩
  have hlen := rulesOn_len x.2.2.2.2 d
  rw [show (L.map fun a : Nat => (a : Int)).length = (L.map fun a => (remS d x.2.2.2.2).2.1.getD a 0).length by simp]
  refine nodup_len ?_ fun y hy => ?_
  · refine List.pairwise_map.2 (hLp.imp_of_mem fun {a b} ha hb hab => ?_)
    obtain ⟨_, h1, _⟩ := hLm a ha
    obtain ⟨_, h2, _⟩ := hLm b hb
    have := List.pairwise_iff_getElem.1 hinc a b (by omega) (by omega) hab
    simp only [List.getD_eq_getElem?_getD, List.getElem?_eq_getElem (show a < (remS d x.2.2.2.2).2.1.length by omega), List.getElem?_eq_getElem (show b < (remS d x.2.2.2.2).2.1.length by omega), Option.getD_some]
    omega
  · obtain ⟨a, ha, rfl⟩ := List.mem_map.1 hy
    obtain ⟨haj, hal, hdf⟩ := hLm a ha
    obtain ⟨i', hk'⟩ := rulesOn_at d hp hal
    have hlt := hk.lt_of hp hk' haj
    have hil := hk'.lt
    rw [List.getD_eq_getElem?_getD, hk'.at_, Option.getD_some]
    refine List.mem_map.2 ⟨i', List.mem_filter.2 ⟨List.mem_range.2 hlt, ?_⟩, rfl⟩
    rw [List.getElem?_eq_getElem hil]
    exact decide_eq_true (hk'.eqs.2.symm.trans hdf)
theorem sigS_on (l : Lw) (x : Scp) (d : Int) : sigS (lawOn l d) (scpOn x d) = ((sigS l x).1, ((sigS l x).2.1.map (tabOn · d), (sigS l x).2.2)) := by
  unfold sigS lawOn scpOn
  dsimp only
  rw [List.length_map, List.getElem?_map]
  cases l.2.2[(x.2.1 : Int).toNat]? with
  | none => rfl
  | some y => rfl
theorem expE_on (l : Lw) (x : Scp) (d : Int) (e : List Ty) (t : Ty) : expE e (sigS (lawOn l d) (scpOn x d)) t = expE e (sigS l x) t := by
  unfold expE
  rw [sigS_on, tyE_on e (sigS l x) (tabOn · d) fun _ => ⟨rfl, rfl⟩]
theorem rulE_on {l : Lw} {x : Scp} (d : Int) (h : ∀ i, ∀ hi : i < x.2.2.2.2.length, rulE l x i x.2.2.2.2[i] = 0) (j : Nat) (hj : j < (rulesOn x.2.2.2.2 d).length) : rulE (lawOn l d) (scpOn x d) j (rulesOn x.2.2.2.2 d)[j] = 0 := by
  have hp := par_ok h
  obtain ⟨i, hk⟩ := rulesOn_at d hp hj
  have hil := hk.lt
  obtain ⟨h1, h2, h3, h4, h5, h6, h7, h8, h9⟩ := rulE_ok.1 (h i hil)
  have hsib := sibs_on hp hj hk x.2.2.2.2[i].2.1
  obtain ⟨p, e, hpp⟩ := hk.rul
  have hpre : ∀ j' i' : Nat, ∀ h' : j' < (rulesOn x.2.2.2.2 d).length, j' < j → Kept x.2.2.2.2 d j' (rulesOn x.2.2.2.2 d)[j'] i' → i' < i := fun j' i' _ hjj hk' => hk.lt_of hp hk' hjj
  rw [e]
  refine rulE_ok.2 ⟨h1, fun g => h2 ?_, h3, fun g => ?_, fun g => ?_, Nat.lt_of_le_of_lt hsib h6, h7, fun g => ?_, ?_⟩
  · obtain ⟨j', hj', hjj, e'⟩ := hasN_take.1 g
    have hj'' : j' < (rulesOn x.2.2.2.2 d).length := hj'
    obtain ⟨i', hk'⟩ := rulesOn_at d hp hj''
    refine hasN_take.2 ⟨i', hk'.lt, hpre j' i' hj'' hjj hk', ?_⟩
    rw [← hk'.eqs.1]
    exact e'
  · obtain ⟨g1, g2⟩ := g
    have g1 : p ≠ -1 := g1
    have g2 : p < 0 ∨ (j : Int) ≤ p ∨ ∃ y, (rulesOn x.2.2.2.2 d)[p.toNat]? = some y ∧ (y.2.1 : Int) ≠ x.2.2.2.2[i].2.1 := g2
    rcases hpp with hpp | ⟨q, rfl, hqj, i', hi', e1, e2⟩
    · exact g1 hpp
    · rcases g2 with g2 | g2 | ⟨y, gy, g2⟩
      · omega
      · omega
      · rw [Int.toNat_natCast] at gy
        obtain ⟨hq, rfl⟩ := List.getElem?_eq_some_iff.1 gy
        obtain ⟨i2, hk2⟩ := rulesOn_at d hp hq
        have e3 := hk2.at_
        rw [e1] at e3
        have : i' = i2 := Int.ofNat_inj.1 (by simpa using e3)
        subst this
        exact g2 (hk2.eqs.2.trans e2)
  · exact absurd g (by
      rintro (g | g | g | g)
      · exact h5 (.inl g)
      · exact h5 (.inr (.inl g))
      · exact g allD_VR
      · exact absurd (show (0 : Int) = 109573 from g) (by decide))
  · rw [expE_on]
    exact h8 g
  · simp only [expE_on]
    exact h9
theorem Rch.mono {D E : Int → Int → Prop} (h : ∀ a b, D a b → E a b) {a b : Int} (r : Rch D a b) : Rch E a b := by
  induction r with
  | one g => exact .one (h _ _ g)
  | step _ g ih => exact .step ih (h _ _ g)
theorem dp_on {x : Scp} (d : Int) (hp : ParOK x.2.2.2.2) (a b : Int) (h : Dp (scpOn x d) a b) : Dp x a b := by
  obtain ⟨h1, r, hr, h2, h3⟩ := (mem_dirS _ _ _).1 h
  have hr : r ∈ rulesOn x.2.2.2.2 d := hr
  obtain ⟨j, hj, rfl⟩ := List.getElem_of_mem hr
  obtain ⟨i, hk⟩ := rulesOn_at d hp hj
  refine (mem_dirS _ _ _).2 ⟨h1, _, List.getElem_mem hk.lt, hk.eqs.2.symm.trans h2, ?_⟩
  obtain ⟨p, e, _⟩ := hk.rul
  rw [e] at h3
  exact h3
theorem firstE_zero {f : Nat → Option (Int × Int)} {m : Nat} (h : ∀ k, k < m → f k = none) : firstE f m = none := firstE_none.2 h
theorem scpS_on {l : Lw} (h : Valid l) (d : Int) (k : Nat) (hk : k < l.2.2.length) : scpS (lawOn l d) k = none := by
  have hval := h.scopes.2.2.2.2.2 k hk
  obtain ⟨v1, v2, v3, v4, v5, v6, v7, v8⟩ := h.scope k hk
  have hp := par_ok v7
  have e : (lawOn l d).2.2[k]? = some (scpOn l.2.2[k] d) := by
    show (l.2.2.map (scpOn · d))[k]? = _
    rw [List.getElem?_map, List.getElem?_eq_getElem hk]
    rfl
  unfold scpS at hval ⊢
  rw [List.getElem?_eq_getElem hk] at hval
  rw [e]
  dsimp only at hval ⊢
  generalize l.2.2[k] = x at *
  split at hval
  · cases hval
  rename_i h1
  split at hval
  · cases hval
  rename_i h2
  clear hval
  have n1 : (scpOn x d).1 = x.1 := rfl
  rw [n1, if_neg h1, if_neg, if_neg, if_neg (show ¬ 12 < (scpOn x d).2.2.1.length from by show ¬ 12 < x.2.2.1.length; omega), if_neg (show ¬ 12 < (scpOn x d).2.2.2.1.length from by show ¬ 12 < x.2.2.2.1.length; omega)]
  · rw [Option.or_eq_none_iff, Option.or_eq_none_iff]
    refine ⟨⟨v6, firstE_zero fun j hj => ?_⟩, firstE_zero fun c hc => ?_⟩
    · have hj : j < (rulesOn x.2.2.2.2 d).length := hj
      unfold rulS
      rw [show (scpOn x d).2.2.2.2 = rulesOn x.2.2.2.2 d from rfl, List.getElem?_eq_getElem hj]
      dsimp only
      rw [if_neg (fun g => g (rulE_on d v7 j hj))]
    · unfold cycS
      rw [if_neg]
      rw [trS_mem]
      exact fun g => v8 c hc ((trS_mem _ _ _).2 (g.mono (dp_on d hp)))
  · rintro ⟨g1, g2⟩
    refine v3 ⟨g1, ?_⟩
    rcases g2 with g2 | g2 | ⟨y, gy, g2⟩
    · exact .inl g2
    · exact .inr (.inl g2)
    · have gy : (l.2.2.map (scpOn · d))[(x.2.1 : Int).toNat]? = some y := gy
      rw [List.getElem?_map] at gy
      obtain ⟨z, hz, rfl⟩ := Option.map_eq_some_iff.1 gy
      exact .inr (.inr ⟨z, hz, g2⟩)
  · intro g
    apply h2
    rcases g with g | g | g
    · exact .inl g
    · exact .inr (.inl ((hasN_map (f := fun x : Tab => tabOn x d) (fun _ => rfl) _).1 g))
    · refine .inr (.inr ?_)
      have g : hasN ((l.2.2.map (scpOn · d)).take k) x.1 := g
      rw [← List.map_take] at g
      exact (hasN_map (f := fun x : Scp => scpOn x d) (fun _ => rfl) _).1 g
theorem Valid.on {l : Lw} (h : Valid l) (d : Int) : valS (lawOn l d) = okE := by
  obtain ⟨a1, a2, a3, a4, a5, a6⟩ := h.scopes
  unfold valS
  have e1 : firstE (fun k => (enumS (lawOn l d) k).map fun e => (k, e)) (lawOn l d).1.length = none := firstE_none.2 fun k hk => mapn (show enumS (lawOn l d) k = none from a4 k hk)
  have e2 : firstE (fun k => (tabS (lawOn l d) k).map fun e => (k, e)) (lawOn l d).2.1.length = none := firstE_none.2 fun k hk => by
    have hk : k < (l.2.1.map (tabOn · d)).length := hk
    have hk : k < l.2.1.length := by simpa using hk
    exact mapn (tabS_on l d k hk (a5 k hk))
  have e3 : firstE (fun k => (scpS (lawOn l d) k).map fun e => (k, e)) (lawOn l d).2.2.length = none := firstE_none.2 fun k hk => by
    have hk : k < (l.2.2.map (scpOn · d)).length := hk
    have hk : k < l.2.2.length := by simpa using hk
    exact mapn (scpS_on h d k hk)
  rw [if_neg (show ¬ 8 < (lawOn l d).1.length from by show ¬ 8 < l.1.length; omega), e1]
  dsimp only
  rw [if_neg (show ¬ 8 < (lawOn l d).2.1.length from by show ¬ 8 < (l.2.1.map (tabOn · d)).length; simp; omega), e2]
  dsimp only
  rw [if_neg (show ¬ 4 < (lawOn l d).2.2.length from by show ¬ 4 < (l.2.2.map (scpOn · d)).length; simp; omega), e3]
theorem rulesOn_mem {rules : List Rul} (d : Int) (hp : ParOK rules) {y : Rul} (h : y ∈ rulesOn rules d) : ∃ r ∈ rules, ∃ p : Int, y = rulD r p ∧ -1 ≤ p ∧ p < (rules.length : Int) := by
  obtain ⟨j, hj, rfl⟩ := List.getElem_of_mem h
  obtain ⟨i, hk⟩ := rulesOn_at d hp hj
  obtain ⟨p, e, hpp⟩ := hk.rul
  refine ⟨_, List.getElem_mem hk.lt, p, e, ?_⟩
  have h1 := rulesOn_len rules d
  have h2 := (remS_len d rules).2.1
  rcases hpp with rfl | ⟨q, rfl, hq, _⟩ <;> omega
theorem SmallS.on {x : Scp} (h : SmallS x) (d : Int) (hp : ParOK x.2.2.2.2) : SmallS (scpOn x d) := by
  obtain ⟨h1, h2, h3, h4, h5, h6, h7⟩ := h
  refine ⟨h1, h2, h3, ?_, h5, h6, fun r hr => ?_⟩
  · show (rulesOn x.2.2.2.2 d).length ≤ 60
    have g1 := rulesOn_len x.2.2.2.2 d
    have g2 := (remS_len d x.2.2.2.2).2.1
    omega
  · obtain ⟨r', hr', p, rfl, _⟩ := rulesOn_mem d hp hr
    exact h7 r' hr'
theorem SmallL.on {l : Lw} (h : SmallL l) (d : Int) (hp : ∀ x ∈ l.2.2, ParOK x.2.2.2.2) : SmallL (lawOn l d) := by
  obtain ⟨h1, h2, h3, h4, h5, h6⟩ := h
  refine ⟨h1, ?_, ?_, h4, fun t ht => ?_, fun s hs => ?_⟩
  · show (l.2.1.map (tabOn · d)).length ≤ 9
    rw [List.length_map]; exact h2
  · show (l.2.2.map (scpOn · d)).length ≤ 5
    rw [List.length_map]; exact h3
  · obtain ⟨t', ht', rfl⟩ := List.mem_map.1 ht
    exact h5 t' ht'
  · obtain ⟨s', hs', rfl⟩ := List.mem_map.1 hs
    exact (h6 s' hs').on d (hp s' hs')
theorem WFall : WF rType allD := ⟨⟨by decide, by decide⟩, ⟨by decide, by decide⟩⟩
theorem WFon {l : Lw} (h : WF rLaw l) (hsm : SmallL l) (d : Int) (hp : ∀ x ∈ l.2.2, ParOK x.2.2.2.2) : WF rLaw (lawOn l d) := by
  obtain ⟨h1, h2, h3⟩ := h
  refine ⟨h1, ⟨?_, fun t ht => ?_⟩, ⟨?_, fun s hs => ?_⟩⟩
  · show (l.2.1.map (tabOn · d)).length ≤ maxLen
    rw [List.length_map]; exact h2.1
  · obtain ⟨t', ht', rfl⟩ := List.mem_map.1 ht
    obtain ⟨w1, w2, w3, w4⟩ := h2.2 t' ht'
    refine ⟨w1, w2, w3, ?_, fun r hr => ?_⟩
    · show (rowsOn t'.2.2.2 d).length ≤ maxLen
      unfold rowsOn
      rw [List.length_map]
      exact Nat.le_trans (List.length_filter_le _ _) w4.1
    · obtain ⟨r', hr', _, rfl⟩ := mem_rowsOn.1 hr
      have := w4.2 r' hr'
      exact ⟨WFall, this.2⟩
  · show (l.2.2.map (scpOn · d)).length ≤ maxLen
    rw [List.length_map]; exact h3.1
  · obtain ⟨s', hs', rfl⟩ := List.mem_map.1 hs
    obtain ⟨w1, w2, w3, w4, w5⟩ := h3.2 s' hs'
    have h60 := (hsm.2.2.2.2.2 s' hs').2.2.2.1
    refine ⟨w1, w2, w3, w4, ?_, fun r hr => ?_⟩
    · show (rulesOn s'.2.2.2.2 d).length ≤ maxLen
      have g1 := rulesOn_len s'.2.2.2.2 d
      have g2 := (remS_len d s'.2.2.2.2).2.1
      unfold maxLen
      omega
    · obtain ⟨r', hr', p, rfl, p1, p2⟩ := rulesOn_mem d (hp s' hs') hr
      obtain ⟨q1, q2, q3, q4, q5, q6⟩ := w5.2 r' hr'
      refine ⟨q1, q2, ⟨?_, ?_⟩, q4, WFall, q6⟩
      · show (-9223372036854775808 : Int) ≤ p; omega
      · show p ≤ (9223372036854775807 : Int); omega
/-- A valid law that is small is moderate in all its parts. -/
theorem Valid.mild {l : Lw} (h : Valid l) (hsm : SmallL l) : Mild l := by
  obtain ⟨a1, a2, a3, a4, a5, a6⟩ := h.scopes
  obtain ⟨b1, b2, b3, b4, b5, b6⟩ := hsm
  refine ⟨fun e he => ?_, fun t ht => ?_, fun s hs r hr => ?_, by omega, by omega, by omega, fun s hs => ?_⟩
  · have := (b4 e he).2.1
    omega
  · obtain ⟨k, hk, rfl⟩ := List.getElem_of_mem ht
    have := a5 k hk
    unfold tabS at this
    rw [List.getElem?_eq_getElem hk] at this
    dsimp only at this
    split at this
    · cases this
    split at this
    · cases this
    split at this
    case isFalse => cases this
    rename_i h0
    have := (tabE_ok.1 h0).1
    omega
  · have := (b6 s hs).2.2.2.2.2.2 r hr
    omega
  · have h1 := (b6 s hs).2.1
    have h2 := (b6 s hs).2.2.1
    have h3 := (b6 s hs).2.2.2.1
    omega
theorem LawOnDateValid_true (l : Lw) (date : Int) (hw : WF rLaw l) (_ : WF rInt date) : M.law17_LawOnDateValid big l date = some true := by
  apply Wp.eq
  unfold M.law17_LawOnDateValid
  simp only [awake17, a_, b_, c_, d_, e_, f_, g_, h_, i_, j_, k_, l_, m_, n_, o_, p_, q_, r_, s_, t_, u_, v_, w_, x_, y_, z_, A_, B_, C_, D_, E_, F_, G_, H_, I_, J_, K_, L_, M_, N_, O_, P_, reduceCtorEq]
  refine (smallL_wp l hw).mono fun r hr h => ?_
  have hsm := hr h
  simp only [pval_eq l hw hsm, a_, b_, c_, d_, e_, f_, g_, h_, i_, j_, k_, l_, m_, n_, o_, p_, q_, r_, s_, t_, u_, v_, w_, x_, y_, z_, A_, B_, C_, D_, E_, F_, G_, H_, I_, J_, K_, L_, M_, N_, O_, P_, reduceCtorEq]
  intro hv h0 h1
  have hv : valS l = okE := eqR_iff.1 hv
  have hval : Valid l := by unfold Valid; rw [hv]; rfl
  have hp : ∀ x ∈ l.2.2, ParOK x.2.2.2.2 := fun x hx => by
    obtain ⟨k, hk, rfl⟩ := List.getElem_of_mem hx
    exact par_ok (hval.scope k hk).2.2.2.2.2.2.1
  rw [lawOn_eq l date (hval.mild hsm) hsm hp]
  refine .some ?_
  show Wp (M.law_Validate big (lawOn l date)) _
  rw [pval_eq _ (WFon hw hsm date hp) (hsm.on date hp)]
  refine .some ?_
  intro h
  rw [hval.on date] at h
  rw [show eqR rLawError okE ((0 : Int), ((0 : Int), ((0 : Int), (0 : Int)))) = true from eqR_iff.2 rfl] at h
  cases h
end L
end Go.Proofs.YtjeeligfdpociaaGreat
