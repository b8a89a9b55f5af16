/- Chapter 46: sending in rounds (plain laws). -/
import Derived.Test.YtmnbfioadkhahaaP46b
namespace Go.Proofs.Ytmnbfioadkhahaa
open Go Go.RowKit
namespace L

theorem and_bind (x y : Bool) {α : Type} (k : Bool → Option α) : ((if x = true then some y else some false : Option Bool).bind k) = k (x && y) := by cases x <;> rfl

theorem outer_prog {N : Nat} {att : List Int} (hN : 100001 ≤ N) (ha : att.length ≤ 10000) : ∀ (k u K : Nat) (held : List (Int × Bool)) (pd : List Nt) (ids : List Int), att.length < u + k → u ≤ att.length → pd.length ≤ 500 → ids.length + (att.length - u) ≤ 40000 → Hd held ids → att.length < u + K →
    ∃ held', Hd held' (rounds att k u pd ids).2 ∧ (Loop (S := Int × (List (Int × Bool)) × (List rNotice.den) × List Int) (X := (List (Int × Bool)) × (List rNotice.den) × List Int) (fun s4 =>
((if (decide ((0 : Int) < (s4.2.2.1.length : Int))) = true then
some (decide (s4.1 < (att.length : Int)))
else
some false) : Option (Bool)).bind fun j5 =>
(if j5 = true then
(Join (J := Int × (List (Int × Bool)) × (List rNotice.den) × List Int) (R := Int × (List (Int × Bool)) × (List rNotice.den) × List Int) (Loop (S := Int × Int × (List (Int × Bool)) × (List rNotice.den) × (List rNotice.den) × List Int) (X := (Int × (List (Int × Bool)) × (List rNotice.den) × List Int) ⊕ (Int × (List (Int × Bool)) × (List rNotice.den) × List Int)) (fun s8 =>
(if (decide (s8.2.1 < (s4.2.2.1.length : Int))) = true then
Join (J := Int × (List (Int × Bool)) × (List rNotice.den) × (List rNotice.den) × List Int) (R := (Int × Int × (List (Int × Bool)) × (List rNotice.den) × (List rNotice.den) × List Int) ⊕ ((Int × (List (Int × Bool)) × (List rNotice.den) × List Int) ⊕ (Int × (List (Int × Bool)) × (List rNotice.den) × List Int))) ((idx s8.2.2.2.1 s8.2.1).bind fun x10 =>
(if (decide (s8.1 = (att.length : Int))) = true then
(cutA s8.2.2.2.1 s8.2.1 (s8.2.2.2.1.length : Int)).bind fun l11 =>
(appA s8.2.2.2.2.1 l11).bind fun l12 =>
some (Sum.inr (Sum.inr (Sum.inr (s8.1, s8.2.2.1, l12, s8.2.2.2.2.2))))
else
(idx att s8.1).bind fun x13 =>
(((if (decide (x13 = (0 : Int))) = true then
some true
else
some (decide (x13 = (1 : Int)))) : Option (Bool)).bind fun j15 =>
(if j15 = true then
(M.outbox_inbox_accept N x10.1 s8.2.2.2.2.2 s8.2.2.1).bind fun y16 =>
some (y16.1, y16.2)
else
some (s8.2.2.1, s8.2.2.2.2.2)) : Option ((List (Int × Bool)) × List Int)).bind fun j14 =>
(if (!decide (x13 = (0 : Int))) = true then
(appA s8.2.2.2.2.1 ([x10] : List rNotice.den)).bind fun l17 =>
some (Sum.inl (IntKind.i64.wrap (s8.1 + (1 : Int)), j14.1, s8.2.2.2.1, l17, j14.2))
else
some (Sum.inl (IntKind.i64.wrap (s8.1 + (1 : Int)), j14.1, s8.2.2.2.1, s8.2.2.2.2.1, j14.2))))) fun j9 =>
some (Sum.inl (j9.1, IntKind.i64.wrap (s8.2.1 + (1 : Int)), j9.2.1, j9.2.2.1, j9.2.2.2.1, j9.2.2.2.2))
else
some (Sum.inr (Sum.inl (s8.1, s8.2.2.1, s8.2.2.2.2.1, s8.2.2.2.2.2))))) N (s4.1, (0 : Int), s4.2.1, s4.2.2.1, ([] : List rNotice.den), s4.2.2.2)) fun j7 =>
some (j7.1, j7.2.1, j7.2.2.1, j7.2.2.2) : Option (Int × (List (Int × Bool)) × (List rNotice.den) × List Int)).bind fun j6 =>
some (Sum.inl (j6.1, j6.2.1, j6.2.2.1, j6.2.2.2))
else
some (Sum.inr (s4.2.1, s4.2.2.1, s4.2.2.2)))) K ((u : Int), held, pd, ids)) = some (held', (rounds att k u pd ids).1, (rounds att k u pd ids).2)
  | 0, u, K, held, pd, ids, hk, hu, hp, hi, hd, hK => by omega
  | k + 1, u, K, held, pd, ids, hk, hu, hp, hi, hd, hK => by
    obtain ⟨K, rfl⟩ : ∃ n, K = n + 1 := ⟨K - 1, by omega⟩
    unfold Loop rounds
    simp only
    rw [and_bind]
    by_cases hc : 0 < pd.length ∧ u < att.length
    · rw [if_pos (show (decide ((0 : Int) < (pd.length : Int)) && decide ((u : Int) < (att.length : Int))) = true by rw [Bool.and_eq_true, decide_eq_true_eq, decide_eq_true_eq]; omega), if_pos hc]
      obtain ⟨held', e1, e2⟩ := inner_prog (N := N) (P := pd) (att := att) (by omega) ha pd.length 0 u N held [] ids (by omega) hu (by simp; omega) (by omega) hd (by omega)
      rw [List.drop_zero] at e1 e2
      obtain ⟨p1, p2, p3, p4, p5⟩ := pass_ok (att := att) pd u [] ids hu
      have p5 := p5 (by intro e; rw [e] at hc; simp at hc) hc.2
      have e2' := e2
      rw [show ((0 : Nat) : Int) = 0 from rfl] at e2'
      rw [e2']
      simp only [Option.bind_some]
      simp at p3
      exact outer_prog hN ha k _ K held' _ _ (by omega) p2 (by omega) (by omega) e1 (by omega)
    · rw [if_neg (show ¬ (decide ((0 : Int) < (pd.length : Int)) && decide ((u : Int) < (att.length : Int))) = true by rw [Bool.and_eq_true, decide_eq_true_eq, decide_eq_true_eq]; omega), if_neg hc]
      exact ⟨held, hd, rfl⟩
theorem outer_ref {N : Nat} {att : List Int} (hN : 100001 ≤ N) (ha : att.length ≤ 10000) : ∀ (k u K : Nat) (pd : List Nt) (ids : List Int), att.length < u + k → u ≤ att.length → pd.length ≤ 500 → ids.length + (att.length - u) ≤ 40000 → att.length < u + K →
    (Loop (S := Int × (List rNotice.den) × List Int) (X := (List rNotice.den) × List Int) (fun s4 =>
((if (decide (s4.1 < (att.length : Int))) = true then
some (decide ((0 : Int) < (s4.2.1.length : Int)))
else
some false) : Option (Bool)).bind fun j5 =>
(if j5 = true then
(Loop (S := Int × Int × (List rNotice.den) × List Int) (X := Int × (List rNotice.den) × List Int) (fun s7 =>
(if (decide (s7.2.1 < (s4.2.1.length : Int))) = true then
((if (decide (s7.1 = (att.length : Int))) = true then
(idx s4.2.1 s7.2.1).bind fun x9 =>
(appA s7.2.2.1 ([x9] : List rNotice.den)).bind fun l10 =>
some (s7.1, l10, s7.2.2.2)
else
(idx att s7.1).bind fun x11 =>
(((if (decide (x11 = (0 : Int))) = true then
some true
else
some (decide (x11 = (1 : Int)))) : Option (Bool)).bind fun j13 =>
(if j13 = true then
(idx s4.2.1 s7.2.1).bind fun x14 =>
(M.ref46_Deliver N s7.2.2.2 x14).bind fun y15 =>
some y15.2
else
some s7.2.2.2) : Option (List Int)).bind fun j12 =>
(if (!decide (x11 = (0 : Int))) = true then
(idx s4.2.1 s7.2.1).bind fun x16 =>
(appA s7.2.2.1 ([x16] : List rNotice.den)).bind fun l17 =>
some (IntKind.i64.wrap (s7.1 + (1 : Int)), l17, j12)
else
some (IntKind.i64.wrap (s7.1 + (1 : Int)), s7.2.2.1, j12))) : Option (Int × (List rNotice.den) × List Int)).bind fun j8 =>
some (Sum.inl (j8.1, IntKind.i64.wrap (s7.2.1 + (1 : Int)), j8.2.1, j8.2.2))
else
some (Sum.inr (s7.1, s7.2.2.1, s7.2.2.2)))) N (s4.1, (0 : Int), ([] : List rNotice.den), s4.2.2) : Option (Int × (List rNotice.den) × List Int)).bind fun j6 =>
some (Sum.inl (j6.1, j6.2.1, j6.2.2))
else
some (Sum.inr (s4.2.1, s4.2.2)))) K ((u : Int), pd, ids)) = some ((rounds att k u pd ids).1, (rounds att k u pd ids).2)
  | 0, u, K, pd, ids, hk, hu, hp, hi, hK => by omega
  | k + 1, u, K, pd, ids, hk, hu, hp, hi, hK => by
    obtain ⟨K, rfl⟩ : ∃ n, K = n + 1 := ⟨K - 1, by omega⟩
    unfold Loop rounds
    simp only
    rw [and_bind]
    by_cases hc : 0 < pd.length ∧ u < att.length
    · rw [if_pos (show (decide ((u : Int) < (att.length : Int)) && decide ((0 : Int) < (pd.length : Int))) = true by rw [Bool.and_eq_true, decide_eq_true_eq, decide_eq_true_eq]; omega), if_pos hc]
      have e2 := inner_ref (N := N) (P := pd) (att := att) hN (by omega) ha pd.length 0 u N [] ids (by omega) hu (by simp; omega) (by omega) (by omega)
      rw [List.drop_zero] at e2
      obtain ⟨p1, p2, p3, p4, p5⟩ := pass_ok (att := att) pd u [] ids hu
      have p5 := p5 (by intro e; rw [e] at hc; simp at hc) hc.2
      have e2' := e2
      rw [show ((0 : Nat) : Int) = 0 from rfl] at e2'
      rw [e2']
      simp only [Option.bind_some]
      simp at p3
      exact outer_ref hN ha k _ K _ _ (by omega) p2 (by omega) (by omega) (by omega)
    · rw [if_neg (show ¬ (decide ((u : Int) < (att.length : Int)) && decide ((0 : Int) < (pd.length : Int))) = true by rw [Bool.and_eq_true, decide_eq_true_eq, decide_eq_true_eq]; omega), if_neg hc]

theorem newInbox_eq {N : Nat} (ids : List Int) (hl : ids.length ≤ 100000) (hN : 100001 ≤ N) : ∃ held, Hd held ids ∧ M.outbox_newInbox N ids = some (ids, held) := by
  unfold M.outbox_newInbox
  rw [app_nil hl, Option.bind_some]
  obtain ⟨x, hx, hq⟩ := Loop_rule (I := fun s : Int × List (Int × Bool) => ∃ k : Nat, s.1 = k ∧ k ≤ ids.length ∧ Hd s.2 (ids.take k)) (μ := fun s => (ids.length - s.1).toNat) (Q := fun y : List Int × List (Int × Bool) => y.1 = ids ∧ Hd y.2 ids) (body := fun s2 : Int × List (Int × Bool) =>
(if (decide (s2.1 < (ids.length : Int))) = true then
(idx ids s2.1).bind fun x3 =>
some (Sum.inl (IntKind.i64.wrap (s2.1 + (1 : Int)), putA rInt s2.2 x3 true))
else
some (Sum.inr (ids, s2.2)))) (by
    rintro ⟨s, held⟩ ⟨k, hk, hkl, hd⟩
    simp only at hk hd
    subst hk
    by_cases h : k < ids.length
    · simp only
      rw [if_pos (by simpa using h), idx_nat h]
      refine .inl ⟨_, rfl, ⟨k + 1, ?_, h, fun y => ?_⟩, ?_⟩
      · simp only; rw [wrap_id] <;> omega
      · simp only
        rw [lookA_put, List.take_succ_eq_append_getElem h]
        by_cases e : ids[k] = y
        · subst e
          rw [if_pos rfl]
          exact (decide_eq_true (List.mem_append_right _ (List.mem_singleton.2 rfl))).symm
        · rw [if_neg e, hd y]
          refine decide_eq_decide.2 ?_
          rw [List.mem_append, List.mem_singleton]
          exact ⟨.inl, fun h => h.resolve_right fun h => e h.symm⟩
      · simp only; rw [wrap_id] <;> omega
    · simp only
      rw [if_neg (by simpa using h)]
      rw [List.take_of_length_le (by omega)] at hd
      exact .inr ⟨_, rfl, rfl, hd⟩) N (0, []) ⟨0, rfl, by omega, fun y => by simp [lookA]⟩ (by simp only; omega)
  obtain ⟨x1, x2⟩ := x
  obtain ⟨rfl, h2⟩ := hq
  exact ⟨x2, h2, hx⟩

theorem SendAll_eq {N : Nat} (box : List Int) (l : List Nt) (att : List Int) (hN : 100001 ≤ N) (hb : box.length ≤ 1000) (hl : l.length ≤ 500) (ha : att.length ≤ 10000) : M.outbox_SendAll N box l att = some ((rounds att (att.length + 1) 0 l box).2, (rounds att (att.length + 1) 0 l box).1) := by
  unfold M.outbox_SendAll
  obtain ⟨held, h1, h2⟩ := newInbox_eq (N := N) box (by omega) hN
  rw [h2, Option.bind_some, app_nil (by omega), Option.bind_some]
  obtain ⟨held', h3, h4⟩ := outer_prog hN ha (att.length + 1) 0 N held l box (by omega) (by omega) hl (by omega) h1 (by omega)
  rw [show ((0 : Nat) : Int) = 0 from rfl] at h4
  simp only
  rw [h4]
  rfl
theorem SendAll_ref {N : Nat} (box : List Int) (l : List Nt) (att : List Int) (hN : 100001 ≤ N) (hb : box.length ≤ 1000) (hl : l.length ≤ 500) (ha : att.length ≤ 10000) : M.ref46_SendAll N box l att = some ((rounds att (att.length + 1) 0 l box).2, (rounds att (att.length + 1) 0 l box).1) := by
  unfold M.ref46_SendAll
  rw [app_nil (by omega), Option.bind_some, app_nil (by omega), Option.bind_some]
  have h4 := outer_ref hN ha (att.length + 1) 0 N l box (by omega) (by omega) hl (by omega) (by omega)
  rw [show ((0 : Nat) : Int) = 0 from rfl] at h4
  rw [h4]
  rfl

theorem rounds_len {att : List Int} : ∀ (k u : Nat) (pd : List Nt) (ids : List Int), u ≤ att.length → (rounds att k u pd ids).1.length ≤ pd.length ∧ (rounds att k u pd ids).2.length + u ≤ ids.length + att.length
  | 0, u, pd, ids, hu => by simp [rounds]; omega
  | k + 1, u, pd, ids, hu => by
    unfold rounds
    split
    · obtain ⟨p1, p2, p3, p4, _⟩ := pass_ok (att := att) pd u [] ids hu
      obtain ⟨q1, q2⟩ := rounds_len k _ (pass att pd u [] ids).2.1 (pass att pd u [] ids).2.2 p2
      simp at p3
      exact ⟨by omega, by omega⟩
    · exact ⟨Nat.le_refl _, by show ids.length + u ≤ _; omega⟩

theorem or3b (x y z : Bool) {α : Type} (k : Bool → Option α) : ((if x = true then some true else (if y = true then some true else some z) : Option Bool).bind k) = k (x || y || z) := by
  cases x <;> cases y <;> rfl

theorem OutboxSend_true (box : List Int) (l : List Nt) (att : List Int) (_ : WF (.slice rInt) box) (_ : WF (.slice rNotice) l) (_ : WF (.slice rInt) att) : M.law46_OutboxSend big box l att = some true := by
  unfold M.law46_OutboxSend
  rw [awake, or3b]
  by_cases h : (decide ((200 : Int) < (box.length : Int)) || decide ((100 : Int) < (l.length : Int)) || decide ((500 : Int) < (att.length : Int))) = true
  · rw [if_pos h]; rfl
  · rw [if_neg h]
    simp only [Bool.or_eq_true, decide_eq_true_eq, not_or] at h
    obtain ⟨⟨h1, h2⟩, h3⟩ := h
    obtain ⟨q1, q2⟩ := rounds_len (att := att) (att.length + 1) 0 l box (by omega)
    rw [SendAll_eq box l att big_le (by omega) (by omega) (by omega), SendAll_ref box l att big_le (by omega) (by omega) (by omega)]
    simp only [Option.bind_some]
    rw [Ints_refl _ (by omega) big_le, Notices_refl _ (by omega) big_le]
    rfl
end L
end Go.Proofs.Ytmnbfioadkhahaa
