/- Chapter 46: sending (plain laws). -/
import Derived.Test.YtmnbfioadkhahaaP46
namespace Go.Proofs.Ytmnbfioadkhahaa
open Go Go.RowKit
namespace L

/-- One round over the notices that are pending. -/
def pass (att : List Int) : List Nt → Nat → List Nt → List Int → Nat × List Nt × List Int
  | [], u, ag, ids => (u, ag, ids)
  | n :: p, u, ag, ids => if h : u < att.length then pass att p (u + 1) (if att[u] = 0 then ag else ag ++ [n]) (if att[u] = 0 ∨ att[u] = 1 then add ids n.1 else ids) else pass att p u (ag ++ [n]) ids
theorem pass_full {att : List Int} : ∀ (p : List Nt) (u : Nat) (ag : List Nt) (ids : List Int), ¬ u < att.length → pass att p u ag ids = (u, ag ++ p, ids)
  | [], u, ag, ids, _ => by simp [pass]
  | n :: p, u, ag, ids, h => by
    unfold pass
    rw [dif_neg h, pass_full p u _ ids h]
    simp
theorem add_len (ids : List Int) (x : Int) : (add ids x).length ≤ ids.length + 1 := by
  unfold add; split <;> (try simp) <;> omega
theorem pass_ok {att : List Int} : ∀ (p : List Nt) (u : Nat) (ag : List Nt) (ids : List Int), u ≤ att.length → u ≤ (pass att p u ag ids).1 ∧ (pass att p u ag ids).1 ≤ att.length ∧ (pass att p u ag ids).2.1.length ≤ ag.length + p.length ∧ (pass att p u ag ids).2.2.length + u ≤ ids.length + (pass att p u ag ids).1 ∧ (p ≠ [] → u < att.length → u < (pass att p u ag ids).1)
  | [], u, ag, ids, h => by simp [pass, h]
  | n :: p, u, ag, ids, h => by
    unfold pass
    by_cases hu : u < att.length
    · rw [dif_pos hu]
      have h1 := pass_ok p (u + 1) (if att[u] = 0 then ag else ag ++ [n]) (if att[u] = 0 ∨ att[u] = 1 then add ids n.1 else ids) hu
      have h2 : (if att[u] = 0 then ag else ag ++ [n]).length ≤ ag.length + 1 := by split <;> (try simp) <;> omega
      have h3 : (if att[u] = 0 ∨ att[u] = 1 then add ids n.1 else ids).length ≤ ids.length + 1 := by split <;> (try exact add_len ids n.1) <;> omega
      rw [List.length_cons]
      refine ⟨by omega, by omega, by omega, by omega, fun _ _ => by omega⟩
    · rw [dif_neg hu, pass_full _ _ _ _ hu]
      simp
      omega

theorem accept_eq {N : Nat} {x : Int} {ids : List Int} {held : List (Int × Bool)} (hd : Hd held ids) (hl : ids.length ≤ 100000) : ∃ held', M.outbox_inbox_accept N x ids held = some (held', add ids x) ∧ Hd held' (add ids x) := by
  unfold M.outbox_inbox_accept add
  rw [hd x]
  by_cases h : x ∈ ids
  · rw [if_pos (by simpa using h), if_pos h]
    exact ⟨held, rfl, hd⟩
  · rw [if_neg (by simpa using h), if_neg h, appA_some (by simp; omega)]
    refine ⟨_, rfl, fun y => ?_⟩
    rw [lookA_put]
    by_cases e : x = y
    · subst e; simp
    · rw [if_neg e, hd y]
      simp [show ¬ y = x from fun h => e h.symm]

theorem or_bind (x y : Bool) {α : Type} (k : Bool → Option α) : ((if x = true then some true else some y : Option Bool).bind k) = k (x || y) := by cases x <;> rfl

theorem inner_prog {N : Nat} {P : List Nt} {att : List Int} (hP : P.length ≤ 1000) (ha : att.length ≤ 10000) : ∀ (k i u K : Nat) (held : List (Int × Bool)) (ag : List Nt) (ids : List Int), i + k = P.length → u ≤ att.length → ag.length + k ≤ 1000 → ids.length + k ≤ 50000 → Hd held ids → k < K →
    ∃ held', Hd held' (pass att (P.drop i) u ag ids).2.2 ∧ (Join (J := Int × (List (Int × Bool)) × (List rNotice.den) × List Int) (R := Int × (List (Int × Bool)) × (List rNotice.den) × List Int) (Loop (S := Int × Int × (List (Int × Bool)) × (List rNotice.den) × (List rNotice.den) × List Int) (X := (Int × (List (Int × Bool)) × (List rNotice.den) × List Int) ⊕ (Int × (List (Int × Bool)) × (List rNotice.den) × List Int)) (fun s8 =>
(if (decide (s8.2.1 < (P.length : Int))) = true then
Join (J := Int × (List (Int × Bool)) × (List rNotice.den) × (List rNotice.den) × List Int) (R := (Int × Int × (List (Int × Bool)) × (List rNotice.den) × (List rNotice.den) × List Int) ⊕ ((Int × (List (Int × Bool)) × (List rNotice.den) × List Int) ⊕ (Int × (List (Int × Bool)) × (List rNotice.den) × List Int))) ((idx s8.2.2.2.1 s8.2.1).bind fun x10 =>
(if (decide (s8.1 = (att.length : Int))) = true then
(cutA s8.2.2.2.1 s8.2.1 (s8.2.2.2.1.length : Int)).bind fun l11 =>
(appA s8.2.2.2.2.1 l11).bind fun l12 =>
some (Sum.inr (Sum.inr (Sum.inr (s8.1, s8.2.2.1, l12, s8.2.2.2.2.2))))
else
(idx att s8.1).bind fun x13 =>
(((if (decide (x13 = (0 : Int))) = true then
some true
else
some (decide (x13 = (1 : Int)))) : Option (Bool)).bind fun j15 =>
(if j15 = true then
(M.outbox_inbox_accept N x10.1 s8.2.2.2.2.2 s8.2.2.1).bind fun y16 =>
some (y16.1, y16.2)
else
some (s8.2.2.1, s8.2.2.2.2.2)) : Option ((List (Int × Bool)) × List Int)).bind fun j14 =>
(if (!decide (x13 = (0 : Int))) = true then
(appA s8.2.2.2.2.1 ([x10] : List rNotice.den)).bind fun l17 =>
some (Sum.inl (IntKind.i64.wrap (s8.1 + (1 : Int)), j14.1, s8.2.2.2.1, l17, j14.2))
else
some (Sum.inl (IntKind.i64.wrap (s8.1 + (1 : Int)), j14.1, s8.2.2.2.1, s8.2.2.2.2.1, j14.2))))) fun j9 =>
some (Sum.inl (j9.1, IntKind.i64.wrap (s8.2.1 + (1 : Int)), j9.2.1, j9.2.2.1, j9.2.2.2.1, j9.2.2.2.2))
else
some (Sum.inr (Sum.inl (s8.1, s8.2.2.1, s8.2.2.2.2.1, s8.2.2.2.2.2))))) K ((u : Int), (i : Int), held, P, ag, ids)) fun j7 =>
some (j7.1, j7.2.1, j7.2.2.1, j7.2.2.2)) = some (((pass att (P.drop i) u ag ids).1 : Int), held', (pass att (P.drop i) u ag ids).2.1, (pass att (P.drop i) u ag ids).2.2)
  | 0, i, u, K, held, ag, ids, hi, hu, hag, hid, hd, hK => by
    obtain ⟨K, rfl⟩ : ∃ n, K = n + 1 := ⟨K - 1, by omega⟩
    have hdr : P.drop i = [] := List.drop_of_length_le (by omega)
    rw [hdr]
    refine ⟨held, hd, ?_⟩
    unfold Loop
    have h1 : ¬ (i : Int) < (P.length : Int) := by omega
    simp only [h1, decide_false, Bool.false_eq_true, if_false]
    rfl
  | k + 1, i, u, K, held, ag, ids, hi, hu, hag, hid, hd, hK => by
    obtain ⟨K, rfl⟩ : ∃ n, K = n + 1 := ⟨K - 1, by omega⟩
    have hlt : i < P.length := by omega
    have hdr : P.drop i = P[i] :: P.drop (i + 1) := List.drop_eq_getElem_cons hlt
    have hw : IntKind.i64.wrap ((i : Int) + 1) = ((i + 1 : Nat) : Int) := by rw [wrap_id] <;> omega
    unfold Loop
    have h1 : (i : Int) < (P.length : Int) := by omega
    simp only [h1, decide_true, if_true, idx_nat hlt, Option.bind_some]
    by_cases hul : u < att.length
    · have h2 : ¬ (u : Int) = (att.length : Int) := by omega
      have hw2 : IntKind.i64.wrap ((u : Int) + 1) = ((u + 1 : Nat) : Int) := by rw [wrap_id] <;> omega
      simp only [h2, decide_false, Bool.false_eq_true, if_false, idx_nat hul, Option.bind_some]
      rw [or_bind]
      have hstep : ∃ held', Hd held' (if att[u] = 0 ∨ att[u] = 1 then add ids P[i].1 else ids) ∧ ((if (decide (att[u] = (0 : Int)) || decide (att[u] = (1 : Int))) = true then
(M.outbox_inbox_accept N P[i].1 ids held).bind fun y16 =>
some (y16.1, y16.2)
else
some (held, ids)) : Option ((List (Int × Bool)) × List Int)) = some (held', if att[u] = 0 ∨ att[u] = 1 then add ids P[i].1 else ids) := by
        by_cases hc : att[u] = 0 ∨ att[u] = 1
        · obtain ⟨held', e1, e2⟩ := accept_eq (N := N) (x := P[i].1) hd (by omega)
          refine ⟨held', by rw [if_pos hc]; exact e2, ?_⟩
          rw [if_pos (by simpa using hc), e1, if_pos hc]
          rfl
        · exact ⟨held, by rw [if_neg hc]; exact hd, by rw [if_neg (by simpa using hc), if_neg hc]⟩
      obtain ⟨held', e1, e2⟩ := hstep
      rw [e2]
      simp only [Option.bind_some]
      have hids : (if att[u] = 0 ∨ att[u] = 1 then add ids P[i].1 else ids).length ≤ ids.length + 1 := by split <;> (try exact add_len ids _) <;> omega
      generalize hids' : (if att[u] = 0 ∨ att[u] = 1 then add ids P[i].1 else ids) = ids' at *
      obtain ⟨held'', g1, g2⟩ := inner_prog hP ha k (i + 1) (u + 1) K held' (if att[u] = 0 then ag else ag ++ [P[i]]) ids' (by omega) hul (by split <;> (try simp) <;> omega) (by omega) e1 (by omega)
      have hp : pass att (P.drop i) u ag ids = pass att (P.drop (i + 1)) (u + 1) (if att[u] = 0 then ag else ag ++ [P[i]]) ids' := by
        rw [hdr]
        conv => lhs; unfold pass
        rw [dif_pos hul, hids']
      refine ⟨held'', by rw [hp]; exact g1, ?_⟩
      rw [hp, ← g2]
      by_cases h0 : att[u] = 0
      · simp only [h0, decide_true, Bool.not_true, Bool.false_eq_true, if_false, if_true]
        rw [hw, hw2]
        rfl
      · have happ : appA ag [P[i]] = some (ag ++ [P[i]]) := appA_some (by simp; omega)
        simp only [h0, decide_false, Bool.not_false, if_true, if_false, happ, Option.bind_some]
        rw [hw, hw2]
        rfl
    · have h2 : (u : Int) = (att.length : Int) := by omega
      have hcut : cutA P (i : Int) (P.length : Int) = some (P.drop i) := by
        unfold cutA
        rw [if_pos (by omega)]
        simp
      have happ : appA ag (P.drop i) = some (ag ++ P.drop i) := appA_some (by simp; omega)
      refine ⟨held, by rw [pass_full _ _ _ _ hul]; exact hd, ?_⟩
      simp only [h2, decide_true, if_true, hcut, happ, Option.bind_some]
      rw [pass_full _ _ _ _ hul, ← h2]
      rfl
theorem inner_ref {N : Nat} {P : List Nt} {att : List Int} (hN : 100001 ≤ N) (hP : P.length ≤ 1000) (ha : att.length ≤ 10000) : ∀ (k i u K : Nat) (ag : List Nt) (ids : List Int), i + k = P.length → u ≤ att.length → ag.length + k ≤ 1000 → ids.length + k ≤ 50000 → k < K →
    (Loop (S := Int × Int × (List rNotice.den) × List Int) (X := Int × (List rNotice.den) × List Int) (fun s7 =>
(if (decide (s7.2.1 < (P.length : Int))) = true then
((if (decide (s7.1 = (att.length : Int))) = true then
(idx P s7.2.1).bind fun x9 =>
(appA s7.2.2.1 ([x9] : List rNotice.den)).bind fun l10 =>
some (s7.1, l10, s7.2.2.2)
else
(idx att s7.1).bind fun x11 =>
(((if (decide (x11 = (0 : Int))) = true then
some true
else
some (decide (x11 = (1 : Int)))) : Option (Bool)).bind fun j13 =>
(if j13 = true then
(idx P s7.2.1).bind fun x14 =>
(M.ref46_Deliver N s7.2.2.2 x14).bind fun y15 =>
some y15.2
else
some s7.2.2.2) : Option (List Int)).bind fun j12 =>
(if (!decide (x11 = (0 : Int))) = true then
(idx P s7.2.1).bind fun x16 =>
(appA s7.2.2.1 ([x16] : List rNotice.den)).bind fun l17 =>
some (IntKind.i64.wrap (s7.1 + (1 : Int)), l17, j12)
else
some (IntKind.i64.wrap (s7.1 + (1 : Int)), s7.2.2.1, j12))) : Option (Int × (List rNotice.den) × List Int)).bind fun j8 =>
some (Sum.inl (j8.1, IntKind.i64.wrap (s7.2.1 + (1 : Int)), j8.2.1, j8.2.2))
else
some (Sum.inr (s7.1, s7.2.2.1, s7.2.2.2)))) K ((u : Int), (i : Int), ag, ids)) = some (((pass att (P.drop i) u ag ids).1 : Int), (pass att (P.drop i) u ag ids).2.1, (pass att (P.drop i) u ag ids).2.2)
  | 0, i, u, K, ag, ids, hi, hu, hag, hid, hK => by
    obtain ⟨K, rfl⟩ : ∃ n, K = n + 1 := ⟨K - 1, by omega⟩
    have hdr : P.drop i = [] := List.drop_of_length_le (by omega)
    rw [hdr]
    unfold Loop
    have h1 : ¬ (i : Int) < (P.length : Int) := by omega
    simp only [h1, decide_false, Bool.false_eq_true, if_false]
    rfl
  | k + 1, i, u, K, ag, ids, hi, hu, hag, hid, hK => by
    obtain ⟨K, rfl⟩ : ∃ n, K = n + 1 := ⟨K - 1, by omega⟩
    have hlt : i < P.length := by omega
    have hdr : P.drop i = P[i] :: P.drop (i + 1) := List.drop_eq_getElem_cons hlt
    have hw : IntKind.i64.wrap ((i : Int) + 1) = ((i + 1 : Nat) : Int) := by rw [wrap_id] <;> omega
    have happ : appA ag [P[i]] = some (ag ++ [P[i]]) := appA_some (by simp; omega)
    unfold Loop
    have h1 : (i : Int) < (P.length : Int) := by omega
    simp only [h1, decide_true, if_true, idx_nat hlt, Option.bind_some, happ]
    by_cases hul : u < att.length
    · have h2 : ¬ (u : Int) = (att.length : Int) := by omega
      have hw2 : IntKind.i64.wrap ((u : Int) + 1) = ((u + 1 : Nat) : Int) := by rw [wrap_id] <;> omega
      simp only [h2, decide_false, Bool.false_eq_true, if_false, idx_nat hul, Option.bind_some]
      rw [or_bind]
      have e2 : ((if (decide (att[u] = (0 : Int)) || decide (att[u] = (1 : Int))) = true then
(M.ref46_Deliver N ids P[i]).bind fun y15 =>
some y15.2
else
some ids) : Option (List Int)) = some (if att[u] = 0 ∨ att[u] = 1 then add ids P[i].1 else ids) := by
        rw [Deliver_ref _ (by omega) hN]
        by_cases hc : att[u] = 0 ∨ att[u] = 1
        · rw [if_pos (by simpa using hc), if_pos hc]; rfl
        · rw [if_neg (by simpa using hc), if_neg hc]
      rw [e2]
      simp only [Option.bind_some]
      have hids : (if att[u] = 0 ∨ att[u] = 1 then add ids P[i].1 else ids).length ≤ ids.length + 1 := by split <;> (try exact add_len ids _) <;> omega
      generalize hids' : (if att[u] = 0 ∨ att[u] = 1 then add ids P[i].1 else ids) = ids' at *
      have g2 := inner_ref hN hP ha k (i + 1) (u + 1) K (if att[u] = 0 then ag else ag ++ [P[i]]) ids' (by omega) hul (by split <;> (try simp) <;> omega) (by omega) (by omega)
      have hp : pass att (P.drop i) u ag ids = pass att (P.drop (i + 1)) (u + 1) (if att[u] = 0 then ag else ag ++ [P[i]]) ids' := by
        rw [hdr]
        conv => lhs; unfold pass
        rw [dif_pos hul, hids']
      rw [hp, ← g2]
      by_cases h0 : att[u] = 0
      · simp only [h0, decide_true, Bool.not_true, Bool.false_eq_true, if_false, if_true, Option.bind_some]
        rw [hw, hw2]
      · simp only [h0, decide_false, Bool.not_false, if_true, if_false, Option.bind_some]
        rw [hw, hw2]
    · have h2 : (u : Int) = (att.length : Int) := by omega
      have g2 := inner_ref hN hP ha k (i + 1) u K (ag ++ [P[i]]) ids (by omega) hu (by simp; omega) (by omega) (by omega)
      have hp : pass att (P.drop i) u ag ids = pass att (P.drop (i + 1)) u (ag ++ [P[i]]) ids := by
        rw [hdr]
        conv => lhs; unfold pass
        rw [dif_neg hul]
      rw [hp, ← g2]
      simp only [h2, decide_true, if_true, Option.bind_some]
      rw [hw]

/-- The rounds. -/
def rounds (att : List Int) : Nat → Nat → List Nt → List Int → List Nt × List Int
  | 0, _, pd, ids => (pd, ids)
  | k + 1, u, pd, ids => if 0 < pd.length ∧ u < att.length then rounds att k (pass att pd u [] ids).1 (pass att pd u [] ids).2.1 (pass att pd u [] ids).2.2 else (pd, ids)
end L
end Go.Proofs.Ytmnbfioadkhahaa
