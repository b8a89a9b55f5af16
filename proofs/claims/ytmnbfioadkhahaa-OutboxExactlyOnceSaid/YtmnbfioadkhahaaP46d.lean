/- Chapter 46: exactly once, and all (plain laws). -/
import Derived.Test.YtmnbfioadkhahaaP46c
import Derived.Test.YtmnbfioadkhahaaWp
namespace Go.Proofs.Ytmnbfioadkhahaa
open Go Go.RowKit
namespace L

structure Iv (box : List Int) (l pd : List Nt) (ids : List Int) : Prop where
  pre : ∃ t, ids = box ++ t ∧ t.Nodup ∧ (∀ x, x ∈ t → x ∉ box) ∧ ∀ x, x ∈ t → ∃ n, n ∈ l ∧ n.1 = x
  all : ∀ n, n ∈ l → n ∈ pd ∨ n.1 ∈ ids

theorem mem_add {ids : List Int} {x y : Int} : y ∈ add ids x ↔ y ∈ ids ∨ y = x := by
  unfold add
  split
  · rename_i h
    exact ⟨.inl, fun h' => h'.elim id fun e => e ▸ h⟩
  · rw [List.mem_append, List.mem_singleton]
theorem Iv.add {box : List Int} {l pd pd' : List Nt} {ids : List Int} {n : Nt} (h : Iv box l pd ids) (hn : n ∈ l) (hp : ∀ m, m ∈ pd → m ∈ pd' ∨ m = n) : Iv box l pd' (add ids n.1) := by
  obtain ⟨⟨t, rfl, h1, h2, h3⟩, h4⟩ := h
  refine ⟨?_, fun m hm => ?_⟩
  · unfold L.add
    split
    · exact ⟨t, rfl, h1, h2, h3⟩
    · rename_i hx
      rw [List.mem_append, not_or] at hx
      refine ⟨t ++ [n.1], by simp, ?_, fun x hx' => ?_, fun x hx' => ?_⟩
      · refine List.nodup_append.2 ⟨h1, by simp, fun a ha b hb => ?_⟩
        rw [List.mem_singleton.1 hb]
        exact fun e => hx.2 (e ▸ ha)
      · rcases List.mem_append.1 hx' with hx' | hx'
        · exact h2 x hx'
        · rw [List.mem_singleton.1 hx']; exact hx.1
      · rcases List.mem_append.1 hx' with hx' | hx'
        · exact h3 x hx'
        · exact ⟨n, hn, (List.mem_singleton.1 hx').symm⟩
  · rw [mem_add]
    rcases h4 m hm with h | h
    · rcases hp m h with h | h
      · exact .inl h
      · exact .inr (.inr (by rw [h]))
    · exact .inr (.inl h)
theorem Iv.mono {box : List Int} {l pd pd' : List Nt} {ids : List Int} (h : Iv box l pd ids) (hp : ∀ m, m ∈ pd → m ∈ pd') : Iv box l pd' ids :=
  ⟨h.pre, fun m hm => (h.all m hm).imp (hp m) id⟩

theorem pass_iv {box : List Int} {l : List Nt} {att : List Int} : ∀ (p : List Nt) (u : Nat) (ag : List Nt) (ids : List Int), (∀ m, m ∈ ag ++ p → m ∈ l) → Iv box l (ag ++ p) ids → Iv box l (pass att p u ag ids).2.1 (pass att p u ag ids).2.2 ∧ ∀ m, m ∈ (pass att p u ag ids).2.1 → m ∈ l
  | [], u, ag, ids, hs, h => by
    rw [List.append_nil] at h hs
    exact ⟨h, hs⟩
  | n :: p, u, ag, ids, hs, h => by
    unfold pass
    have hn : n ∈ l := hs n (by simp)
    by_cases hu : u < att.length
    · rw [dif_pos hu]
      refine pass_iv p _ _ _ (fun m hm => hs m ?_) ?_
      · split at hm
        · rcases List.mem_append.1 hm with hm | hm <;> simp [hm]
        · rcases List.mem_append.1 hm with hm | hm
          · rcases List.mem_append.1 hm with hm | hm <;> simp_all
          · simp [hm]
      · by_cases h0 : att[u] = 0
        · rw [if_pos h0, if_pos (.inl h0)]
          refine h.add hn fun m hm => ?_
          rcases List.mem_append.1 hm with hm | hm
          · exact .inl (List.mem_append_left _ hm)
          · rcases List.mem_cons.1 hm with hm | hm
            · exact .inr hm
            · exact .inl (List.mem_append_right _ hm)
        · rw [if_neg h0]
          have hp : ∀ m, m ∈ ag ++ n :: p → m ∈ (ag ++ [n]) ++ p := fun m hm => by simpa using hm
          split
          · exact h.add hn fun m hm => .inl (hp m hm)
          · exact h.mono hp
    · rw [dif_neg hu]
      have e : (ag ++ [n]) ++ p = ag ++ n :: p := by simp
      exact pass_iv p _ _ _ (by rw [e]; exact hs) (by rw [e]; exact h)
theorem rounds_iv {box : List Int} {l : List Nt} {att : List Int} : ∀ (k u : Nat) (pd : List Nt) (ids : List Int), (∀ m, m ∈ pd → m ∈ l) → Iv box l pd ids → Iv box l (rounds att k u pd ids).1 (rounds att k u pd ids).2
  | 0, _, _, _, _, h => h
  | k + 1, u, pd, ids, hs, h => by
    unfold rounds
    split
    · obtain ⟨h1, h2⟩ := pass_iv (att := att) pd u [] ids (by simpa using hs) (by simpa using h)
      exact rounds_iv k _ _ _ h2 h1
    · exact h
theorem send_iv (box : List Int) (l : List Nt) (att : List Int) : Iv box l (rounds att (att.length + 1) 0 l box).1 (rounds att (att.length + 1) 0 l box).2 :=
  rounds_iv _ _ _ _ (fun _ h => h) ⟨⟨[], by simp, by simp, by simp, by simp⟩, fun _ h => .inl h⟩

theorem or2b (x y : Bool) {α : Type} (k : Bool → Option α) : ((if x = true then some true else some y : Option Bool).bind k) = k (x || y) := by cases x <;> rfl
theorem OutboxExactlyOnce_true (box : List Int) (l : List Nt) (att : List Int) (_ : WF (.slice rInt) box) (_ : WF (.slice rNotice) l) (_ : WF (.slice rInt) att) : M.law46_OutboxExactlyOnce big box l att = some true := by
  apply Wp.eq
  unfold M.law46_OutboxExactlyOnce
  rw [awake, or3b]
  refine Wp.ite (fun _ => ⟨true, rfl, rfl⟩) fun h => ?_
  simp only [Bool.or_eq_true, decide_eq_true_eq, not_or] at h
  obtain ⟨⟨h1, h2⟩, h3⟩ := h
  obtain ⟨q1, q2⟩ := rounds_len (att := att) (att.length + 1) 0 l box (by omega)
  have iv := send_iv box l att
  rw [SendAll_eq box l att big_le (by omega) (by omega) (by omega)]
  simp only [Option.bind_some]
  generalize (rounds att (att.length + 1) 0 l box).1 = left at *
  generalize (rounds att (att.length + 1) 0 l box).2 = ids at *
  obtain ⟨⟨t, rfl, i1, i2, i3⟩, i4⟩ := iv
  have hcut : cutA (box ++ t) (0 : Int) (box.length : Int) = some box := by
    rw [cutA_zero (by simp)]
    simp
  rw [if_neg (by simp; omega), hcut]
  simp only [Option.bind_some]
  rw [Ints_refl _ (by omega) big_le]
  simp only [Option.bind_some, Bool.not_true, Bool.false_eq_true, if_false]
  refine Wp.dec (fun h => by omega) fun _ => ?_
  refine Wp.join (Wp.loop (fun s => ∃ k : Nat, s = k ∧ box.length ≤ k ∧ k ≤ (box ++ t).length) (fun s => ((box ++ t).length - s).toNat) ⟨_, rfl, Nat.le_refl _, by simp⟩ (by simp only [List.length_append] at *; unfold big; omega) ?_)
  · rintro s ⟨k, rfl, hk1, hk2⟩
    refine Wp.dec (fun hk => ?_) fun hk => .some ?_
    · have hk : k < (box ++ t).length := by omega
      rw [idx_nat hk]
      simp only [Option.bind_some]
      have hin : (box ++ t)[k] ∈ t := by
        rw [List.getElem_append_right hk1]
        exact List.getElem_mem _
      obtain ⟨n, hn, hne⟩ := i3 _ hin
      have hnew : (box ++ t)[k] ∉ (box ++ t).take k := by
        intro hm
        rw [List.take_append, List.mem_append] at hm
        rcases hm with hm | hm
        · exact i2 _ hin (List.mem_of_mem_take hm)
        · rw [List.mem_take_iff_getElem] at hm
          obtain ⟨j, hj, e⟩ := hm
          rw [List.getElem_append_right hk1] at e
          have := (List.getElem_inj i1).1 e
          omega
      rw [has_eq _ (by omega) big_le, Option.bind_some, show (l.any fun y => decide (y.1 = (box ++ t)[k])) = true from List.any_eq_true.2 ⟨n, hn, by simpa using hne⟩, cutA_zero hk2]
      simp only [Bool.not_true, Bool.false_eq_true, if_false, Option.bind_some, ]
      rw [Contains_eq _ (by simp at *; omega) big_le, Option.bind_some, decide_eq_false hnew]
      simp only [Bool.false_eq_true, if_false, Option.bind_some]
      rw [wrap_succ (by simp at *; omega)]
      exact .some ⟨⟨k + 1, rfl, by omega, hk⟩, by simp only; omega⟩
    · refine Wp.join (Wp.loop (fun s => ∃ k : Nat, s = k ∧ k ≤ l.length) (fun s => (l.length - s).toNat) ⟨_, rfl, Nat.zero_le _⟩ (by unfold big; omega) ?_)
      rintro s ⟨k, rfl, hk2⟩
      refine Wp.dec (fun hk => ?_) fun hk => .some (.some rfl)
      have hk : k < l.length := by omega
      rw [idx_nat hk]
      simp only [Option.bind_some]
      rw [has_eq _ (by omega) big_le, Option.bind_some]
      have fin : Wp ((((if (!left.any fun y => decide (y.1 = l[k].1)) = true then (M.outbox_Contains big (box ++ t) l[k].1).bind fun y22 => some (!y22) else some false) : Option Bool))) (· = false) := by
        rw [Contains_eq _ (by simp at *; omega) big_le]
        refine Wp.ite (fun h => ?_) fun _ => .some rfl
        refine .some ?_
        rw [Bool.not_eq_true', List.any_eq_false] at h
        rcases i4 l[k] (List.getElem_mem _) with h' | h'
        · exact absurd (decide_eq_true rfl) (h _ h')
        · simp [h']
      rw [fin.eq]
      simp only [Bool.false_eq_true, if_false, Option.bind_some]
      rw [wrap_succ (by omega)]
      exact .some ⟨⟨k + 1, rfl, hk⟩, by simp only; omega⟩

theorem pass_zero {att : List Int} {Z : Nat} (hz : ∀ i (h : i < att.length), Z ≤ i → att[i] = 0) : ∀ (p : List Nt) (u : Nat) (ag : List Nt) (ids : List Int), u ≤ att.length → ag.length + p.length + max u Z ≤ att.length → (pass att p u ag ids).2.1.length + max (pass att p u ag ids).1 Z ≤ att.length
  | [], u, ag, ids, hu, h => by simpa [pass] using h
  | n :: p, u, ag, ids, hu, h => by
    unfold pass
    rw [List.length_cons] at h
    have hlt : u < att.length := by omega
    rw [dif_pos hlt]
    refine pass_zero hz p (u + 1) _ _ hlt ?_
    by_cases hc : Z ≤ u
    · rw [if_pos (hz u hlt hc)]; omega
    · have : (if att[u] = 0 then ag else ag ++ [n]).length ≤ ag.length + 1 := by split <;> (try simp) <;> omega
      omega
theorem rounds_zero {att : List Int} {Z : Nat} (hz : ∀ i (h : i < att.length), Z ≤ i → att[i] = 0) : ∀ (k u : Nat) (pd : List Nt) (ids : List Int), att.length < u + k → u ≤ att.length → pd.length + max u Z ≤ att.length → (rounds att k u pd ids).1 = []
  | 0, u, pd, ids, hk, hu, h => by omega
  | k + 1, u, pd, ids, hk, hu, h => by
    unfold rounds
    split
    · rename_i hc
      obtain ⟨p1, p2, p3, p4, p5⟩ := pass_ok (att := att) pd u [] ids hu
      have p5 := p5 (by intro e; rw [e] at hc; simp at hc) hc.2
      exact rounds_zero hz k _ _ _ (by omega) p2 (pass_zero hz pd u [] ids hu (by simpa using h))
    · rename_i hc
      have : pd.length = 0 := by omega
      exact List.length_eq_zero_iff.1 this

theorem OutboxCompletes_true (box : List Int) (l : List Nt) (att : List Int) (_ : WF (.slice rInt) box) (_ : WF (.slice rNotice) l) (_ : WF (.slice rInt) att) : M.law46_OutboxCompletes big box l att = some true := by
  apply Wp.eq
  unfold M.law46_OutboxCompletes
  rw [awake, or3b]
  refine Wp.ite (fun _ => ⟨true, rfl, rfl⟩) fun h => ?_
  simp only [Bool.or_eq_true, decide_eq_true_eq, not_or] at h
  obtain ⟨⟨h1, h2⟩, h3⟩ := h
  rw [app_nil (by omega), Option.bind_some]
  have hm : l.length * l.length ≤ 400 := Nat.le_trans (Nat.mul_le_mul (by omega : l.length ≤ 20) (by omega : l.length ≤ 20)) (by omega)
  have hm' : l.length ≤ l.length * l.length := by rcases Nat.eq_zero_or_pos l.length with h | h; · omega
                                                  exact Nat.le_mul_of_pos_left _ h
  have hw : IntKind.i64.wrap ((l.length : Int) * (l.length : Int)) = ((l.length * l.length : Nat) : Int) := by
    rw [← Int.natCast_mul, wrap_nat (by omega)]
  refine Wp.seq (· = att ++ List.replicate (l.length * l.length) 0) (Wp.loop (fun s => ∃ k : Nat, s = ((k : Int), att ++ List.replicate k 0) ∧ k ≤ l.length * l.length) (fun s => (((l.length * l.length : Nat) : Int) - s.1).toNat) ⟨0, by simp, Nat.zero_le _⟩ (by simp only; unfold big; omega) ?_) ?_
  · rintro _ ⟨k, rfl, hk⟩
    simp only
    rw [hw]
    refine Wp.dec (fun h => ?_) fun h => .some ?_
    · rw [appA_some (by simp; omega), Option.bind_some, wrap_succ (by omega)]
      refine .some ⟨⟨k + 1, ?_, by omega⟩, ?_⟩
      · simp [List.replicate_succ']
      · simp only; omega
    · have : k = l.length * l.length := by omega
      rw [this]; rfl
  · rintro _ rfl
    have hlen : (att ++ List.replicate (l.length * l.length) (0 : Int)).length = att.length + l.length * l.length := by simp
    generalize hA : att ++ List.replicate (l.length * l.length) (0 : Int) = A at *
    obtain ⟨q1, q2⟩ := rounds_len (att := A) (A.length + 1) 0 l box (by omega)
    have iv := send_iv box l A
    have hz := rounds_zero (att := A) (Z := att.length) (fun i h hi => by
      subst hA
      rw [List.getElem_append_right hi]
      simp) (A.length + 1) 0 l box (by omega) (by omega) (by omega)
    rw [SendAll_eq box l A big_le (by omega) (by omega) (by omega)]
    simp only [Option.bind_some]
    rw [hz] at iv ⊢
    generalize (rounds A (A.length + 1) 0 l box).2 = ids at *
    have i4 := iv.all
    refine Wp.join (Wp.loop (fun s => ∃ k : Nat, s = k ∧ k ≤ l.length) (fun s => (l.length - s).toNat) ⟨_, rfl, Nat.zero_le _⟩ (by unfold big; omega) ?_)
    rintro s ⟨k, rfl, hk2⟩
    refine Wp.dec (fun hk => ?_) fun hk => .some (.some rfl)
    have hk : k < l.length := by omega
    rw [idx_nat hk]
    simp only [Option.bind_some]
    have hin : l[k].1 ∈ ids := (i4 l[k] (List.getElem_mem _)).resolve_left (by simp)
    rw [Contains_eq _ (by omega) big_le, Option.bind_some, decide_eq_true hin]
    simp only [Bool.not_true, Bool.false_eq_true, if_false]
    rw [wrap_succ (by omega)]
    exact .some ⟨⟨k + 1, rfl, hk⟩, by simp only; omega⟩
end L
end Go.Proofs.Ytmnbfioadkhahaa
