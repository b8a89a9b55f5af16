/- Chapter 17: what is reached by dependencies (plain): the reference's closure. -/
/- Chapter 17: the program's direct dependencies are those of the reference (plain). -/
/- Chapter 17: the program's transitive dependencies (plain): allDirect, reached; the cycles of the program are those of the reference. -/
/- Chapter 17: the program's transitive dependencies (plain): reached; the cycles of the program are those of the reference; LawValidate. -/
import Derived.Test.YtjeeligfdpociaaGreatRU
import Derived.Test.YtjeeligfdpociaaGreatRV
namespace Go.Proofs.YtjeeligfdpociaaGreat
open Go Go.RowKit
set_option maxRecDepth 100000
set_option linter.unusedSimpArgs false
namespace L


/-- Reached in one step or more. -/
inductive Rch (D : Int → Int → Prop) : Int → Int → Prop
  | one {a b : Int} (h : D a b) : Rch D a b
  | step {a b c : Int} (h : Rch D a b) (g : D b c) : Rch D a c
def Dp (s : Scp) (a b : Int) : Prop := b ∈ dirS s a
theorem mem_insAll {y : Int} : ∀ {l out : List Int}, y ∈ l.foldl (fun o z => ins z o) out ↔ y ∈ l ∨ y ∈ out
  | [], _ => by simp
  | x :: l, out => by
    rw [List.foldl_cons, mem_insAll (l := l), mem_ins, List.mem_cons]
    exact ⟨fun h => by rcases h with h | h | h <;> simp [h], fun h => by rcases h with (h | h) | h <;> simp [h]⟩
theorem mem_stepT (s : Scp) {out : List Int} {y : Int} : y ∈ stepT s out ↔ y ∈ out ∨ ∃ x ∈ out, Dp s x y := by
  unfold stepT
  suffices ∀ (l o : List Int), y ∈ l.foldl (fun o x => (dirS s x).foldl (fun o y => ins y o) o) o ↔ y ∈ o ∨ ∃ x ∈ l, Dp s x y from this _ _
  intro l
  induction l with
  | nil => intro o; simp
  | cons x l ih =>
    intro o
    rw [List.foldl_cons, ih, mem_insAll]
    unfold Dp
    constructor
    · rintro ((h | h) | ⟨z, hz, h⟩)
      · exact .inr ⟨x, by simp, h⟩
      · exact .inl h
      · exact .inr ⟨z, by simp [hz], h⟩
    · rintro (h | ⟨z, hz, h⟩)
      · exact .inl (.inr h)
      · rcases List.mem_cons.1 hz with rfl | hz
        · exact .inl (.inl h)
        · exact .inr ⟨z, hz, h⟩
theorem iterT_sound (s : Scp) (d : Int) : ∀ n y, y ∈ iterT s n (dirS s d) → Rch (Dp s) d y
  | 0, y, h => .one h
  | n + 1, y, h => by
    rcases (mem_stepT s).1 h with h | ⟨x, hx, h⟩
    · exact iterT_sound s d n y h
    · exact .step (iterT_sound s d n x hx) h
theorem sorted_eq {l m : List Int} (hl : l.Pairwise (· < ·)) (hm : m.Pairwise (· < ·)) (h : ∀ y, y ∈ l ↔ y ∈ m) : l = m := by
  induction l generalizing m with
  | nil =>
    cases m with
    | nil => rfl
    | cons y m => exact absurd ((h y).2 (by simp)) (by simp)
  | cons x l ih =>
    cases m with
    | nil => exact absurd ((h x).1 (by simp)) (by simp)
    | cons y m =>
      obtain ⟨h1, h2⟩ := List.pairwise_cons.1 hl
      obtain ⟨g1, g2⟩ := List.pairwise_cons.1 hm
      have e : x = y := by
        rcases List.mem_cons.1 ((h x).1 (by simp)) with e | e
        · exact e
        · rcases List.mem_cons.1 ((h y).2 (by simp)) with e' | e'
          · exact e'.symm
          · have := g1 x e
            have := h1 y e'
            omega
      subst e
      congr 1
      refine ih h2 g2 fun z => ?_
      have := h z
      rw [List.mem_cons, List.mem_cons] at this
      constructor
      · intro hz
        rcases this.1 (.inr hz) with rfl | hz'
        · have := h1 z hz; omega
        · exact hz'
      · intro hz
        rcases this.2 (.inr hz) with rfl | hz'
        · have := g1 z hz; omega
        · exact hz'
theorem nodup_len {l : List Int} : ∀ {m : List Int}, l.Nodup → (∀ y, y ∈ l → y ∈ m) → l.length ≤ m.length := by
  induction l with
  | nil => intro m _ _; simp
  | cons x l ih =>
    intro m hn h
    obtain ⟨h1, h2⟩ := List.nodup_cons.1 hn
    have hx := h x (by simp)
    have := ih (m := m.erase x) h2 fun y hy => (List.mem_erase_of_ne (fun e : y = x => h1 (by rw [← e]; exact hy))).2 (h y (by simp [hy]))
    rw [List.length_erase_of_mem hx] at this
    have := List.length_pos_of_mem hx
    simp only [List.length_cons]
    omega
theorem sub_len {l m : List Int} (hl : l.Pairwise (· < ·)) (_ : m.Pairwise (· < ·)) (h : ∀ y, y ∈ l → y ∈ m) (hx : ∃ y, y ∈ m ∧ y ∉ l) : l.length < m.length := by
  have nd : l.Nodup := hl.imp fun h => by omega
  obtain ⟨y, hy, hn⟩ := hx
  have nd2 : (y :: l).Nodup := List.nodup_cons.2 ⟨hn, nd⟩
  have : (y :: l).length ≤ m.length := nodup_len nd2 fun z hz => by
    rcases List.mem_cons.1 hz with rfl | hz
    · exact hy
    · exact h z hz
  simp only [List.length_cons] at this
  omega
/-- What is reached is closed. -/
theorem iterT_closed (s : Scp) (d : Int) : (∀ n, n ≤ s.2.2.2.1.length → (stepT s (iterT s n (dirS s d)) = iterT s n (dirS s d) ∨ n ≤ (iterT s n (dirS s d)).length)) := by
  have srt : ∀ m, Srt s.2.2.2.1.length (iterT s m (dirS s d)) := fun m => by
    induction m with
    | zero => exact dirS_srt s d
    | succ m ih => exact stepT_srt s ih
  intro n
  induction n with
  | zero => intro _; exact .inr (Nat.zero_le _)
  | succ n ih =>
    intro hn
    rcases ih (by omega) with h | h
    · left
      show stepT s (stepT s (iterT s n (dirS s d))) = stepT s (iterT s n (dirS s d))
      rw [h, h]
    · by_cases hx : ∃ y, y ∈ stepT s (iterT s n (dirS s d)) ∧ y ∉ iterT s n (dirS s d)
      · right
        have := sub_len (srt n).1 (stepT_srt s (srt n)).1 (fun y hy => (mem_stepT s).2 (.inl hy)) hx
        show n + 1 ≤ (stepT s (iterT s n (dirS s d))).length
        omega
      · left
        have : stepT s (iterT s n (dirS s d)) = iterT s n (dirS s d) := sorted_eq (stepT_srt s (srt n)).1 (srt n).1 fun y => ⟨fun h => Classical.not_not.1 fun hn => hx ⟨y, h, hn⟩, fun h => (mem_stepT s).2 (.inl h)⟩
        show stepT s (stepT s (iterT s n (dirS s d))) = stepT s (iterT s n (dirS s d))
        rw [this, this]
theorem trS_mem (s : Scp) (d y : Int) : y ∈ trS s d ↔ Rch (Dp s) d y := by
  refine ⟨fun h => iterT_sound s d _ y h, fun h => ?_⟩
  have closed : ∀ x z, x ∈ trS s d → Dp s x z → z ∈ trS s d := by
    intro x z hx hz
    rcases iterT_closed s d s.2.2.2.1.length (Nat.le_refl _) with h | h
    · have : z ∈ stepT s (iterT s s.2.2.2.1.length (dirS s d)) := (mem_stepT s).2 (.inr ⟨x, hx, hz⟩)
      rw [h] at this
      exact this
    · have hs := trS_srt s d
      have hzr := (dirS_srt s x).2 z hz
      refine Classical.not_not.1 fun hn => ?_
      have := sub_len (l := trS s d) (m := ins z (trS s d)) hs.1 (pw_ins hs.1) (fun y hy => mem_ins.2 (.inr hy)) ⟨z, mem_ins.2 (.inl rfl), hn⟩
      have := (hs.ins hzr).len
      have : s.2.2.2.1.length ≤ (trS s d).length := h
      omega
  have start : ∀ z, Dp s d z → z ∈ trS s d := by
    intro z hz
    show z ∈ iterT s s.2.2.2.1.length (dirS s d)
    have : ∀ n, z ∈ iterT s n (dirS s d) := fun n => by
      induction n with
      | zero => exact hz
      | succ n ih => exact (mem_stepT s).2 (.inl ih)
    exact this _
  induction h with
  | one h => exact start _ h
  | step _ g ih => exact closed _ _ ih g


theorem mem_upTo (d : Array Int) (y : Int) : ∀ m, y ∈ Go.Lib.compactUpTo d m ↔ ∃ j, j < m ∧ d[j]! = y
  | 0 => by simp [Go.Lib.compactUpTo]
  | m + 1 => by
    rw [Go.Lib.compactUpTo_succ, List.mem_append, mem_upTo d y m]
    constructor
    · rintro (⟨j, hj, h⟩ | h)
      · exact ⟨j, by omega, h⟩
      · split at h
        · rw [List.mem_singleton] at h
          exact ⟨m, by omega, h.symm⟩
        · cases h
    · rintro ⟨j, hj, h⟩
      rcases Nat.lt_succ_iff_lt_or_eq.1 hj with h1 | rfl
      · exact .inl ⟨j, h1, h⟩
      · by_cases hk : Go.Lib.keeps d j = true
        · right; rw [if_pos hk, List.mem_singleton]; exact h.symm
        · left
          unfold Go.Lib.keeps at hk
          rw [decide_eq_true_eq] at hk
          have h0 : j ≠ 0 := fun e => hk (.inl e)
          have h1 : d[j]! = d[j - 1]! := Classical.not_not.1 fun e => hk (.inr e)
          exact ⟨j - 1, by omega, by rw [← h1]; exact h⟩
theorem mem_compact (l : List Int) (y : Int) : y ∈ Go.Lib.compact l ↔ y ∈ l := by
  unfold Go.Lib.compact
  rw [mem_upTo]
  constructor
  · rintro ⟨j, hj, rfl⟩
    have : l.toArray[j]! = l[j] := by simp [hj]
    rw [this]
    exact List.getElem_mem hj
  · intro h
    obtain ⟨j, hj, rfl⟩ := List.getElem_of_mem h
    exact ⟨j, hj, by simp [hj]⟩
theorem sorted_wp (l : List Int) (hl : l.length ≤ 1000000) : Wp ((M.slices_Sort_int_int big l).bind fun y1 => (M.slices_Compact_int_int big y1).bind fun y2 => some y2) fun r => r.length ≤ l.length ∧ ∀ y, y ∈ r ↔ y ∈ l := by
  have e1 : M.slices_Sort_int_int big l = some (sortI l) := by
    unfold M.slices_Sort_int_int sortM
    rw [if_pos (by omega)]
  have hs : (sortI l).length = l.length := List.length_mergeSort ..
  have e2 : M.slices_Compact_int_int big (sortI l) = some (Go.Lib.compact (sortI l)) := by
    unfold M.slices_Compact_int_int compactM
    rw [if_pos (by omega)]
  rw [e1, Option.bind_some, e2]
  refine .some ⟨?_, fun y => ?_⟩
  · have := compact_le (sortI l)
    omega
  · rw [mem_compact]
    exact List.mem_mergeSort
theorem distinct_wp (l : List Int) (hl : l.length ≤ 1000000) : Wp (M.expr_distinct_v1 big l) fun r => r.length ≤ l.length ∧ ∀ y, y ∈ r ↔ y ∈ l := sorted_wp l hl
theorem sortedSet_wp (l : List Int) (hl : l.length ≤ 1000000) : Wp (M.deps_sortedSet_v1 big l) fun r => r.length ≤ l.length ∧ ∀ y, y ∈ r ↔ y ∈ l := sorted_wp l hl
/-- The definitions that an expression refers to. -/
def RefD (e : List Ty) (y : Int) : Prop := ∃ n ∈ e, (n.1 : Int) = 8 ∧ (n.2 : Int) = y
theorem mem_refsBy (p : Int → Bool) (e : List Ty) (y : Int) : y ∈ refsBy p e ↔ ∃ n ∈ e, p n.1 = true ∧ (n.2 : Int) = y := by
  unfold refsBy
  suffices ∀ (e : List Ty) (l : List Int), y ∈ e.foldl (fun l n => if p n.1 = true then ins n.2 l else l) l ↔ y ∈ l ∨ ∃ n ∈ e, p n.1 = true ∧ (n.2 : Int) = y by simpa using this e []
  intro e
  induction e with
  | nil => intro l; simp
  | cons n e ih =>
    intro l
    rw [List.foldl_cons, ih]
    split
    · rename_i h
      rw [mem_ins]
      constructor
      · rintro ((h1 | h1) | ⟨q, hq, h1⟩)
        · exact .inr ⟨n, by simp, h, h1.symm⟩
        · exact .inl h1
        · exact .inr ⟨q, by simp [hq], h1⟩
      · rintro (h1 | ⟨q, hq, h1, h2⟩)
        · exact .inl (.inr h1)
        · rcases List.mem_cons.1 hq with rfl | hq
          · exact .inl (.inl h2.symm)
          · exact .inr ⟨q, hq, h1, h2⟩
    · rename_i h
      constructor
      · rintro (h1 | ⟨q, hq, h1⟩)
        · exact .inl h1
        · exact .inr ⟨q, by simp [hq], h1⟩
      · rintro (h1 | ⟨q, hq, h1, h2⟩)
        · exact .inl h1
        · rcases List.mem_cons.1 hq with rfl | hq
          · exact absurd h1 h
          · exact .inr ⟨q, hq, h1, h2⟩
theorem mem_refsDef (e : List Ty) (y : Int) : y ∈ refsBy isDef e ↔ RefD e y := by
  rw [mem_refsBy]
  unfold RefD isDef
  simp only [decide_eq_true_eq]
theorem references_wp (e : List Ty) (he : e.length ≤ 100000) : Wp (M.expr_References big e) fun r => r.2.1.length ≤ e.length ∧ ∀ y, y ∈ r.2.1 ↔ RefD e y := by
  unfold M.expr_References
  rw [wp_bind]
  refine Wp.count (fun s => s.1) e.length (fun k s => (s.2.1.length ≤ k ∧ s.2.2.1.length ≤ k ∧ s.2.2.2.length ≤ k) ∧ ∀ y, y ∈ s.2.2.1 ↔ ∃ j, ∃ h : j < e.length, j < k ∧ (e[j].1 : Int) = 8 ∧ (e[j].2 : Int) = y) (by omega) rfl ⟨by simp, fun y => by simp⟩ fun k s hk hs hJ => ?_
  obtain ⟨i, a, b, c⟩ := s
  obtain ⟨⟨l1, l2, l3⟩, hm⟩ := hJ
  dsimp only at hs l1 l2 l3 hm
  subst hs
  simp only [a_, b_, c_, d_, e_, f_, g_, h_, i_, j_, k_, l_, m_, n_, o_, p_, q_, r_, s_, t_, u_, v_, w_, x_, y_, z_, A_, B_, C_, D_, E_, F_, G_, H_, I_, J_, K_, L_, M_, N_, O_, P_, reduceCtorEq, countQ_inl, countQ_inr]
  refine ⟨fun hlt => ?_, fun hge => ?_⟩
  · have hlt : k < e.length := by omega
    have nxt : ∀ b' : List Int, (∀ y, y ∈ b' ↔ y ∈ b ∨ ((e[k].1 : Int) = 8 ∧ (e[k].2 : Int) = y)) → ∀ y, y ∈ b' ↔ ∃ j, ∃ h : j < e.length, j < k + 1 ∧ (e[j].1 : Int) = 8 ∧ (e[j].2 : Int) = y := fun b' hb y => by
      rw [hb, hm]
      constructor
      · rintro (⟨j, h, h1, h2⟩ | h)
        · exact ⟨j, h, by omega, h2⟩
        · exact ⟨k, hlt, by omega, h⟩
      · rintro ⟨j, h, h1, h2⟩
        rcases Nat.lt_succ_iff_lt_or_eq.1 h1 with h3 | rfl
        · exact .inl ⟨j, h, h3, h2⟩
        · exact .inr h2
    have same : (e[k].1 : Int) ≠ 8 → ∀ y, y ∈ b ↔ ∃ j, ∃ h : j < e.length, j < k + 1 ∧ (e[j].1 : Int) = 8 ∧ (e[j].2 : Int) = y := fun h => nxt b fun y => ⟨.inl, fun g => g.resolve_right fun g => h g.1⟩
    simp only [idx_nat hlt, wrapS (m := e.length) (by omega) hlt, a_, b_, c_, d_, e_, f_, g_, h_, i_, j_, k_, l_, m_, n_, o_, p_, q_, r_, s_, t_, u_, v_, w_, x_, y_, z_, A_, B_, C_, D_, E_, F_, G_, H_, I_, J_, K_, L_, M_, N_, O_, P_, reduceCtorEq]
    have app : ∀ (q : List Int) (v : Int) (Q : List Int → Prop), q.length ≤ k → Q (q ++ [v]) → Wp (appA q [v]) Q := fun q v Q hq h => wp_app.2 ⟨by simp; omega, h⟩
    refine ⟨fun h => app _ _ _ l1 ⟨hlt, by simp; omega, same (by rw [h]; decide)⟩, fun _ => ⟨fun h => app _ _ _ l2 ⟨hlt, by simp; omega, nxt _ fun y => ?_⟩, fun h8 => ?_⟩⟩
    · rw [List.mem_append, List.mem_singleton]
      exact ⟨fun g => g.imp id fun g => ⟨h, g.symm⟩, fun g => g.imp id fun g => g.2.symm⟩
    · have Kk : k < e.length ∧ (a.length ≤ k + 1 ∧ b.length ≤ k + 1 ∧ c.length ≤ k + 1) ∧ ∀ y, y ∈ b ↔ ∃ j, ∃ h : j < e.length, j < k + 1 ∧ (e[j].1 : Int) = 8 ∧ (e[j].2 : Int) = y := ⟨hlt, by omega, same h8⟩
      have Cc : Wp (appA c [(e[k].2 : Int)]) fun x => k < e.length ∧ (a.length ≤ k + 1 ∧ b.length ≤ k + 1 ∧ x.length ≤ k + 1) ∧ ∀ y, y ∈ b ↔ ∃ j, ∃ h : j < e.length, j < k + 1 ∧ (e[j].1 : Int) = 8 ∧ (e[j].2 : Int) = y := app _ _ _ l3 ⟨hlt, by simp; omega, same h8⟩
      exact ⟨fun _ => ⟨fun _ => Cc, fun _ => Kk⟩, fun _ => ⟨fun _ => ⟨fun _ => Cc, fun _ => Kk⟩, fun _ => ⟨fun _ => ⟨fun _ => Cc, fun _ => Kk⟩, fun _ => ⟨fun _ => Cc, fun _ => Kk⟩⟩⟩⟩
  · refine (distinct_wp a (by omega)).mono fun _ _ => ?_
    refine (distinct_wp b (by omega)).mono fun r hr => ?_
    refine (distinct_wp c (by omega)).mono fun _ _ => ?_
    refine ⟨by omega, fun y => ?_⟩
    rw [hr.2, hm]
    unfold RefD
    constructor
    · rintro ⟨j, h, _, h2⟩
      exact ⟨_, List.getElem_mem h, h2⟩
    · rintro ⟨n, hn, h⟩
      obtain ⟨j, hj, rfl⟩ := List.getElem_of_mem hn
      exact ⟨j, hj, by omega, h⟩
/-- The definitions of a scope of n that a rule refers to. -/
def DefR (r : Rul) (n : Nat) (y : Int) : Prop := (RefD r.2.2.2.2.2.1 y ∨ RefD r.2.2.2.2.2.2.1 y) ∧ 0 ≤ y ∧ y < (n : Int)
theorem filt_wp (l o : List Int) (n : Nat) (hl : l.length ≤ 100000) (ho : o.length ≤ 100000) : Wp (Loop (S := Int × List Int) (X := List Int) (fun s4 =>
      (if (decide (s4.1 < (l.length : Int))) = true then
      ((idx l s4.1).bind fun x6 =>
      ((if (decide ((0 : Int) ≤ x6)) = true then
      some (decide (x6 < (n : Int)))
      else
      some false) : Option (Bool)).bind fun j7 =>
      (if j7 = true then
      (appA s4.2 ([x6] : List Int)).bind fun l8 =>
      some l8
      else
      some s4.2) : Option (List Int)).bind fun j5 =>
      some (Sum.inl (IntKind.i64.wrap (s4.1 + (1 : Int)), j5))
      else
      some (Sum.inr s4.2))) big ((0 : Int), o)) fun r => r.length ≤ o.length + l.length ∧ ∀ y, y ∈ r ↔ y ∈ o ∨ (y ∈ l ∧ 0 ≤ y ∧ y < (n : Int)) := by
  refine Wp.count (fun s => s.1) l.length (fun k s => s.2.length ≤ o.length + k ∧ ∀ y, y ∈ s.2 ↔ y ∈ o ∨ ((∃ j, ∃ h : j < l.length, j < k ∧ l[j] = y) ∧ 0 ≤ y ∧ y < (n : Int))) (by omega) rfl ⟨by simp, fun y => by simp⟩ fun k s hk hs hJ => ?_
  obtain ⟨i, q⟩ := s
  obtain ⟨h1, hm⟩ := hJ
  dsimp only at hs h1 hm
  subst hs
  simp only [a_, b_, c_, d_, e_, f_, g_, h_, i_, j_, k_, l_, m_, n_, o_, p_, q_, r_, s_, t_, u_, v_, w_, x_, y_, z_, A_, B_, C_, D_, E_, F_, G_, H_, I_, J_, K_, L_, M_, N_, O_, P_, reduceCtorEq, countQ_inl, countQ_inr]
  refine ⟨fun hlt => ?_, fun hge => ?_⟩
  · have hlt : k < l.length := by omega
    simp only [idx_nat hlt, wrapS (m := l.length) (by omega) hlt, a_, b_, c_, d_, e_, f_, g_, h_, i_, j_, k_, l_, m_, n_, o_, p_, q_, r_, s_, t_, u_, v_, w_, x_, y_, z_, A_, B_, C_, D_, E_, F_, G_, H_, I_, J_, K_, L_, M_, N_, O_, P_, reduceCtorEq]
    have keep : ¬ (0 ≤ l[k] ∧ l[k] < (n : Int)) → k < l.length ∧ q.length ≤ o.length + (k + 1) ∧ ∀ y, y ∈ q ↔ y ∈ o ∨ ((∃ j, ∃ h : j < l.length, j < k + 1 ∧ l[j] = y) ∧ 0 ≤ y ∧ y < (n : Int)) := fun hn => ⟨hlt, by omega, fun y => by
      rw [hm]
      refine or_congr Iff.rfl (and_congr_left fun hy => ⟨fun ⟨j, h, h1, h2⟩ => ⟨j, h, by omega, h2⟩, fun ⟨j, h, h1, h2⟩ => ?_⟩)
      rcases Nat.lt_succ_iff_lt_or_eq.1 h1 with h3 | rfl
      · exact ⟨j, h, h3, h2⟩
      · exact absurd (h2 ▸ hy) hn⟩
    refine ⟨fun h0 => ⟨fun h1' => wp_app.2 ⟨by simp; omega, hlt, by simp; omega, fun y => ?_⟩, fun h1' => keep fun g => h1' g.2⟩, fun h0 => keep fun g => h0 g.1⟩
    rw [List.mem_append, List.mem_singleton, hm]
    constructor
    · rintro ((h | ⟨⟨j, h, h2, h3⟩, h4⟩) | rfl)
      · exact .inl h
      · exact .inr ⟨⟨j, h, by omega, h3⟩, h4⟩
      · exact .inr ⟨⟨k, hlt, by omega, rfl⟩, h0, h1'⟩
    · rintro (h | ⟨⟨j, h, h2, h3⟩, h4⟩)
      · exact .inl (.inl h)
      · rcases Nat.lt_succ_iff_lt_or_eq.1 h2 with h5 | rfl
        · exact .inl (.inr ⟨⟨j, h, h5, h3⟩, h4⟩)
        · exact .inr h3.symm
  · refine ⟨by omega, fun y => ?_⟩
    rw [hm]
    refine or_congr Iff.rfl (and_congr_left fun hy => ⟨fun ⟨j, h, _, h2⟩ => h2 ▸ List.getElem_mem h, fun h => ?_⟩)
    obtain ⟨j, hj, e⟩ := List.getElem_of_mem h
    exact ⟨j, hj, by omega, e⟩
theorem defsOf_wp (r : Rul) (n : Nat) (h1 : r.2.2.2.2.2.1.length ≤ 50) (h2 : r.2.2.2.2.2.2.1.length ≤ 50) : Wp (M.deps_definitionsOf big r (n : Int)) fun l => l.length ≤ 100 ∧ ∀ y, y ∈ l ↔ DefR r n y := by
  unfold M.deps_definitionsOf
  rw [wp_bind]
  refine (references_wp _ (by omega)).mono fun a ha => ?_
  rw [wp_bind]
  refine (references_wp _ (by omega)).mono fun b hb => ?_
  rw [wp_bind]
  refine (filt_wp a.2.1 [] n (by omega) (by simp)).mono fun c hc => ?_
  have hcl := hc.1
  simp only [List.length_nil] at hcl
  refine (filt_wp b.2.1 c n (by omega) (by omega)).mono fun q hq => ⟨by omega, fun y => ?_⟩
  rw [hq.2, hc.2, ha.2, hb.2]
  unfold DefR
  constructor
  · rintro ((h | h) | h)
    · cases h
    · exact ⟨.inl h.1, h.2⟩
    · exact ⟨.inr h.1, h.2⟩
  · rintro ⟨h | h, h3⟩
    · exact .inl (.inr ⟨h, h3⟩)
    · exact .inr ⟨h, h3⟩


theorem mem_insIf (n : Nat) (y : Int) : ∀ (l out : List Int), y ∈ insIf n out l ↔ y ∈ out ∨ (y ∈ l ∧ 0 ≤ y ∧ y < (n : Int))
  | [], out => by show y ∈ out ↔ _; simp
  | x :: l, out => by
    show y ∈ insIf n (if 0 ≤ x ∧ x < (n : Int) then ins x out else out) l ↔ _
    rw [mem_insIf n y l]
    split
    · rename_i h
      rw [mem_ins, List.mem_cons]
      constructor
      · rintro ((rfl | h1) | ⟨h1, h2⟩)
        · exact .inr ⟨.inl rfl, h⟩
        · exact .inl h1
        · exact .inr ⟨.inr h1, h2⟩
      · rintro (h1 | ⟨h1 | h1, h2⟩)
        · exact .inl (.inr h1)
        · exact .inl (.inl h1)
        · exact .inr ⟨h1, h2⟩
    · rename_i h
      rw [List.mem_cons]
      constructor
      · rintro (h1 | ⟨h1, h2⟩)
        · exact .inl h1
        · exact .inr ⟨.inr h1, h2⟩
      · rintro (h1 | ⟨h1 | h1, h2⟩)
        · exact .inl h1
        · exact absurd (h1 ▸ h2) h
        · exact .inr ⟨h1, h2⟩
theorem mem_dirS (s : Scp) (d y : Int) : Dp s d y ↔ (0 ≤ d ∧ d < (s.2.2.2.1.length : Int)) ∧ ∃ r ∈ s.2.2.2.2, (r.2.1 : Int) = d ∧ DefR r s.2.2.2.1.length y := by
  unfold Dp dirS
  split
  · rename_i hd
    suffices ∀ (rs : List Rul) (out : List Int), y ∈ rs.foldl (fun out r => if (r.2.1 : Int) = d then insIf s.2.2.2.1.length (insIf s.2.2.2.1.length out (refsBy isDef r.2.2.2.2.2.1)) (refsBy isDef r.2.2.2.2.2.2.1) else out) out ↔ y ∈ out ∨ ∃ r ∈ rs, (r.2.1 : Int) = d ∧ DefR r s.2.2.2.1.length y by
      rw [this]; simp [hd]
    intro rs
    induction rs with
    | nil => intro out; simp
    | cons r rs ih =>
      intro out
      rw [List.foldl_cons, ih]
      split
      · rename_i h
        rw [mem_insIf, mem_insIf, mem_refsDef, mem_refsDef]
        unfold DefR
        constructor
        · rintro (((h1 | h1) | h1) | ⟨q, hq, h1⟩)
          · exact .inl h1
          · exact .inr ⟨r, by simp, h, .inl h1.1, h1.2⟩
          · exact .inr ⟨r, by simp, h, .inr h1.1, h1.2⟩
          · exact .inr ⟨q, by simp [hq], h1⟩
        · rintro (h1 | ⟨q, hq, h1, h2, h3⟩)
          · exact .inl (.inl (.inl h1))
          · rcases List.mem_cons.1 hq with rfl | hq
            · rcases h2 with h2 | h2
              · exact .inl (.inl (.inr ⟨h2, h3⟩))
              · exact .inl (.inr ⟨h2, h3⟩)
            · exact .inr ⟨q, hq, h1, h2, h3⟩
      · rename_i h
        constructor
        · rintro (h1 | ⟨q, hq, h1⟩)
          · exact .inl h1
          · exact .inr ⟨q, by simp [hq], h1⟩
        · rintro (h1 | ⟨q, hq, h1, h2⟩)
          · exact .inl h1
          · rcases List.mem_cons.1 hq with rfl | hq
            · exact absurd h1 h
            · exact .inr ⟨q, hq, h1, h2⟩
  · rename_i hd
    simp [hd]
/-- The lists of direct dependencies. -/
def DirL (s : Scp) (L : List (List Int)) : Prop := L.length = s.2.2.2.1.length ∧ ∀ d, ∀ h : d < L.length, L[d].length ≤ 6000 ∧ ∀ y, y ∈ L[d] ↔ Dp s (d : Int) y
theorem allDirect_wp (s : Scp) (hs : SmallS s) : Wp (M.deps_allDirect big s) (DirL s) := by
  have h14 := hs.2.2.1
  have h60 := hs.2.2.2.1
  have hru := hs.2.2.2.2.2.2
  unfold M.deps_allDirect
  rw [wp_bind]
  refine wp_mkL.2 ⟨by omega, ?_⟩
  rw [wp_bind, Int.toNat_natCast]
  refine Wp.count (fun s => s.1) s.2.2.2.2.length (fun k q => q.2.length = s.2.2.2.1.length ∧ ∀ d, ∀ h : d < q.2.length, q.2[d].length ≤ 100 * k ∧ ∀ y, y ∈ q.2[d] ↔ ∃ j, ∃ h : j < s.2.2.2.2.length, j < k ∧ (s.2.2.2.2[j].2.1 : Int) = (d : Int) ∧ DefR s.2.2.2.2[j] s.2.2.2.1.length y) (by omega) rfl ⟨by simp, fun d h => by simp⟩ fun k q hk hs' hJ => ?_
  obtain ⟨i, q⟩ := q
  obtain ⟨hl, hm⟩ := hJ
  dsimp only at hs' hl hm
  subst hs'
  simp only [a_, b_, c_, d_, e_, f_, g_, h_, i_, j_, k_, l_, m_, n_, o_, p_, q_, r_, s_, t_, u_, v_, w_, x_, y_, z_, A_, B_, C_, D_, E_, F_, G_, H_, I_, J_, K_, L_, M_, N_, O_, P_, reduceCtorEq, countQ_inl, countQ_inr]
  refine ⟨fun hlt => ?_, fun hge => ?_⟩
  · have hlt : k < s.2.2.2.2.length := by omega
    have hrk := hru _ (List.getElem_mem hlt)
    simp only [idx_nat hlt, wrapS (m := s.2.2.2.2.length) (by omega) hlt, hl, a_, b_, c_, d_, e_, f_, g_, h_, i_, j_, k_, l_, m_, n_, o_, p_, q_, r_, s_, t_, u_, v_, w_, x_, y_, z_, A_, B_, C_, D_, E_, F_, G_, H_, I_, J_, K_, L_, M_, N_, O_, P_, reduceCtorEq]
    have old : ∀ d, ∀ h : d < q.length, (¬ (s.2.2.2.2[k].2.1 : Int) = (d : Int)) → q[d].length ≤ 100 * (k + 1) ∧ ∀ y, y ∈ q[d] ↔ ∃ j, ∃ h : j < s.2.2.2.2.length, j < k + 1 ∧ (s.2.2.2.2[j].2.1 : Int) = (d : Int) ∧ DefR s.2.2.2.2[j] s.2.2.2.1.length y := fun d h hn => ⟨by have := (hm d h).1; omega, fun y => by
      rw [(hm d h).2]
      constructor
      · rintro ⟨j, h1, h2, h3⟩; exact ⟨j, h1, by omega, h3⟩
      · rintro ⟨j, h1, h2, h3, h4⟩
        rcases Nat.lt_succ_iff_lt_or_eq.1 h2 with h5 | rfl
        · exact ⟨j, h1, h5, h3, h4⟩
        · exact absurd h3 hn⟩
    have dfo := defsOf_wp s.2.2.2.2[k] s.2.2.2.1.length hrk.2.2.1 hrk.2.2.2
    obtain ⟨(v : Int), hv⟩ : ∃ v : Int, v = s.2.2.2.2[k].2.1 := ⟨_, rfl⟩
    simp only [← hv] at old ⊢
    refine ⟨fun h0 => ⟨fun h1 => ?_, fun h1 => ⟨hlt, fun d h => old d (by omega) fun e => h1 (e ▸ Int.ofNat_lt.2 h)⟩⟩, fun h0 => ⟨hlt, fun d h => old d (by omega) fun e => h0 (e ▸ Int.natCast_nonneg d)⟩⟩
    obtain ⟨c, rfl⟩ := Int.eq_ofNat_of_zero_le h0
    have hc : c < q.length := by rw [hl]; exact Int.ofNat_lt.1 h1
    simp only [idx_nat hc, a_, b_, c_, d_, e_, f_, g_, h_, i_, j_, k_, l_, m_, n_, o_, p_, q_, r_, s_, t_, u_, v_, w_, x_, y_, z_, A_, B_, C_, D_, E_, F_, G_, H_, I_, J_, K_, L_, M_, N_, O_, P_, reduceCtorEq]
    refine dfo.mono fun l9 h9 => wp_app.2 ⟨by have := (hm c hc).1; omega, ?_⟩
    refine ⟨hlt, by rw [modL_length]; exact hl, fun d h => ?_⟩
    have hd : d < q.length := by rw [modL_length] at h; exact h
    rw [modL_at h hd]
    by_cases e : (c : Int) = (d : Int)
    · rw [if_pos e]
      have e : c = d := by omega
      subst e
      refine ⟨by rw [List.length_append]; have := (hm c hd).1; have := h9.1; omega, fun y => ?_⟩
      rw [List.mem_append, (hm c hd).2, h9.2]
      constructor
      · rintro (⟨j, h1, h2, h3⟩ | h3)
        · exact ⟨j, h1, by omega, h3⟩
        · exact ⟨k, hlt, by omega, hv.symm, h3⟩
      · rintro ⟨j, h1, h2, h3, h4⟩
        rcases Nat.lt_succ_iff_lt_or_eq.1 h2 with h5 | rfl
        · exact .inl ⟨j, h1, h5, h3, h4⟩
        · exact .inr h4
    · rw [if_neg e]
      exact old d hd e
  obtain rfl : k = s.2.2.2.2.length := by omega
  have hm2 : ∀ d, ∀ h : d < q.length, q[d].length ≤ 6000 ∧ ∀ y, y ∈ q[d] ↔ Dp s (d : Int) y := fun d h => ⟨by have := (hm d h).1; omega, fun y => by
    rw [(hm d h).2, mem_dirS]
    constructor
    · rintro ⟨j, h1, _, h2, h3⟩
      exact ⟨by omega, _, List.getElem_mem h1, h2, h3⟩
    · rintro ⟨_, r, hr, h2, h3⟩
      obtain ⟨j, hj, rfl⟩ := List.getElem_of_mem hr
      exact ⟨j, hj, hj, h2, h3⟩⟩
  refine Wp.count (fun s => s.1) q.length (fun k z => z.2.length = q.length ∧ ∀ d, ∀ h : d < z.2.length, z.2[d].length ≤ 6000 ∧ ∀ y, y ∈ z.2[d] ↔ Dp s (d : Int) y) (by omega) rfl ⟨rfl, hm2⟩ fun k z hk hs' hJ => ?_
  obtain ⟨i, z⟩ := z
  obtain ⟨zl, zm⟩ := hJ
  dsimp only at hs' zl zm
  subst hs'
  simp only [a_, b_, c_, d_, e_, f_, g_, h_, i_, j_, k_, l_, m_, n_, o_, p_, q_, r_, s_, t_, u_, v_, w_, x_, y_, z_, A_, B_, C_, D_, E_, F_, G_, H_, I_, J_, K_, L_, M_, N_, O_, P_, reduceCtorEq, countQ_inl, countQ_inr]
  refine ⟨fun hlt => ?_, fun hge => ⟨by rw [zl]; exact hl, zm⟩⟩
  have hlt : k < q.length := by omega
  have hkz : k < z.length := by omega
  simp only [idx_nat hkz, wrapS (m := q.length) (by omega) hlt, a_, b_, c_, d_, e_, f_, g_, h_, i_, j_, k_, l_, m_, n_, o_, p_, q_, r_, s_, t_, u_, v_, w_, x_, y_, z_, A_, B_, C_, D_, E_, F_, G_, H_, I_, J_, K_, L_, M_, N_, O_, P_, reduceCtorEq]
  refine (sortedSet_wp z[k] (by have := (zm k hkz).1; omega)).mono fun r hr => ⟨hlt, by rw [modL_length]; exact zl, fun d h => ?_⟩
  have hd : d < z.length := by rw [modL_length] at h; exact h
  rw [modL_at h hd]
  by_cases e : (k : Int) = (d : Int)
  · rw [if_pos e]
    have e : k = d := by omega
    subst e
    exact ⟨by have := (zm k hd).1; have := hr.1; omega, fun y => by rw [hr.2]; exact (zm k hd).2 y⟩
  · rw [if_neg e]
    exact zm d hd


def Sn (seen : List Bool) (y : Int) : Prop := 0 ≤ y ∧ seen[y.toNat]? = some true
theorem Sn_set {seen : List Bool} {x : Int} (hx : 0 ≤ x ∧ x.toNat < seen.length) (y : Int) : Sn (setL seen x true) y ↔ y = x ∨ Sn seen y := by
  unfold Sn setL
  rw [List.getElem?_set]
  by_cases e : x.toNat = y.toNat
  · rw [if_pos e, if_pos hx.2]
    constructor
    · rintro ⟨h, _⟩; exact .inl (by omega)
    · rintro (rfl | ⟨h, _⟩)
      · exact ⟨hx.1, rfl⟩
      · exact ⟨h, rfl⟩
  · rw [if_neg e]
    constructor
    · exact .inr
    · rintro (rfl | h)
      · exact absurd rfl e
      · exact h
/-- What holds between two rounds; ex: what is being looked at. -/
structure RI (D : Int → Int → Prop) (d0 : Int) (n : Nat) (ex : Int → Prop) (seen : List Bool) (q : List Int) : Prop where
  len : seen.length = n
  qo : ∀ x ∈ q, 0 ≤ x ∧ x < (n : Int) ∧ (x = d0 ∨ Sn seen x)
  snd : ∀ y, Sn seen y → Rch D d0 y
  clo : ∀ x, (x = d0 ∨ Sn seen x) → x ∈ q ∨ ex x ∨ ∀ y, D x y → Sn seen y
  bud : q.length + seen.count false ≤ n + 1
theorem reached_wp (s : Scp) (L : List (List Int)) (hL : DirL s L) (d : Nat) (hd : d < s.2.2.2.1.length) (h14 : s.2.2.2.1.length ≤ 14) : Wp (M.deps_reached big L (d : Int)) fun r => r.length ≤ 1000 ∧ ∀ y, y ∈ r ↔ Rch (Dp s) (d : Int) y := by
  obtain ⟨hl, hL⟩ := hL
  have hD : ∀ a b, Dp s a b → 0 ≤ b ∧ b < (s.2.2.2.1.length : Int) := fun a b h => (dirS_srt s a).2 b h
  generalize s.2.2.2.1.length = n at *
  unfold M.deps_reached
  rw [wp_bind]
  refine wp_mkL.2 ⟨by omega, ?_⟩
  rw [wp_bind, Int.toNat_natCast, hl]
  refine Wp.loop (fun q => RI (Dp s) (d : Int) n (fun _ => False) q.1 q.2) (fun q => 2 * q.1.count false + q.2.length) ?_ ?_ fun q hq => ?_
  · refine ⟨by simp, fun x hx => ?_, fun y hy => ?_, fun x hx => ?_, by simp; omega⟩
    · rw [List.mem_singleton.1 hx]; exact ⟨by omega, by omega, .inl rfl⟩
    · exfalso
      have := hy.2
      rw [List.getElem?_replicate] at this
      split at this <;> cases this
    · rcases hx with rfl | hx
      · exact .inl (by simp)
      · exfalso
        have := hx.2
        rw [List.getElem?_replicate] at this
        split at this <;> cases this
  · simp [List.count_replicate]; unfold big; omega
  obtain ⟨seen, q⟩ := q
  dsimp only at hq
  dsimp only
  have hcn : ∀ l : List Bool, l.count false ≤ l.length := fun l => List.count_le_length
  refine Wp.dec (fun h0 => ?_) fun h0 => ?_
  · have hq0 : 0 < q.length := by omega
    obtain ⟨x, t, rfl⟩ := List.exists_cons_of_ne_nil (List.length_pos_iff.1 hq0)
    have hx := hq.qo x (by simp)
    obtain ⟨c, rfl⟩ := Int.eq_ofNat_of_zero_le hx.1
    have hc : c < L.length := by omega
    have i0 : idx ((c : Int) :: t) (0 : Int) = some (c : Int) := rfl
    have hcut : cutA ((c : Int) :: t) (1 : Int) (((c : Int) :: t).length : Int) = some t := by
      apply Wp.eq
      refine wp_cut.2 ⟨by simp; omega, ?_⟩
      rw [Int.toNat_natCast, List.take_length]
      rfl
    rw [i0, Option.bind_some, hcut, Option.bind_some, idx_nat hc, Option.bind_some]
    have hxr : ∀ y, Dp s (c : Int) y → Rch (Dp s) (d : Int) y := fun y h => by
      rcases hx.2.2 with e | e
      · exact .one (e ▸ h)
      · exact .step (hq.snd _ e) h
    have hlist := (hL c hc).2
    have hll := (hL c hc).1
    have hb0 := hq.bud
    simp only [List.length_cons] at hb0
    generalize L[c] = l at *
    refine Wp.count (fun s => s.1) l.length (fun k z => RI (Dp s) (d : Int) n (fun y => y = (c : Int)) z.2.1 z.2.2 ∧ (∀ j, j < k → ∀ h : j < l.length, Sn z.2.1 l[j]) ∧ 2 * z.2.1.count false + z.2.2.length ≤ 2 * seen.count false + t.length) (by omega) rfl ⟨⟨hq.len, fun x hx => hq.qo x (by simp [hx]), hq.snd, fun x hx => ?_, by dsimp only; omega⟩, fun j hj => by omega, Nat.le_refl _⟩ fun k z hk hs' hJ => ?_
    · rcases hq.clo x hx with h | h | h
      · rcases List.mem_cons.1 h with rfl | h
        · exact .inr (.inl rfl)
        · exact .inl h
      · exact h.elim
      · exact .inr (.inr h)
    obtain ⟨i, sn, qu⟩ := z
    obtain ⟨hR, hP, hB⟩ := hJ
    dsimp only at hs' hR hP hB
    subst hs'
    simp only [a_, b_, c_, d_, e_, f_, g_, h_, i_, j_, k_, l_, m_, n_, o_, p_, q_, r_, s_, t_, u_, v_, w_, x_, y_, z_, A_, B_, C_, D_, E_, F_, G_, H_, I_, J_, K_, L_, M_, N_, O_, P_, reduceCtorEq, countQ_inl, countQ_inr]
    refine ⟨fun hlt => ?_, fun hge => ?_⟩
    · have hlt : k < l.length := by omega
      have hy : Dp s (c : Int) l[k] := (hlist _).1 (List.getElem_mem hlt)
      have hyr := hD _ _ hy
      simp only [idx_nat hlt, wrapS (m := l.length) (by omega) hlt, a_, b_, c_, d_, e_, f_, g_, h_, i_, j_, k_, l_, m_, n_, o_, p_, q_, r_, s_, t_, u_, v_, w_, x_, y_, z_, A_, B_, C_, D_, E_, F_, G_, H_, I_, J_, K_, L_, M_, N_, O_, P_, reduceCtorEq]
      obtain ⟨y, hye⟩ : ∃ y, y = l[k] := ⟨_, rfl⟩
      simp only [← hye] at hy hyr ⊢
      have hyl : y.toNat < sn.length := by rw [hR.len]; omega
      refine wp_idx.2 ⟨by rw [hR.len]; omega, fun hf => wp_idx.2 ⟨by rw [hR.len]; omega, wp_app.2 ⟨?_, hlt, ?_⟩⟩, fun ht => ⟨hlt, hR, pre_succ hP fun _ => ?_, hB⟩⟩
      · have := hR.bud; simp; omega
      · have hset := Sn_set (seen := sn) (x := y) ⟨hyr.1, hyl⟩
        have hcnt : (setL sn y true).count false + 1 = sn.count false := by
          unfold setL
          rw [List.count_set hyl]
          have h1 : 0 < sn.count false := List.count_pos_iff.2 (hf ▸ List.getElem_mem hyl)
          simp [hf]
          omega
        refine ⟨⟨by unfold setL; simp [hR.len], fun x hx => ?_, fun z hz => ?_, fun x hx => ?_, ?_⟩, pre_succ (fun j hj h => ?_) fun h => ?_, ?_⟩
        · rcases List.mem_append.1 hx with hx | hx
          · obtain ⟨a1, a2, a3⟩ := hR.qo x hx
            exact ⟨a1, a2, a3.imp id fun g => (hset x).2 (.inr g)⟩
          · rw [List.mem_singleton.1 hx]
            exact ⟨hyr.1, hyr.2, .inr ((hset y).2 (.inl rfl))⟩
        · rcases (hset z).1 hz with rfl | hz
          · exact hxr _ hy
          · exact hR.snd z hz
        · have go : x = (d : Int) ∨ Sn sn x → x ∈ qu ++ [y] ∨ x = (c : Int) ∨ ∀ z, Dp s x z → Sn (setL sn y true) z := fun g => by
            rcases hR.clo x g with h | h | h
            · exact .inl (by simp [h])
            · exact .inr (.inl h)
            · exact .inr (.inr fun z hz => (hset z).2 (.inr (h z hz)))
          rcases hx with hx | hx
          · exact go (.inl hx)
          · rcases (hset x).1 hx with rfl | hx
            · exact .inl (by simp)
            · exact go (.inr hx)
        · have := hR.bud; simp; omega
        · exact (hset _).2 (.inr (hP j hj h))
        · exact (hset _).2 (.inl hye.symm)
        · simp; omega
      · rw [← hye]
        exact ⟨hyr.1, by rw [List.getElem?_eq_getElem hyl, ht]⟩
    · obtain rfl : k = l.length := by omega
      show LoopW _ _ _ _ (.inl _)
      refine ⟨⟨hR.len, hR.qo, hR.snd, fun x hx => ?_, hR.bud⟩, ?_⟩
      · rcases hR.clo x hx with h | h | h
        · exact .inl h
        · refine .inr (.inr fun y hy => ?_)
          rw [h] at hy
          obtain ⟨j, hj, e⟩ := List.getElem_of_mem ((hlist y).2 hy)
          exact e ▸ hP j hj hj
        · exact .inr (.inr h)
      · show 2 * sn.count false + qu.length < 2 * seen.count false + ((c : Int) :: t).length
        simp only [List.length_cons]
        omega
  · have hq0 : q = [] := by
      cases q with
      | nil => rfl
      | cons x t => simp at h0
    subst hq0
    refine .some ?_
    show Wp _ _
    have hsn : ∀ y, Sn seen y ↔ Rch (Dp s) (d : Int) y := fun y => ⟨hq.snd y, fun h => by
      have cl : ∀ x, (x = (d : Int) ∨ Sn seen x) → ∀ z, Dp s x z → Sn seen z := fun x hx => by
        rcases hq.clo x hx with h | h | h
        · cases h
        · exact h.elim
        · exact h
      induction h with
      | one h => exact cl _ (.inl rfl) _ h
      | step _ g ih => exact cl _ (.inr ih) _ g⟩
    have hsl := hq.len
    refine Wp.count (fun s => s.1) seen.length (fun k z => z.2.length ≤ k ∧ ∀ y, y ∈ z.2 ↔ Sn seen y ∧ y < (k : Int)) (by omega) rfl ⟨by simp, fun y => ⟨fun h => (by cases h), fun h => (by have := h.1.1; have := h.2; omega)⟩⟩ fun k z hk hs' hJ => ?_
    obtain ⟨i, o⟩ := z
    obtain ⟨hJ1, hJ⟩ := hJ
    dsimp only at hs' hJ1 hJ
    subst hs'
    simp only [a_, b_, c_, d_, e_, f_, g_, h_, i_, j_, k_, l_, m_, n_, o_, p_, q_, r_, s_, t_, u_, v_, w_, x_, y_, z_, A_, B_, C_, D_, E_, F_, G_, H_, I_, J_, K_, L_, M_, N_, O_, P_, reduceCtorEq, countQ_inl, countQ_inr]
    refine ⟨fun hlt => ?_, fun hge => ⟨by omega, fun y => ?_⟩⟩
    · have hlt : k < seen.length := by omega
      have hk2 : Sn seen (k : Int) ↔ seen[k] = true := by
        unfold Sn
        rw [Int.toNat_natCast, List.getElem?_eq_getElem hlt]
        simp
      simp only [idx_nat hlt, wrapS (m := seen.length) (by omega) hlt, a_, b_, c_, d_, e_, f_, g_, h_, i_, j_, k_, l_, m_, n_, o_, p_, q_, r_, s_, t_, u_, v_, w_, x_, y_, z_, A_, B_, C_, D_, E_, F_, G_, H_, I_, J_, K_, L_, M_, N_, O_, P_, reduceCtorEq]
      refine ⟨fun h => wp_app.2 ⟨by simp; omega, hlt, by simp; omega, fun y => ?_⟩, fun h => ⟨hlt, by omega, fun y => ?_⟩⟩
      · rw [List.mem_append, List.mem_singleton, hJ]
        constructor
        · rintro (⟨h1, h2⟩ | rfl)
          · exact ⟨h1, by omega⟩
          · exact ⟨hk2.2 h, by omega⟩
        · rintro ⟨h1, h2⟩
          by_cases e : y = (k : Int)
          · exact .inr e
          · exact .inl ⟨h1, by omega⟩
      · rw [hJ]
        refine ⟨fun ⟨h1, h2⟩ => ⟨h1, by omega⟩, fun ⟨h1, h2⟩ => ⟨h1, ?_⟩⟩
        have : y ≠ (k : Int) := fun e => by
          rw [e, hk2, h] at h1; cases h1
        omega
    · rw [hJ, ← hsn]
      refine ⟨fun h => h.1, fun h => ⟨h, ?_⟩⟩
      have := (List.getElem?_eq_some_iff.1 h.2).1
      have := h.1
      omega
theorem CyOK.all (x : Scp) (hs : SmallS x) : CyOK x := fun d hd => by
  have key : Wp (M.deps_Transitive big x (d : Int)) fun tr => tr.length ≤ 1000 ∧ ∀ y, y ∈ tr ↔ Rch (Dp x) (d : Int) y := by
    unfold M.deps_Transitive
    rw [if_neg (by simp), Option.bind_some, if_neg (by simp; omega), wp_bind]
    refine (allDirect_wp x hs).mono fun L hL => ?_
    rw [wp_bind]
    exact (reached_wp x L hL d hd hs.2.2.1).mono fun r hr => .some hr
  obtain ⟨tr, e, h1, h2⟩ := key
  exact ⟨tr, e, h1, by rw [h2, trS_mem]⟩
/-- The program's Validate is that of the reference. -/
theorem pval_eq (l : Lw) (hw : WF rLaw l) (hsm : SmallL l) : M.law_Validate big l = some (valS l) :=
  validate_eq l hw hsm (fun _ _ => TyOK.all _) fun x hx => CyOK.all x (hsm.2.2.2.2.2 x hx)
end L
end Go.Proofs.YtjeeligfdpociaaGreat
