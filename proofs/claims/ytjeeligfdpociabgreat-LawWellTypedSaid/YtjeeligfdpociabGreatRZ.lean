/- Chapter 16: the order of evaluation (plain): each definition is the least that is ready; without a cycle it holds all of them. -/
import Derived.Test.YtjeeligfdpociabGreatRY
namespace Go.Proofs.YtjeeligfdpociabGreat
open Go Go.RowKit
set_option maxRecDepth 100000
set_option linter.unusedSimpArgs false
set_option linter.unusedVariables false
namespace L

/-- Ready: not yet placed, and whatever it refers to is placed. -/
def Rdy (s : Scp) (p : List Int) (d : Int) : Prop := (0 ≤ d ∧ d < (s.2.2.2.1.length : Int)) ∧ d ∉ p ∧ ∀ y, Dp s d y → y ∈ p
/-- Each is the least that is ready. -/
def OrdP (s : Scp) (o : List Int) : Prop := ∀ k, ∀ h : k < o.length, Rdy s (o.take k) o[k] ∧ ∀ d, Rdy s (o.take k) d → o[k] ≤ d
theorem OrdP.snoc {s : Scp} {o : List Int} {x : Int} (h : OrdP s o) (hx : Rdy s o x) (hm : ∀ d, Rdy s o d → x ≤ d) : OrdP s (o ++ [x]) := fun k hk => by
  by_cases e : k < o.length
  · have := h k e
    rw [List.getElem_append_left e, List.take_append_of_le_length (by omega)]
    exact this
  · have e : k = o.length := by simp at hk; omega
    subst e
    rw [List.getElem_append_right (Nat.le_refl _), List.take_left']
    · simpa using ⟨hx, hm⟩
    · rfl
theorem OrdP.mem {s : Scp} {o : List Int} (h : OrdP s o) {x : Int} (hx : x ∈ o) : (0 ≤ x ∧ x < (s.2.2.2.1.length : Int)) ∧ ∀ y, Dp s x y → y ∈ o := by
  obtain ⟨k, hk, rfl⟩ := List.getElem_of_mem hx
  obtain ⟨h1, _⟩ := h k hk
  exact ⟨h1.1, fun y hy => List.mem_of_mem_take (h1.2.2 y hy)⟩
theorem OrdP.nodup {s : Scp} {o : List Int} (h : OrdP s o) : o.Nodup := by
  rw [List.nodup_iff_pairwise_ne, List.pairwise_iff_getElem]
  intro i j hi hj hij e
  refine (h j hj).1.2.1 ?_
  rw [← e]
  rw [List.mem_take_iff_getElem]
  exact ⟨i, by omega, rfl⟩
theorem rng_len {n : Nat} {l : List Int} (hn : l.Nodup) (h : ∀ x ∈ l, 0 ≤ x ∧ x < (n : Int)) : l.length ≤ n := by
  have := nodup_len (m := (List.range n).map fun k : Nat => (k : Int)) hn fun y hy => by
    obtain ⟨a, b⟩ := h y hy
    exact List.mem_map.2 ⟨y.toNat, List.mem_range.2 (by omega), by omega⟩
  simpa using this
theorem OrdP.len {s : Scp} {o : List Int} (h : OrdP s o) : o.length ≤ s.2.2.2.1.length := rng_len h.nodup fun x hx => (h.mem hx).1
theorem idx_q {α : Type} {l : List α} {i : Int} (h : 0 ≤ i) : idx l i = l[i.toNat]? := by unfold idx; rw [if_pos h]
theorem set_q {α : Type} (l : List α) (i : Int) (v : α) (u : Nat) (hi : i.toNat < l.length) : (setL l i v)[u]? = if u = i.toNat then some v else l[u]? := by
  unfold setL
  rw [List.getElem?_set]
  by_cases e : u = i.toNat
  · rw [if_pos e.symm, if_pos hi, if_pos e]
  · rw [if_neg (fun g => e g.symm), if_neg e]

/-- The users of each definition, how many it waits for, and what is ready, behind the first k. -/
structure SetI (L : List (List Int)) (n k : Nat) (U : List (List Int)) (W H : List Int) : Prop where
  ul : U.length = n
  wl : W.length = n
  u : ∀ e, ∀ h : e < U.length, U[e].length ≤ 6000 * k ∧ ∀ u : Int, U[e].count u = if 0 ≤ u ∧ u < (k : Int) then (L.getD u.toNat []).count (e : Int) else 0
  w : ∀ u, u < k → W[u]? = some ((L.getD u []).length : Int)
  hp : Heap H H.length
  nd : H.Nodup
  h : ∀ u : Int, u ∈ H ↔ (0 ≤ u ∧ u < (k : Int)) ∧ L.getD u.toNat [] = []
theorem SetI.hl {L : List (List Int)} {n k : Nat} {U : List (List Int)} {W H : List Int} (h : SetI L n k U W H) : H.length ≤ k := rng_len h.nd fun x hx => ((h.h x).1 hx).1
/-- Between two rounds. -/
structure OrdI (s : Scp) (L : List (List Int)) (n : Nat) (W O H : List Int) : Prop where
  wl : W.length = n
  o : OrdP s O
  w : ∀ u, u < n → W[u]? = some (((L.getD u []).countP fun y => decide (y ∉ O) : Nat) : Int)
  hp : Heap H H.length
  nd : H.Nodup
  h : ∀ u : Int, u ∈ H ↔ Rdy s O u
/-- Within a round: O holds what is placed now, l what is still to be told. -/
structure InI (s : Scp) (L : List (List Int)) (n : Nat) (O l : List Int) (W H : List Int) : Prop where
  wl : W.length = n
  w : ∀ u, u < n → W[u]? = some (((L.getD u []).countP (fun y => decide (y ∉ O)) + l.count (u : Int) : Nat) : Int)
  hp : Heap H H.length
  nd : H.Nodup
  h : ∀ u : Int, u ∈ H ↔ (0 ≤ u ∧ u < (n : Int)) ∧ u ∉ O ∧ W[u.toNat]? = some 0
theorem InI.hl {s : Scp} {L : List (List Int)} {n : Nat} {O l W H : List Int} (h : InI s L n O l W H) : H.length ≤ n := rng_len h.nd fun x hx => ((h.h x).1 hx).1

theorem getD_some {L : List (List Int)} {u : Nat} (h : u < L.length) : L.getD u [] = L[u] := by simp [h]
theorem countP_snoc (l O : List Int) (x : Int) (hx : x ∉ O) : l.countP (fun y => decide (y ∉ O)) = l.countP (fun y => decide (y ∉ O ++ [x])) + l.count x := by
  induction l with
  | nil => rfl
  | cons y l ih =>
    rw [List.countP_cons, List.countP_cons, List.count_cons, ih]
    by_cases e : y = x
    · subst e
      simp [hx]
      omega
    · by_cases h : y ∈ O
      · simp [h, e]
      · simp [h, e]
        omega

theorem users_wp (l : List Int) (d n : Nat) (U : List (List Int)) (hU : U.length = n) (hl : l.length ≤ 6000) (hr : ∀ y ∈ l, 0 ≤ y ∧ y < (n : Int)) (hb : ∀ e, ∀ h : e < U.length, U[e].length ≤ 100000) : Wp (Loop (S := Int × List (List Int)) (X := List (List Int)) (fun s13 =>
      (if (decide (s13.1 < (l.length : Int))) = true then
      (idx l s13.1).bind fun x14 =>
      (idx s13.2 x14).bind fun x15 =>
      (idx s13.2 x14).bind fun x16 =>
      (appA x16 ([(d : Int)] : List Int)).bind fun l17 =>
      (idx s13.2 x14).bind fun x18 =>
      (if decide (x14 = x14) = true then
      (idx s13.2 x14).bind fun x19 =>
      some (Sum.inl (IntKind.i64.wrap (s13.1 + (1 : Int)), modL s13.2 x14 (fun m20 => l17)))
      else none)
      else
      some (Sum.inr s13.2))) big ((0 : Int), U)) fun V => V.length = n ∧ ∀ e, ∀ h : e < V.length, ∀ h' : e < U.length, V[e].length ≤ U[e].length + l.length ∧ ∀ u : Int, V[e].count u = U[e].count u + if u = (d : Int) then l.count (e : Int) else 0 := by
  refine Wp.count (fun s => s.1) l.length (fun k s => s.2.length = n ∧ ∀ e, ∀ h : e < s.2.length, ∀ h' : e < U.length, s.2[e].length ≤ U[e].length + k ∧ ∀ u : Int, s.2[e].count u = U[e].count u + if u = (d : Int) then (l.take k).count (e : Int) else 0) (by omega) rfl ⟨hU, fun e h h' => ⟨Nat.le_refl _, fun u => by simp⟩⟩ fun k s hk hs hJ => ?_
  obtain ⟨i, V⟩ := s
  obtain ⟨hV, hJ⟩ := hJ
  dsimp only at hs hV hJ
  subst hs
  simp only [a_, b_, c_, d_, e_, f_, g_, h_, i_, j_, k_, l_, m_, n_, o_, p_, q_, r_, s_, t_, u_, v_, w_, x_, y_, z_, A_, B_, C_, D_, E_, F_, G_, H_, I_, J_, K_, L_, M_, N_, O_, P_, reduceCtorEq, countQ_inl, countQ_inr]
  refine ⟨fun hlt => ?_, fun hge => ?_⟩
  · have hlt : k < l.length := by omega
    obtain ⟨a0, a1⟩ := hr _ (List.getElem_mem hlt)
    obtain ⟨x, hx⟩ := Int.eq_ofNat_of_zero_le a0
    have hxV : x < V.length := by omega
    simp only [idx_nat hlt, hx, idx_nat hxV, wrapS (m := l.length) (by omega) hlt, a_, b_, c_, d_, e_, f_, g_, h_, i_, j_, k_, l_, m_, n_, o_, p_, q_, r_, s_, t_, u_, v_, w_, x_, y_, z_, A_, B_, C_, D_, E_, F_, G_, H_, I_, J_, K_, L_, M_, N_, O_, P_, reduceCtorEq]
    have hbx := (hJ x hxV (by omega)).1
    have := hb x (by omega)
    refine wp_app.2 ⟨by simp; omega, trivial |> fun _ => ⟨hlt, by rw [modL_length]; exact hV, fun e h h' => ?_⟩⟩
    have he : e < V.length := by rw [modL_length] at h; exact h
    have htk : l.take (k + 1) = l.take k ++ [l[k]] := (List.take_append_getElem hlt).symm
    rw [modL_at h he, htk, hx]
    by_cases e0 : (x : Int) = (e : Int)
    · rw [if_pos e0]
      have e0 : x = e := by omega
      subst e0
      refine ⟨by rw [List.length_append]; simp; omega, fun u => ?_⟩
      rw [List.count_append, (hJ x he (by omega)).2, List.count_append]
      by_cases eu : u = (d : Int)
      · rw [if_pos eu, if_pos eu, eu]; simp; omega
      · rw [if_neg eu, if_neg eu]
        have : List.count u [(d : Int)] = 0 := List.count_eq_zero.2 (by simpa using eu)
        omega
    · rw [if_neg e0]
      refine ⟨by have := (hJ e he h').1; omega, fun u => ?_⟩
      rw [(hJ e he h').2, List.count_append]
      have : List.count (e : Int) [(x : Int)] = 0 := List.count_eq_zero.2 (by simp; omega)
      rw [this]; rfl
  · obtain rfl : k = l.length := by omega
    rw [List.take_length] at hJ
    exact ⟨hV, hJ⟩

theorem told_wp (s : Scp) (L : List (List Int)) (n : Nat) (O l W H : List Int) (x : Int) (hn : n ≤ 14) (hll : l.length ≤ 100000) (hL : ∀ u, (L.getD u []).length ≤ 6000) (hI : InI s L n O l W H)
    (hl : ∀ u ∈ l, (0 ≤ u ∧ u < (n : Int)) ∧ u ∉ O) (Q : ((List Int × List Int × List Int) ⊕ (List Int × List Int)) → Prop) (hQ : ∀ W' H', InI s L n O [] W' H' → Q (.inl (W', O, H'))) : Wp (Loop (S := Int × (List Int) × List Int) (X := ((List Int) × (List Int) × List Int) ⊕ ((List Int) × List Int)) (fun s28 =>
      (if (decide (s28.1 < (l.length : Int))) = true then
      ((idx l s28.1).bind fun x30 =>
      (idx s28.2.1 x30).bind fun x31 =>
      (idx s28.2.1 x30).bind fun x32 =>
      (idx (setL s28.2.1 x30 (IntKind.i64.wrap (x31 - (1 : Int)))) x30).bind fun x33 =>
      (if (decide (x33 = (0 : Int))) = true then
      (M.container_heap_Push_v1 big x30 s28.2.2).bind fun y34 =>
      some (setL s28.2.1 x30 (IntKind.i64.wrap (x31 - (1 : Int))), y34)
      else
      some (setL s28.2.1 x30 (IntKind.i64.wrap (x31 - (1 : Int))), s28.2.2)) : Option ((List Int) × List Int)).bind fun j29 =>
      some (Sum.inl (IntKind.i64.wrap (s28.1 + (1 : Int)), j29.1, j29.2))
      else
      some (Sum.inr (Sum.inl (s28.2.1, O, s28.2.2))))) big ((0 : Int), W, H)) Q := by
  refine Wp.count (fun s => s.1) l.length (fun k z => InI s L n O (l.drop k) z.2.1 z.2.2) (by omega) rfl hI fun k z hk hs hJ => ?_
  obtain ⟨i, V, G⟩ := z
  dsimp only at hs hJ
  subst hs
  refine Wp.dec (fun hlt => ?_) fun hge => ?_
  · have hlt : k < l.length := by dsimp only at hlt; omega
    obtain ⟨⟨a0, a1⟩, a2⟩ := hl _ (List.getElem_mem hlt)
    have hdr : l.drop k = l[k] :: l.drop (k + 1) := List.drop_eq_getElem_cons hlt
    obtain ⟨u, hu⟩ := Int.eq_ofNat_of_zero_le a0
    rw [hu] at a1 a2 hdr
    have hun : u < n := by omega
    have hVl := hJ.wl
    have hw := hJ.w u hun
    rw [hdr, List.count_cons_self] at hw
    obtain ⟨a, ha⟩ : ∃ a, a = (L.getD u []).countP (fun y => decide (y ∉ O)) := ⟨_, rfl⟩
    obtain ⟨b, hb⟩ : ∃ b, b = (l.drop (k + 1)).count (u : Int) := ⟨_, rfl⟩
    have hab : a ≤ 6000 := by rw [ha]; exact Nat.le_trans List.countP_le_length (hL u)
    have hbb : b ≤ 100000 := by rw [hb]; exact Nat.le_trans List.count_le_length (by rw [List.length_drop]; omega)
    rw [← ha, ← hb] at hw
    have iw : idx V (u : Int) = some ((a + (b + 1) : Nat) : Int) := by rw [idx_q (by omega)]; exact hw
    have ew : IntKind.i64.wrap (((a + (b + 1) : Nat) : Int) - (1 : Int)) = ((a + b : Nat) : Int) := by rw [wrap_id (by omega) (by omega)]; omega
    have iv : idx (setL V (u : Int) ((a + b : Nat) : Int)) (u : Int) = some ((a + b : Nat) : Int) := by
      rw [idx_q (by omega), set_q _ _ _ _ (by omega), if_pos rfl]
    dsimp only
    rw [idx_nat hlt, hu, Option.bind_some, iw, Option.bind_some, Option.bind_some, ew, iv, Option.bind_some]
    have w' : ∀ v, v < n → (setL V (u : Int) ((a + b : Nat) : Int))[v]? = some (((L.getD v []).countP (fun y => decide (y ∉ O)) + (l.drop (k + 1)).count (v : Int) : Nat) : Int) := fun v hv => by
      rw [set_q _ _ _ _ (by omega)]
      by_cases e : v = u
      · subst e
        rw [if_pos (by omega), ← ha, ← hb]
      · rw [if_neg (by omega), hJ.w v hv, hdr, List.count_cons_of_ne (by omega)]
    have nH : (u : Int) ∉ G := fun g => by
      have := ((hJ.h _).1 g).2.2
      rw [Int.toNat_natCast, hw] at this
      cases this
    have hGl := hJ.hl
    by_cases e0 : a + b = 0
    · rw [if_pos (by rw [decide_eq_true_eq]; omega), wp_bind, wp_bind]
      refine (push_wp _ _ (by omega) hJ.hp).mono fun r hr => .some (.some ⟨hlt, ?_, ?_⟩)
      · exact wrapS (m := l.length) (by omega) hlt
      · refine ⟨by show (setL V _ _).length = n; unfold setL; rw [List.length_set]; exact hVl, w', hr.2, hr.1.nodup_iff.2 (List.nodup_cons.2 ⟨nH, hJ.nd⟩), fun v => ?_⟩
        show v ∈ r ↔ _ ∧ _ ∧ (setL V _ _)[v.toNat]? = some 0
        rw [hr.1.mem_iff, List.mem_cons, set_q _ _ _ _ (by omega), hJ.h v]
        by_cases e : v = (u : Int)
        · subst e
          rw [if_pos rfl]
          exact ⟨fun _ => ⟨⟨by omega, a1⟩, a2, by rw [e0]; rfl⟩, fun _ => .inl rfl⟩
        · constructor
          · rintro (h | ⟨h1, h2, h3⟩)
            · exact absurd h e
            · rw [if_neg (by omega)]; exact ⟨h1, h2, h3⟩
          · rintro ⟨h1, h2, h3⟩
            rw [if_neg (by omega)] at h3
            exact .inr ⟨h1, h2, h3⟩
    · rw [if_neg (by rw [decide_eq_true_eq]; omega), Option.bind_some]
      refine .some ⟨hlt, ?_, ?_⟩
      · exact wrapS (m := l.length) (by omega) hlt
      · refine ⟨by show (setL V _ _).length = n; unfold setL; rw [List.length_set]; exact hVl, w', hJ.hp, hJ.nd, fun v => ?_⟩
        show v ∈ G ↔ _ ∧ _ ∧ (setL V _ _)[v.toNat]? = some 0
        rw [set_q _ _ _ _ (by omega), hJ.h v]
        by_cases e : v = (u : Int)
        · subst e
          rw [if_pos rfl]
          refine ⟨fun h => absurd ((hJ.h _).2 h) nH, fun h => ?_⟩
          have := Option.some.inj h.2.2
          omega
        · constructor
          · rintro ⟨h1, h2, h3⟩
            rw [if_neg (by omega)]; exact ⟨h1, h2, h3⟩
          · rintro ⟨h1, h2, h3⟩
            rw [if_neg (by omega)] at h3
            exact ⟨h1, h2, h3⟩
  · have hge : k = l.length := by dsimp only at hge; omega
    subst hge
    rw [List.drop_length] at hJ
    exact .some (hQ _ _ hJ)

theorem order_wp (s : Scp) (hs : SmallS s) : Wp (M.deps_EvaluationOrder big s) fun r => ∃ o, OrdP s o ∧ (∀ d, ¬ Rdy s o d) ∧ r = if o.length < s.2.2.2.1.length then ((9 : Int), ([] : List Int)) else ((0 : Int), o) := by
  have h14 := hs.2.2.1
  unfold M.deps_EvaluationOrder
  refine Wp.seq (DirL s) ?_ fun L hL => ?_
  · have e : M.deps_allDirect_v1 big s = M.deps_allDirect big s := rfl
    rw [e, wp_bind]
    exact (allDirect_wp s hs).mono fun L hL => .some hL
  obtain ⟨hLl, hL⟩ := hL
  have hDr : ∀ a b, Dp s a b → 0 ≤ b ∧ b < (s.2.2.2.1.length : Int) := fun a b h => (dirS_srt s a).2 b h
  have hLq : ∀ u, (L.getD u []).length ≤ 6000 := fun u => by
    by_cases h : u < L.length
    · rw [getD_some h]; exact (hL u h).1
    · rw [List.getD_eq_getElem?_getD, List.getElem?_eq_none (by omega)]; exact Nat.zero_le _
  have hLm : ∀ u : Nat, u < s.2.2.2.1.length → ∀ y, y ∈ L.getD u [] ↔ Dp s (u : Int) y := fun u hu y => by
    rw [getD_some (by omega)]
    exact (hL u (by omega)).2 y
  obtain ⟨n, hn⟩ : ∃ n, n = s.2.2.2.1.length := ⟨_, rfl⟩
  rw [← hn] at h14 hLl hDr hLm ⊢
  rw [wp_bind]
  refine wp_mkL.2 ⟨by omega, ?_⟩
  rw [wp_bind]
  refine wp_mkL.2 ⟨by omega, ?_⟩
  rw [Int.toNat_natCast, hLl]
  refine Wp.seq (fun z => SetI L n n z.1 z.2.1 z.2.2) ?_ fun z hz => ?_
  · rw [wp_bind]
    refine Wp.mono (Q := fun z => SetI L n n z.1 z.2.1 z.2.2) ?_ fun z hz => .some hz
    refine Wp.count (fun z => z.1) n (fun k z => SetI L n k z.2.1 z.2.2.1 z.2.2.2) (by omega) rfl ⟨by simp, by simp, fun e h => ⟨by simp, fun u => ?_⟩, fun u hu => by omega, fun k h0 h1 => (by cases h1), List.nodup_nil, fun u => ?_⟩ fun k z hk hz hJ => ?_
    · rw [if_neg (by omega)]; simp
    · exact ⟨fun h => (by cases h), fun h => by omega⟩
    obtain ⟨i, U, W, H⟩ := z
    dsimp only at hz hJ
    subst hz
    refine Wp.dec (fun hlt => ?_) fun hge => ?_
    · have hlt : k < n := by dsimp only at hlt; omega
      have hkL : k < L.length := by omega
      have hUl := hJ.ul
      have hWl := hJ.wl
      dsimp only
      rw [idx_nat hkL, Option.bind_some, idx_nat (show k < W.length by omega), Option.bind_some, wp_bind, wp_bind, wp_bind]
      have hHl := hJ.hl
      refine (users_wp L[k] k n U hUl (hL k hkL).1 (fun y hy => hDr _ _ (((hL k hkL).2 y).1 hy)) fun e h => by have := (hJ.u e h).1; omega).mono fun V hV => ?_
      have uu : ∀ e, ∀ h : e < V.length, V[e].length ≤ 6000 * (k + 1) ∧ ∀ u : Int, V[e].count u = if 0 ≤ u ∧ u < ((k + 1 : Nat) : Int) then (L.getD u.toNat []).count (e : Int) else 0 := fun e h => by
        have hV1 := hV.1
        obtain ⟨g1, g2⟩ := hV.2 e h (by omega)
        obtain ⟨f1, f2⟩ := hJ.u e (by omega)
        have := (hL k hkL).1
        refine ⟨by omega, fun u => ?_⟩
        rw [g2, f2]
        by_cases eu : u = (k : Int)
        · subst eu
          rw [if_neg (by omega), if_pos rfl, if_pos (by omega), Int.toNat_natCast, getD_some hkL]; omega
        · rw [if_neg eu]
          by_cases h1 : 0 ≤ u ∧ u < (k : Int)
          · rw [if_pos h1, if_pos (by omega)]; rfl
          · rw [if_neg h1, if_neg (by omega)]
      have ww : ∀ u, u < k + 1 → (setL W (k : Int) (L[k].length : Int))[u]? = some ((L.getD u []).length : Int) := fun u hu => by
        rw [set_q _ _ _ _ (by omega)]
        by_cases e : u = k
        · subst e
          rw [if_pos (by omega), getD_some hkL]
        · rw [if_neg (by omega), hJ.w u (by omega)]
      have wl : (setL W (k : Int) (L[k].length : Int)).length = n := by unfold setL; rw [List.length_set]; exact hWl
      by_cases e0 : L[k].length = 0
      · rw [if_pos (by rw [decide_eq_true_eq]; omega), wp_bind]
        refine (push_wp _ _ (by omega) hJ.hp).mono fun r hr => .some (.some (.some ⟨hlt, wrapS (m := n) (by omega) hlt, ⟨hV.1, wl, uu, ww, hr.2, hr.1.nodup_iff.2 (List.nodup_cons.2 ⟨fun g => ?_, hJ.nd⟩), fun u => ?_⟩⟩))
        · have := ((hJ.h _).1 g).1; omega
        · show u ∈ r ↔ _
          rw [hr.1.mem_iff, List.mem_cons, hJ.h u]
          by_cases eu : u = (k : Int)
          · subst eu
            rw [Int.toNat_natCast, getD_some hkL]
            exact ⟨fun _ => ⟨by omega, List.length_eq_zero_iff.1 e0⟩, fun _ => .inl rfl⟩
          · constructor
            · rintro (h | ⟨h1, h2⟩)
              · exact absurd h eu
              · exact ⟨by omega, h2⟩
            · rintro ⟨h1, h2⟩
              exact .inr ⟨by omega, h2⟩
      · rw [if_neg (by rw [decide_eq_true_eq]; omega)]
        refine .some (.some (.some ⟨hlt, wrapS (m := n) (by omega) hlt, ⟨hV.1, wl, uu, ww, hJ.hp, hJ.nd, fun u => ?_⟩⟩))
        show u ∈ H ↔ _
        rw [hJ.h u]
        by_cases eu : u = (k : Int)
        · subst eu
          rw [Int.toNat_natCast, getD_some hkL]
          exact ⟨fun h => by omega, fun h => absurd (by rw [h.2]; rfl) e0⟩
        · exact ⟨fun ⟨h1, h2⟩ => ⟨by omega, h2⟩, fun ⟨h1, h2⟩ => ⟨by omega, h2⟩⟩
    · have hge : k = n := by dsimp only at hge; omega
      subst hge
      exact .some hJ
  obtain ⟨U, W, H⟩ := z
  dsimp only at hz ⊢
  have hUl := hz.ul
  have hU : ∀ e, ∀ h : e < U.length, U[e].length ≤ 100000 ∧ ∀ u : Int, U[e].count u = if 0 ≤ u ∧ u < (n : Int) then (L.getD u.toNat []).count (e : Int) else 0 := fun e h => ⟨by have := (hz.u e h).1; omega, (hz.u e h).2⟩
  refine Wp.seq (fun z => OrdP s z.1 ∧ z.2 = [] ∧ ∀ d, ¬ Rdy s z.1 d) ?_ fun z hq => ?_
  · refine Wp.loop (fun z => OrdI s L n z.1 z.2.1 z.2.2) (fun z => n - z.2.1.length) ⟨hz.wl, fun k h => (by cases h), fun u hu => ?_, hz.hp, hz.nd, fun u => ?_⟩ (by show n - _ < big; unfold big; omega) fun z hI => ?_
    · rw [hz.w u hu]
      congr 2
      exact (List.countP_eq_length.2 fun a _ => by simp).symm
    · rw [hz.h u]
      unfold Rdy
      rw [← hn]
      constructor
      · rintro ⟨h1, h2⟩
        refine ⟨h1, by simp, fun y hy => ?_⟩
        have := (hLm u.toNat (by omega) y).2 (by rw [Int.toNat_of_nonneg h1.1]; exact hy)
        rw [h2] at this
        cases this
      · rintro ⟨h1, _, h2⟩
        refine ⟨h1, List.eq_nil_iff_forall_not_mem.2 fun y hy => ?_⟩
        have := (hLm u.toNat (by omega) y).1 hy
        rw [Int.toNat_of_nonneg h1.1] at this
        cases h2 y this
    obtain ⟨W, O, H⟩ := z
    dsimp only at hI ⊢
    have hO := hI.o
    have hOl := hO.len
    rw [← hn] at hOl
    have hHl : H.length ≤ n := rng_len hI.nd fun x hx => by
      have := ((hI.h x).1 hx).1
      rw [← hn] at this
      exact this
    unfold M.deps_intHeap_Len
    rw [Option.bind_some]
    refine Wp.dec (fun h0 => ?_) fun h0 => ?_
    · have h0 : 0 < H.length := by omega
      rw [wp_bind]
      refine (pop_wp H h0 (by omega) hI.hp).mono fun r hr => ?_
      obtain ⟨x, G⟩ := r
      obtain ⟨hp, hG, hmin⟩ := hr
      dsimp only at hp hG hmin ⊢
      have hxH : x ∈ H := hp.symm.subset (by simp)
      have hx := (hI.h x).1 hxH
      have hnd := hp.nodup_iff.1 hI.nd
      obtain ⟨hxG, hGn⟩ := List.nodup_cons.1 hnd
      have hO' : OrdP s (O ++ [x]) := hO.snoc hx fun d hd => by
        have : d ∈ H := (hI.h d).2 hd
        rcases List.mem_cons.1 (hp.subset this) with rfl | h
        · exact Int.le_refl _
        · exact hmin d h
      have hOl' := hO'.len
      rw [← hn, List.length_append] at hOl'
      simp only [List.length_cons, List.length_nil] at hOl'
      rw [appA_some (by simp; omega), Option.bind_some]
      have hxr := hx.1
      rw [← hn] at hxr
      obtain ⟨e, he⟩ := Int.eq_ofNat_of_zero_le hxr.1
      have heU : e < U.length := by omega
      rw [he, idx_nat heU, Option.bind_some, ← he]
      obtain ⟨f1, f2⟩ := hU e heU
      rw [← he] at f2
      have inU : ∀ u ∈ U[e], (0 ≤ u ∧ u < (n : Int)) ∧ Dp s u x := fun u hu => by
        have h1 := List.count_pos_iff.2 hu
        rw [f2] at h1
        by_cases hc : 0 ≤ u ∧ u < (n : Int)
        · rw [if_pos hc] at h1
          refine ⟨hc, ?_⟩
          have := (hLm u.toNat (by omega) x).1 (List.count_pos_iff.1 h1)
          rwa [Int.toNat_of_nonneg hc.1] at this
        · rw [if_neg hc] at h1; omega
      refine told_wp s L n (O ++ [x]) U[e] W G x h14 f1 hLq ⟨hI.wl, fun u hu => ?_, hG, hGn, fun u => ?_⟩ (fun u hu => ?_) _ fun W' H' h' => ?_
      · rw [hI.w u hu, f2, if_pos (by omega), Int.toNat_natCast, countP_snoc _ _ _ hx.2.1]
      · have hmem : u ∈ G ↔ u ∈ H ∧ u ≠ x := by
          rw [hp.mem_iff, List.mem_cons]
          exact ⟨fun h => ⟨.inr h, fun e => hxG (e ▸ h)⟩, fun h => h.1.resolve_left h.2⟩
        rw [hmem, hI.h u]
        unfold Rdy
        rw [← hn]
        constructor
        · rintro ⟨⟨h1, h2, h3⟩, h4⟩
          refine ⟨h1, by simp [h2, h4], ?_⟩
          rw [hI.w u.toNat (by omega)]
          congr 2
          rw [List.countP_eq_zero]
          intro y hy
          have := (hLm u.toNat (by omega) y).1 hy
          rw [Int.toNat_of_nonneg h1.1] at this
          simpa using h3 y this
        · rintro ⟨h1, h2, h3⟩
          rw [hI.w u.toNat (by omega)] at h3
          have h3 : (L.getD u.toNat []).countP (fun y => decide (y ∉ O)) = 0 := by
            have := Option.some.inj h3
            omega
          rw [List.countP_eq_zero] at h3
          simp only [List.mem_append, List.mem_singleton, not_or] at h2
          refine ⟨⟨h1, h2.1, fun y hy => ?_⟩, h2.2⟩
          have := h3 y ((hLm u.toNat (by omega) y).2 (by rw [Int.toNat_of_nonneg h1.1]; exact hy))
          simpa using this
      · obtain ⟨h1, h2⟩ := inU u hu
        refine ⟨h1, fun h => ?_⟩
        rcases List.mem_append.1 h with h | h
        · exact hx.2.1 ((hO.mem h).2 x h2)
        · rw [List.mem_singleton.1 h] at h2
          exact hx.2.1 (hx.2.2 x h2)
      · refine ⟨⟨h'.wl, hO', fun u hu => ?_, h'.hp, h'.nd, fun u => ?_⟩, ?_⟩
        · have := h'.w u hu
          rw [List.count_nil, Nat.add_zero] at this
          exact this
        · rw [h'.h u]
          unfold Rdy
          rw [← hn]
          constructor
          · rintro ⟨h1, h2, h3⟩
            refine ⟨h1, h2, fun y hy => ?_⟩
            rw [h'.w u.toNat (by omega), List.count_nil, Nat.add_zero] at h3
            have h3 : (L.getD u.toNat []).countP (fun y => decide (y ∉ O ++ [x])) = 0 := by
              have := Option.some.inj h3
              omega
            rw [List.countP_eq_zero] at h3
            have := h3 y ((hLm u.toNat (by omega) y).2 (by rw [Int.toNat_of_nonneg h1.1]; exact hy))
            exact Classical.byContradiction fun g => this (decide_eq_true g)
          · rintro ⟨h1, h2, h3⟩
            refine ⟨h1, h2, ?_⟩
            rw [h'.w u.toNat (by omega), List.count_nil, Nat.add_zero]
            congr 2
            rw [List.countP_eq_zero]
            intro y hy
            have := (hLm u.toNat (by omega) y).1 hy
            rw [Int.toNat_of_nonneg h1.1] at this
            exact fun g => of_decide_eq_true g (h3 y this)
        · show n - (O ++ [x]).length < n - O.length
          rw [List.length_append]
          simp only [List.length_cons, List.length_nil]
          omega
    · have h0 : H = [] := List.length_eq_zero_iff.1 (by omega)
      subst h0
      exact .some ⟨hO, rfl, fun d hd => by cases (hI.h d).2 hd⟩
  · obtain ⟨O, H⟩ := z
    obtain ⟨h1, h2, h3⟩ := hq
    dsimp only at h1 h2 h3 ⊢
    refine Wp.dec (fun h => .some ⟨O, h1, h3, ?_⟩) fun h => .some ⟨O, h1, h3, ?_⟩
    · rw [if_pos (by omega)]
    · rw [if_neg (by omega)]
/-- Without a cycle all definitions are placed. -/
theorem order_all {s : Scp} {o : List Int} (h : OrdP s o) (hr : ∀ d, ¬ Rdy s o d) (hc : ∀ d : Nat, d < s.2.2.2.1.length → ¬ Rch (Dp s) (d : Int) (d : Int)) : o.length = s.2.2.2.1.length := by
  refine Nat.le_antisymm h.len (Nat.le_of_not_lt fun hlt => ?_)
  have hDr : ∀ a b, Dp s a b → 0 ≤ b ∧ b < (s.2.2.2.1.length : Int) := fun a b h => (dirS_srt s a).2 b h
  obtain ⟨n, hn⟩ : ∃ n, n = s.2.2.2.1.length := ⟨_, rfl⟩
  rw [← hn] at hlt hc hDr
  have next : ∀ d : Int, (0 ≤ d ∧ d < (n : Int)) → d ∉ o → ∃ e, Dp s d e ∧ e ∉ o := fun d hd hdo => Classical.byContradiction fun hne => by
    refine hr d ⟨by rw [← hn]; exact hd, hdo, fun y hy => Classical.byContradiction fun hy' => hne ⟨y, hy, hy'⟩⟩
  have start : ∃ d : Int, (0 ≤ d ∧ d < (n : Int)) ∧ d ∉ o := Classical.byContradiction fun hne => by
    have : ((List.range n).map fun k : Nat => (k : Int)).length ≤ o.length := nodup_len (List.Pairwise.map _ (fun a b (h : a ≠ b) e => h (by omega)) List.nodup_range) fun y hy => by
      obtain ⟨k, hk, rfl⟩ := List.mem_map.1 hy
      exact Classical.byContradiction fun h => hne ⟨(k : Int), by have := List.mem_range.1 hk; omega, h⟩
    simp at this
    omega
  -- a walk of any length among what is not placed
  have walk : ∀ m, ∃ l : List Int, l.length = m + 1 ∧ (∀ x ∈ l, (0 ≤ x ∧ x < (n : Int)) ∧ x ∉ o) ∧ l.Pairwise fun a b => Rch (Dp s) b a := by
    intro m
    induction m with
    | zero =>
      obtain ⟨d, h1, h2⟩ := start
      exact ⟨[d], rfl, fun x hx => by rw [List.mem_singleton.1 hx]; exact ⟨h1, h2⟩, by simp⟩
    | succ m ih =>
      obtain ⟨l, hl, hm, hp⟩ := ih
      cases l with
      | nil => cases hl
      | cons x t =>
        obtain ⟨e, h1, h2⟩ := next x (hm x (by simp)).1 (hm x (by simp)).2
        refine ⟨e :: x :: t, by simp only [List.length_cons] at hl ⊢; omega, fun y hy => ?_, List.pairwise_cons.2 ⟨fun y hy => ?_, hp⟩⟩
        · rcases List.mem_cons.1 hy with rfl | hy
          · exact ⟨hDr _ _ h1, h2⟩
          · exact hm y hy
        · rcases List.mem_cons.1 hy with rfl | hy
          · exact .one h1
          · exact .step ((List.pairwise_cons.1 hp).1 y hy) h1
  obtain ⟨l, hl, hm, hp⟩ := walk n
  have nd : l.Nodup := by
    refine hp.imp_of_mem fun {a b} ha hb hab => fun e => ?_
    subst e
    obtain ⟨h1, _⟩ := hm a ha
    have := hc a.toNat (by omega)
    rw [Int.toNat_of_nonneg h1.1] at this
    exact this hab
  have := rng_len nd fun x hx => (hm x hx).1
  omega
end L
end Go.Proofs.YtjeeligfdpociabGreat
