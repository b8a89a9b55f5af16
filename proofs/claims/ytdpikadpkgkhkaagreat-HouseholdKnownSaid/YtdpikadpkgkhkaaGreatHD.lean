/- Chapter 35: other lists of the same facts: HouseholdKnown, HouseholdOrder (plain laws). -/
import Derived.Test.YtdpikadpkgkhkaaGreatHC
namespace Go.Proofs.YtdpikadpkgkhkaaGreat
open Go Go.RowKit
set_option maxRecDepth 100000
set_option linter.unusedSimpArgs false
namespace L

/-! ## What is latest -/
theorem wins_trans {f g h : Fct} (h1 : Wins f g) (h2 : ¬ Wins h g) : ¬ Wins h f := by
  obtain ⟨(a : Int), b, c, x, v, (rc : Int)⟩ := f
  obtain ⟨(a' : Int), b', c', x', v', (rc' : Int)⟩ := g
  obtain ⟨(a2 : Int), b2, c2, x2, v2, (rc2 : Int)⟩ := h
  unfold Wins at *
  dsimp only [rInt, Row.den] at *
  omega
theorem wins_irrefl (f : Fct) : ¬ Wins f f := by
  obtain ⟨(a : Int), b, c, x, v, (rc : Int)⟩ := f
  unfold Wins
  dsimp only [rInt, Row.den] at *
  omega
theorem wins_tie {f g : Fct} (h1 : ¬ Wins f g) (h2 : ¬ Wins g f) : (f.1 : Int) = g.1 := by
  obtain ⟨(a : Int), b, c, x, v, (rc : Int)⟩ := f
  obtain ⟨(a' : Int), b', c', x', v', (rc' : Int)⟩ := g
  unfold Wins at *
  dsimp only [rInt, Row.den] at *
  omega
def BestOf (l : List Fct) (m i d r : Int) : Option Fct → Prop
  | none => ∀ g ∈ l, ¬ Mt m i d r g
  | some f => f ∈ l ∧ Mt m i d r f ∧ ∀ g ∈ l, Mt m i d r g → ¬ Wins g f
theorem asF_best (m i d r : Int) (l : List Fct) : BestOf l m i d r (asF l m i d r) := by
  suffices ∀ (l p : List Fct) (o : Option Fct), BestOf p m i d r o → BestOf (p ++ l) m i d r (l.foldl (asStep m i d r) o) from this l [] none (fun g hg => by cases hg)
  intro l
  induction l with
  | nil => intro p o h; simpa using h
  | cons f l ih =>
    intro p o h
    rw [List.foldl_cons, show p ++ f :: l = (p ++ [f]) ++ l by simp]
    refine ih _ _ ?_
    unfold asStep
    by_cases hm : Mt m i d r f
    · rw [if_pos hm]
      cases o with
      | none =>
        refine ⟨by simp, hm, fun g hg hmg => ?_⟩
        rcases List.mem_append.1 hg with hg | hg
        · exact absurd hmg (h g hg)
        · rw [List.mem_singleton.1 hg]; exact wins_irrefl f
      | some q =>
        obtain ⟨h1, h2, h3⟩ := h
        dsimp only
        by_cases hw : Wins f q
        · rw [if_pos hw]
          refine ⟨by simp, hm, fun g hg hmg => ?_⟩
          rcases List.mem_append.1 hg with hg | hg
          · exact wins_trans hw (h3 g hg hmg)
          · rw [List.mem_singleton.1 hg]; exact wins_irrefl f
        · rw [if_neg hw]
          refine ⟨by simp [h1], h2, fun g hg hmg => ?_⟩
          rcases List.mem_append.1 hg with hg | hg
          · exact h3 g hg hmg
          · rw [List.mem_singleton.1 hg]; exact hw
    · rw [if_neg hm]
      cases o with
      | none =>
        intro g hg
        rcases List.mem_append.1 hg with hg | hg
        · exact h g hg
        · rw [List.mem_singleton.1 hg]; exact hm
      | some q =>
        obtain ⟨h1, h2, h3⟩ := h
        refine ⟨by simp [h1], h2, fun g hg hmg => ?_⟩
        rcases List.mem_append.1 hg with hg | hg
        · exact h3 g hg hmg
        · rw [List.mem_singleton.1 hg] at hmg; exact absurd hmg hm
theorem asF_congr {l l' : List Fct} {m i d r : Int} (hu : ∀ x ∈ l, ∀ y ∈ l, (x.1 : Int) = y.1 → x = y) (h : ∀ x, Mt m i d r x → (x ∈ l ↔ x ∈ l')) : asF l m i d r = asF l' m i d r := by
  have h1 := asF_best m i d r l
  have h2 := asF_best m i d r l'
  cases e1 : asF l m i d r with
  | none =>
    cases e2 : asF l' m i d r with
    | none => rfl
    | some f =>
      rw [e1] at h1
      rw [e2] at h2
      exact absurd h2.2.1 (h1 f ((h f h2.2.1).2 h2.1))
  | some f =>
    rw [e1] at h1
    cases e2 : asF l' m i d r with
    | none =>
      rw [e2] at h2
      exact absurd h1.2.1 (h2 f ((h f h1.2.1).1 h1.1))
    | some g =>
      rw [e2] at h2
      have hg := (h g h2.2.1).2 h2.1
      have hf := (h f h1.2.1).1 h1.1
      rw [hu f h1.1 g hg (wins_tie (h2.2.2 f hf h1.2.1) (h1.2.2 g hg h2.2.1))]

/-! ## Valid facts -/
def Distinct (l : List Fct) : Prop := l.Pairwise fun a b => (a.1 : Int) ≠ b.1
theorem Distinct.uniq {l : List Fct} (h : Distinct l) : ∀ x ∈ l, ∀ y ∈ l, (x.1 : Int) = y.1 → x = y := by
  induction l with
  | nil => intro x hx; cases hx
  | cons a l ih =>
    obtain ⟨h1, h2⟩ := List.pairwise_cons.1 h
    intro x hx y hy e
    rcases List.mem_cons.1 hx with rfl | hx' <;> rcases List.mem_cons.1 hy with rfl | hy'
    · rfl
    · exact absurd e (h1 _ hy')
    · exact absurd e.symm (h1 _ hx')
    · exact ih h2 x hx' y hy' e
theorem distinct_iff {l : List Fct} : Distinct l ↔ ∀ k, ∀ h : k < l.length, ¬ Dup l k l[k].1 := by
  constructor
  · rintro h k hk ⟨y, hy, e⟩
    obtain ⟨j, hj, rfl⟩ := List.mem_take_iff_getElem.1 hy
    exact List.pairwise_iff_getElem.1 h j k (by omega) hk (by omega) e
  · intro h
    refine List.pairwise_iff_getElem.2 fun i j hi hj hij e => h j hj ⟨_, List.mem_take_iff_getElem.2 ⟨i, by omega, rfl⟩, e⟩
/-- Facts that are valid. -/
theorem fvS_iff {l : List Fct} : (fvS l).2 = 0 ↔ l.length ≤ 128 ∧ (∀ f ∈ l, cf f = 0) ∧ Distinct l := by
  constructor
  · intro h
    obtain ⟨h1, h2⟩ := fvS_zero h
    refine ⟨h1, fun f hf => ?_, distinct_iff.2 fun k hk => (faC_pos (h2 k hk)).2.2⟩
    obtain ⟨k, hk, rfl⟩ := List.getElem_of_mem hf
    obtain ⟨g1, g2, _⟩ := faC_pos (h2 k hk)
    unfold cf
    rw [if_neg g1, if_neg g2]
  · rintro ⟨h1, h2, h3⟩
    rw [fvS_ok (by omega) fun j hj => ?_]
    rw [faE_at hj, if_neg]
    unfold faC
    rw [if_neg (fun g => g (h2 _ (List.getElem_mem hj))), if_neg (distinct_iff.1 h3 j hj)]
    exact fun g => g rfl
theorem hvX_iff {l : Lw} {x : Scp} {h : Hh} : (hvX l x h).2 = 0 ↔ ¬ HR l x h ∧ (fvS h.2.2.2).2 = 0 ∧ ∀ f ∈ h.2.2.2, hE l x h.2.2.1 f = 0 := by
  by_cases h1 : HR l x h
  · refine iff_of_false ?_ fun g => g.1 h1
    unfold hvX
    rw [if_pos h1]
    exact by decide
  by_cases h2 : (fvS h.2.2.2).2 = 0
  case neg =>
    refine iff_of_false ?_ fun g => h2 g.2.1
    unfold hvX
    rw [if_neg h1, if_pos h2]
    exact h2
  by_cases h3 : ∀ f ∈ h.2.2.2, hE l x h.2.2.1 f = 0
  · refine iff_of_true ?_ ⟨h1, h2, h3⟩
    rw [hvX_ok h1 h2 fun j hj => by rw [hvE_at hj, if_neg (fun g => g (h3 _ (List.getElem_mem hj)))]]
  · refine iff_of_false (fun g => h3 fun f hf => ?_) fun g => h3 g.2.2
    obtain ⟨k, hk, rfl⟩ := List.getElem_of_mem hf
    refine Classical.not_not.1 fun h0 => ?_
    unfold hvX at g
    rw [if_neg h1, if_neg (fun q => q h2)] at g
    cases hf : firstE (hvE l x h) h.2.2.2.length with
    | none =>
      have := firstE_none.1 hf k hk
      rw [hvE_at hk, if_pos h0] at this
      cases this
    | some e =>
      obtain ⟨j, hj, he, _⟩ := firstE_some hf
      rw [hvE_at hj] at he
      split at he
      · cases he
        rw [hf] at g
        exact absurd g ‹_›
      · cases he
/-- The same facts, or some of them, in another order: all of those that count. -/
structure Alike (r : Int) (fs fs' : List Fct) : Prop where
  len : fs'.length ≤ fs.length
  sub : ∀ x ∈ fs', x ∈ fs
  dis : Distinct fs'
  all : ∀ x ∈ fs, (x.2.2.2.2.2 : Int) ≤ r → x ∈ fs'
theorem Alike.asF {r : Int} {fs fs' : List Fct} (h : Alike r fs fs') (hd : Distinct fs) (m i d : Int) : L.asF fs' m i d r = L.asF fs m i d r :=
  (asF_congr hd.uniq fun x hx => ⟨fun g => h.all x g hx.2.2.1, fun g => h.sub x g⟩).symm
theorem Alike.vals {r : Int} {fs fs' : List Fct} (h : Alike r fs fs') (hd : Distinct fs) (m d : Int) : ∀ n, valsN fs' m d r n = valsN fs m d r n
  | 0 => rfl
  | n + 1 => by rw [valsN, valsN, h.vals hd m d n, h.asF hd]
theorem Alike.mem {r : Int} {fs fs' : List Fct} (h : Alike r fs fs') (hd : Distinct fs) (d : Int) (n : Nat) : memN fs' d r n = memN fs d r n := by
  have : ∀ m : Nat, pres fs' d r m ↔ pres fs d r m := fun m => by unfold pres; rw [h.asF hd]
  unfold memN
  congr 1
  exact List.filter_congr fun m _ => decide_eq_decide.2 (this m)
theorem Alike.case_ {r : Int} {l : Lw} {a b c : Int} {fs fs' : List Fct} (h : Alike r fs fs') (hv : (hvS l (a, (b, (c, fs)))).2 = 0) (d : Int) :
    caseS l (a, (b, (c, fs'))) d r = caseS l (a, (b, (c, fs))) d r ∧ memS (a, (b, (c, fs'))) d r = memS (a, (b, (c, fs))) d r := by
  obtain ⟨s, hsc, hs, hx⟩ := hvS_zero hv
  obtain ⟨h1, h2, h3⟩ := hvX_iff.1 hx
  obtain ⟨g1, g2, g3⟩ := fvS_iff.1 h2
  have g1 : fs.length ≤ 128 := g1
  have g3 : Distinct fs := g3
  have hm : memS (a, (b, (c, fs'))) d r = memS (a, (b, (c, fs))) d r := h.mem g3 d _
  have hsc : b = (s : Int) := hsc
  subst hsc
  have hv' : (hvS l (a, ((s : Int), (c, fs')))).2 = 0 := by
    unfold hvS
    dsimp only
    rw [if_neg (show ¬ ((s : Int) < 0 ∨ (l.2.2.length : Int) ≤ (s : Int)) by omega), Int.toNat_natCast, List.getElem?_eq_getElem hs]
    exact hvX_iff.2 ⟨h1, fvS_iff.2 ⟨Nat.le_trans h.len g1, fun f hf => g2 f (h.sub f hf), h.dis⟩, fun f hf => h3 f (h.sub f hf)⟩
  refine ⟨?_, hm⟩
  unfold caseS
  rw [hv, hv']
  dsimp only
  rw [Int.toNat_natCast, List.getElem?_eq_getElem hs]
  unfold caseX
  rw [hm]
  dsimp only
  rw [h.vals g3]
  have hg : memG fs' (memS (a, ((s : Int), (c, fs))) d r) d r (miS l l.2.2[s]).1.length = memG fs (memS (a, ((s : Int), (c, fs))) d r) d r (miS l l.2.2[s]).1.length := by
    funext k
    unfold memG
    split
    · exact h.vals g3 _ _ _
    · rfl
  rw [hg]
theorem HouseholdKnown_true (l : Lw) (h : Hh) (d r : Int) (hw : WF rLaw l) (_ : WF rHousehold h) (_ : WF rInt d) (_ : WF rInt r) : M.law35_HouseholdKnown big l h d r = some true := by
  obtain ⟨(a : Int), (b : Int), (c : Int), fs⟩ := h
  apply Wp.eq
  unfold M.law35_HouseholdKnown
  simp only [awake35, smallH_eq, phv_eq, a_, b_, c_, d_, e_, f_, g_, h_, i_, j_, k_, l_, m_, n_, o_, p_, q_, r_, s_, t_, u_, v_, w_, x_, y_, z_, A_, B_, C_, D_, E_, F_, G_, H_, I_, J_, K_, L_, M_, N_, O_, P_, reduceCtorEq]
  refine (smallL_wp l hw).mono fun q hq h1 h2 hv => ?_
  have hsm := hq h1
  have hlen : fs.length ≤ 40 := by have h2 : (fs.length : Int) ≤ 40 := h2; omega
  refine Wp.count (fun s => s.1) fs.length (fun k s => s.2.1 = a ∧ s.2.2.1 = b ∧ s.2.2.2.1 = c ∧ s.2.2.2.2 = (fs.take k).filter fun x => decide ((x.2.2.2.2.2 : Int) ≤ r)) (by omega) rfl ⟨rfl, rfl, rfl, rfl⟩ fun k s hk hs hJ => ?_
  obtain ⟨i, a', b', c', o⟩ := s
  obtain ⟨ha, hb, hc, ho⟩ := hJ
  dsimp only at hs ha hb hc ho
  subst hs ha hb hc ho
  simp only [a_, b_, c_, d_, e_, f_, g_, h_, i_, j_, k_, l_, m_, n_, o_, p_, q_, r_, s_, t_, u_, v_, w_, x_, y_, z_, A_, B_, C_, D_, E_, F_, G_, H_, I_, J_, K_, L_, M_, N_, O_, P_, reduceCtorEq, countQ_inl, countQ_inr]
  refine ⟨fun hlt => ?_, fun hge => ?_⟩
  · have hlt : k < fs.length := by have hlt : (k : Int) < (fs.length : Int) := hlt; omega
    have hl : ((fs.take k).filter fun x => decide ((x.2.2.2.2.2 : Int) ≤ r)).length ≤ k := Nat.le_trans (List.length_filter_le _ _) (by simp; omega)
    simp only [idx_nat hlt, wrapS (m := fs.length) (by omega) hlt, a_, b_, c_, d_, e_, f_, g_, h_, i_, j_, k_, l_, m_, n_, o_, p_, q_, r_, s_, t_, u_, v_, w_, x_, y_, z_, A_, B_, C_, D_, E_, F_, G_, H_, I_, J_, K_, L_, M_, N_, O_, P_, reduceCtorEq]
    rw [← List.take_append_getElem hlt, List.filter_append]
    refine ⟨fun g => wp_app.2 ⟨by simp; omega, hlt, ?_⟩, fun g => ⟨hlt, ?_⟩⟩
    · rw [List.filter_cons_of_pos (by exact decide_eq_true g)]; simp
    · rw [List.filter_cons_of_neg (by simpa using g)]; simp
  · obtain rfl : k = fs.length := by have hge : ¬ (k : Int) < (fs.length : Int) := hge; omega
    rw [List.take_length]
    have hv : (hvS l (a', (b', (c', fs)))).2 = 0 := hv
    obtain ⟨s, hsc, hs, hx⟩ := hvS_zero hv
    obtain ⟨_, e2, _⟩ := hvX_iff.1 hx
    obtain ⟨_, _, hd⟩ := fvS_iff.1 e2
    have hd : Distinct fs := hd
    have hal : Alike r fs (fs.filter fun x => decide ((x.2.2.2.2.2 : Int) ≤ r)) := ⟨List.length_filter_le _ _, fun x hx => (List.mem_filter.1 hx).1, List.Pairwise.filter _ hd, fun x hx hr => List.mem_filter.2 ⟨hx, decide_eq_true hr⟩⟩
    have hl2 : (fs.filter fun x => decide ((x.2.2.2.2.2 : Int) ≤ r)).length ≤ fs.length := List.length_filter_le _ _
    obtain ⟨k1, k2⟩ := hal.case_ hv d
    have hc := caseS_short hsm (a', (b', (c', fs))) d r
    rw [pcase_eq l (a', (b', (c', fs))) d r hw hsm (by show fs.length ≤ _; omega)]
    refine .some ?_
    rw [pcase_eq l (a', (b', (c', fs.filter fun x => decide ((x.2.2.2.2.2 : Int) ≤ r)))) d r hw hsm (by show List.length (List.filter _ fs) ≤ _; omega), k1]
    refine .some ?_
    rw [sameCase_refl _ hc]
    refine .some ⟨fun _ => ⟨fun _ => ?_, fun g => absurd rfl g⟩, fun g => (by cases g)⟩
    rw [pmem_eq (a', (b', (c', fs))) d r (by show fs.length ≤ _; omega)]
    refine .some ?_
    rw [pmem_eq (a', (b', (c', fs.filter fun x => decide ((x.2.2.2.2.2 : Int) ≤ r)))) d r (by show List.length (List.filter _ fs) ≤ _; omega), k2]
    refine .some ?_
    rw [sameInts_refl _ (by have := memS_len (a', (b', (c', fs))) d r; omega)]
    exact .some fun g => (by cases g)
/-! ## Another order -/
/-- Turned round from some place on. -/
def turn (n f i : Nat) : Nat := (n - 1 + f - i) % n
theorem turn_lt {n f i : Nat} (h : 0 < n) : turn n f i < n := Nat.mod_lt _ h
theorem turn_turn {n f t : Nat} (h : t < n) : turn n f (turn n f t) = t := by
  unfold turn
  have h1 := Nat.div_add_mod (n - 1 + f - t) n
  have h2 : (n - 1 + f) - (n - 1 + f - t) % n = t + n * ((n - 1 + f - t) / n) := by
    generalize n * ((n - 1 + f - t) / n) = q at *
    generalize (n - 1 + f - t) % n = p at *
    omega
  rw [h2, Nat.add_mul_mod_self_left, Nat.mod_eq_of_lt h]
def turned (fs : List Fct) (f : Nat) (k : Nat) : List Fct := (List.range k).filterMap fun i => fs[turn fs.length f i]?
theorem turned_succ {fs : List Fct} {f k : Nat} (h : k < fs.length) : turned fs f (k + 1) = turned fs f k ++ [fs[turn fs.length f k]'(turn_lt (by omega))] := by
  unfold turned
  rw [List.range_succ, List.filterMap_append]
  congr 1
  simp [List.getElem?_eq_getElem (turn_lt (f := f) (i := k) (show 0 < fs.length by omega))]
theorem turned_at {fs : List Fct} {f : Nat} : ∀ {k : Nat}, k ≤ fs.length → (turned fs f k).length = k ∧ ∀ i, ∀ h : i < (turned fs f k).length, ∀ h' : i < fs.length, (turned fs f k)[i] = fs[turn fs.length f i]'(turn_lt (by omega))
  | 0, _ => ⟨rfl, fun i h => absurd h (by simp [turned])⟩
  | k + 1, hk => by
    obtain ⟨h1, h2⟩ := turned_at (fs := fs) (f := f) (k := k) (by omega)
    have e := turned_succ (fs := fs) (f := f) (k := k) (by omega)
    refine ⟨by rw [e]; simp [h1], fun i h h' => ?_⟩
    have e' : (turned fs f (k + 1))[i]? = (turned fs f k ++ [fs[turn fs.length f k]'(turn_lt (by omega))])[i]? := by rw [e]
    rw [List.getElem?_eq_getElem h] at e'
    by_cases hi : i < (turned fs f k).length
    · rw [List.getElem?_append_left hi, List.getElem?_eq_getElem hi, h2 i hi h'] at e'
      exact Option.some.inj e'
    · have : i = k := by
        have : (turned fs f (k + 1)).length = k + 1 := by rw [e]; simp [h1]
        omega
      subst this
      rw [List.getElem?_append_right (by omega), h1, Nat.sub_self] at e'
      exact Option.some.inj e'
theorem turned_alike {fs : List Fct} (hd : Distinct fs) (f : Nat) (r : Int) : Alike r fs (turned fs f fs.length) := by
  obtain ⟨h1, h2⟩ := turned_at (fs := fs) (f := f) (Nat.le_refl _)
  refine ⟨by omega, fun x hx => ?_, ?_, fun x hx _ => ?_⟩
  · obtain ⟨i, hi, rfl⟩ := List.getElem_of_mem hx
    rw [h2 i hi (by omega)]
    exact List.getElem_mem _
  · refine List.pairwise_iff_getElem.2 fun i j hi hj hij e => ?_
    rw [h2 i hi (by omega), h2 j hj (by omega)] at e
    have hlt : 0 < fs.length := by omega
    have key : turn fs.length f i ≠ turn fs.length f j := fun g => by
      have a := turn_turn (n := fs.length) (f := f) (t := i) (by omega)
      have b := turn_turn (n := fs.length) (f := f) (t := j) (by omega)
      rw [g] at a
      omega
    rcases Nat.lt_or_gt_of_ne key with g | g
    · exact List.pairwise_iff_getElem.1 hd _ _ (turn_lt hlt) (turn_lt hlt) g e
    · exact List.pairwise_iff_getElem.1 hd _ _ (turn_lt hlt) (turn_lt hlt) g e.symm
  · obtain ⟨t, ht, rfl⟩ := List.getElem_of_mem hx
    have hlt : 0 < fs.length := by omega
    have hi : turn fs.length f t < (turned fs f fs.length).length := by rw [h1]; exact turn_lt hlt
    have := h2 (turn fs.length f t) hi (turn_lt hlt)
    have e : fs[turn fs.length f (turn fs.length f t)]'(turn_lt hlt) = fs[t] := by
      have := turn_turn (n := fs.length) (f := f) (t := t) ht
      congr 1
    rw [e] at this
    rw [← this]
    exact List.getElem_mem _
theorem turn_int {n f k : Nat} (hn : n ≤ 40) (hf : f ≤ 255) (hk : k < n) : remA (IntKind.i64.wrap ((IntKind.i64.wrap ((IntKind.i64.wrap ((n : Int) - (1 : Int))) - (k : Int))) + (IntKind.i64.wrap (f : Int)))) (n : Int) = some ((turn n f k : Nat) : Int) := by
  rw [wrap_id (show -9223372036854775808 ≤ (n : Int) - 1 by omega) (by omega), wrap_id (show -9223372036854775808 ≤ (f : Int) by omega) (by omega), wrap_id (show -9223372036854775808 ≤ (n : Int) - 1 - (k : Int) by omega) (by omega), wrap_id (show -9223372036854775808 ≤ (n : Int) - 1 - (k : Int) + (f : Int) by omega) (by omega)]
  unfold remA
  rw [if_neg (by omega)]
  have e : (n : Int) - 1 - (k : Int) + (f : Int) = ((n - 1 + f - k : Nat) : Int) := by omega
  rw [e]
  rfl
theorem HouseholdOrder_true (l : Lw) (h : Hh) (ds : Ty) (from_ : Int) (hw : WF rLaw l) (_ : WF rHousehold h) (_ : WF rType ds) (hfr : WF (.int .u8) from_) : M.law35_HouseholdOrder big l h ds from_ = some true := by
  obtain ⟨(a : Int), (b : Int), (c : Int), fs⟩ := h
  obtain ⟨(d : Int), (r : Int)⟩ := ds
  obtain ⟨f0, f1⟩ := hfr
  have f0 : 0 ≤ from_ := f0
  have f1 : from_ ≤ 255 := f1
  obtain ⟨f, rfl⟩ := Int.eq_ofNat_of_zero_le f0
  apply Wp.eq
  unfold M.law35_HouseholdOrder
  simp only [awake35, smallH_eq, phv_eq, a_, b_, c_, d_, e_, f_, g_, h_, i_, j_, k_, l_, m_, n_, o_, p_, q_, r_, s_, t_, u_, v_, w_, x_, y_, z_, A_, B_, C_, D_, E_, F_, G_, H_, I_, J_, K_, L_, M_, N_, O_, P_, reduceCtorEq]
  refine (smallL_wp l hw).mono fun q hq h1 h2 hv => ?_
  have hsm := hq h1
  have hlen : fs.length ≤ 40 := by have h2 : (fs.length : Int) ≤ 40 := h2; omega
  refine Wp.count (fun s => s.1) fs.length (fun k s => s.2.1 = a ∧ s.2.2.1 = b ∧ s.2.2.2.1 = c ∧ s.2.2.2.2 = turned fs f k) (by omega) rfl ⟨rfl, rfl, rfl, rfl⟩ fun k s hk hs hJ => ?_
  obtain ⟨i, a', b', c', o⟩ := s
  obtain ⟨ha, hb, hc, ho⟩ := hJ
  dsimp only at hs ha hb hc ho
  subst hs ha hb hc ho
  simp only [a_, b_, c_, d_, e_, f_, g_, h_, i_, j_, k_, l_, m_, n_, o_, p_, q_, r_, s_, t_, u_, v_, w_, x_, y_, z_, A_, B_, C_, D_, E_, F_, G_, H_, I_, J_, K_, L_, M_, N_, O_, P_, reduceCtorEq, countQ_inl, countQ_inr]
  refine ⟨fun hlt => ?_, fun hge => ?_⟩
  · have hlt : k < fs.length := by have hlt : (k : Int) < (fs.length : Int) := hlt; omega
    have hl := (turned_at (fs := fs) (f := f) (k := k) (by omega)).1
    rw [turn_int hlen (by omega) hlt]
    refine .some ?_
    rw [idx_nat (turn_lt (by omega))]
    refine .some (wp_app.2 ⟨by simp; omega, hlt, wrapS (m := fs.length) (by omega) hlt, ?_⟩)
    exact (turned_succ hlt).symm
  · obtain rfl : k = fs.length := by have hge : ¬ (k : Int) < (fs.length : Int) := hge; omega
    have hv : (hvS l (a', (b', (c', fs)))).2 = 0 := hv
    obtain ⟨s, hsc, hs, hx⟩ := hvS_zero hv
    obtain ⟨_, e2, _⟩ := hvX_iff.1 hx
    obtain ⟨_, _, hd⟩ := fvS_iff.1 e2
    have hd : Distinct fs := hd
    have hal := turned_alike hd f r
    have hl2 := hal.len
    obtain ⟨k1, k2⟩ := hal.case_ hv d
    have hc := caseS_short hsm (a', (b', (c', fs))) d r
    rw [pcase_eq l (a', (b', (c', fs))) d r hw hsm (by show fs.length ≤ _; omega)]
    refine .some ?_
    rw [pcase_eq l (a', (b', (c', turned fs f fs.length))) d r hw hsm (by show List.length (turned fs f fs.length) ≤ _; omega), k1]
    refine .some ?_
    rw [sameCase_refl _ hc]
    refine .some ⟨fun _ => ⟨fun _ => ?_, fun g => absurd rfl g⟩, fun g => (by cases g)⟩
    rw [pmem_eq (a', (b', (c', fs))) d r (by show fs.length ≤ _; omega)]
    refine .some ?_
    rw [pmem_eq (a', (b', (c', turned fs f fs.length))) d r (by show List.length (turned fs f fs.length) ≤ _; omega), k2]
    refine .some ?_
    rw [sameInts_refl _ (by have := memS_len (a', (b', (c', fs))) d r; omega)]
    exact .some fun g => (by cases g)
end L
end Go.Proofs.YtdpikadpkgkhkaaGreat
