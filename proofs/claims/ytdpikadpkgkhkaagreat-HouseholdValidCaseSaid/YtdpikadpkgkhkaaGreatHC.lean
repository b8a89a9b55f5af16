/- Chapter 35: households: MembersOn, values, CaseOn as plain functions (plain laws). -/
import Derived.Test.YtdpikadpkgkhkaaGreatHB
namespace Go.Proofs.YtdpikadpkgkhkaaGreat
open Go Go.RowKit
set_option maxRecDepth 100000
set_option linter.unusedSimpArgs false
namespace L

/-! ## Members -/
def pres (fs : List Fct) (d r : Int) (m : Int) : Prop := ∃ f, asF fs m (-1) d r = some f ∧ (f.2.2.2.1.1 : Int) = 1 ∧ (f.2.2.2.1.2.2 : Int) = 1
noncomputable instance (fs : List Fct) (d r m : Int) : Decidable (pres fs d r m) := Classical.propDecidable _
noncomputable def memN (fs : List Fct) (d r : Int) (n : Nat) : List Int := ((List.range n).filter fun m : Nat => decide (pres fs d r m)).map fun m : Nat => (m : Int)
noncomputable def memS (h : Hh) (d r : Int) : List Int := memN h.2.2.2 d r (min (h.2.2.1 : Int).toNat 8)
theorem memN_succ (fs : List Fct) (d r : Int) (n : Nat) : memN fs d r (n + 1) = if pres fs d r n then memN fs d r n ++ [(n : Int)] else memN fs d r n := by
  unfold memN
  rw [List.range_succ, List.filter_append, List.map_append]
  by_cases h : pres fs d r n
  · rw [if_pos h, List.filter_cons_of_pos (by simpa using h)]; rfl
  · rw [if_neg h, List.filter_cons_of_neg (by simpa using h)]; simp
theorem memN_len (fs : List Fct) (d r : Int) (n : Nat) : (memN fs d r n).length ≤ n := by
  unfold memN
  rw [List.length_map]
  exact Nat.le_trans (List.length_filter_le _ _) (by simp)
theorem pres_wp (fs : List Fct) (d r m : Int) : (((asR (asF fs m (-1) d r)).2 = true → ((asR (asF fs m (-1) d r)).1.1 : Int) = 1 → ((asR (asF fs m (-1) d r)).1.2.2 : Int) = 1 → pres fs d r m)) ∧ (pres fs d r m → (asR (asF fs m (-1) d r)).2 = true ∧ ((asR (asF fs m (-1) d r)).1.1 : Int) = 1 ∧ ((asR (asF fs m (-1) d r)).1.2.2 : Int) = 1) := by
  unfold pres
  cases asF fs m (-1) d r with
  | none => exact ⟨fun h => (by cases h), fun ⟨f, h, _⟩ => (by cases h)⟩
  | some f => exact ⟨fun _ h1 h2 => ⟨f, rfl, h1, h2⟩, fun ⟨g, h, h1, h2⟩ => by cases h; exact ⟨rfl, h1, h2⟩⟩
theorem pmem_eq (h : Hh) (d r : Int) (hl : h.2.2.2.length ≤ 100000) : M.household_MembersOn big h d r = some (memS h d r) := by
  obtain ⟨hid, sc, (mem : Int), fs⟩ := h
  apply Wp.eq
  unfold M.household_MembersOn
  have hb : (if (8 : Int) < (if mem < 0 then 0 else mem) then (8 : Int) else (if mem < 0 then 0 else mem)) = ((min mem.toNat 8 : Nat) : Int) := by omega
  unfold memS
  dsimp only [rInt, Row.den] at *
  simp only [hb]
  refine Wp.count (fun s => s.1) (min mem.toNat 8) (fun k s => s.2 = memN fs d r k) (by omega) rfl rfl fun k s hk hs hJ => ?_
  obtain ⟨i, o⟩ := s
  dsimp only at hs hJ
  subst hs hJ
  simp only [as_eq fs _ _ _ _ hl, a_, b_, c_, d_, e_, f_, g_, h_, i_, j_, k_, l_, m_, n_, o_, p_, q_, r_, s_, t_, u_, v_, w_, x_, y_, z_, A_, B_, C_, D_, E_, F_, G_, H_, I_, J_, K_, L_, M_, N_, O_, P_, reduceCtorEq, countQ_inl, countQ_inr]
  refine ⟨fun hlt => ?_, fun hge => by rw [show k = min mem.toNat 8 by omega]⟩
  have hlt : k < min mem.toNat 8 := by omega
  have hw := wrapS (m := min mem.toNat 8) (by omega) hlt
  have hp := pres_wp fs d r k
  have hs := memN_succ fs d r k
  have hn := memN_len fs d r k
  have no : ¬ pres fs d r k → k < min mem.toNat 8 ∧ IntKind.i64.wrap ((k : Int) + 1) = ((k + 1 : Nat) : Int) ∧ memN fs d r k = memN fs d r (k + 1) := fun g => ⟨hlt, hw, by rw [hs, if_neg g]⟩
  refine ⟨fun h1 => ⟨fun h2 => ⟨fun h3 => ?_, fun h3 => no fun g => h3 (hp.2 g).2.2⟩, fun h2 => no fun g => h2 (hp.2 g).2.1⟩, fun h1 => no fun g => by rw [(hp.2 g).1] at h1; cases h1⟩
  refine wp_app.2 ⟨by simp; omega, hlt, hw, ?_⟩
  rw [hs, if_pos (hp.1 h1 h2 h3)]
theorem rmem_eq (h : Hh) (d r : Int) (hl : h.2.2.2.length ≤ 100000) : M.ref35_MembersOn big h d r = some (memS h d r) := by
  obtain ⟨hid, sc, (mem : Int), fs⟩ := h
  apply Wp.eq
  unfold M.ref35_MembersOn
  unfold memS
  dsimp only [rInt, Row.den] at *
  refine Wp.count (fun s => s.1) (min mem.toNat 8) (fun k s => s.2 = memN fs d r k) (by omega) rfl rfl fun k s hk hs hJ => ?_
  obtain ⟨i, o⟩ := s
  dsimp only at hs hJ
  subst hs hJ
  simp only [ras_eq fs _ _ _ _ hl, a_, b_, c_, d_, e_, f_, g_, h_, i_, j_, k_, l_, m_, n_, o_, p_, q_, r_, s_, t_, u_, v_, w_, x_, y_, z_, A_, B_, C_, D_, E_, F_, G_, H_, I_, J_, K_, L_, M_, N_, O_, P_, reduceCtorEq, countQ_inl, countQ_inr]
  have stop : ¬ k < min mem.toNat 8 → memN fs d r k = memN fs d r (min mem.toNat 8) := fun h => by rw [show k = min mem.toNat 8 by omega]
  refine ⟨fun h1 => ⟨fun h2 => ?_, fun h2 => stop (by omega)⟩, fun h1 => stop (by omega)⟩
  have hlt : k < min mem.toNat 8 := by omega
  have hw := wrapS (m := min mem.toNat 8) (by omega) hlt
  have hp := pres_wp fs d r k
  have hs := memN_succ fs d r k
  have hn := memN_len fs d r k
  have no : ¬ pres fs d r k → k < min mem.toNat 8 ∧ IntKind.i64.wrap ((k : Int) + 1) = ((k + 1 : Nat) : Int) ∧ memN fs d r k = memN fs d r (k + 1) := fun g => ⟨hlt, hw, by rw [hs, if_neg g]⟩
  refine ⟨fun h1 => ⟨fun h2 => ⟨fun h3 => ?_, fun h3 => no fun g => h3 (hp.2 g).2.2⟩, fun h2 => no fun g => h2 (hp.2 g).2.1⟩, fun h1 => no fun g => by rw [(hp.2 g).1] at h1; cases h1⟩
  refine wp_app.2 ⟨by simp; omega, hlt, hw, ?_⟩
  rw [hs, if_pos (hp.1 h1 h2 h3)]
theorem sameInts_refl (l : List Int) (h : l.length ≤ 1048576) : M.same_Ints big l l = some true := by
  unfold M.same_Ints
  rw [if_neg (by simp)]
  refine sameLoop h (fun k hk => ?_) ?_
  · simp only [lt_dec' hk, idx_nat hk, Option.bind_some, if_true, decide_true, Bool.not_true, Bool.false_eq_true, if_false]
  · simp only [nlt_self, decide_false, Bool.false_eq_true, if_false, Option.bind_some]
theorem HouseholdMembers_true (h : Hh) (d r : Int) (_ : WF rHousehold h) (_ : WF rInt d) (_ : WF rInt r) : M.law35_HouseholdMembers big h d r = some true := by
  apply Wp.eq
  unfold M.law35_HouseholdMembers
  simp only [awake35, smallH_eq, a_, b_, c_, d_, e_, f_, g_, h_, i_, j_, k_, l_, m_, n_, o_, p_, q_, r_, s_, t_, u_, v_, w_, x_, y_, z_, A_, B_, C_, D_, E_, F_, G_, H_, I_, J_, K_, L_, M_, N_, O_, P_, reduceCtorEq]
  intro h1
  rw [pmem_eq h d r (by omega), rmem_eq h d r (by omega)]
  refine .some (.some ?_)
  rw [sameInts_refl _ (by have := memN_len h.2.2.2 d r (min (h.2.2.1 : Int).toNat 8); unfold memS; omega)]
  exact .some fun h => by cases h

/-! ## Values -/
noncomputable def valsN (fs : List Fct) (m d r : Int) : Nat → Option (List Val)
  | 0 => some []
  | n + 1 => match valsN fs m d r n, asF fs m n d r with
    | some vs, some f => some (vs ++ [f.2.2.2.1])
    | _, _ => none
def resV (o : Option (List Val)) : Bool × List Val := match o with
  | some vs => (true, vs)
  | none => (false, [])
theorem valsN_len {fs : List Fct} {m d r : Int} : ∀ {n : Nat} {vs : List Val}, valsN fs m d r n = some vs → vs.length = n
  | 0, vs, h => by cases h; rfl
  | n + 1, vs, h => by
    rw [valsN] at h
    split at h
    · rename_i us f h1 _
      cases h
      simp [valsN_len h1]
    · cases h
theorem valsN_stop {fs : List Fct} {m d r : Int} {k : Nat} (h : asF fs m k d r = none) : ∀ {n : Nat}, k < n → valsN fs m d r n = none
  | 0, hn => by omega
  | n + 1, hn => by
    rw [valsN]
    rcases Nat.lt_succ_iff_lt_or_eq.1 hn with h1 | rfl
    · rw [valsN_stop h h1]
    · rw [h]
      split
      · rename_i h2
        cases h2
      · rfl
theorem rvals_eq (h : Hh) (m : Int) (ins : List Fd) (d r : Int) (hl : h.2.2.2.length ≤ 100000) (hi : ins.length ≤ 100000) : M.ref35_inputs big h m ins d r = some (resV (valsN h.2.2.2 m d r ins.length)) := by
  apply Wp.eq
  unfold M.ref35_inputs
  refine Wp.count (fun s => s.1) ins.length (fun k s => valsN h.2.2.2 m d r k = some s.2) (by omega) rfl rfl fun k s hk hs hJ => ?_
  obtain ⟨i, o⟩ := s
  dsimp only at hs hJ
  subst hs
  simp only [ras_eq h.2.2.2 _ _ _ _ hl, a_, b_, c_, d_, e_, f_, g_, h_, i_, j_, k_, l_, m_, n_, o_, p_, q_, r_, s_, t_, u_, v_, w_, x_, y_, z_, A_, B_, C_, D_, E_, F_, G_, H_, I_, J_, K_, L_, M_, N_, O_, P_, reduceCtorEq, countQ_inl, countQ_inr]
  refine ⟨fun hlt => ?_, fun hge => by rw [show ins.length = k by omega, hJ]; rfl⟩
  have hlt : k < ins.length := by omega
  have hlen := valsN_len hJ
  cases ha : asF h.2.2.2 m (k : Int) d r with
  | none =>
    refine ⟨fun _ => (by rw [valsN_stop ha hlt]; rfl), fun g => (by cases g)⟩
  | some f =>
    refine ⟨fun g => (by cases g), fun _ => wp_app.2 ⟨by simp; omega, hlt, wrapS (m := ins.length) (by omega) hlt, ?_⟩⟩
    rw [valsN, hJ, ha]
    rfl
theorem set_val (l : List Val) (m : Nat) (z v : Val) : setL (l ++ List.replicate (m + 1) z) (l.length : Int) v = (l ++ [v]) ++ List.replicate m z := by
  unfold setL
  rw [Int.toNat_natCast, List.set_append_right _ _ (Nat.le_refl _), Nat.sub_self, List.replicate_succ, List.set_cons_zero]
  simp
theorem pvals_eq (fs : List Fct) (m : Int) (n : Nat) (d r : Int) (hl : fs.length ≤ 100000) (hn : n ≤ 100000) : M.household_valuesOn big fs m (n : Int) d r = some (resV (valsN fs m d r n)) := by
  apply Wp.eq
  unfold M.household_valuesOn
  rw [wp_bind]
  refine wp_mkL.2 ⟨by omega, ?_⟩
  rw [Int.toNat_natCast, List.length_replicate]
  generalize hz : (((0 : Int), ((0 : Int), (0 : Int))) : Val) = z
  refine Wp.count (fun s => s.1) n (fun k s => ∃ vs, valsN fs m d r k = some vs ∧ s.2 = vs ++ List.replicate (n - k) z) (by omega) rfl ⟨[], rfl, rfl⟩ fun k s hk hs hJ => ?_
  obtain ⟨i, o⟩ := s
  obtain ⟨vs, hv, ho⟩ := hJ
  dsimp only at hs ho
  subst hs ho
  simp only [as_eq fs _ _ _ _ hl, a_, b_, c_, d_, e_, f_, g_, h_, i_, j_, k_, l_, m_, n_, o_, p_, q_, r_, s_, t_, u_, v_, w_, x_, y_, z_, A_, B_, C_, D_, E_, F_, G_, H_, I_, J_, K_, L_, M_, N_, O_, P_, reduceCtorEq, countQ_inl, countQ_inr]
  have hlen := valsN_len hv
  refine ⟨fun hlt => ?_, fun hge => ?_⟩
  · have hlt : k < n := by omega
    cases ha : asF fs m (k : Int) d r with
    | none =>
      refine ⟨fun _ => (by rw [valsN_stop ha hlt]; rfl), fun g => (by cases g)⟩
    | some f =>
      refine ⟨fun g => (by cases g), fun _ => wp_idx.2 ⟨by simp; omega, hlt, wrapS (m := n) (by omega) hlt, vs ++ [f.2.2.2.1], ?_, ?_⟩⟩
      · rw [valsN, hv, ha]
      · show setL (vs ++ List.replicate (n - k) z) (k : Int) f.2.2.2.1 = _
        rw [show n - k = (n - (k + 1)) + 1 by omega, ← hlen, set_val]
  · obtain rfl : n = k := by omega
    rw [hv, Nat.sub_self]
    show _ = (true, vs)
    simp
/-! ## Cases -/
def seqN {α : Type} (g : Nat → Option α) : Nat → Option (List α)
  | 0 => some []
  | n + 1 => match seqN g n, g n with
    | some vs, some v => some (vs ++ [v])
    | _, _ => none
theorem seqN_len {α : Type} {g : Nat → Option α} : ∀ {n : Nat} {vs : List α}, seqN g n = some vs → vs.length = n
  | 0, vs, h => by cases h; rfl
  | n + 1, vs, h => by
    rw [seqN] at h
    split at h
    · rename_i us f h1 _
      cases h
      simp [seqN_len h1]
    · cases h
theorem seqN_stop {α : Type} {g : Nat → Option α} {k : Nat} (h : g k = none) : ∀ {n : Nat}, k < n → seqN g n = none
  | 0, hn => by omega
  | n + 1, hn => by
    rw [seqN]
    rcases Nat.lt_succ_iff_lt_or_eq.1 hn with h1 | rfl
    · rw [seqN_stop h h1]
    · rw [h]
      split
      · rename_i h2
        cases h2
      · rfl
noncomputable def memG (fs : List Fct) (ms : List Int) (d r : Int) (n : Nat) (k : Nat) : Option (List Val) := match ms[k]? with
  | some m => valsN fs m d r n
  | none => none
abbrev Cs : Type := Int × Int × List Val × List (List Val)
noncomputable def caseX (l : Lw) (x : Scp) (h : Hh) (d r : Int) : Cs := if d < 0 ∨ 109572 < d then (0, 3, [], []) else match valsN h.2.2.2 (-1) d r x.2.2.1.length with
  | none => (0, 6, [], [])
  | some vs => match seqN (memG h.2.2.2 (memS h d r) d r (miS l x).1.length) (memS h d r).length with
    | none => (0, 6, [], [])
    | some ms => (d, 0, vs, ms)
noncomputable def caseS (l : Lw) (h : Hh) (d r : Int) : Cs := if valS l ≠ okE then (0, 1, [], []) else if (hvS l h).2 ≠ 0 then (0, 1, [], []) else match l.2.2[(h.2.1 : Int).toNat]? with
  | some x => caseX l x h d r
  | none => (0, 1, [], [])
theorem hvS_zero {l : Lw} {h : Hh} (hz : (hvS l h).2 = 0) : ∃ s : Nat, (h.2.1 : Int) = s ∧ ∃ hs : s < l.2.2.length, (hvX l l.2.2[s] h).2 = 0 := by
  unfold hvS at hz
  split at hz
  · cases hz
  rename_i hn
  obtain ⟨hid, (sc : Int), z⟩ := h
  dsimp only [rInt, Row.den] at *
  obtain ⟨s, rfl⟩ := Int.eq_ofNat_of_zero_le (show 0 ≤ sc by omega)
  have hs : s < l.2.2.length := by omega
  rw [Int.toNat_natCast, List.getElem?_eq_getElem hs] at hz
  exact ⟨s, rfl, hs, hz⟩
theorem mi_len {l : Lw} (hsm : SmallL l) {x : Scp} : (miS l x).1.length ≤ 14 := by
  unfold miS
  split
  · exact Nat.zero_le _
  split
  · rename_i y hy
    obtain ⟨hi, rfl⟩ := List.getElem?_eq_some_iff.1 hy
    exact (hsm.2.2.2.2.2 _ (List.getElem_mem hi)).2.1
  · exact Nat.zero_le _
theorem memS_len (h : Hh) (d r : Int) : (memS h d r).length ≤ 8 := by
  have := memN_len h.2.2.2 d r (min (h.2.2.1 : Int).toNat 8)
  unfold memS
  omega
theorem pcase_eq (l : Lw) (h : Hh) (d r : Int) (hw : WF rLaw l) (hsm : SmallL l) (hf : h.2.2.2.length ≤ 100000) : M.household_CaseOn big l h d r = some (caseS l h d r) := by
  apply Wp.eq
  unfold M.household_CaseOn
  simp only [pval_eq l hw hsm, phv_eq, pmem_eq h d r hf, a_, b_, c_, d_, e_, f_, g_, h_, i_, j_, k_, l_, m_, n_, o_, p_, q_, r_, s_, t_, u_, v_, w_, x_, y_, z_, A_, B_, C_, D_, E_, F_, G_, H_, I_, J_, K_, L_, M_, N_, O_, P_, reduceCtorEq]
  unfold caseS
  refine ⟨fun g => ?_, fun g => ?_⟩
  · rw [if_pos]
    intro e
    rw [e, show eqR rLawError okE ((0 : Int), ((0 : Int), ((0 : Int), (0 : Int)))) = true from eqR_iff.2 rfl] at g
    cases g
  have hv : valS l = okE := eqR_iff.1 g
  rw [if_neg (fun q => q hv)]
  refine ⟨fun g => by rw [if_pos g], fun g => ?_⟩
  rw [if_neg (fun q => q g)]
  obtain ⟨s, hsc, hs, hx⟩ := hvS_zero g
  rw [hsc, Int.toNat_natCast, List.getElem?_eq_getElem hs]
  have hss := hsm.2.2.2.2.2 _ (List.getElem_mem hs)
  simp only [mi_eq l s hs, idx_nat hs, a_, b_, c_, d_, e_, f_, g_, h_, i_, j_, k_, l_, m_, n_, o_, p_, q_, r_, s_, t_, u_, v_, w_, x_, y_, z_, A_, B_, C_, D_, E_, F_, G_, H_, I_, J_, K_, L_, M_, N_, O_, P_, reduceCtorEq]
  generalize l.2.2[s] = x at *
  have hml := mi_len (l := l) hsm (x := x)
  have h14 := hss.2.1
  have hmm := memS_len h d r
  unfold caseX
  simp only [pvals_eq h.2.2.2 _ _ d r hf (show x.2.2.1.length ≤ 100000 by omega), pvals_eq h.2.2.2 _ _ d r hf (show (miS l x).1.length ≤ 100000 by omega), a_, b_, c_, d_, e_, f_, g_, h_, i_, j_, k_, l_, m_, n_, o_, p_, q_, r_, s_, t_, u_, v_, w_, x_, y_, z_, A_, B_, C_, D_, E_, F_, G_, H_, I_, J_, K_, L_, M_, N_, O_, P_, reduceCtorEq]
  refine ⟨fun g => by rw [if_pos (.inl g)], fun g1 => ⟨fun g => by rw [if_pos (.inr g)], fun g2 => ?_⟩⟩
  rw [if_neg (by omega)]
  cases hv1 : valsN h.2.2.2 (-1) d r x.2.2.1.length with
  | none => exact ⟨fun _ => rfl, fun g => (by cases g)⟩
  | some vs =>
    refine ⟨fun g => (by cases g), fun _ => ?_⟩
    refine Wp.count (fun s => s.1) (memS h d r).length (fun k s => s.2.1 = d ∧ s.2.2.1 = vs ∧ seqN (memG h.2.2.2 (memS h d r) d r (miS l x).1.length) k = some s.2.2.2) (by omega) rfl ⟨rfl, rfl, rfl⟩ fun k s hk hs hJ => ?_
    obtain ⟨i, a, b, o⟩ := s
    obtain ⟨ha, hb, hJ⟩ := hJ
    dsimp only at hs hJ ha hb
    subst hs ha hb
    simp only [a_, b_, c_, d_, e_, f_, g_, h_, i_, j_, k_, l_, m_, n_, o_, p_, q_, r_, s_, t_, u_, v_, w_, x_, y_, z_, A_, B_, C_, D_, E_, F_, G_, H_, I_, J_, K_, L_, M_, N_, O_, P_, reduceCtorEq, countQ_inl, countQ_inr]
    refine ⟨fun hlt => ?_, fun hge => ?_⟩
    · have hlt : k < (memS h a r).length := by omega
      have hg : memG h.2.2.2 (memS h a r) a r (miS l x).1.length k = valsN h.2.2.2 (memS h a r)[k] a r (miS l x).1.length := by
        unfold memG
        rw [List.getElem?_eq_getElem hlt]
      have hlen := seqN_len hJ
      simp only [idx_nat hlt, wrapS (m := (memS h a r).length) (by omega) hlt, a_, b_, c_, d_, e_, f_, g_, h_, i_, j_, k_, l_, m_, n_, o_, p_, q_, r_, s_, t_, u_, v_, w_, x_, y_, z_, A_, B_, C_, D_, E_, F_, G_, H_, I_, J_, K_, L_, M_, N_, O_, P_, reduceCtorEq]
      cases hv2 : valsN h.2.2.2 (memS h a r)[k] a r (miS l x).1.length with
      | none =>
        refine ⟨fun _ => ?_, fun g => (by cases g)⟩
        rw [seqN_stop (hg.trans hv2) hlt]
      | some us =>
        refine ⟨fun g => (by cases g), fun _ => wp_app.2 ⟨by simp; omega, hlt, ?_⟩⟩
        rw [seqN, hJ, hg, hv2]
        simp
        rfl
    · obtain rfl : k = (memS h a r).length := by omega
      rw [hJ]
theorem valS_zero {l : Lw} (h : (valS l).1 = 0) : valS l = okE := by
  obtain ⟨a1, a2, a3, a4, a5, a6⟩ := Valid.scopes (l := l) h
  unfold valS
  have e1 : firstE (fun k => (enumS l k).map fun e => (k, e)) l.1.length = none := firstE_none.2 fun k hk => mapn (a4 k hk)
  have e2 : firstE (fun k => (tabS l k).map fun e => (k, e)) l.2.1.length = none := firstE_none.2 fun k hk => mapn (a5 k hk)
  have e3 : firstE (fun k => (scpS l k).map fun e => (k, e)) l.2.2.length = none := firstE_none.2 fun k hk => mapn (a6 k hk)
  rw [if_neg (by omega), e1]
  dsimp only
  rw [if_neg (by omega), e2]
  dsimp only
  rw [if_neg (by omega), e3]
theorem isValid35 (l : Lw) (hw : WF rLaw l) (hsm : SmallL l) : M.ref17_IsValid big l = some (decide (valS l = okE)) := by
  unfold M.ref17_IsValid
  rw [valS_eq l hw hsm, Option.bind_some]
  congr 1
  exact decide_eq_decide.2 ⟨fun h => valS_zero h, fun h => by rw [h]; rfl⟩
/-- The case of a household on a date, by the reference. -/
theorem rcase_eq (l : Lw) (h : Hh) (d r : Int) (hw : WF rLaw l) (hsm : SmallL l) (hf : h.2.2.2.length ≤ 100000) : M.ref35_CaseOn big l h d r = some (caseS l h d r) := by
  apply Wp.eq
  unfold M.ref35_CaseOn M.ref35_CaseOnValid
  simp only [isValid35 l hw hsm, rhv_eq, rmem_eq h d r hf, a_, b_, c_, d_, e_, f_, g_, h_, i_, j_, k_, l_, m_, n_, o_, p_, q_, r_, s_, t_, u_, v_, w_, x_, y_, z_, A_, B_, C_, D_, E_, F_, G_, H_, I_, J_, K_, L_, M_, N_, O_, P_, reduceCtorEq]
  unfold caseS
  refine ⟨fun g => by rw [if_pos g], fun g => ?_⟩
  rw [if_neg (fun q => q g)]
  refine ⟨fun g => by rw [if_pos g], fun g => ?_⟩
  rw [if_neg (fun q => q g)]
  obtain ⟨s, hsc, hs, hx⟩ := hvS_zero g
  rw [hsc, Int.toNat_natCast, List.getElem?_eq_getElem hs]
  have hss := hsm.2.2.2.2.2 _ (List.getElem_mem hs)
  simp only [rmi_eq l s hs, idx_nat hs, a_, b_, c_, d_, e_, f_, g_, h_, i_, j_, k_, l_, m_, n_, o_, p_, q_, r_, s_, t_, u_, v_, w_, x_, y_, z_, A_, B_, C_, D_, E_, F_, G_, H_, I_, J_, K_, L_, M_, N_, O_, P_, reduceCtorEq]
  generalize l.2.2[s] = x at *
  have hml := mi_len (l := l) hsm (x := x)
  have h14 := hss.2.1
  have hmm := memS_len h d r
  unfold caseX
  simp only [rvals_eq h _ _ d r hf (show x.2.2.1.length ≤ 100000 by omega), rvals_eq h _ _ d r hf (show (miS l x).1.length ≤ 100000 by omega), a_, b_, c_, d_, e_, f_, g_, h_, i_, j_, k_, l_, m_, n_, o_, p_, q_, r_, s_, t_, u_, v_, w_, x_, y_, z_, A_, B_, C_, D_, E_, F_, G_, H_, I_, J_, K_, L_, M_, N_, O_, P_, reduceCtorEq]
  refine ⟨fun g => by rw [if_pos (.inl g)], fun g1 => ⟨fun g => by rw [if_pos (.inr g)], fun g2 => ?_⟩⟩
  rw [if_neg (by omega)]
  cases hv1 : valsN h.2.2.2 (-1) d r x.2.2.1.length with
  | none => exact ⟨fun _ => rfl, fun g => (by cases g)⟩
  | some vs =>
    refine ⟨fun g => (by cases g), fun _ => ?_⟩
    refine Wp.count (fun s => s.1) (memS h d r).length (fun k s => s.2.2.1 = d ∧ s.2.1 = vs ∧ seqN (memG h.2.2.2 (memS h d r) d r (miS l x).1.length) k = some s.2.2.2) (by omega) rfl ⟨rfl, rfl, rfl⟩ fun k s hk hs hJ => ?_
    obtain ⟨i, b, a, o⟩ := s
    obtain ⟨ha, hb, hJ⟩ := hJ
    dsimp only at hs hJ ha hb
    subst hs ha hb
    simp only [a_, b_, c_, d_, e_, f_, g_, h_, i_, j_, k_, l_, m_, n_, o_, p_, q_, r_, s_, t_, u_, v_, w_, x_, y_, z_, A_, B_, C_, D_, E_, F_, G_, H_, I_, J_, K_, L_, M_, N_, O_, P_, reduceCtorEq, countQ_inl, countQ_inr]
    refine ⟨fun hlt => ?_, fun hge => ?_⟩
    · have hlt : k < (memS h a r).length := by omega
      have hg : memG h.2.2.2 (memS h a r) a r (miS l x).1.length k = valsN h.2.2.2 (memS h a r)[k] a r (miS l x).1.length := by
        unfold memG
        rw [List.getElem?_eq_getElem hlt]
      have hlen := seqN_len hJ
      simp only [idx_nat hlt, wrapS (m := (memS h a r).length) (by omega) hlt, a_, b_, c_, d_, e_, f_, g_, h_, i_, j_, k_, l_, m_, n_, o_, p_, q_, r_, s_, t_, u_, v_, w_, x_, y_, z_, A_, B_, C_, D_, E_, F_, G_, H_, I_, J_, K_, L_, M_, N_, O_, P_, reduceCtorEq]
      cases hv2 : valsN h.2.2.2 (memS h a r)[k] a r (miS l x).1.length with
      | none =>
        refine ⟨fun _ => ?_, fun g => (by cases g)⟩
        rw [seqN_stop (hg.trans hv2) hlt]
      | some us =>
        refine ⟨fun g => (by cases g), fun _ => wp_app.2 ⟨by simp; omega, hlt, ?_⟩⟩
        rw [seqN, hJ, hg, hv2]
        simp
        rfl
    · obtain rfl : k = (memS h a r).length := by omega
      rw [hJ]

/-! ## The same -/
theorem sameValues_refl (l : List Val) (h : l.length ≤ 1048576) : M.same_Values big l l = some true := by
  unfold M.same_Values
  rw [if_neg (by simp)]
  refine sameLoop h (fun k hk => ?_) ?_
  · simp only [lt_dec' hk, idx_nat hk, Option.bind_some, if_true, eqR_refl, Bool.not_true, Bool.false_eq_true, if_false]
  · simp only [nlt_self, decide_false, Bool.false_eq_true, if_false, Option.bind_some]
theorem sameLists_refl (l : List (List Val)) (h' : l.length ≤ 1048576) (h : ∀ x ∈ l, x.length ≤ 1048576) : M.same_ValueLists big l l = some true := by
  unfold M.same_ValueLists
  rw [if_neg (by simp)]
  refine sameLoop h' (fun k hk => ?_) ?_
  · simp only [lt_dec' hk, idx_nat hk, sameValues_refl _ (h _ (List.getElem_mem hk)), Option.bind_some, if_true, Bool.not_true, Bool.false_eq_true, if_false]
  · simp only [nlt_self, decide_false, Bool.false_eq_true, if_false, Option.bind_some]
/-- Lists within a case are short. -/
def ShortC (c : Cs) : Prop := c.2.2.1.length ≤ 1048576 ∧ c.2.2.2.length ≤ 1048576 ∧ ∀ x ∈ c.2.2.2, x.length ≤ 1048576
theorem sameCase_refl (c : Cs) (h : ShortC c) : M.same_Case big ((c.1, (c.2.2.1, c.2.2.2)) : rCase.den) ((c.1, (c.2.2.1, c.2.2.2)) : rCase.den) = some true := by
  unfold M.same_Case
  simp only [sameValues_refl _ h.1, sameLists_refl _ h.2.1 h.2.2, decide_true, if_true, Option.bind_some]
theorem seqN_mem {α : Type} {g : Nat → Option α} : ∀ {n : Nat} {vs : List α}, seqN g n = some vs → ∀ k, ∀ h : k < vs.length, g k = some vs[k]
  | 0, vs, h, k, hk => by cases h; cases hk
  | n + 1, vs, h, k, hk => by
    rw [seqN] at h
    split at h
    case h_2 => cases h
    rename_i us v h1 h2
    cases h
    by_cases e : k < us.length
    · rw [List.getElem_append_left e]
      exact seqN_mem h1 k e
    · have : k = us.length := by simp at hk; omega
      subst this
      rw [List.getElem_append_right (Nat.le_refl _)]
      have := seqN_len h1
      simp only [Nat.sub_self, List.getElem_singleton]
      rw [this]
      exact h2
theorem caseS_short {l : Lw} (hsm : SmallL l) (h : Hh) (d r : Int) : ShortC (caseS l h d r) := by
  have e : ∀ a b : Int, ShortC (a, b, [], []) := fun a b => ⟨Nat.zero_le _, Nat.zero_le _, fun x hx => by cases hx⟩
  unfold caseS
  split
  · exact e ..
  split
  · exact e ..
  split
  case h_2 => exact e ..
  rename_i x hx
  obtain ⟨hi, rfl⟩ := List.getElem?_eq_some_iff.1 hx
  have h14 := (hsm.2.2.2.2.2 _ (List.getElem_mem hi)).2.1
  generalize l.2.2[(h.2.1 : Int).toNat] = x at *
  have hml := mi_len (l := l) hsm (x := x)
  have hmm := memS_len h d r
  unfold caseX
  split
  · exact e ..
  split
  · exact e ..
  rename_i vs hvs
  split
  · exact e ..
  rename_i ms hms
  have l1 := valsN_len hvs
  have l2 := seqN_len hms
  refine ⟨by show vs.length ≤ _; omega, by show ms.length ≤ _; omega, fun y hy => ?_⟩
  obtain ⟨k, hk, rfl⟩ := List.getElem_of_mem hy
  have := seqN_mem hms k hk
  unfold memG at this
  split at this
  · exact Nat.le_trans (Nat.le_of_eq (valsN_len this)) (by omega)
  · cases this
theorem HouseholdCase_true (l : Lw) (h : Hh) (d r : Int) (hw : WF rLaw l) (_ : WF rHousehold h) (_ : WF rInt d) (_ : WF rInt r) : M.law35_HouseholdCase big l h d r = some true := by
  apply Wp.eq
  unfold M.law35_HouseholdCase
  simp only [awake35, smallH_eq, a_, b_, c_, d_, e_, f_, g_, h_, i_, j_, k_, l_, m_, n_, o_, p_, q_, r_, s_, t_, u_, v_, w_, x_, y_, z_, A_, B_, C_, D_, E_, F_, G_, H_, I_, J_, K_, L_, M_, N_, O_, P_, reduceCtorEq]
  refine (smallL_wp l hw).mono fun q hq h1 h2 => ?_
  have hsm := hq h1
  have hc := caseS_short hsm h d r
  rw [pcase_eq l h d r hw hsm (by omega), rcase_eq l h d r hw hsm (by omega)]
  refine .some (.some ?_)
  rw [sameCase_refl _ hc]
  exact .some ⟨fun _ g => g rfl, fun g => (by cases g)⟩
end L
end Go.Proofs.YtdpikadpkgkhkaaGreat
