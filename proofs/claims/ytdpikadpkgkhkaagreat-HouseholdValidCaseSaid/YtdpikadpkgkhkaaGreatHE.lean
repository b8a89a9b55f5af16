/- Chapter 35: the case of a household is valid for its scope (plain law HouseholdValidCase). -/
import Derived.Test.YtdpikadpkgkhkaaGreatHD
namespace Go.Proofs.YtdpikadpkgkhkaaGreat
open Go Go.RowKit
set_option maxRecDepth 100000
set_option linter.unusedSimpArgs false
namespace L

/-- Values that fit their fields. -/
def FitV (E : List En) (vs : List Val) (ins : List Fd) : Prop := vs.length = ins.length ∧ ∀ i, ∀ h : i < vs.length, ∀ h' : i < ins.length, ((vs[i].1, vs[i].2.1) : Ty) = ins[i].2 ∧ InB vs[i].2.2 ins[i].2 E
theorem checkValues_wp (l : Lw) (vs : List Val) (ins : List Fd) (hl : ins.length ≤ 100000) (h : FitV l.1 vs ins) : Wp (M.casedata_checkValues big l vs ins) fun r => r.2 = 0 := by
  obtain ⟨h1, h2⟩ := h
  unfold M.casedata_checkValues
  simp only [pBnd_eq, a_, b_, c_, d_, e_, f_, g_, h_, i_, j_, k_, l_, m_, n_, o_, p_, q_, r_, s_, t_, u_, v_, w_, x_, y_, z_, A_, B_, C_, D_, E_, F_, G_, H_, I_, J_, K_, L_, M_, N_, O_, P_, reduceCtorEq]
  refine ⟨fun g => by omega, fun _ => ⟨fun g => by omega, fun _ => ?_⟩⟩
  refine Wp.count (fun s => s) vs.length (fun _ _ => True) (by omega) rfl trivial fun k c hk hs _ => ?_
  obtain rfl : c = _ := hs
  simp only [a_, b_, c_, d_, e_, f_, g_, h_, i_, j_, k_, l_, m_, n_, o_, p_, q_, r_, s_, t_, u_, v_, w_, x_, y_, z_, A_, B_, C_, D_, E_, F_, G_, H_, I_, J_, K_, L_, M_, N_, O_, P_, reduceCtorEq, countQ_inl, countQ_inr]
  intro hlt
  have hlt : k < vs.length := by omega
  have hi : k < ins.length := by omega
  obtain ⟨g1, g2⟩ := h2 k hlt hi
  simp only [idx_nat hlt, idx_nat hi, wrapS (m := vs.length) (by omega) hlt, a_, b_, c_, d_, e_, f_, g_, h_, i_, j_, k_, l_, m_, n_, o_, p_, q_, r_, s_, t_, u_, v_, w_, x_, y_, z_, A_, B_, C_, D_, E_, F_, G_, H_, I_, J_, K_, L_, M_, N_, O_, P_, reduceCtorEq]
  have e1 : (vs[k].1 : Int) = ins[k].2.1 := congrArg Prod.fst g1
  have e2 : (vs[k].2.1 : Int) = ins[k].2.2 := congrArg Prod.snd g1
  obtain ⟨b1, b2⟩ := g2
  refine ⟨fun g => absurd e1 g, fun _ => ⟨fun g => absurd e2 g, fun _ => ⟨fun g => ?_, fun _ => ⟨fun g => ?_, fun _ => hlt⟩⟩⟩⟩
  · exact absurd b1 (Int.not_le.2 g)
  · exact absurd b2 (Int.not_le.2 g)
theorem cmi_eq (l : Lw) (k : Nat) (hk : k < l.2.2.length) : M.casedata_memberInputs big l (k : Int) = some ((miS l l.2.2[k]).1, if (miS l l.2.2[k]).2 = true then 8 else 0) := by
  apply Wp.eq
  unfold M.casedata_memberInputs
  simp only [idx_nat hk, a_, b_, c_, d_, e_, f_, g_, h_, i_, j_, k_, l_, m_, n_, o_, p_, q_, r_, s_, t_, u_, v_, w_, x_, y_, z_, A_, B_, C_, D_, E_, F_, G_, H_, I_, J_, K_, L_, M_, N_, O_, P_, reduceCtorEq]
  generalize l.2.2[k] = x
  obtain ⟨nm, (m : Int), z⟩ := x
  unfold miS
  dsimp only [rInt, Row.den]
  refine ⟨fun h => by rw [if_pos (.inl h)]; rfl, fun h => ⟨fun h' => by rw [if_pos (.inr h')]; rfl, fun h' => ?_⟩⟩
  rw [if_neg (by omega)]
  have hm : m.toNat < l.2.2.length := by omega
  refine wp_idx.2 ⟨by omega, ?_⟩
  rw [List.getElem?_eq_getElem hm]
  rfl
/-- A fact of a valid household has a value of the type of what it speaks of. -/
theorem fact_fits {l : Lw} {x : Scp} {mem : Int} {f : Fct} (h : hE l x mem f = 0) {m : Int} {i : Nat} (hm : (f.2.1 : Int) = m) (hi : (f.2.2.1 : Int) = i) (hlt : i < (insOf l x m).length) : ((f.2.2.2.1.1, f.2.2.2.1.2.1) : Ty) = (insOf l x m)[i].2 ∧ InB f.2.2.2.1.2.2 (insOf l x m)[i].2 l.1 := by
  subst hm
  unfold hE at h
  split at h
  · cases h
  have ht : tyOf (insOf l x f.2.1) f.2.2.1 = some (insOf l x f.2.1)[i].2 := by
    unfold tyOf
    rw [hi, if_neg (by omega), if_neg (by omega), Int.toNat_natCast, List.getElem?_eq_getElem hlt]
    rfl
  unfold hT at h
  rw [ht] at h
  dsimp only at h
  split at h
  · cases h
  rename_i h1
  split at h
  · cases h
  rename_i h2
  exact ⟨Classical.not_not.1 h1, Classical.not_not.1 h2⟩
theorem vals_fit {l : Lw} {x : Scp} {mem : Int} {fs : List Fct} (h : ∀ f ∈ fs, hE l x mem f = 0) {m d r : Int} : ∀ {n : Nat} {vs : List Val}, n ≤ (insOf l x m).length → valsN fs m d r n = some vs → ∀ i, ∀ hi : i < vs.length, ∀ h' : i < (insOf l x m).length, ((vs[i].1, vs[i].2.1) : Ty) = (insOf l x m)[i].2 ∧ InB vs[i].2.2 (insOf l x m)[i].2 l.1
  | 0, vs, _, hv => by cases hv; intro i hi; cases hi
  | n + 1, vs, hn, hv => by
    rw [valsN] at hv
    split at hv
    case h_2 => cases hv
    rename_i us f h1 h2
    cases hv
    intro i hi h'
    have hlen := valsN_len h1
    by_cases e : i < us.length
    · rw [List.getElem_append_left e]
      exact vals_fit h (by omega) h1 i e h'
    · have e : i = us.length := by simp at hi; omega
      subst e
      rw [List.getElem_append_right (Nat.le_refl _)]
      simp only [Nat.sub_self, List.getElem_singleton]
      have hb := asF_best m (n : Int) d r fs
      rw [h2] at hb
      obtain ⟨hf, hm, _⟩ := hb
      exact fact_fits (h f hf) hm.1 (by rw [hm.2.1, hlen]) h'
theorem mem_nonneg {h : Hh} {d r m : Int} (hm : m ∈ memS h d r) : 0 ≤ m := by
  unfold memS memN at hm
  obtain ⟨k, _, rfl⟩ := List.mem_map.1 hm
  omega
theorem HouseholdValidCase_true (l : Lw) (h : Hh) (d r : Int) (hw : WF rLaw l) (_ : WF rHousehold h) (_ : WF rInt d) (_ : WF rInt r) : M.law35_HouseholdValidCase big l h d r = some true := by
  apply Wp.eq
  unfold M.law35_HouseholdValidCase
  simp only [awake35, smallH_eq, a_, b_, c_, d_, e_, f_, g_, h_, i_, j_, k_, l_, m_, n_, o_, p_, q_, r_, s_, t_, u_, v_, w_, x_, y_, z_, A_, B_, C_, D_, E_, F_, G_, H_, I_, J_, K_, L_, M_, N_, O_, P_, reduceCtorEq]
  refine (smallL_wp l hw).mono fun q hq h1 h2 => ?_
  have hsm := hq h1
  have hf : h.2.2.2.length ≤ 100000 := by omega
  rw [pcase_eq l h d r hw hsm hf]
  refine .some ?_
  have zero : ∀ a : Int, a ≠ 0 → Wp (M.same_Case big (((0 : Int), (([] : List Val), ([] : List (List Val)))) : rCase.den) ((0 : Int), (([] : List rValue.den), ([] : List (List rValue.den))))) fun x => x = false → False := fun a _ => by
    rw [show M.same_Case big (((0 : Int), (([] : List Val), ([] : List (List Val)))) : rCase.den) ((0 : Int), (([] : List rValue.den), ([] : List (List rValue.den)))) = some true from sameCase_refl ((0 : Int), (0 : Int), [], []) ⟨Nat.zero_le _, Nat.zero_le _, fun x hx => by cases hx⟩]
    exact .some fun g => (by cases g)
  obtain ⟨C, hC⟩ : ∃ C, C = caseS l h d r := ⟨_, rfl⟩
  rw [← hC]
  have err : ∀ a : Int, a ≠ 0 → C = ((0 : Int), a, [], []) → (¬ C.2.1 = 0 → Wp (M.same_Case big ((C.1, (C.2.2.1, C.2.2.2)) : rCase.den) ((0 : Int), (([] : List rValue.den), ([] : List (List rValue.den))))) fun x => x = false → False) ∧ (C.2.1 = 0 → Wp (M.casedata_Validate big l h.2.1 ((C.1, (C.2.2.1, C.2.2.2)) : rCase.den)) fun y9 => (y9.2.2 = 0 → (C.1 = d → Wp (M.household_MembersOn big h d r) fun x => ¬ ((C.2.2.2.length : Int) = (x.length : Int)) → False) ∧ (¬ C.1 = d → False)) ∧ (¬ y9.2.2 = 0 → False)) := fun a ha e => by
    subst e
    exact ⟨fun _ => zero a ha, fun g => absurd g ha⟩
  unfold caseS at hC
  split at hC
  · exact err 1 (by decide) hC
  split at hC
  · exact err 1 (by decide) hC
  rename_i hz
  obtain ⟨s, hsc, hs, hx⟩ := hvS_zero (Classical.not_not.1 hz)
  rw [hsc, Int.toNat_natCast, List.getElem?_eq_getElem hs] at hC
  dsimp only at hC
  obtain ⟨n1, n2, n3⟩ := hvX_iff.1 hx
  have h14 := (hsm.2.2.2.2.2 _ (List.getElem_mem hs)).2.1
  have hmi := cmi_eq l s hs
  obtain ⟨x, hxe⟩ : ∃ x, x = l.2.2[s] := ⟨_, rfl⟩
  rw [← hxe] at hC n1 n3 h14 hmi
  unfold caseX at hC
  split at hC
  · exact err 3 (by decide) hC
  rename_i hd
  split at hC
  · exact err 6 (by decide) hC
  rename_i vs hvs
  split at hC
  · exact err 6 (by decide) hC
  rename_i ms hms
  subst hC
  have hml := mi_len (l := l) hsm (x := x)
  have hmm := memS_len h d r
  have l1 := valsN_len hvs
  have l2 := seqN_len hms
  have hins : insOf l x (-1) = x.2.2.1 := by unfold insOf; rw [if_pos rfl]
  have fit1 : FitV l.1 vs x.2.2.1 := ⟨l1, fun i hi hi' => by
    have := vals_fit (mem := h.2.2.1) n3 (m := -1) (d := d) (r := r) (n := x.2.2.1.length) (vs := vs) (by rw [hins]; exact Nat.le_refl _) hvs i hi (by rw [hins]; exact hi')
    simpa only [hins] using this⟩
  have fit2 : ∀ k, ∀ hk : k < ms.length, FitV l.1 ms[k] (miS l x).1 := fun k hk => by
    have hg := seqN_mem hms k hk
    unfold memG at hg
    split at hg
    case h_2 => cases hg
    rename_i m hm
    have h0 := mem_nonneg (List.mem_of_getElem? hm)
    have hins : insOf l x m = (miS l x).1 := by unfold insOf; rw [if_neg (by omega)]
    refine ⟨valsN_len hg, fun i hi hi' => ?_⟩
    have := vals_fit (mem := h.2.2.1) n3 (m := m) (d := d) (r := r) (n := (miS l x).1.length) (vs := ms[k]) (by rw [hins]; exact Nat.le_refl _) hg i hi (by rw [hins]; exact hi')
    simpa only [hins] using this
  refine ⟨fun g => absurd rfl g, fun _ => ?_⟩
  unfold M.casedata_Validate
  dsimp only
  have hsc' : (h.2.1 : Int) = (s : Int) := hsc
  simp only [hsc', idx_nat hs, ← hxe, hmi, a_, b_, c_, d_, e_, f_, g_, h_, i_, j_, k_, l_, m_, n_, o_, p_, q_, r_, s_, t_, u_, v_, w_, x_, y_, z_, A_, B_, C_, D_, E_, F_, G_, H_, I_, J_, K_, L_, M_, N_, O_, P_, reduceCtorEq]
  refine ⟨fun g => ?_, fun _ => ⟨fun g => ?_, fun _ => ⟨fun g => ?_, fun _ => ⟨fun g => ?_, fun _ => ?_⟩⟩⟩⟩
  · have g : (s : Int) < 0 := g; omega
  · have g : (l.2.2.length : Int) ≤ (s : Int) := g; omega
  · have g : d < 0 := g; omega
  · have g : 109572 < d := g; omega
  refine (checkValues_wp l vs x.2.2.1 (by omega) fit1).mono fun c hc => ?_
  refine ⟨fun g => absurd hc g, fun _ => ⟨fun g => ?_, fun _ => ?_⟩⟩
  · exfalso
    by_cases hb : (miS l x).2 = true
    · rw [if_pos hb] at g
      omega
    · rw [if_neg hb] at g
      have hR := n1
      unfold HR at hR
      have hm0 : (h.2.2.1 : Int) = 0 := Classical.not_not.1 fun e => hR (.inr (.inr (.inr ⟨e, by simpa using hb⟩)))
      have : memS h d r = [] := by
        unfold memS
        rw [hm0]
        rfl
      rw [this] at l2
      simp at l2
      rw [l2] at g
      simp at g
  · refine Wp.count (fun s => s) ms.length (fun _ _ => True) (by omega) rfl trivial fun k c hk hs' _ => ?_
    obtain rfl : c = _ := hs'
    simp only [a_, b_, c_, d_, e_, f_, g_, h_, i_, j_, k_, l_, m_, n_, o_, p_, q_, r_, s_, t_, u_, v_, w_, x_, y_, z_, A_, B_, C_, D_, E_, F_, G_, H_, I_, J_, K_, L_, M_, N_, O_, P_, reduceCtorEq, countQ_inl, countQ_inr]
    refine ⟨fun hlt => ?_, fun hge => ?_⟩
    · have hlt : k < ms.length := by omega
      simp only [idx_nat hlt, wrapS (m := ms.length) (by omega) hlt, a_, b_, c_, d_, e_, f_, g_, h_, i_, j_, k_, l_, m_, n_, o_, p_, q_, r_, s_, t_, u_, v_, w_, x_, y_, z_, A_, B_, C_, D_, E_, F_, G_, H_, I_, J_, K_, L_, M_, N_, O_, P_, reduceCtorEq]
      refine (checkValues_wp l ms[k] (miS l x).1 (by omega) (fit2 k hlt)).mono fun c hc => ?_
      exact ⟨fun g => absurd hc g, fun _ => hlt⟩
    · rw [pmem_eq h d r hf]
      refine .some ?_
      omega
end L
end Go.Proofs.YtdpikadpkgkhkaaGreat
