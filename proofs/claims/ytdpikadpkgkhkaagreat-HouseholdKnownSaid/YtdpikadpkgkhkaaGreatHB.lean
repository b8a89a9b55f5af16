/- Chapter 35: households: Validate, MembersOn, values, CaseOn as plain functions (plain laws). -/
import Derived.Test.YtdpikadpkgkhkaaGreatHA
namespace Go.Proofs.YtdpikadpkgkhkaaGreat
open Go Go.RowKit
set_option maxRecDepth 100000
set_option linter.unusedSimpArgs false
namespace L

/-! ## Validate -/
/-- The inputs of the members of a scope, and whether it has members. -/
def miS (l : Lw) (x : Scp) : List Fd × Bool := if (x.2.1 : Int) < 0 ∨ (l.2.2.length : Int) ≤ x.2.1 then ([], false) else match l.2.2[(x.2.1 : Int).toNat]? with
  | some y => (y.2.2.1, true)
  | none => ([], false)
theorem mi_eq (l : Lw) (k : Nat) (hk : k < l.2.2.length) : M.household_memberInputs big l (k : Int) = some (miS l l.2.2[k]) := by
  apply Wp.eq
  unfold M.household_memberInputs
  simp only [idx_nat hk, a_, b_, c_, d_, e_, f_, g_, h_, i_, j_, k_, l_, m_, n_, o_, p_, q_, r_, s_, t_, u_, v_, w_, x_, y_, z_, A_, B_, C_, D_, E_, F_, G_, H_, I_, J_, K_, L_, M_, N_, O_, P_, reduceCtorEq]
  generalize l.2.2[k] = x
  obtain ⟨nm, (m : Int), z⟩ := x
  unfold miS
  dsimp only [rInt, Row.den]
  refine ⟨fun h => by rw [if_pos (.inl h)], fun h => ⟨fun h' => by rw [if_pos (.inr h')], fun h' => ?_⟩⟩
  rw [if_neg (by omega)]
  have hm : m.toNat < l.2.2.length := by omega
  refine wp_idx.2 ⟨by omega, ?_⟩
  rw [List.getElem?_eq_getElem hm]
theorem rmi_eq (l : Lw) (k : Nat) (hk : k < l.2.2.length) : M.ref35_memberInputs big l (k : Int) = some (miS l l.2.2[k]) := mi_eq l k hk
/-- The type of an input, or of presence. -/
def tyOf (ins : List Fd) (i : Int) : Option Ty := if i = -1 then some ((1 : Int), (0 : Int)) else if i < 0 then none else (ins[i.toNat]?).map (·.2)
noncomputable def hT (E : List En) (ins : List Fd) (f : Fct) : Int := match tyOf ins f.2.2.1 with
  | none => 6
  | some t => if ((f.2.2.2.1.1, f.2.2.2.1.2.1) : Ty) ≠ t then 8 else if ¬ InB f.2.2.2.1.2.2 t E then 3 else 0
/-- The inputs that a fact speaks of. -/
def insOf (l : Lw) (x : Scp) (m : Int) : List Fd := if m = -1 then x.2.2.1 else (miS l x).1
noncomputable def hE (l : Lw) (x : Scp) (mem : Int) (f : Fct) : Int := if mem ≤ (f.2.1 : Int) then 6 else hT l.1 (insOf l x f.2.1) f
noncomputable def hvE (l : Lw) (x : Scp) (h : Hh) (k : Nat) : Option (Int × Int) := match h.2.2.2[k]? with
  | none => none
  | some f => if hE l x h.2.2.1 f ≠ 0 then some ((k : Int), hE l x h.2.2.1 f) else none
def HR (l : Lw) (x : Scp) (h : Hh) : Prop := (h.1 : Int) < 0 ∨ (h.2.2.1 : Int) < 0 ∨ 8 < (h.2.2.1 : Int) ∨ ((h.2.2.1 : Int) ≠ 0 ∧ (miS l x).2 = false)
noncomputable instance (l : Lw) (x : Scp) (h : Hh) : Decidable (HR l x h) := Classical.propDecidable _
noncomputable def hvX (l : Lw) (x : Scp) (h : Hh) : Int × Int := if HR l x h then (-1, 3) else if (fvS h.2.2.2).2 ≠ 0 then fvS h.2.2.2 else (firstE (hvE l x h) h.2.2.2.length).getD (0, 0)
noncomputable def hvS (l : Lw) (h : Hh) : Int × Int := if (h.2.1 : Int) < 0 ∨ (l.2.2.length : Int) ≤ h.2.1 then (-1, 6) else match l.2.2[(h.2.1 : Int).toNat]? with
  | none => (-1, 6)
  | some x => hvX l x h
theorem hvE_at {l : Lw} {x : Scp} {h : Hh} {k : Nat} (hk : k < h.2.2.2.length) : hvE l x h k = if hE l x h.2.2.1 h.2.2.2[k] ≠ 0 then some ((k : Int), hE l x h.2.2.1 h.2.2.2[k]) else none := by
  unfold hvE
  rw [List.getElem?_eq_getElem hk]
theorem hvX_bad {l : Lw} {x : Scp} {h : Hh} {k : Nat} {q : Int} (h1 : ¬ HR l x h) (h2 : (fvS h.2.2.2).2 = 0) (hk : k < h.2.2.2.length) (hq : hE l x h.2.2.1 h.2.2.2[k] = q) (h0 : q ≠ 0) (hJ : ∀ j, j < k → hvE l x h j = none) : hvX l x h = ((k : Int), q) := by
  subst hq
  unfold hvX
  rw [if_neg h1, if_neg (fun g => g h2), firstE_at ((hvE_at hk).trans (if_pos h0)) hJ hk]
  rfl
theorem hvX_ok {l : Lw} {x : Scp} {h : Hh} (h1 : ¬ HR l x h) (h2 : (fvS h.2.2.2).2 = 0) (hJ : ∀ j, j < h.2.2.2.length → hvE l x h j = none) : hvX l x h = (0, 0) := by
  unfold hvX
  rw [if_neg h1, if_neg (fun g => g h2), firstE_none.2 hJ]
  rfl
theorem faC_pos {l : List Fct} {k : Nat} {f : Fct} (h : faC l k f = 0) : ¬ FR f ∧ ¬ FT f ∧ ¬ Dup l k f.1 := by
  unfold faC cf at h
  by_cases h1 : FR f
  · rw [if_pos h1, if_pos (by decide)] at h; cases h
  rw [if_neg h1] at h
  by_cases h2 : FT f
  · rw [if_pos h2, if_pos (by decide)] at h; cases h
  rw [if_neg h2, if_neg (by decide)] at h
  by_cases h3 : Dup l k f.1
  · rw [if_pos h3] at h; cases h
  exact ⟨h1, h2, h3⟩
theorem fvS_zero {l : List Fct} (h : (fvS l).2 = 0) : l.length ≤ 128 ∧ ∀ k, ∀ hk : k < l.length, faC l k l[k] = 0 := by
  unfold fvS at h
  by_cases h8 : 128 < l.length
  · rw [if_pos h8] at h; exact absurd h (by decide)
  rw [if_neg h8] at h
  refine ⟨by omega, ?_⟩
  cases hf : firstE (faE l) l.length with
  | none =>
    intro k hk
    have := firstE_none.1 hf k hk
    rw [faE_at hk] at this
    split at this
    · cases this
    · exact Classical.not_not.1 ‹_›
  | some e =>
    rw [hf] at h
    obtain ⟨k, hk, he, _⟩ := firstE_some hf
    rw [faE_at hk] at he
    split at he
    · cases he
      exact absurd h ‹_›
    · cases he
/-- What the checks of a fact's type come to. -/
theorem hT_form {E : List En} {ins : List Fd} {v : Val} {i : Int} {P6 P8 P3 P0 : Prop} {q : Int} (hq : (match tyOf ins i with
  | none => (6 : Int)
  | some t => if ((v.1, v.2.1) : Ty) ≠ t then 8 else if ¬ InB v.2.2 t E then 3 else 0) = q) (h6 : q = 6 → P6) (h8 : q = 8 → P8) (h3 : q = 3 → P3) (h0 : q = 0 → P0) :
    (¬ i = -1 → (i < 0 → P6) ∧ (¬ i < 0 → ((ins.length : Int) ≤ i → P6) ∧ (¬ (ins.length : Int) ≤ i → Wp (idx ins i) fun x11 =>
      (¬ (v.1 : Int) = x11.2.1 → P8) ∧ ((v.1 : Int) = x11.2.1 → (¬ (v.2.1 : Int) = x11.2.2 → P8) ∧ ((v.2.1 : Int) = x11.2.2 → ((v.2.2 : Int) < (bnd x11.2 E).1 → P3) ∧ (¬ (v.2.2 : Int) < (bnd x11.2 E).1 → ((bnd x11.2 E).2 < (v.2.2 : Int) → P3) ∧ (¬ (bnd x11.2 E).2 < (v.2.2 : Int) → P0))))))) ∧
    (i = -1 → (¬ (v.1 : Int) = 1 → P8) ∧ ((v.1 : Int) = 1 → (¬ (v.2.1 : Int) = 0 → P8) ∧ ((v.2.1 : Int) = 0 → ((v.2.2 : Int) < (bnd ((1 : Int), (0 : Int)) E).1 → P3) ∧ (¬ (v.2.2 : Int) < (bnd ((1 : Int), (0 : Int)) E).1 → ((bnd ((1 : Int), (0 : Int)) E).2 < (v.2.2 : Int) → P3) ∧ (¬ (bnd ((1 : Int), (0 : Int)) E).2 < (v.2.2 : Int) → P0))))) := by
  obtain ⟨(kd : Int), (en : Int), (n : Int)⟩ := v
  dsimp only [rInt, Row.den] at *
  have some_ : ∀ t : Ty, tyOf ins i = some t → (¬ kd = (t.1 : Int) → P8) ∧ (kd = (t.1 : Int) → (¬ en = (t.2 : Int) → P8) ∧ (en = (t.2 : Int) → (n < (bnd t E).1 → P3) ∧ (¬ n < (bnd t E).1 → ((bnd t E).2 < n → P3) ∧ (¬ (bnd t E).2 < n → P0)))) := fun t ht => by
    rw [ht] at hq
    dsimp only at hq
    obtain ⟨(t1 : Int), (t2 : Int)⟩ := t
    dsimp only at *
    refine ⟨fun g => h8 ?_, fun g1 => ⟨fun g => h8 ?_, fun g2 => ?_⟩⟩
    · rw [← hq, if_pos (fun e => g (congrArg Prod.fst e))]
    · rw [← hq, if_pos (fun e => g (congrArg Prod.snd e))]
    subst g1 g2
    rw [if_neg (fun g => g rfl)] at hq
    refine ⟨fun g => h3 ?_, fun g1 => ⟨fun g => h3 ?_, fun g2 => h0 ?_⟩⟩
    · rw [← hq, if_pos (fun e => by have := e.1; omega)]
    · rw [← hq, if_pos (fun e => by have := e.2; omega)]
    · rw [← hq, if_neg (fun e => e ⟨by omega, by omega⟩)]
  refine ⟨fun h1 => ⟨fun h2 => h6 ?_, fun h2 => ⟨fun h => h6 ?_, fun h => ?_⟩⟩, fun h => ?_⟩
  · rw [← hq]; unfold tyOf; rw [if_neg h1, if_pos h2]
  · rw [← hq]; unfold tyOf; rw [if_neg h1, if_neg h2, List.getElem?_eq_none (by omega)]; rfl
  · have hi : i.toNat < ins.length := by omega
    refine wp_idx.2 ⟨by omega, ?_⟩
    exact some_ ins[i.toNat].2 (by unfold tyOf; rw [if_neg h1, if_neg h2, List.getElem?_eq_getElem hi]; rfl)
  · exact some_ ((1 : Int), (0 : Int)) (by unfold tyOf; rw [if_pos h])
theorem phv_eq (l : Lw) (h : Hh) : M.household_Validate big l h = some (hvS l h) := by
  apply Wp.eq
  unfold M.household_Validate
  obtain ⟨(hid : Int), (sc : Int), (mem : Int), fs⟩ := h
  simp only [pfv_eq, pBnd_eq, a_, b_, c_, d_, e_, f_, g_, h_, i_, j_, k_, l_, m_, n_, o_, p_, q_, r_, s_, t_, u_, v_, w_, x_, y_, z_, A_, B_, C_, D_, E_, F_, G_, H_, I_, J_, K_, L_, M_, N_, O_, P_, reduceCtorEq]
  unfold hvS
  dsimp only [rInt, Row.den]
  refine ⟨fun h => by rw [if_pos (.inl h)], fun h => ⟨fun h' => by rw [if_pos (.inr h')], fun h' => ?_⟩⟩
  rw [if_neg (by omega)]
  obtain ⟨s, rfl⟩ := Int.eq_ofNat_of_zero_le (show 0 ≤ sc by omega)
  have hs : s < l.2.2.length := by omega
  rw [Int.toNat_natCast, List.getElem?_eq_getElem hs]
  simp only [mi_eq l s hs, idx_nat hs, a_, b_, c_, d_, e_, f_, g_, h_, i_, j_, k_, l_, m_, n_, o_, p_, q_, r_, s_, t_, u_, v_, w_, x_, y_, z_, A_, B_, C_, D_, E_, F_, G_, H_, I_, J_, K_, L_, M_, N_, O_, P_, reduceCtorEq]
  generalize hx : l.2.2[s] = x
  have hR : HR l x (hid, ((s : Int), (mem, fs))) ↔ hid < 0 ∨ mem < 0 ∨ 8 < mem ∨ (mem ≠ 0 ∧ (miS l x).2 = false) := Iff.rfl
  have bad : HR l x (hid, ((s : Int), (mem, fs))) → ((-1 : Int), (3 : Int)) = hvX l x (hid, ((s : Int), (mem, fs))) := fun g => by unfold hvX; rw [if_pos g]
  have rest : ¬ HR l x (hid, ((s : Int), (mem, fs))) → (fvS fs).2 = 0 → Wp (Loop (S := Int) (X := Int × Int) (fun s5 => if s5 < (fs.length : Int) then (idx fs s5).bind fun x6 => if mem ≤ x6.2.1 then some (Sum.inr (s5, (6 : Int))) else
      (if x6.2.1 = (-1 : Int) then (some x).bind fun x8 => some x8.2.2.1 else some (miS l x).1 : Option (List rField.den)).bind fun j7 => Join (J := rType.den) (R := Int ⊕ (Int × Int)) (if ¬ x6.2.2.1 = (-1 : Int) then (if x6.2.2.1 < (0 : Int) then some true else some (decide ((j7.length : Int) ≤ x6.2.2.1)) : Option Bool).bind fun j10 => if j10 = true then some (Sum.inr (Sum.inr (s5, (6 : Int)))) else (idx j7 x6.2.2.1).bind fun x11 => some (Sum.inl x11.2) else some (Sum.inl ((1 : Int), (0 : Int)))) fun j9 =>
      (if ¬ x6.2.2.2.1.1 = j9.1 then some true else some (!decide (x6.2.2.2.1.2.1 = j9.2)) : Option Bool).bind fun j12 => if j12 = true then some (Sum.inr (s5, (8 : Int))) else (some (bnd j9 l.1)).bind fun y13 => (if x6.2.2.2.1.2.2 < y13.1 then some true else some (decide (y13.2 < x6.2.2.2.1.2.2)) : Option Bool).bind fun j14 => if j14 = true then some (Sum.inr (s5, (3 : Int))) else some (Sum.inl (IntKind.i64.wrap (s5 + (1 : Int)))) else some (Sum.inr ((0 : Int), (0 : Int)))) big (0 : Int)) fun r => r = hvX l x (hid, ((s : Int), (mem, fs))) := by
    intro n1 n2
    have hlen := (fvS_zero n2).1
    refine Wp.count (fun s => s) fs.length (fun k _ => ∀ j, j < k → hvE l x (hid, ((s : Int), (mem, fs))) j = none) (by omega) rfl (fun j hj => by omega) fun k c hk hs' hJ => ?_
    obtain rfl : c = _ := hs'
    simp only [a_, b_, c_, d_, e_, f_, g_, h_, i_, j_, k_, l_, m_, n_, o_, p_, q_, r_, s_, t_, u_, v_, w_, x_, y_, z_, A_, B_, C_, D_, E_, F_, G_, H_, I_, J_, K_, L_, M_, N_, O_, P_, reduceCtorEq, countQ_inl, countQ_inr]
    refine ⟨fun hlt => ?_, fun hge => (hvX_ok n1 n2 fun j hj => hJ j (by have hj : j < fs.length := hj; omega)).symm⟩
    have hlt : k < fs.length := by omega
    simp only [idx_nat hlt, wrapS (m := fs.length) (by omega) hlt, a_, b_, c_, d_, e_, f_, g_, h_, i_, j_, k_, l_, m_, n_, o_, p_, q_, r_, s_, t_, u_, v_, w_, x_, y_, z_, A_, B_, C_, D_, E_, F_, G_, H_, I_, J_, K_, L_, M_, N_, O_, P_, reduceCtorEq]
    have hE_ : hE l x mem fs[k] = if mem ≤ (fs[k].2.1 : Int) then 6 else hT l.1 (insOf l x fs[k].2.1) fs[k] := rfl
    have badq : ∀ q : Int, q ≠ 0 → hE l x mem fs[k] = q → ((k : Int), q) = hvX l x (hid, ((s : Int), (mem, fs))) := fun q h0 hq => (hvX_bad (k := k) n1 n2 hlt hq h0 hJ).symm
    have good : hE l x mem fs[k] = 0 → k < fs.length ∧ ∀ j, j < k + 1 → hvE l x (hid, ((s : Int), (mem, fs))) j = none := fun h0 => ⟨hlt, pre_succ hJ (by rw [hvE_at (h := (hid, ((s : Int), (mem, fs)))) hlt]; exact if_neg (fun g => g h0))⟩
    refine ⟨fun hm => badq 6 (by decide) (by rw [hE_, if_pos hm]), fun hm => ?_⟩
    rw [if_neg hm] at hE_
    refine ⟨fun h1 => ?_, fun h1 => ?_⟩
    · refine hT_form (i := fs[k].2.2.1) (v := fs[k].2.2.2.1) (ins := x.2.2.1) (E := l.1) (q := hE l x mem fs[k]) ?_ (badq 6 (by decide)) (badq 8 (by decide)) (badq 3 (by decide)) good
      rw [hE_]
      unfold insOf
      rw [if_pos h1]
      rfl
    · refine hT_form (i := fs[k].2.2.1) (v := fs[k].2.2.2.1) (ins := (miS l x).1) (E := l.1) (q := hE l x mem fs[k]) ?_ (badq 6 (by decide)) (badq 8 (by decide)) (badq 3 (by decide)) good
      rw [hE_]
      unfold insOf
      rw [if_neg h1]
      rfl
  have facts : ¬ HR l x (hid, ((s : Int), (mem, fs))) → ¬ (fvS fs).2 = 0 → ((fvS fs).1, (fvS fs).2) = hvX l x (hid, ((s : Int), (mem, fs))) := fun g1 g2 => by
    unfold hvX
    rw [if_neg g1]
    exact (if_pos g2).symm
  refine ⟨fun g => bad (hR.2 (.inl g)), fun g1 => ⟨fun g => bad (hR.2 (.inr (.inl g))), fun g2 => ⟨fun g => bad (hR.2 (.inr (.inr (.inl g)))), fun g3 => ⟨fun g4 => ⟨fun g => bad (hR.2 (.inr (.inr (.inr ⟨g4, g⟩)))), fun g5 => ?_⟩, fun g4 => ?_⟩⟩⟩⟩
  · have no : ¬ HR l x (hid, ((s : Int), (mem, fs))) := fun h => by
      rcases hR.1 h with h | h | h | ⟨_, h⟩
      · exact g1 h
      · exact g2 h
      · exact g3 h
      · rw [h] at g5; cases g5
    exact ⟨facts no, rest no⟩
  · have no : ¬ HR l x (hid, ((s : Int), (mem, fs))) := fun h => by
      rcases hR.1 h with h | h | h | ⟨h, _⟩
      · exact g1 h
      · exact g2 h
      · exact g3 h
      · exact h g4
    exact ⟨facts no, rest no⟩
theorem rfe_eq (l : Lw) (h : Hh) (f : Fct) (s : Nat) (hs : s < l.2.2.length) (hsc : (h.2.1 : Int) = s) (hm : -1 ≤ (f.2.1 : Int)) : M.ref35_factError big l h f = some (hE l l.2.2[s] h.2.2.1 f) := by
  obtain ⟨(hid : Int), (sc : Int), (mem : Int), fs⟩ := h
  obtain rfl : sc = (s : Int) := hsc
  apply Wp.eq
  unfold M.ref35_factError M.ref09_Type
  simp only [idx_nat hs, rmi_eq l s hs, eqT, InB_eq, a_, b_, c_, d_, e_, f_, g_, h_, i_, j_, k_, l_, m_, n_, o_, p_, q_, r_, s_, t_, u_, v_, w_, x_, y_, z_, A_, B_, C_, D_, E_, F_, G_, H_, I_, J_, K_, L_, M_, N_, O_, P_, reduceCtorEq]
  generalize l.2.2[s] = x
  obtain ⟨(a : Int), (b : Int), (c : Int), ⟨(k : Int), (e : Int), (n : Int)⟩, v, (rc : Int)⟩ := f
  unfold hE hT insOf
  dsimp only [rInt, Row.den] at *
  refine ⟨fun g => by rw [if_pos g], fun g => ?_⟩
  rw [if_neg g]
  have form : ∀ ins : List Fd, (¬ c = -1 → (c < 0 → 6 = (match tyOf ins c with
      | none => (6 : Int)
      | some t => if ((k, e) : Ty) ≠ t then 8 else if ¬ InB n t l.1 then 3 else 0)) ∧ (¬ c < 0 → ((ins.length : Int) ≤ c → 6 = (match tyOf ins c with
      | none => (6 : Int)
      | some t => if ((k, e) : Ty) ≠ t then 8 else if ¬ InB n t l.1 then 3 else 0)) ∧ (¬ (ins.length : Int) ≤ c → Wp (idx ins c) fun x11 => (¬ ((k, e) : Ty) = x11.2 → 8 = (match tyOf ins c with
      | none => (6 : Int)
      | some t => if ((k, e) : Ty) ≠ t then 8 else if ¬ InB n t l.1 then 3 else 0)) ∧ (((k, e) : Ty) = x11.2 → (¬ InB n x11.2 l.1 → 3 = (match tyOf ins c with
      | none => (6 : Int)
      | some t => if ((k, e) : Ty) ≠ t then 8 else if ¬ InB n t l.1 then 3 else 0)) ∧ (InB n x11.2 l.1 → 0 = (match tyOf ins c with
      | none => (6 : Int)
      | some t => if ((k, e) : Ty) ≠ t then 8 else if ¬ InB n t l.1 then 3 else 0)))))) ∧
      (c = -1 → (¬ ((k, e) : Ty) = ((1 : Int), (0 : Int)) → 8 = (match tyOf ins c with
      | none => (6 : Int)
      | some t => if ((k, e) : Ty) ≠ t then 8 else if ¬ InB n t l.1 then 3 else 0)) ∧ (((k, e) : Ty) = ((1 : Int), (0 : Int)) → (¬ InB n ((1 : Int), (0 : Int)) l.1 → 3 = (match tyOf ins c with
      | none => (6 : Int)
      | some t => if ((k, e) : Ty) ≠ t then 8 else if ¬ InB n t l.1 then 3 else 0)) ∧ (InB n ((1 : Int), (0 : Int)) l.1 → 0 = (match tyOf ins c with
      | none => (6 : Int)
      | some t => if ((k, e) : Ty) ≠ t then 8 else if ¬ InB n t l.1 then 3 else 0)))) := by
    intro ins
    refine ⟨fun h1 => ⟨fun h2 => ?_, fun h2 => ⟨fun h => ?_, fun h => ?_⟩⟩, fun h1 => ?_⟩
    · unfold tyOf; rw [if_neg h1, if_pos h2]
    · unfold tyOf; rw [if_neg h1, if_neg h2, List.getElem?_eq_none (by omega)]; rfl
    · have hi : c.toNat < ins.length := by omega
      refine wp_idx.2 ⟨by omega, ?_⟩
      unfold tyOf
      rw [if_neg h1, if_neg h2, List.getElem?_eq_getElem hi]
      simp only [Option.map_some]
      exact ⟨fun g => by rw [if_pos g], fun g => ⟨fun g' => by rw [if_neg (fun q => q g), if_pos g'], fun g' => by rw [if_neg (fun q => q g), if_neg (fun q => q g')]⟩⟩
    · unfold tyOf
      rw [if_pos h1]
      dsimp only
      exact ⟨fun g => by rw [if_pos g], fun g => ⟨fun g' => by rw [if_neg (fun q => q g), if_pos g'], fun g' => by rw [if_neg (fun q => q g), if_neg (fun q => q g')]⟩⟩
  refine ⟨fun g1 => ?_, fun g1 => ?_⟩
  · rw [if_neg (show ¬ b = -1 by omega)]
    exact form _
  · rw [if_pos (show b = -1 by omega)]
    exact form _
theorem rhv_eq (l : Lw) (h : Hh) : M.ref35_Validate big l h = some (hvS l h) := by
  apply Wp.eq
  unfold M.ref35_Validate
  have hh := h
  obtain ⟨(hid : Int), (sc : Int), (mem : Int), fs⟩ := h
  simp only [rfv_eq, a_, b_, c_, d_, e_, f_, g_, h_, i_, j_, k_, l_, m_, n_, o_, p_, q_, r_, s_, t_, u_, v_, w_, x_, y_, z_, A_, B_, C_, D_, E_, F_, G_, H_, I_, J_, K_, L_, M_, N_, O_, P_, reduceCtorEq]
  unfold hvS
  dsimp only [rInt, Row.den]
  refine ⟨fun h => by rw [if_pos (.inl h)], fun h => ⟨fun h' => by rw [if_pos (.inr h')], fun h' => ?_⟩⟩
  rw [if_neg (by omega)]
  obtain ⟨s, rfl⟩ := Int.eq_ofNat_of_zero_le (show 0 ≤ sc by omega)
  have hs : s < l.2.2.length := by omega
  rw [Int.toNat_natCast, List.getElem?_eq_getElem hs]
  have hfe := fun f hm => rfe_eq l (hid, ((s : Int), (mem, fs))) f s hs rfl hm
  simp only [rmi_eq l s hs, a_, b_, c_, d_, e_, f_, g_, h_, i_, j_, k_, l_, m_, n_, o_, p_, q_, r_, s_, t_, u_, v_, w_, x_, y_, z_, A_, B_, C_, D_, E_, F_, G_, H_, I_, J_, K_, L_, M_, N_, O_, P_, reduceCtorEq]
  generalize l.2.2[s] = x at *
  have hR : HR l x (hid, ((s : Int), (mem, fs))) ↔ hid < 0 ∨ mem < 0 ∨ 8 < mem ∨ (mem ≠ 0 ∧ (miS l x).2 = false) := Iff.rfl
  have bad : HR l x (hid, ((s : Int), (mem, fs))) → ((-1 : Int), (3 : Int)) = hvX l x (hid, ((s : Int), (mem, fs))) := fun g => by unfold hvX; rw [if_pos g]
  have facts : ¬ HR l x (hid, ((s : Int), (mem, fs))) → ¬ (fvS fs).2 = 0 → ((fvS fs).1, (fvS fs).2) = hvX l x (hid, ((s : Int), (mem, fs))) := fun g1 g2 => by
    unfold hvX
    rw [if_neg g1]
    exact (if_pos g2).symm
  have rest : ¬ HR l x (hid, ((s : Int), (mem, fs))) → (fvS fs).2 = 0 → Wp (Loop (S := Int) (X := Int × Int) (fun s5 => if s5 < (fs.length : Int) then (idx fs s5).bind fun x6 => (M.ref35_factError big l (hid, ((s : Int), (mem, fs))) x6).bind fun y7 => if ¬ y7 = (0 : Int) then some (Sum.inr (s5, y7)) else some (Sum.inl (IntKind.i64.wrap (s5 + (1 : Int)))) else some (Sum.inr ((0 : Int), (0 : Int)))) big (0 : Int)) fun r => r = hvX l x (hid, ((s : Int), (mem, fs))) := by
    intro n1 n2
    obtain ⟨hlen, hfz⟩ := fvS_zero n2
    refine Wp.count (fun s => s) fs.length (fun k _ => ∀ j, j < k → hvE l x (hid, ((s : Int), (mem, fs))) j = none) (by omega) rfl (fun j hj => by omega) fun k c hk hs' hJ => ?_
    obtain rfl : c = _ := hs'
    simp only [a_, b_, c_, d_, e_, f_, g_, h_, i_, j_, k_, l_, m_, n_, o_, p_, q_, r_, s_, t_, u_, v_, w_, x_, y_, z_, A_, B_, C_, D_, E_, F_, G_, H_, I_, J_, K_, L_, M_, N_, O_, P_, reduceCtorEq, countQ_inl, countQ_inr]
    refine ⟨fun hlt => ?_, fun hge => (hvX_ok n1 n2 fun j hj => hJ j (by have hj : j < fs.length := hj; omega)).symm⟩
    have hlt : k < fs.length := by omega
    have hmem : -1 ≤ (fs[k].2.1 : Int) := by
      have := (faC_pos (hfz k hlt)).1
      unfold FR at this
      exact Classical.not_not.1 fun g => this (.inr (.inl (Int.not_le.1 g)))
    simp only [idx_nat hlt, hfe _ hmem, wrapS (m := fs.length) (by omega) hlt, a_, b_, c_, d_, e_, f_, g_, h_, i_, j_, k_, l_, m_, n_, o_, p_, q_, r_, s_, t_, u_, v_, w_, x_, y_, z_, A_, B_, C_, D_, E_, F_, G_, H_, I_, J_, K_, L_, M_, N_, O_, P_, reduceCtorEq]
    refine ⟨fun h0 => (hvX_bad (h := (hid, ((s : Int), (mem, fs)))) (k := k) n1 n2 hlt rfl h0 hJ).symm, fun h0 => ⟨hlt, pre_succ hJ (by rw [hvE_at (h := (hid, ((s : Int), (mem, fs)))) hlt]; exact if_neg (fun g => g h0))⟩⟩
  refine ⟨fun g => bad (hR.2 (.inl g)), fun g1 => ⟨fun g => bad (hR.2 (.inr (.inl g))), fun g2 => ⟨fun g => bad (hR.2 (.inr (.inr (.inl g)))), fun g3 => ⟨fun g4 => ⟨fun g => bad (hR.2 (.inr (.inr (.inr ⟨g4, g⟩)))), fun g5 => ?_⟩, fun g4 => ?_⟩⟩⟩⟩
  · have no : ¬ HR l x (hid, ((s : Int), (mem, fs))) := fun h => by
      rcases hR.1 h with h | h | h | ⟨_, h⟩
      · exact g1 h
      · exact g2 h
      · exact g3 h
      · rw [h] at g5; cases g5
    exact ⟨facts no, rest no⟩
  · have no : ¬ HR l x (hid, ((s : Int), (mem, fs))) := fun h => by
      rcases hR.1 h with h | h | h | ⟨h, _⟩
      · exact g1 h
      · exact g2 h
      · exact g3 h
      · exact h g4
    exact ⟨facts no, rest no⟩
theorem smallH_eq (h : Hh) : M.same_SmallHousehold big h = some (decide ((h.2.2.2.length : Int) ≤ 40)) := rfl
theorem HouseholdValidate_true (l : Lw) (h : Hh) (hw : WF rLaw l) (_ : WF rHousehold h) : M.law35_HouseholdValidate big l h = some true := by
  apply Wp.eq
  unfold M.law35_HouseholdValidate
  simp only [awake35, smallH_eq, phv_eq, rhv_eq, a_, b_, c_, d_, e_, f_, g_, h_, i_, j_, k_, l_, m_, n_, o_, p_, q_, r_, s_, t_, u_, v_, w_, x_, y_, z_, A_, B_, C_, D_, E_, F_, G_, H_, I_, J_, K_, L_, M_, N_, O_, P_, reduceCtorEq]
  refine (smallL_wp l hw).mono fun r hr => ?_
  simp only [a_, b_, c_, d_, e_, f_, g_, h_, i_, j_, k_, l_, m_, n_, o_, p_, q_, r_, s_, t_, u_, v_, w_, x_, y_, z_, A_, B_, C_, D_, E_, F_, G_, H_, I_, J_, K_, L_, M_, N_, O_, P_, reduceCtorEq]
end L
end Go.Proofs.YtdpikadpkgkhkaaGreat
