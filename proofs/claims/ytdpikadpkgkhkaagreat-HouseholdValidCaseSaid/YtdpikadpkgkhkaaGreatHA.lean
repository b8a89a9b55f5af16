/- Chapter 35: facts and households: the program's checks and those of the reference as one plain function (plain laws). -/
import Derived.Test.YtdpikadpkgkhkaaGreatRW
import Derived.Test.YtdpikadpkgkhkaaGreatModelA
namespace Go.Proofs.YtdpikadpkgkhkaaGreat
open Go Go.RowKit
set_option maxRecDepth 100000
set_option linter.unusedSimpArgs false
namespace L
abbrev Fct : Type := rFact.den
abbrev Hh : Type := rHousehold.den
abbrev Val : Type := rValue.den

theorem awake35 : M.law35_awake big = some true := by kernel_rfl
theorem lookA_put (l : List (Int × Bool)) (k x : Int) (v : Bool) : lookA rInt (putA rInt l k v) x = if k = x then some v else lookA rInt l x := by
  induction l with
  | nil => simp [putA, lookA, keyEq]
  | cons p l ih =>
    obtain ⟨a, b⟩ := p
    unfold putA
    by_cases h : a = k
    · have : keyEq rInt a k = true := by simp [keyEq, h]
      rw [if_pos this]
      by_cases h' : a = x <;> simp [lookA, keyEq, h', ← h]
    · have : ¬ keyEq rInt a k = true := by simp [keyEq, h]
      rw [if_neg this]
      show (if keyEq rInt a x = true then some b else lookA rInt (putA rInt l k v) x) = if k = x then some v else if keyEq rInt a x = true then some b else lookA rInt l x
      rw [ih]
      by_cases h' : a = x
      · have : ¬ k = x := fun e => h (by rw [h', e])
        simp [keyEq, h', this]
      · simp [keyEq, h']

/-! ## One fact -/
/-- A range that holds a date. -/
def NE (r : Ty) : Prop := VR r ∧ (r.1 : Int) < r.2
instance (r : Ty) : Decidable (NE r) := by unfold NE; infer_instance
theorem ne_eq (r : Ty) : M.facts_nonempty big r = some (decide (NE r)) := by
  obtain ⟨(r1 : Int), (r2 : Int)⟩ := r
  apply Wp.eq
  unfold M.facts_nonempty
  simp only [pVR_eq, a_, b_, c_, d_, e_, f_, g_, h_, i_, j_, k_, l_, m_, n_, o_, p_, q_, r_, s_, t_, u_, v_, w_, x_, y_, z_, A_, B_, C_, D_, E_, F_, G_, H_, I_, J_, K_, L_, M_, N_, O_, P_, reduceCtorEq]
  unfold NE
  dsimp only [rInt, Row.den]
  by_cases h : VR ((r1, r2) : Ty) <;> simp only [h, a_, b_, c_, d_, e_, f_, g_, h_, i_, j_, k_, l_, m_, n_, o_, p_, q_, r_, s_, t_, u_, v_, w_, x_, y_, z_, A_, B_, C_, D_, E_, F_, G_, H_, I_, J_, K_, L_, M_, N_, O_, P_, reduceCtorEq]
theorem rne_eq (r : Ty) : M.ref34_nonempty big r = some (decide (NE r)) := ne_eq r
def InD (r : Ty) (d : Int) : Prop := VR r ∧ (r.1 : Int) ≤ d ∧ d < (r.2 : Int)
instance (r : Ty) (d : Int) : Decidable (InD r d) := by unfold InD; infer_instance
theorem inD_eq (r : Ty) (d : Int) : M.daterange_Contains big r d = some (decide (InD r d)) := by
  obtain ⟨(r1 : Int), (r2 : Int)⟩ := r
  apply Wp.eq
  unfold M.daterange_Contains
  simp only [pVR_eq, a_, b_, c_, d_, e_, f_, g_, h_, i_, j_, k_, l_, m_, n_, o_, p_, q_, r_, s_, t_, u_, v_, w_, x_, y_, z_, A_, B_, C_, D_, E_, F_, G_, H_, I_, J_, K_, L_, M_, N_, O_, P_, reduceCtorEq]
  unfold InD
  dsimp only [rInt, Row.den]
  by_cases h : VR ((r1, r2) : Ty) <;> simp only [h, a_, b_, c_, d_, e_, f_, g_, h_, i_, j_, k_, l_, m_, n_, o_, p_, q_, r_, s_, t_, u_, v_, w_, x_, y_, z_, A_, B_, C_, D_, E_, F_, G_, H_, I_, J_, K_, L_, M_, N_, O_, P_, reduceCtorEq]
  omega
theorem rinD_eq (r : Ty) (d : Int) : M.ref05_Contains big r d = some (decide (InD r d)) := inD_eq r d
/-- Out of range; of a wrong type. -/
def FR (f : Fct) : Prop := (f.1 : Int) < 0 ∨ (f.2.1 : Int) < -1 ∨ 8 ≤ (f.2.1 : Int) ∨ (f.2.2.1 : Int) < -1 ∨ 12 ≤ (f.2.2.1 : Int) ∨ ((f.2.1 : Int) = -1 ∧ (f.2.2.1 : Int) = -1) ∨ ¬ NE f.2.2.2.2.1 ∨ (f.2.2.2.2.2 : Int) < 0 ∨ 109572 < (f.2.2.2.2.2 : Int)
def FT (f : Fct) : Prop := (f.2.2.2.1.1 : Int) < 1 ∨ 6 < (f.2.2.2.1.1 : Int) ∨ ((f.2.2.1 : Int) = -1 ∧ (f.2.2.2.1.1 : Int) ≠ 1)
noncomputable instance (f : Fct) : Decidable (FR f) := Classical.propDecidable _
noncomputable instance (f : Fct) : Decidable (FT f) := Classical.propDecidable _
noncomputable def cf (f : Fct) : Int := if FR f then 3 else if FT f then 8 else 0
theorem cf_eq (f : Fct) : M.facts_checkFact big f = some (cf f) := by
  obtain ⟨(a : Int), (b : Int), (c : Int), ⟨(k : Int), (e : Int), (n : Int)⟩, v, (rc : Int)⟩ := f
  apply Wp.eq
  unfold M.facts_checkFact
  simp only [ne_eq, a_, b_, c_, d_, e_, f_, g_, h_, i_, j_, k_, l_, m_, n_, o_, p_, q_, r_, s_, t_, u_, v_, w_, x_, y_, z_, A_, B_, C_, D_, E_, F_, G_, H_, I_, J_, K_, L_, M_, N_, O_, P_, reduceCtorEq]
  have hR : FR (a, (b, (c, ((k, (e, n)), (v, rc))))) ↔ a < 0 ∨ b < -1 ∨ 8 ≤ b ∨ c < -1 ∨ 12 ≤ c ∨ (b = -1 ∧ c = -1) ∨ ¬ NE v ∨ rc < 0 ∨ 109572 < rc := Iff.rfl
  have hT : FT (a, (b, (c, ((k, (e, n)), (v, rc))))) ↔ k < 1 ∨ 6 < k ∨ (c = -1 ∧ k ≠ 1) := Iff.rfl
  have r3 : FR (a, (b, (c, ((k, (e, n)), (v, rc))))) → (3 : Int) = cf (a, (b, (c, ((k, (e, n)), (v, rc))))) := fun h => by unfold cf; rw [if_pos h]
  have r8 : ¬ FR (a, (b, (c, ((k, (e, n)), (v, rc))))) → FT (a, (b, (c, ((k, (e, n)), (v, rc))))) → (8 : Int) = cf (a, (b, (c, ((k, (e, n)), (v, rc))))) := fun h h' => by unfold cf; rw [if_neg h, if_pos h']
  have r0 : ¬ FR (a, (b, (c, ((k, (e, n)), (v, rc))))) → ¬ FT (a, (b, (c, ((k, (e, n)), (v, rc))))) → (0 : Int) = cf (a, (b, (c, ((k, (e, n)), (v, rc))))) := fun h h' => by unfold cf; rw [if_neg h, if_neg h']
  rw [hR] at r3 r8 r0
  rw [hT] at r8 r0
  generalize cf (a, (b, (c, ((k, (e, n)), (v, rc))))) = q at *
  clear hR hT
  dsimp only [rInt, Row.den] at *
  by_cases hn : NE v <;> simp only [hn, a_, b_, c_, d_, e_, f_, g_, h_, i_, j_, k_, l_, m_, n_, o_, p_, q_, r_, s_, t_, u_, v_, w_, x_, y_, z_, A_, B_, C_, D_, E_, F_, G_, H_, I_, J_, K_, L_, M_, N_, O_, P_, reduceCtorEq] at r3 r8 r0 ⊢ <;> omega
/-! ## Lists of facts -/
def Dup (l : List Fct) (k : Nat) (x : Int) : Prop := ∃ y ∈ l.take k, (y.1 : Int) = x
noncomputable instance (l : List Fct) (k : Nat) (x : Int) : Decidable (Dup l k x) := Classical.propDecidable _
theorem dup_succ {l : List Fct} {k : Nat} (h : k < l.length) (x : Int) : Dup l (k + 1) x ↔ Dup l k x ∨ (l[k].1 : Int) = x := by
  unfold Dup
  rw [← List.take_append_getElem h]
  constructor
  · rintro ⟨y, hy, e⟩
    rcases List.mem_append.1 hy with hy | hy
    · exact .inl ⟨y, hy, e⟩
    · rw [List.mem_singleton.1 hy] at e
      exact .inr e
  · rintro (⟨y, hy, e⟩ | e)
    · exact ⟨y, List.mem_append.2 (.inl hy), e⟩
    · exact ⟨_, List.mem_append.2 (.inr (List.mem_singleton.2 rfl)), e⟩
noncomputable def faC (l : List Fct) (k : Nat) (f : Fct) : Int := if cf f ≠ 0 then cf f else if Dup l k f.1 then 7 else 0
noncomputable def faE (l : List Fct) (k : Nat) : Option (Int × Int) := match l[k]? with
  | none => none
  | some f => if faC l k f ≠ 0 then some ((k : Int), faC l k f) else none
noncomputable def fvS (l : List Fct) : Int × Int := if 128 < l.length then (0, 4) else (firstE (faE l) l.length).getD (0, 0)
theorem faE_at {l : List Fct} {k : Nat} (h : k < l.length) : faE l k = if faC l k l[k] ≠ 0 then some ((k : Int), faC l k l[k]) else none := by
  unfold faE
  rw [List.getElem?_eq_getElem h]
theorem fvS_bad {l : List Fct} {k : Nat} {q : Int} (h8 : ¬ 128 < l.length) (h : k < l.length) (hq : faC l k l[k] = q) (h0 : q ≠ 0) (hJ : ∀ j, j < k → faE l j = none) : fvS l = ((k : Int), q) := by
  subst hq
  unfold fvS
  rw [if_neg h8, firstE_at ((faE_at h).trans (if_pos h0)) hJ h]
  rfl
theorem fvS_ok {l : List Fct} (h8 : ¬ 128 < l.length) (hJ : ∀ j, j < l.length → faE l j = none) : fvS l = (0, 0) := by
  unfold fvS
  rw [if_neg h8, firstE_none.2 hJ]
  rfl
theorem pfv_eq (l : List Fct) : M.facts_Validate big l = some (fvS l) := by
  apply Wp.eq
  unfold M.facts_Validate
  simp only [cf_eq, a_, b_, c_, d_, e_, f_, g_, h_, i_, j_, k_, l_, m_, n_, o_, p_, q_, r_, s_, t_, u_, v_, w_, x_, y_, z_, A_, B_, C_, D_, E_, F_, G_, H_, I_, J_, K_, L_, M_, N_, O_, P_, reduceCtorEq]
  refine ⟨fun h => by unfold fvS; rw [if_pos (by omega)], fun h => ?_⟩
  have h8 : ¬ 128 < l.length := by omega
  refine Wp.count (fun s => s.1) l.length (fun k s => (∀ j, j < k → faE l j = none) ∧ ∀ x : Int, (lookA rInt s.2 x).getD false = true ↔ Dup l k x) (by omega) rfl ⟨fun j hj => by omega, fun x => by simp [lookA, Dup]⟩ fun k s hk hs hJ => ?_
  obtain ⟨i, m⟩ := s
  obtain ⟨hJ, hm⟩ := hJ
  dsimp only at hs hm
  subst hs
  simp only [a_, b_, c_, d_, e_, f_, g_, h_, i_, j_, k_, l_, m_, n_, o_, p_, q_, r_, s_, t_, u_, v_, w_, x_, y_, z_, A_, B_, C_, D_, E_, F_, G_, H_, I_, J_, K_, L_, M_, N_, O_, P_, reduceCtorEq, countQ_inl, countQ_inr]
  refine ⟨fun hlt => ?_, fun hge => (fvS_ok h8 fun j hj => hJ j (by omega)).symm⟩
  have hlt : k < l.length := by omega
  simp only [idx_nat hlt, wrapS (m := l.length) (by omega) hlt, a_, b_, c_, d_, e_, f_, g_, h_, i_, j_, k_, l_, m_, n_, o_, p_, q_, r_, s_, t_, u_, v_, w_, x_, y_, z_, A_, B_, C_, D_, E_, F_, G_, H_, I_, J_, K_, L_, M_, N_, O_, P_, reduceCtorEq]
  refine ⟨fun h0 => (fvS_bad h8 hlt (by unfold faC; rw [if_pos h0]) h0 hJ).symm, fun h0 => ⟨fun hd => (fvS_bad h8 hlt (by unfold faC; rw [if_neg (fun g => g h0), if_pos ((hm _).1 hd)]) (by decide) hJ).symm, fun hd => ?_⟩⟩
  refine ⟨hlt, pre_succ hJ (by rw [faE_at hlt, if_neg]; unfold faC; rw [if_neg (fun g => g h0), if_neg (fun g => by rw [(hm _).2 g] at hd; cases hd)]; simp), fun x => ?_⟩
  show (lookA rInt (putA rInt m l[k].1 true) x).getD false = true ↔ _
  rw [lookA_put, dup_succ hlt]
  by_cases e : (l[k].1 : Int) = x
  · rw [if_pos e]
    exact ⟨fun _ => .inr e, fun _ => rfl⟩
  · rw [if_neg e, hm]
    exact ⟨.inl, fun g => g.resolve_right e⟩
theorem fault_eq (l : List Fct) (k : Nat) (hk : k < l.length) (hl : l.length ≤ 128) : M.ref34_fault big l (k : Int) = some (faC l k l[k]) := by
  apply Wp.eq
  unfold M.ref34_fault
  simp only [idx_nat hk, rne_eq, a_, b_, c_, d_, e_, f_, g_, h_, i_, j_, k_, l_, m_, n_, o_, p_, q_, r_, s_, t_, u_, v_, w_, x_, y_, z_, A_, B_, C_, D_, E_, F_, G_, H_, I_, J_, K_, L_, M_, N_, O_, P_, reduceCtorEq]
  have loop : Wp (Loop (S := Int) (X := Int) (fun s6 => if decide (s6 < (k : Int)) = true then (idx l s6).bind fun x7 => if decide (x7.1 = l[k].1) = true then some (Sum.inr (7 : Int)) else some (Sum.inl (IntKind.i64.wrap (s6 + (1 : Int)))) else some (Sum.inr (0 : Int))) big (0 : Int)) fun x => x = if Dup l k l[k].1 then 7 else 0 := by
    refine Wp.count (fun s => s) k (fun i _ => ∀ j, j < i → ∀ h : j < l.length, ¬ (l[j].1 : Int) = l[k].1) (by omega) rfl (fun j hj => by omega) fun i c hi hs hJ => ?_
    obtain rfl : c = _ := hs
    simp only [a_, b_, c_, d_, e_, f_, g_, h_, i_, j_, k_, l_, m_, n_, o_, p_, q_, r_, s_, t_, u_, v_, w_, x_, y_, z_, A_, B_, C_, D_, E_, F_, G_, H_, I_, J_, K_, L_, M_, N_, O_, P_, reduceCtorEq, countQ_inl, countQ_inr]
    refine ⟨fun hlt => ?_, fun hge => ?_⟩
    · have hil : i < l.length := by omega
      simp only [idx_nat hil, wrapS (m := k) (by omega) (show i < k by omega), a_, b_, c_, d_, e_, f_, g_, h_, i_, j_, k_, l_, m_, n_, o_, p_, q_, r_, s_, t_, u_, v_, w_, x_, y_, z_, A_, B_, C_, D_, E_, F_, G_, H_, I_, J_, K_, L_, M_, N_, O_, P_, reduceCtorEq]
      refine ⟨fun h => ?_, fun h => ⟨by omega, pre_succ hJ fun _ => h⟩⟩
      rw [if_pos (show Dup l k l[k].1 from ⟨_, List.mem_take_iff_getElem.2 ⟨i, by omega, rfl⟩, h⟩)]
    · rw [if_neg]
      rintro ⟨y, hy, e⟩
      obtain ⟨j, hj, rfl⟩ := List.mem_take_iff_getElem.1 hy
      exact hJ j (by omega) (by omega) e
  simp only [a_, b_, c_, d_, e_, f_, g_, h_, i_, j_, k_, l_, m_, n_, o_, p_, q_, r_, s_, t_, u_, v_, w_, x_, y_, z_, A_, B_, C_, D_, E_, F_, G_, H_, I_, J_, K_, L_, M_, N_, O_, P_, reduceCtorEq] at loop
  generalize hf : l[k] = f at *
  have r3 : FR f → (3 : Int) = faC l k f := fun h => by unfold faC cf; rw [if_pos h]; rfl
  have r8 : ¬ FR f → FT f → (8 : Int) = faC l k f := fun h h' => by unfold faC cf; rw [if_neg h, if_pos h']; rfl
  have r0 : ¬ FR f → ¬ FT f → faC l k f = if Dup l k f.1 then 7 else 0 := fun h h' => by unfold faC cf; rw [if_neg h, if_neg h']; rfl
  generalize faC l k f = q at *
  generalize (if Dup l k f.1 then (7 : Int) else 0) = q' at *
  obtain ⟨(a : Int), (b : Int), (c : Int), ⟨(t : Int), (e : Int), (n : Int)⟩, v, (rc : Int)⟩ := f
  have hR : FR (a, (b, (c, ((t, (e, n)), (v, rc))))) ↔ a < 0 ∨ b < -1 ∨ 8 ≤ b ∨ c < -1 ∨ 12 ≤ c ∨ (b = -1 ∧ c = -1) ∨ ¬ NE v ∨ rc < 0 ∨ 109572 < rc := Iff.rfl
  have hT : FT (a, (b, (c, ((t, (e, n)), (v, rc))))) ↔ t < 1 ∨ 6 < t ∨ (c = -1 ∧ t ≠ 1) := Iff.rfl
  rw [hR] at r3 r8 r0
  rw [hT] at r8 r0
  clear hR hT hf hk
  dsimp only [rInt, Row.den] at *
  have hP : q = q' → Wp (Loop (S := Int) (X := Int) (fun s6 => if s6 < (k : Int) then (idx l s6).bind fun x7 => if x7.1 = a then some (Sum.inr (7 : Int)) else some (Sum.inl (IntKind.i64.wrap (s6 + (1 : Int)))) else some (Sum.inr (0 : Int))) big (0 : Int)) fun x => x = q := fun e => e ▸ loop
  clear loop
  generalize Wp (Loop (S := Int) (X := Int) (fun s6 => if s6 < (k : Int) then (idx l s6).bind fun x7 => if x7.1 = a then some (Sum.inr (7 : Int)) else some (Sum.inl (IntKind.i64.wrap (s6 + (1 : Int)))) else some (Sum.inr (0 : Int))) big (0 : Int)) (fun x => x = q) = P at hP ⊢
  by_cases hn : NE v <;> by_cases p : P <;> simp only [hn, p, imp_false, a_, b_, c_, d_, e_, f_, g_, h_, i_, j_, k_, l_, m_, n_, o_, p_, q_, r_, s_, t_, u_, v_, w_, x_, y_, z_, A_, B_, C_, D_, E_, F_, G_, H_, I_, J_, K_, L_, M_, N_, O_, P_, reduceCtorEq] at r3 r8 r0 hP ⊢ <;> omega
theorem rfv_eq (l : List Fct) : M.ref34_Validate big l = some (fvS l) := by
  apply Wp.eq
  unfold M.ref34_Validate
  simp only [a_, b_, c_, d_, e_, f_, g_, h_, i_, j_, k_, l_, m_, n_, o_, p_, q_, r_, s_, t_, u_, v_, w_, x_, y_, z_, A_, B_, C_, D_, E_, F_, G_, H_, I_, J_, K_, L_, M_, N_, O_, P_, reduceCtorEq]
  refine ⟨fun h => by unfold fvS; rw [if_pos (by omega)], fun h => ?_⟩
  have h8 : ¬ 128 < l.length := by omega
  refine Wp.count (fun s => s) l.length (fun k _ => ∀ j, j < k → faE l j = none) (by omega) rfl (fun j hj => by omega) fun k s hk hs hJ => ?_
  obtain rfl : s = _ := hs
  simp only [a_, b_, c_, d_, e_, f_, g_, h_, i_, j_, k_, l_, m_, n_, o_, p_, q_, r_, s_, t_, u_, v_, w_, x_, y_, z_, A_, B_, C_, D_, E_, F_, G_, H_, I_, J_, K_, L_, M_, N_, O_, P_, reduceCtorEq, countQ_inl, countQ_inr]
  refine ⟨fun hlt => ?_, fun hge => (fvS_ok h8 fun j hj => hJ j (by omega)).symm⟩
  have hlt : k < l.length := by omega
  simp only [fault_eq l k hlt (by omega), wrapS (m := l.length) (by omega) hlt, a_, b_, c_, d_, e_, f_, g_, h_, i_, j_, k_, l_, m_, n_, o_, p_, q_, r_, s_, t_, u_, v_, w_, x_, y_, z_, A_, B_, C_, D_, E_, F_, G_, H_, I_, J_, K_, L_, M_, N_, O_, P_, reduceCtorEq]
  exact ⟨fun h0 => (fvS_bad h8 hlt rfl h0 hJ).symm, fun h0 => ⟨hlt, pre_succ hJ (by rw [faE_at hlt, if_neg (fun g => g h0)])⟩⟩

/-! ## The latest fact -/
def Mt (m i d r : Int) (f : Fct) : Prop := (f.2.1 : Int) = m ∧ (f.2.2.1 : Int) = i ∧ (f.2.2.2.2.2 : Int) ≤ r ∧ InD f.2.2.2.2.1 d
noncomputable instance (m i d r : Int) (f : Fct) : Decidable (Mt m i d r f) := Classical.propDecidable _
/-- It takes precedence. -/
def Wins (f g : Fct) : Prop := (g.2.2.2.2.2 : Int) < f.2.2.2.2.2 ∨ ((f.2.2.2.2.2 : Int) = g.2.2.2.2.2 ∧ (g.1 : Int) < f.1)
noncomputable instance (f g : Fct) : Decidable (Wins f g) := Classical.propDecidable _
noncomputable def asStep (m i d r : Int) (b : Option Fct) (f : Fct) : Option Fct := if Mt m i d r f then (match b with
  | none => some f
  | some g => if Wins f g then some f else some g) else b
noncomputable def asF (l : List Fct) (m i d r : Int) : Option Fct := l.foldl (asStep m i d r) none
theorem wins_eq (f g : Fct) : M.facts_wins big f g = some (decide (Wins f g)) := by
  obtain ⟨(a : Int), (b : Int), (c : Int), x, v, (rc : Int)⟩ := f
  obtain ⟨(a' : Int), (b' : Int), (c' : Int), x', v', (rc' : Int)⟩ := g
  apply Wp.eq
  unfold M.facts_wins
  simp only [a_, b_, c_, d_, e_, f_, g_, h_, i_, j_, k_, l_, m_, n_, o_, p_, q_, r_, s_, t_, u_, v_, w_, x_, y_, z_, A_, B_, C_, D_, E_, F_, G_, H_, I_, J_, K_, L_, M_, N_, O_, P_, reduceCtorEq]
  unfold Wins
  dsimp only [rInt, Row.den]
  omega
def BestAt (l : List Fct) (k : Nat) (b : Int) (o : Option Fct) : Prop := (b = -1 ∧ o = none) ∨ ∃ j : Nat, ∃ h : j < l.length, j < k ∧ b = (j : Int) ∧ o = some l[j]
def asR (o : Option Fct) : Val × Bool := match o with
  | none => (((0 : Int), ((0 : Int), (0 : Int))), false)
  | some f => (f.2.2.2.1, true)
theorem asF_succ {l : List Fct} {k : Nat} (h : k < l.length) (m i d r : Int) : asF (l.take (k + 1)) m i d r = asStep m i d r (asF (l.take k) m i d r) l[k] := by
  unfold asF
  rw [← List.take_append_getElem h, List.foldl_append]
  rfl
theorem BestAt.more {l : List Fct} {k : Nat} {b : Int} {o : Option Fct} (h : BestAt l k b o) : BestAt l (k + 1) b o := by
  rcases h with h | ⟨j, h1, h2, h3⟩
  · exact .inl h
  · exact .inr ⟨j, h1, by omega, h3⟩
theorem as_eq (l : List Fct) (m i d r : Int) (hl : l.length ≤ 100000) : M.facts_AsOf big l m i d r = some (asR (asF l m i d r)) := by
  apply Wp.eq
  unfold M.facts_AsOf
  rw [wp_bind]
  refine Wp.count (fun s => s.2) l.length (fun k s => BestAt l k s.1 (asF (l.take k) m i d r)) (by omega) rfl (.inl ⟨rfl, rfl⟩) fun k s hk hs hJ => ?_
  obtain ⟨b, c⟩ := s
  dsimp only at hs hJ
  subst hs
  simp only [inD_eq, wins_eq, a_, b_, c_, d_, e_, f_, g_, h_, i_, j_, k_, l_, m_, n_, o_, p_, q_, r_, s_, t_, u_, v_, w_, x_, y_, z_, A_, B_, C_, D_, E_, F_, G_, H_, I_, J_, K_, L_, M_, N_, O_, P_, reduceCtorEq, countQ_inl, countQ_inr]
  refine ⟨fun hlt => ?_, fun hge => ?_⟩
  · have hlt : k < l.length := by omega
    have hst := asF_succ hlt m i d r
    simp only [idx_nat hlt, wrapS (m := l.length) (by omega) hlt, a_, b_, c_, d_, e_, f_, g_, h_, i_, j_, k_, l_, m_, n_, o_, p_, q_, r_, s_, t_, u_, v_, w_, x_, y_, z_, A_, B_, C_, D_, E_, F_, G_, H_, I_, J_, K_, L_, M_, N_, O_, P_, reduceCtorEq]
    rw [hst]
    have skip : ¬ Mt m i d r l[k] → k < l.length ∧ BestAt l (k + 1) b (asStep m i d r (asF (l.take k) m i d r) l[k]) := fun h => by
      unfold asStep
      rw [if_neg h]
      exact ⟨hlt, hJ.more⟩
    refine ⟨fun h1 => skip fun g => h1 g.1, fun h1 => ⟨fun h2 => skip fun g => h2 g.2.1, fun h2 => ⟨fun h3 => skip fun g => absurd h3 (Int.not_lt.2 g.2.2.1), fun h3 => ⟨fun h4 => skip fun g => h4 g.2.2.2, fun h4 => ?_⟩⟩⟩⟩
    have hm : Mt m i d r l[k] := ⟨h1, h2, Int.not_lt.1 h3, h4⟩
    refine ⟨fun hb => ?_, fun hb => ?_⟩
    · have hn : asF (l.take k) m i d r = none := by
        rcases hJ with ⟨_, h⟩ | ⟨j, _, _, rfl, _⟩
        · exact h
        · omega
      refine ⟨hlt, .inr ⟨k, hlt, by omega, rfl, ?_⟩⟩
      unfold asStep
      rw [if_pos hm, hn]
    · rcases hJ with ⟨rfl, _⟩ | ⟨j, hj, hjk, rfl, hn⟩
      · exact absurd (by decide) hb
      · simp only [idx_nat hj, a_, b_, c_, d_, e_, f_, g_, h_, i_, j_, k_, l_, m_, n_, o_, p_, q_, r_, s_, t_, u_, v_, w_, x_, y_, z_, A_, B_, C_, D_, E_, F_, G_, H_, I_, J_, K_, L_, M_, N_, O_, P_, reduceCtorEq]
        refine ⟨fun hw => ⟨hlt, .inr ⟨k, hlt, by omega, rfl, ?_⟩⟩, fun hw => ⟨hlt, .inr ⟨j, hj, by omega, rfl, ?_⟩⟩⟩
        · unfold asStep
          rw [if_pos hm, hn]
          exact if_pos hw
        · unfold asStep
          rw [if_pos hm, hn]
          exact if_neg hw
  · obtain rfl : k = l.length := by omega
    rw [List.take_length] at hJ
    rcases hJ with ⟨rfl, h⟩ | ⟨j, hj, _, rfl, h⟩
    · rw [h]
      exact ⟨fun _ => rfl, fun g => absurd (by decide) g⟩
    · rw [h]
      simp only [idx_nat hj, a_, b_, c_, d_, e_, f_, g_, h_, i_, j_, k_, l_, m_, n_, o_, p_, q_, r_, s_, t_, u_, v_, w_, x_, y_, z_, A_, B_, C_, D_, E_, F_, G_, H_, I_, J_, K_, L_, M_, N_, O_, P_, reduceCtorEq]
      exact ⟨fun g => by omega, fun _ => rfl⟩
theorem ras_eq (l : List Fct) (m i d r : Int) (hl : l.length ≤ 100000) : M.ref34_AsOf big l m i d r = some (asR (asF l m i d r)) := by
  apply Wp.eq
  unfold M.ref34_AsOf
  rw [wp_bind]
  refine Wp.count (fun s => s.2) l.length (fun k s => BestAt l k s.1 (asF (l.take k) m i d r)) (by omega) rfl (.inl ⟨rfl, rfl⟩) fun k s hk hs hJ => ?_
  obtain ⟨b, c⟩ := s
  dsimp only at hs hJ
  subst hs
  simp only [rinD_eq, a_, b_, c_, d_, e_, f_, g_, h_, i_, j_, k_, l_, m_, n_, o_, p_, q_, r_, s_, t_, u_, v_, w_, x_, y_, z_, A_, B_, C_, D_, E_, F_, G_, H_, I_, J_, K_, L_, M_, N_, O_, P_, reduceCtorEq, countQ_inl, countQ_inr]
  refine ⟨fun hlt => ?_, fun hge => ?_⟩
  · have hlt : k < l.length := by omega
    have hst := asF_succ hlt m i d r
    simp only [idx_nat hlt, wrapS (m := l.length) (by omega) hlt, a_, b_, c_, d_, e_, f_, g_, h_, i_, j_, k_, l_, m_, n_, o_, p_, q_, r_, s_, t_, u_, v_, w_, x_, y_, z_, A_, B_, C_, D_, E_, F_, G_, H_, I_, J_, K_, L_, M_, N_, O_, P_, reduceCtorEq]
    rw [hst]
    have skip : ¬ Mt m i d r l[k] → k < l.length ∧ BestAt l (k + 1) b (asStep m i d r (asF (l.take k) m i d r) l[k]) := fun h => by
      unfold asStep
      rw [if_neg h]
      exact ⟨hlt, hJ.more⟩
    refine ⟨fun h1 => skip fun g => h1 g.1, fun h1 => ⟨fun h2 => skip fun g => h2 g.2.1, fun h2 => ⟨fun h3 => skip fun g => absurd h3 (Int.not_lt.2 g.2.2.1), fun h3 => ⟨fun h4 => skip fun g => h4 g.2.2.2, fun h4 => ?_⟩⟩⟩⟩
    have hm : Mt m i d r l[k] := ⟨h1, h2, Int.not_lt.1 h3, h4⟩
    refine ⟨fun hb => ?_, fun hb => ?_⟩
    · have hn : asF (l.take k) m i d r = none := by
        rcases hJ with ⟨_, h⟩ | ⟨j, _, _, rfl, _⟩
        · exact h
        · omega
      refine ⟨hlt, .inr ⟨k, hlt, by omega, rfl, ?_⟩⟩
      unfold asStep
      rw [if_pos hm, hn]
    · rcases hJ with ⟨rfl, _⟩ | ⟨j, hj, hjk, rfl, hn⟩
      · exact absurd (by decide) hb
      · simp only [idx_nat hj, a_, b_, c_, d_, e_, f_, g_, h_, i_, j_, k_, l_, m_, n_, o_, p_, q_, r_, s_, t_, u_, v_, w_, x_, y_, z_, A_, B_, C_, D_, E_, F_, G_, H_, I_, J_, K_, L_, M_, N_, O_, P_, reduceCtorEq]
        have yes : Wins l[k] l[j] → k < l.length ∧ BestAt l (k + 1) (k : Int) (asStep m i d r (asF (l.take k) m i d r) l[k]) := fun hw => ⟨hlt, .inr ⟨k, hlt, by omega, rfl, by
          unfold asStep
          rw [if_pos hm, hn]
          exact if_pos hw⟩⟩
        have no : ¬ Wins l[k] l[j] → k < l.length ∧ BestAt l (k + 1) (j : Int) (asStep m i d r (asF (l.take k) m i d r) l[k]) := fun hw => ⟨hlt, .inr ⟨j, hj, by omega, rfl, by
          unfold asStep
          rw [if_pos hm, hn]
          exact if_neg hw⟩⟩
        refine ⟨fun g => yes (.inl g), fun g => ⟨fun g' => ⟨fun g2 => yes (.inr ⟨g', g2⟩), fun g2 => no ?_⟩, fun g' => no ?_⟩⟩
        · rintro (h | h)
          · exact g h
          · exact g2 h.2
        · rintro (h | h)
          · exact g h
          · exact g' h.1
  · obtain rfl : k = l.length := by omega
    rw [List.take_length] at hJ
    rcases hJ with ⟨rfl, h⟩ | ⟨j, hj, _, rfl, h⟩
    · rw [h]
      exact ⟨fun _ => rfl, fun g => absurd (by decide) g⟩
    · rw [h]
      simp only [idx_nat hj, a_, b_, c_, d_, e_, f_, g_, h_, i_, j_, k_, l_, m_, n_, o_, p_, q_, r_, s_, t_, u_, v_, w_, x_, y_, z_, A_, B_, C_, D_, E_, F_, G_, H_, I_, J_, K_, L_, M_, N_, O_, P_, reduceCtorEq]
      exact ⟨fun g => by omega, fun _ => rfl⟩
end L
end Go.Proofs.YtdpikadpkgkhkaaGreat
