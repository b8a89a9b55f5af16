/- The reference's validity of laws: names, types, ranges of dates, tables (plain laws). -/
import Derived.Test.YtjeeligfdpociaaGreatPD
import Derived.Test.YtjeeligfdpociaaGreatOpen
namespace Go.Proofs.YtjeeligfdpociaaGreat
open Go Go.RowKit
set_option maxRecDepth 100000
set_option linter.unusedSimpArgs false
namespace L
abbrev En : Type := rEnum.den
abbrev Tab : Type := rTable.den
abbrev Rw : Type := rRow.den
abbrev Fd : Type := rField.den
abbrev Lw : Type := rLaw.den
abbrev Scp : Type := rScope.den
abbrev Rul : Type := rRule.den

theorem lower_eq (c : Int) : M.ref08_lower big c = some (decide (97 ≤ c ∧ c ≤ 122)) := by
  apply Wp.eq; unfold M.ref08_lower; simp only [a_, b_, c_, d_, e_, f_, g_, h_, i_, j_, k_, l_, m_, n_, o_, p_, q_, r_, s_, t_, u_, v_, w_, x_, y_, z_, A_, B_, C_, D_, E_, F_, G_, H_, I_, J_, K_, L_, M_, N_, O_, P_, reduceCtorEq]; omega
theorem digit_eq (c : Int) : M.ref08_digit big c = some (decide (48 ≤ c ∧ c ≤ 57)) := by
  apply Wp.eq; unfold M.ref08_digit; simp only [a_, b_, c_, d_, e_, f_, g_, h_, i_, j_, k_, l_, m_, n_, o_, p_, q_, r_, s_, t_, u_, v_, w_, x_, y_, z_, A_, B_, C_, D_, E_, F_, G_, H_, I_, J_, K_, L_, M_, N_, O_, P_, reduceCtorEq]; omega
theorem word_eq (c : Int) : M.ref08_word big c = some (decide ((97 ≤ c ∧ c ≤ 122) ∨ (48 ≤ c ∧ c ≤ 57) ∨ c = 95)) := by
  apply Wp.eq; unfold M.ref08_word; simp only [lower_eq, digit_eq, a_, b_, c_, d_, e_, f_, g_, h_, i_, j_, k_, l_, m_, n_, o_, p_, q_, r_, s_, t_, u_, v_, w_, x_, y_, z_, A_, B_, C_, D_, E_, F_, G_, H_, I_, J_, K_, L_, M_, N_, O_, P_, reduceCtorEq]; omega
theorem Reserved_ok : ∃ l, M.ref08_Reserved big = some l ∧ l.length ≤ 100 := ⟨(M.ref08_Reserved big).getD [], by kernel_rfl, by decide +kernel⟩
noncomputable def isId (s : ByteArray) : Bool := (M.ref08_IsIdentifier big s).getD false
theorem isId_eq (s : ByteArray) : M.ref08_IsIdentifier big s = some (isId s) := by
  obtain ⟨l, el, hl⟩ := Reserved_ok
  refine (Wp.getD (Q := fun _ => True) ?_ false).1
  unfold M.ref08_IsIdentifier
  simp only [lower_eq, word_eq, el, a_, b_, c_, d_, e_, f_, g_, h_, i_, j_, k_, l_, m_, n_, o_, p_, q_, r_, s_, t_, u_, v_, w_, x_, y_, z_, A_, B_, C_, D_, E_, F_, G_, H_, I_, J_, K_, L_, M_, N_, O_, P_, reduceCtorEq]
  intro h0 h16
  refine wp_byte.2 ⟨by omega, fun _ => ?_⟩
  refine Wp.count (fun s => s) s.size (fun _ _ => True) (by omega) rfl trivial fun k c hk hs _ => ?_
  obtain rfl : c = _ := hs
  simp only [a_, b_, c_, d_, e_, f_, g_, h_, i_, j_, k_, l_, m_, n_, o_, p_, q_, r_, s_, t_, u_, v_, w_, x_, y_, z_, A_, B_, C_, D_, E_, F_, G_, H_, I_, J_, K_, L_, M_, N_, O_, P_, reduceCtorEq, countQ_inl, countQ_inr]
  refine ⟨fun hlt => wp_byte.2 ⟨by omega, fun _ => ⟨by omega, wrap_succ (by omega)⟩⟩, fun hge => ?_⟩
  refine Wp.count (fun s => s) l.length (fun _ _ => True) (by omega) rfl trivial fun k c hk hs _ => ?_
  obtain rfl : c = _ := hs
  simp only [a_, b_, c_, d_, e_, f_, g_, h_, i_, j_, k_, l_, m_, n_, o_, p_, q_, r_, s_, t_, u_, v_, w_, x_, y_, z_, A_, B_, C_, D_, E_, F_, G_, H_, I_, J_, K_, L_, M_, N_, O_, P_, reduceCtorEq, countQ_inl, countQ_inr]
  exact fun hlt => wp_idx.2 ⟨by omega, fun _ => ⟨by omega, wrap_succ (by omega)⟩⟩

/-- The names of a list of named things. -/
def hasN {β : Type} (l : List (ByteArray × β)) (nm : ByteArray) : Prop := ∃ x ∈ l, x.1 = nm
noncomputable instance {β : Type} (l : List (ByteArray × β)) (nm : ByteArray) : Decidable (hasN l nm) := Classical.propDecidable _
noncomputable instance (m : ByteArray) (l : List ByteArray) : Decidable (m ∈ l) := Classical.propDecidable _
theorem hasN_at {β : Type} {l : List (ByteArray × β)} {nm : ByteArray} : hasN l nm ↔ ∃ k, ∃ h : k < l.length, l[k].1 = nm := by
  unfold hasN
  constructor
  · rintro ⟨x, hx, h⟩
    obtain ⟨k, hk, rfl⟩ := List.getElem_of_mem hx
    exact ⟨k, hk, h⟩
  · rintro ⟨k, hk, h⟩
    exact ⟨_, List.getElem_mem hk, h⟩
theorem hasN_take {β : Type} {l : List (ByteArray × β)} {nm : ByteArray} {m : Nat} : hasN (l.take m) nm ↔ ∃ k, ∃ h : k < l.length, k < m ∧ l[k].1 = nm := by
  rw [hasN_at]
  constructor
  · rintro ⟨k, hk, h⟩
    rw [List.length_take] at hk
    rw [List.getElem_take] at h
    exact ⟨k, by omega, by omega, h⟩
  · rintro ⟨k, hk, hm, h⟩
    exact ⟨k, by rw [List.length_take]; omega, by rw [List.getElem_take]; exact h⟩
theorem pre_succ {p : Nat → Prop} {k : Nat} (h : ∀ j, j < k → p j) (hk : p k) : ∀ j, j < k + 1 → p j := fun j hj => by
  rcases Nat.lt_succ_iff_lt_or_eq.1 hj with h1 | rfl
  · exact h j h1
  · exact hk
theorem nt_or {a b : Prop} (h : ¬ a) : (a ∨ b ↔ b) := ⟨fun g => g.resolve_left h, .inr⟩
open Classical in
theorem nameTaken_eq (a : Lw) (sec : Int) (m : Nat) (nm : ByteArray) (hw : a.1.length ≤ maxLen ∧ a.2.1.length ≤ maxLen ∧ a.2.2.length ≤ maxLen) :
    M.ref17_nameTaken big a sec (m : Int) nm = some (decide ((∃ k, ∃ h : k < a.1.length, (1 < sec ∨ k < m) ∧ (a.1[k].1 : ByteArray) = nm) ∨ (∃ k, ∃ h : k < a.2.1.length, (2 < sec ∨ sec = 2 ∧ k < m) ∧ (a.2.1[k].1 : ByteArray) = nm) ∨ ∃ k, ∃ h : k < a.2.2.length, (sec = 3 ∧ k < m) ∧ (a.2.2[k].1 : ByteArray) = nm)) := by
  unfold maxLen at hw
  apply Wp.eq
  unfold M.ref17_nameTaken
  simp only [wp_join]
  refine Wp.count (fun s => s) a.1.length (fun k _ => ∀ j, j < k → ∀ h : j < a.1.length, ¬ ((1 < sec ∨ j < m) ∧ (a.1[j].1 : ByteArray) = nm)) hw.1 rfl (fun j hj => by omega) fun k c hk hs hJ => ?_
  obtain rfl : c = _ := hs
  simp only [a_, b_, c_, d_, e_, f_, g_, h_, i_, j_, k_, l_, m_, n_, o_, p_, q_, r_, s_, t_, u_, v_, w_, x_, y_, z_, A_, B_, C_, D_, E_, F_, G_, H_, I_, J_, K_, L_, M_, N_, O_, P_, reduceCtorEq, countQ_inl, countQ_inr]
  refine ⟨fun hlt => ?_, fun hge => ?_⟩
  · have hlt : k < a.1.length := by omega
    simp only [idx_nat hlt, a_, b_, c_, d_, e_, f_, g_, h_, i_, j_, k_, l_, m_, n_, o_, p_, q_, r_, s_, t_, u_, v_, w_, x_, y_, z_, A_, B_, C_, D_, E_, F_, G_, H_, I_, J_, K_, L_, M_, N_, O_, P_, reduceCtorEq, wrapS hw.1 hlt]
    exact ⟨fun h1 => ⟨fun h2 => .inl ⟨k, hlt, .inl h1, h2⟩, fun h2 => ⟨hlt, pre_succ hJ fun _ h => h2 h.2⟩⟩, fun h1 => ⟨fun h3 => ⟨fun h2 => .inl ⟨k, hlt, .inr (by omega), h2⟩, fun h2 => ⟨hlt, pre_succ hJ fun _ h => h2 h.2⟩⟩, fun h3 => ⟨hlt, pre_succ hJ fun _ h => by omega⟩⟩⟩
  have hE : ¬ ∃ k, ∃ h : k < a.1.length, (1 < sec ∨ k < m) ∧ (a.1[k].1 : ByteArray) = nm := fun ⟨j, h, g⟩ => hJ j (by omega) h g
  simp only [hE, false_or]
  clear hJ hE
  refine Wp.count (fun s => s) a.2.1.length (fun k _ => ∀ j, j < k → ∀ h : j < a.2.1.length, ¬ ((2 < sec ∨ sec = 2 ∧ j < m) ∧ (a.2.1[j].1 : ByteArray) = nm)) hw.2.1 rfl (fun j hj => by omega) fun k c hk hs hJ => ?_
  obtain rfl : c = _ := hs
  simp only [a_, b_, c_, d_, e_, f_, g_, h_, i_, j_, k_, l_, m_, n_, o_, p_, q_, r_, s_, t_, u_, v_, w_, x_, y_, z_, A_, B_, C_, D_, E_, F_, G_, H_, I_, J_, K_, L_, M_, N_, O_, P_, reduceCtorEq, countQ_inl, countQ_inr]
  refine ⟨fun hlt => ?_, fun hge => ?_⟩
  · have hlt : k < a.2.1.length := by omega
    simp only [idx_nat hlt, a_, b_, c_, d_, e_, f_, g_, h_, i_, j_, k_, l_, m_, n_, o_, p_, q_, r_, s_, t_, u_, v_, w_, x_, y_, z_, A_, B_, C_, D_, E_, F_, G_, H_, I_, J_, K_, L_, M_, N_, O_, P_, reduceCtorEq, wrapS hw.2.1 hlt]
    exact ⟨fun h1 => ⟨fun h2 => .inl ⟨k, hlt, .inl h1, h2⟩, fun h2 => ⟨hlt, pre_succ hJ fun _ h => h2 h.2⟩⟩, fun h1 => ⟨fun h4 => ⟨fun h3 => ⟨fun h2 => .inl ⟨k, hlt, .inr ⟨h4, by omega⟩, h2⟩, fun h2 => ⟨hlt, pre_succ hJ fun _ h => h2 h.2⟩⟩, fun h3 => ⟨hlt, pre_succ hJ fun _ h => by omega⟩⟩, fun h4 => ⟨hlt, pre_succ hJ fun _ h => by omega⟩⟩⟩
  have hE : ¬ ∃ k, ∃ h : k < a.2.1.length, (2 < sec ∨ sec = 2 ∧ k < m) ∧ (a.2.1[k].1 : ByteArray) = nm := fun ⟨j, h, g⟩ => hJ j (by omega) h g
  simp only [hE, false_or]
  clear hJ hE
  refine Wp.count (fun s => s) a.2.2.length (fun k _ => ∀ j, j < k → ∀ h : j < a.2.2.length, ¬ ((sec = 3 ∧ j < m) ∧ (a.2.2[j].1 : ByteArray) = nm)) hw.2.2 rfl (fun j hj => by omega) fun k c hk hs hJ => ?_
  obtain rfl : c = _ := hs
  simp only [a_, b_, c_, d_, e_, f_, g_, h_, i_, j_, k_, l_, m_, n_, o_, p_, q_, r_, s_, t_, u_, v_, w_, x_, y_, z_, A_, B_, C_, D_, E_, F_, G_, H_, I_, J_, K_, L_, M_, N_, O_, P_, reduceCtorEq, countQ_inl, countQ_inr]
  refine ⟨fun hlt => ?_, fun hge => ?_⟩
  · have hlt : k < a.2.2.length := by omega
    simp only [idx_nat hlt, a_, b_, c_, d_, e_, f_, g_, h_, i_, j_, k_, l_, m_, n_, o_, p_, q_, r_, s_, t_, u_, v_, w_, x_, y_, z_, A_, B_, C_, D_, E_, F_, G_, H_, I_, J_, K_, L_, M_, N_, O_, P_, reduceCtorEq, wrapS hw.2.2 hlt]
    exact ⟨fun h4 => ⟨fun h3 => ⟨fun h2 => ⟨k, hlt, ⟨h4, by omega⟩, h2⟩, fun h2 => ⟨hlt, pre_succ hJ fun _ h => h2 h.2⟩⟩, fun h3 => ⟨hlt, pre_succ hJ fun _ h => by omega⟩⟩, fun h4 => ⟨hlt, pre_succ hJ fun _ h => by omega⟩⟩
  exact fun ⟨j, h, g⟩ => hJ j (by omega) h g

theorem hasField_eq (l : List Fd) (m : Nat) (nm : ByteArray) (hl : l.length ≤ maxLen) : M.ref17_hasField big l (m : Int) nm = some (decide (hasN (l.take m) nm)) := by
  unfold maxLen at hl
  apply Wp.eq
  unfold M.ref17_hasField
  refine Wp.count (fun s => s) l.length (fun k _ => ∀ j, j < k → ∀ h : j < l.length, j < m → ¬ (l[j].1 : ByteArray) = nm) hl rfl (fun j hj => by omega) fun k c hk hs hJ => ?_
  obtain rfl : c = _ := hs
  have hno : (k : Nat) ≥ l.length ∨ k ≥ m → ¬ hasN (l.take m) nm := fun hge h => by
    obtain ⟨j, h, hm, g⟩ := hasN_take.1 h
    exact hJ j (by omega) h hm g
  simp only [a_, b_, c_, d_, e_, f_, g_, h_, i_, j_, k_, l_, m_, n_, o_, p_, q_, r_, s_, t_, u_, v_, w_, x_, y_, z_, A_, B_, C_, D_, E_, F_, G_, H_, I_, J_, K_, L_, M_, N_, O_, P_, reduceCtorEq, countQ_inl, countQ_inr]
  refine ⟨fun h1 => ⟨fun h2 => ?_, fun h2 => hno (by omega)⟩, fun h1 => hno (by omega)⟩
  have hlt : k < l.length := by omega
  simp only [idx_nat hlt, a_, b_, c_, d_, e_, f_, g_, h_, i_, j_, k_, l_, m_, n_, o_, p_, q_, r_, s_, t_, u_, v_, w_, x_, y_, z_, A_, B_, C_, D_, E_, F_, G_, H_, I_, J_, K_, L_, M_, N_, O_, P_, reduceCtorEq, wrapS hl hlt]
  exact ⟨fun h => hasN_take.2 ⟨k, hlt, by omega, h⟩, fun h => ⟨hlt, pre_succ hJ fun _ _ => h⟩⟩

theorem VTp_eq (t : Ty) (E : List En) : M.ref09_ValidType big t E = some (decide (VTp t E.length)) := by
  obtain ⟨(k : Int), (e : Int)⟩ := t
  apply Wp.eq; unfold M.ref09_ValidType; simp only [a_, b_, c_, d_, e_, f_, g_, h_, i_, j_, k_, l_, m_, n_, o_, p_, q_, r_, s_, t_, u_, v_, w_, x_, y_, z_, A_, B_, C_, D_, E_, F_, G_, H_, I_, J_, K_, L_, M_, N_, O_, P_, reduceCtorEq]; simp only [VTp]; dsimp only [rInt, Row.den] at *; omega
theorem VR_eq (r : Ty) : M.ref05_Valid big r = some (decide (VR r)) := by
  obtain ⟨(k : Int), (e : Int)⟩ := r
  apply Wp.eq; unfold M.ref05_Valid; simp only [a_, b_, c_, d_, e_, f_, g_, h_, i_, j_, k_, l_, m_, n_, o_, p_, q_, r_, s_, t_, u_, v_, w_, x_, y_, z_, A_, B_, C_, D_, E_, F_, G_, H_, I_, J_, K_, L_, M_, N_, O_, P_, reduceCtorEq]; simp only [VR]; dsimp only [rInt, Row.den] at *; omega
/-- The bounds of the values of a type. -/
def bnd (t : Ty) (E : List En) : Int × Int :=
  if ¬ VTp t E.length then (0, -1) else if (t.1 : Int) = 1 then (0, 1) else if (t.1 : Int) = 2 then (-1000000000000, 1000000000000) else if (t.1 : Int) = 3 then (-1000000000000000, 1000000000000000) else if (t.1 : Int) = 4 then (-1000000000, 1000000000) else if (t.1 : Int) = 5 then (0, 109572)
  else (0, IntKind.i64.wrap ((((E[(t.2 : Int).toNat]?).map fun e => (e.2.length : Int)).getD 0) - 1))
theorem bnd_eq (t : Ty) (E : List En) : M.ref09_Bounds big t E = some (bnd t E) := by
  obtain ⟨(k : Int), (e : Int)⟩ := t
  apply Wp.eq
  unfold M.ref09_Bounds bnd
  simp only [VTp_eq, a_, b_, c_, d_, e_, f_, g_, h_, i_, j_, k_, l_, m_, n_, o_, p_, q_, r_, s_, t_, u_, v_, w_, x_, y_, z_, A_, B_, C_, D_, E_, F_, G_, H_, I_, J_, K_, L_, M_, N_, O_, P_, reduceCtorEq]
  by_cases hv : VTp (k, e) E.length
  · simp only [hv, not_true_eq_false, if_false, false_implies, true_implies, true_and]
    refine ⟨fun h => by rw [if_pos h], fun h1 => ⟨fun h => by rw [if_neg h1, if_pos h], fun h2 => ⟨fun h => by rw [if_neg h1, if_neg h2, if_pos h], fun h3 => ⟨fun h => by rw [if_neg h1, if_neg h2, if_neg h3, if_pos h], fun h4 => ⟨fun h => by rw [if_neg h1, if_neg h2, if_neg h3, if_neg h4, if_pos h], fun h5 => ?_⟩⟩⟩⟩⟩
    simp only [VTp] at hv
    dsimp only [rInt, Row.den] at *
    have hi : e.toNat < E.length := by omega
    refine wp_idx.2 ⟨by omega, ?_⟩
    rw [if_neg h1, if_neg h2, if_neg h3, if_neg h4, if_neg h5, List.getElem?_eq_getElem hi]
    rfl
  · simp only [hv, not_false_eq_true, if_true, true_implies, false_implies, and_true]
def InB (n : Int) (t : Ty) (E : List En) : Prop := (bnd t E).1 ≤ n ∧ n ≤ (bnd t E).2
instance (n : Int) (t : Ty) (E : List En) : Decidable (InB n t E) := by unfold InB; infer_instance
theorem InB_eq (n : Int) (t : Ty) (E : List En) : M.ref09_In big n t E = some (decide (InB n t E)) := by
  apply Wp.eq; unfold M.ref09_In; simp only [bnd_eq, a_, b_, c_, d_, e_, f_, g_, h_, i_, j_, k_, l_, m_, n_, o_, p_, q_, r_, s_, t_, u_, v_, w_, x_, y_, z_, A_, B_, C_, D_, E_, F_, G_, H_, I_, J_, K_, L_, M_, N_, O_, P_, reduceCtorEq]; unfold InB; omega
/-- A row that is out of the bounds of its table. -/
def Wrong (x : Rw) (t : Tab) (E : List En) : Prop := ¬ VR x.1 ∨ (x.1.1 : Int) = x.1.2 ∨ (x.2.2.1 : Int) ≤ x.2.1 ∨ ¬ InB x.2.1 t.2.1 E ∨ ¬ InB (IntKind.i64.wrap ((x.2.2.1 : Int) - 1)) t.2.1 E ∨ ¬ InB x.2.2.2 t.2.2.1 E
instance (x : Rw) (t : Tab) (E : List En) : Decidable (Wrong x t E) := by unfold Wrong; infer_instance
theorem Wrong_eq (x : Rw) (t : Tab) (E : List En) : M.ref12_wrong big x t E = some (decide (Wrong x t E)) := by
  apply Wp.eq; unfold M.ref12_wrong; simp only [VR_eq, InB_eq, a_, b_, c_, d_, e_, f_, g_, h_, i_, j_, k_, l_, m_, n_, o_, p_, q_, r_, s_, t_, u_, v_, w_, x_, y_, z_, A_, B_, C_, D_, E_, F_, G_, H_, I_, J_, K_, L_, M_, N_, O_, P_, reduceCtorEq]; unfold Wrong; grind
/-- Two rows that match the same key on the same date. -/
def Confl (a b : Rw) : Prop := VR a.1 ∧ VR b.1 ∧ ((a.1.1 : Int) < a.1.2 ∧ (a.1.1 : Int) < b.1.2 ∧ (b.1.1 : Int) < a.1.2 ∧ (b.1.1 : Int) < b.1.2) ∧ (a.2.1 : Int) < a.2.2.1 ∧ (a.2.1 : Int) < b.2.2.1 ∧ (b.2.1 : Int) < a.2.2.1 ∧ (b.2.1 : Int) < b.2.2.1
instance (a b : Rw) : Decidable (Confl a b) := by simp only [Confl]; dsimp only [rInt, Row.den] at *; infer_instance
theorem Confl_eq (a b : Rw) : M.ref12_conflict big a b = some (decide (Confl a b)) := by
  obtain ⟨⟨(a1 : Int), (a2 : Int)⟩, (a3 : Int), (a4 : Int), (a5 : Int)⟩ := a
  obtain ⟨⟨(b1 : Int), (b2 : Int)⟩, (b3 : Int), (b4 : Int), (b5 : Int)⟩ := b
  apply Wp.eq; unfold M.ref12_conflict M.ref05_Intersect; simp only [VR_eq, a_, b_, c_, d_, e_, f_, g_, h_, i_, j_, k_, l_, m_, n_, o_, p_, q_, r_, s_, t_, u_, v_, w_, x_, y_, z_, A_, B_, C_, D_, E_, F_, G_, H_, I_, J_, K_, L_, M_, N_, O_, P_, reduceCtorEq]; simp only [Confl]; dsimp only [rInt, Row.den] at *
  by_cases h1 : VR (a1, a2) <;> by_cases h2 : VR (b1, b2) <;> simp only [h1, h2, a_, b_, c_, d_, e_, f_, g_, h_, i_, j_, k_, l_, m_, n_, o_, p_, q_, r_, s_, t_, u_, v_, w_, x_, y_, z_, A_, B_, C_, D_, E_, F_, G_, H_, I_, J_, K_, L_, M_, N_, O_, P_, reduceCtorEq] <;> omega
open Classical in
/-- The first error of a table, by rows. -/
noncomputable def rowE (t : Tab) (E : List En) (k : Nat) : Option (Int × Int) := match t.2.2.2[k]? with
  | none => none
  | some x => if Wrong x t E then some ((k : Int), 3) else if ∃ y ∈ t.2.2.2.take k, Confl y x then some ((k : Int), 11) else none
noncomputable def tabE (t : Tab) (E : List En) : Int × Int :=
  if 64 < t.2.2.2.length then (64, 4) else if ¬ (VTp t.2.1 E.length ∧ VTp t.2.2.1 E.length) then (-1, 8) else (firstE (rowE t E) t.2.2.2.length).getD (0, 0)
theorem tabE_eq (t : Tab) (E : List En) : M.ref12_Validate big t E = some (tabE t E) := by
  apply Wp.eq
  unfold M.ref12_Validate tabE
  simp only [VTp_eq, Wrong_eq, Confl_eq, a_, b_, c_, d_, e_, f_, g_, h_, i_, j_, k_, l_, m_, n_, o_, p_, q_, r_, s_, t_, u_, v_, w_, x_, y_, z_, A_, B_, C_, D_, E_, F_, G_, H_, I_, J_, K_, L_, M_, N_, O_, P_, reduceCtorEq]
  refine ⟨fun h => by rw [if_pos (by omega)], fun h64 => ?_⟩
  rw [if_neg (c := 64 < t.2.2.2.length) (by omega)]
  refine ⟨fun h1 => by rw [if_pos (fun g => h1 g.1)], fun h1 => ⟨fun h2 => by rw [if_pos (fun g => h2 g.2)], fun h2 => ?_⟩⟩
  rw [if_neg (fun g => g ⟨h1, h2⟩)]
  refine Wp.count (fun s => s) t.2.2.2.length (fun k _ => ∀ j, j < k → rowE t E j = none) (by omega) rfl (fun j hj => by omega) fun k s hk hs hJ => ?_
  obtain rfl : s = _ := hs
  simp only [a_, b_, c_, d_, e_, f_, g_, h_, i_, j_, k_, l_, m_, n_, o_, p_, q_, r_, s_, t_, u_, v_, w_, x_, y_, z_, A_, B_, C_, D_, E_, F_, G_, H_, I_, J_, K_, L_, M_, N_, O_, P_, reduceCtorEq, countQ_inl, countQ_inr]
  refine ⟨fun hlt => ?_, fun hge => ?_⟩
  · have hlt : k < t.2.2.2.length := by omega
    have hf : rowE t E k = if Wrong t.2.2.2[k] t E then some ((k : Int), 3) else if ∃ y ∈ t.2.2.2.take k, Confl y t.2.2.2[k] then some ((k : Int), 11) else none := by
      unfold rowE
      rw [List.getElem?_eq_getElem hlt]
    simp only [idx_nat hlt, a_, b_, c_, d_, e_, f_, g_, h_, i_, j_, k_, l_, m_, n_, o_, p_, q_, r_, s_, t_, u_, v_, w_, x_, y_, z_, A_, B_, C_, D_, E_, F_, G_, H_, I_, J_, K_, L_, M_, N_, O_, P_, reduceCtorEq, wrapS (m := t.2.2.2.length) (by omega) hlt]
    refine ⟨fun hw => ?_, fun hw => ?_⟩
    · rw [firstE_at (hf.trans (if_pos hw)) hJ hlt]; rfl
    rw [if_neg hw] at hf
    refine Wp.count (fun s => s) k (fun j _ => ∀ i, i < j → ∀ h : i < t.2.2.2.length, ¬ Confl t.2.2.2[i] t.2.2.2[k]) (by omega) rfl (fun j hj => by omega) fun j c hj hs hI => ?_
    obtain rfl : c = _ := hs
    simp only [a_, b_, c_, d_, e_, f_, g_, h_, i_, j_, k_, l_, m_, n_, o_, p_, q_, r_, s_, t_, u_, v_, w_, x_, y_, z_, A_, B_, C_, D_, E_, F_, G_, H_, I_, J_, K_, L_, M_, N_, O_, P_, reduceCtorEq, countQ_inl, countQ_inr]
    refine ⟨fun hjk => ?_, fun hjk => ⟨hlt, pre_succ hJ ?_⟩⟩
    · have hjl : j < t.2.2.2.length := by omega
      simp only [idx_nat hjl, a_, b_, c_, d_, e_, f_, g_, h_, i_, j_, k_, l_, m_, n_, o_, p_, q_, r_, s_, t_, u_, v_, w_, x_, y_, z_, A_, B_, C_, D_, E_, F_, G_, H_, I_, J_, K_, L_, M_, N_, O_, P_, reduceCtorEq, wrapS (m := k) (by omega) (show j < k by omega)]
      refine ⟨fun hc => ?_, fun hc => ⟨by omega, pre_succ hI fun _ => hc⟩⟩
      rw [firstE_at (hf.trans (if_pos ⟨_, List.mem_take_iff_getElem.2 ⟨j, by omega, rfl⟩, hc⟩)) hJ hlt]; rfl
    · rw [hf, if_neg]
      rintro ⟨y, hy, hc⟩
      obtain ⟨i, hi, rfl⟩ := List.mem_take_iff_getElem.1 hy
      exact hI i (by omega) (by omega) hc
  · rw [firstE_none.2 fun j hj => hJ j (by omega)]; rfl
end L
end Go.Proofs.YtjeeligfdpociaaGreat
