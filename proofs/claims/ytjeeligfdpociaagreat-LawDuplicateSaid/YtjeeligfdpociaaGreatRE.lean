/- The reference's validity of laws (plain laws): the errors of tables, fields, rules, scopes; Validate. -/
import Derived.Test.YtjeeligfdpociaaGreatRD
namespace Go.Proofs.YtjeeligfdpociaaGreat
open Go Go.RowKit
set_option maxRecDepth 100000
set_option linter.unusedSimpArgs false
namespace L

theorem rowE_le {t : Tab} {E : List En} {k : Nat} {x : Int × Int} (h : rowE t E k = some x) : x.1 = k ∧ (x.2 = 3 ∨ x.2 = 11) := by
  unfold rowE at h
  split at h
  · cases h
  split at h
  · cases h; exact ⟨rfl, .inl rfl⟩
  split at h
  · cases h; exact ⟨rfl, .inr rfl⟩
  · cases h
theorem tabE_le (t : Tab) (E : List En) : -1 ≤ (tabE t E).1 ∧ (tabE t E).1 ≤ 64 := by
  unfold tabE
  split
  · exact ⟨by decide, by decide⟩
  split
  · exact ⟨by decide, by decide⟩
  cases h : firstE (rowE t E) t.2.2.2.length with
  | none => exact ⟨by decide, by decide⟩
  | some x =>
    obtain ⟨k, hk, hx, _⟩ := firstE_some h
    have := (rowE_le hx).1
    show -1 ≤ x.1 ∧ x.1 ≤ 64
    omega
noncomputable def tabS (l : Lw) (k : Nat) : Option (Int × Int) := match l.2.1[k]? with
  | none => none
  | some x => if isId x.1 = false then some (2, 0) else if hasN l.1 x.1 ∨ hasN (l.2.1.take k) x.1 then some (7, 0) else if (tabE x l.1).2 = 0 then none else some ((tabE x l.1).2, if 0 ≤ (tabE x l.1).1 then 100 + (tabE x l.1).1 else 0)
theorem tabS_eq (l : Lw) (hw : WF rLaw l) (k : Nat) (hk : k < l.2.1.length) : M.ref17_tableError big l (k : Int) = some (errOf 2 k (tabS l k)) := by
  apply Wp.eq
  unfold M.ref17_tableError
  simp only [idx_nat hk, isId_eq, tabE_eq, a_, b_, c_, d_, e_, f_, g_, h_, i_, j_, k_, l_, m_, n_, o_, p_, q_, r_, s_, t_, u_, v_, w_, x_, y_, z_, A_, B_, C_, D_, E_, F_, G_, H_, I_, J_, K_, L_, M_, N_, O_, P_, reduceCtorEq]
  have hE : tabS l k = if isId l.2.1[k].1 = false then some (2, 0) else if hasN l.1 l.2.1[k].1 ∨ hasN (l.2.1.take k) l.2.1[k].1 then some (7, 0) else if (tabE l.2.1[k] l.1).2 = 0 then none else some ((tabE l.2.1[k] l.1).2, if 0 ≤ (tabE l.2.1[k] l.1).1 then 100 + (tabE l.2.1[k] l.1).1 else 0) := by
    unfold tabS
    rw [List.getElem?_eq_getElem hk]
  rw [hE]
  refine ⟨fun h => by rw [if_pos h]; rfl, fun h1 => ?_⟩
  rw [if_neg (by simp [h1])]
  refine (nt2 l hw k l.2.1[k].1).mono fun r hr => ?_
  refine ⟨fun h => by rw [if_pos (hr.1 h)]; rfl, fun h2 => ?_⟩
  rw [if_neg ((isT hr).1 (by simpa using h2))]
  have hle := tabE_le l.2.1[k] l.1
  refine ⟨fun h => by rw [if_pos h]; rfl, fun h3 => ?_⟩
  rw [if_neg h3]
  refine ⟨fun h => ?_, fun h => ?_⟩
  · rw [if_pos h, wrap_id (by omega) (by omega)]; rfl
  · rw [if_neg h]; rfl

noncomputable def inpE (l : Lw) (x : Scp) (i : Nat) : Option (Int × Int) := match x.2.2.1[i]? with
  | none => none
  | some f => if isId f.1 = false then some (2, 100 + (i : Int)) else if hasN (x.2.2.1.take i) f.1 then some (7, 100 + (i : Int)) else if ¬ VTp f.2 l.1.length then some (8, 100 + (i : Int)) else none
noncomputable def defE (l : Lw) (x : Scp) (i : Nat) : Option (Int × Int) := match x.2.2.2.1[i]? with
  | none => none
  | some f => if isId f.1 = false then some (2, 200 + (i : Int)) else if hasN x.2.2.1 f.1 ∨ hasN (x.2.2.2.1.take i) f.1 then some (7, 200 + (i : Int)) else if ¬ VTp f.2 l.1.length then some (8, 200 + (i : Int)) else none
noncomputable def fldS (l : Lw) (x : Scp) : Option (Int × Int) := (firstE (inpE l x) x.2.2.1.length).or (firstE (defE l x) x.2.2.2.1.length)
theorem fldS_eq (l : Lw) (k : Nat) (hk : k < l.2.2.length) (h1 : l.2.2[k].2.2.1.length ≤ 12) (h2 : l.2.2[k].2.2.2.1.length ≤ 12) : M.ref17_fieldError big l (k : Int) = some (errOf 3 k (fldS l l.2.2[k])) := by
  obtain ⟨x, hx⟩ : ∃ x, x = l.2.2[k] := ⟨_, rfl⟩
  rw [← hx] at h1 h2 ⊢
  apply Wp.eq
  unfold M.ref17_fieldError
  simp only [idx_nat hk, ← hx, isId_eq, VTp_eq, a_, b_, c_, d_, e_, f_, g_, h_, i_, j_, k_, l_, m_, n_, o_, p_, q_, r_, s_, t_, u_, v_, w_, x_, y_, z_, A_, B_, C_, D_, E_, F_, G_, H_, I_, J_, K_, L_, M_, N_, O_, P_, reduceCtorEq]
  refine Wp.count (fun s => s) x.2.2.1.length (fun i _ => ∀ j, j < i → inpE l x j = none) (by omega) rfl (fun j hj => by omega) fun i c hi hs hJ => ?_
  obtain rfl : c = _ := hs
  simp only [a_, b_, c_, d_, e_, f_, g_, h_, i_, j_, k_, l_, m_, n_, o_, p_, q_, r_, s_, t_, u_, v_, w_, x_, y_, z_, A_, B_, C_, D_, E_, F_, G_, H_, I_, J_, K_, L_, M_, N_, O_, P_, reduceCtorEq, countQ_inl, countQ_inr]
  refine ⟨fun hlt => ?_, fun hge => ?_⟩
  · have hlt : i < x.2.2.1.length := by omega
    have hf : inpE l x i = if isId x.2.2.1[i].1 = false then some (2, 100 + (i : Int)) else if hasN (x.2.2.1.take i) x.2.2.1[i].1 then some (7, 100 + (i : Int)) else if ¬ VTp x.2.2.1[i].2 l.1.length then some (8, 100 + (i : Int)) else none := by
      unfold inpE
      rw [List.getElem?_eq_getElem hlt]
    simp only [idx_nat hlt, hasField_eq x.2.2.1 i _ (by unfold maxLen; omega), wrap100 (k := i) (a := 100) (by omega) (by omega), wrapS (m := x.2.2.1.length) (by omega) hlt, a_, b_, c_, d_, e_, f_, g_, h_, i_, j_, k_, l_, m_, n_, o_, p_, q_, r_, s_, t_, u_, v_, w_, x_, y_, z_, A_, B_, C_, D_, E_, F_, G_, H_, I_, J_, K_, L_, M_, N_, O_, P_, reduceCtorEq]
    have res : ∀ c : Int, c ≠ 0 → inpE l x i = some (c, 100 + (i : Int)) → (¬ c = 0 → (c, (3 : Int), (k : Int), 100 + (i : Int)) = errOf 3 (k : Int) (fldS l x)) ∧ (c = 0 → i < x.2.2.1.length ∧ ∀ j, j < i + 1 → inpE l x j = none) := fun c h0 h => ⟨fun _ => by
      unfold fldS
      rw [firstE_at h hJ hlt]; rfl, fun h => absurd h h0⟩
    refine ⟨fun h => ?_, fun h => ⟨fun h' => ?_, fun h' => ⟨fun h'' => ?_, fun h'' => ?_⟩⟩⟩
    · exact res 2 (by decide) (hf.trans (if_pos h))
    · exact res 7 (by decide) (by rw [hf, if_neg (by simp [h]), if_pos h'])
    · exact res 8 (by decide) (by rw [hf, if_neg (by simp [h]), if_neg h', if_pos h''])
    · exact ⟨hlt, pre_succ hJ (by rw [hf, if_neg (by simp [h]), if_neg h', if_neg (fun g => g h'')])⟩
  have hJ := firstE_none.2 fun j (hj : j < x.2.2.1.length) => hJ j (by omega)
  refine Wp.count (fun s => s) x.2.2.2.1.length (fun i _ => ∀ j, j < i → defE l x j = none) (by omega) rfl (fun j hj => by omega) fun i c hi hs hI => ?_
  obtain rfl : c = _ := hs
  simp only [a_, b_, c_, d_, e_, f_, g_, h_, i_, j_, k_, l_, m_, n_, o_, p_, q_, r_, s_, t_, u_, v_, w_, x_, y_, z_, A_, B_, C_, D_, E_, F_, G_, H_, I_, J_, K_, L_, M_, N_, O_, P_, reduceCtorEq, countQ_inl, countQ_inr]
  refine ⟨fun hlt => ?_, fun hge => ?_⟩
  · have hlt : i < x.2.2.2.1.length := by omega
    have hf : defE l x i = if isId x.2.2.2.1[i].1 = false then some (2, 200 + (i : Int)) else if hasN x.2.2.1 x.2.2.2.1[i].1 ∨ hasN (x.2.2.2.1.take i) x.2.2.2.1[i].1 then some (7, 200 + (i : Int)) else if ¬ VTp x.2.2.2.1[i].2 l.1.length then some (8, 200 + (i : Int)) else none := by
      unfold defE
      rw [List.getElem?_eq_getElem hlt]
    simp only [idx_nat hlt, hasField_eq x.2.2.2.1 i _ (by unfold maxLen; omega), hasField_eq x.2.2.1 x.2.2.1.length _ (by unfold maxLen; omega), List.take_length, wrap100 (k := i) (a := 200) (by omega) (by omega), wrapS (m := x.2.2.2.1.length) (by omega) hlt, a_, b_, c_, d_, e_, f_, g_, h_, i_, j_, k_, l_, m_, n_, o_, p_, q_, r_, s_, t_, u_, v_, w_, x_, y_, z_, A_, B_, C_, D_, E_, F_, G_, H_, I_, J_, K_, L_, M_, N_, O_, P_, reduceCtorEq]
    have res : ∀ c : Int, c ≠ 0 → defE l x i = some (c, 200 + (i : Int)) → (¬ c = 0 → (c, (3 : Int), (k : Int), 200 + (i : Int)) = errOf 3 (k : Int) (fldS l x)) ∧ (c = 0 → i < x.2.2.2.1.length ∧ ∀ j, j < i + 1 → defE l x j = none) := fun c h0 h => ⟨fun _ => by
      unfold fldS
      rw [hJ, firstE_at h hI hlt]; rfl, fun h => absurd h h0⟩
    refine ⟨fun h => res 2 (by decide) (hf.trans (if_pos h)), fun h => ⟨fun h' => ?_, fun h' => ⟨fun h'' => ?_, fun h'' => ⟨fun h3 => ?_, fun h3 => ?_⟩⟩⟩⟩
    · exact res 7 (by decide) (by rw [hf, if_neg (by simp [h]), if_pos (.inl h')])
    · exact res 7 (by decide) (by rw [hf, if_neg (by simp [h]), if_pos (.inr h'')])
    · exact res 8 (by decide) (by rw [hf, if_neg (by simp [h]), if_neg (fun g => g.elim h' h''), if_pos h3])
    · exact ⟨hlt, pre_succ hI (by rw [hf, if_neg (by simp [h]), if_neg (fun g => g.elim h' h''), if_neg (fun g => g h3)])⟩
  unfold fldS
  rw [hJ, firstE_none.2 fun j hj => hI j (by omega)]; rfl

/-! ## Rules -/
def plain (s : ByteArray) : Prop := (∀ i, ∀ h : i < s.size, 32 ≤ (s[i].toNat : Int) ∧ (s[i].toNat : Int) ≤ 126 ∧ (s[i].toNat : Int) ≠ 34) ∧ s.size ≤ 64
noncomputable instance (s : ByteArray) : Decidable (plain s) := Classical.propDecidable _
theorem plain_eq (s : ByteArray) (hs : s.size ≤ 100000) : M.ref17_plainText big s = some (decide (plain s)) := by
  apply Wp.eq
  unfold M.ref17_plainText
  refine Wp.count (fun s => s) s.size (fun i _ => ∀ j, j < i → ∀ h : j < s.size, 32 ≤ (s[j].toNat : Int) ∧ (s[j].toNat : Int) ≤ 126 ∧ (s[j].toNat : Int) ≠ 34) (by omega) rfl (fun j hj => by omega) fun i c hi hs hJ => ?_
  obtain rfl : c = _ := hs
  simp only [a_, b_, c_, d_, e_, f_, g_, h_, i_, j_, k_, l_, m_, n_, o_, p_, q_, r_, s_, t_, u_, v_, w_, x_, y_, z_, A_, B_, C_, D_, E_, F_, G_, H_, I_, J_, K_, L_, M_, N_, O_, P_, reduceCtorEq, countQ_inl, countQ_inr]
  refine ⟨fun hlt => ?_, fun hge => ?_⟩
  · have hlt : i < s.size := by omega
    have hb : byteA s (i : Int) = some (s[i].toNat : Int) := wp_eq.1 (wp_byte.2 ⟨by omega, rfl⟩)
    simp only [hb, wrapS (m := s.size) (by omega) hlt, a_, b_, c_, d_, e_, f_, g_, h_, i_, j_, k_, l_, m_, n_, o_, p_, q_, r_, s_, t_, u_, v_, w_, x_, y_, z_, A_, B_, C_, D_, E_, F_, G_, H_, I_, J_, K_, L_, M_, N_, O_, P_, reduceCtorEq]
    have no : ¬ (32 ≤ (s[i].toNat : Int) ∧ (s[i].toNat : Int) ≤ 126 ∧ (s[i].toNat : Int) ≠ 34) → ¬ plain s := fun h g => h (g.1 i hlt)
    exact ⟨fun h => no (by omega), fun h => ⟨fun h' => no (by omega), fun h' => ⟨fun h2 => no (by omega), fun h2 => ⟨hlt, pre_succ hJ fun _ => ⟨by omega, by omega, h2⟩⟩⟩⟩⟩
  · refine ⟨fun h => ⟨fun j hj => hJ j (by omega) hj, by omega⟩, fun h => ?_⟩
    have := h.2
    omega
theorem types_eq (f : List Fd) (hf : f.length ≤ 100000) : M.ref17_fieldTypes big f = some (f.map (·.2)) := by
  apply Wp.eq
  unfold M.ref17_fieldTypes
  refine Wp.fold (fun s => s.1) (fun s => s.2) f (fun (o : List Ty) x => o ++ [x.2]) [] (fun k c => c.length ≤ k) (by omega) rfl rfl (Nat.le_refl _) (fun k s hlt hs hI => ?_) fun s hs hc hI => ?_
  · obtain ⟨i, o⟩ := s
    dsimp only at hs hI
    subst hs
    simp only [lt_nat hlt, idx_nat hlt, wrapS (m := f.length) (by omega) hlt, a_, b_, c_, d_, e_, f_, g_, h_, i_, j_, k_, l_, m_, n_, o_, p_, q_, r_, s_, t_, u_, v_, w_, x_, y_, z_, A_, B_, C_, D_, E_, F_, G_, H_, I_, J_, K_, L_, M_, N_, O_, P_, reduceCtorEq, foldQ_inl]
    exact wp_app.2 ⟨by simp; omega, rfl, by simp; omega⟩
  · obtain ⟨i, o⟩ := s
    dsimp only at hs hc
    subst hs
    simp only [nlt_self, a_, b_, c_, d_, e_, f_, g_, h_, i_, j_, k_, l_, m_, n_, o_, p_, q_, r_, s_, t_, u_, v_, w_, x_, y_, z_, A_, B_, C_, D_, E_, F_, G_, H_, I_, J_, K_, L_, M_, N_, O_, P_, reduceCtorEq, stopQ_inr]
    rw [hc]
    have : ∀ (f : List Fd) (o : List Ty), f.foldl (fun (o : List Ty) x => o ++ [x.2]) o = o ++ f.map (·.2) := by
      intro f
      induction f with
      | nil => intro o; simp
      | cons x f ih => intro o; rw [List.foldl_cons, ih]; simp
    rw [this]; rfl
/-- What the expressions of a scope may refer to. -/
def sigS (l : Lw) (x : Scp) : Sgn := (l.1, (l.2.1, (x.2.2.1.map (·.2), (x.2.2.2.1.map (·.2), (match l.2.2[(x.2.1 : Int).toNat]? with
  | some y => if 0 ≤ (x.2.1 : Int) then y.2.2.2.1.map (·.2) else []
  | none => [], decide (0 ≤ (x.2.1 : Int) ∧ (x.2.1 : Int) < (l.2.2.length : Int)))))))
theorem sigS_eq (l : Lw) (k : Nat) (hk : k < l.2.2.length) (hs : ∀ s ∈ l.2.2, s.2.2.1.length ≤ 100000 ∧ s.2.2.2.1.length ≤ 100000) : M.ref17_Signature big l (k : Int) = some ((sigS l l.2.2[k]).1, (sigS l l.2.2[k]).2.1, (sigS l l.2.2[k]).2.2.2.2.2, (sigS l l.2.2[k]).2.2.1, (sigS l l.2.2[k]).2.2.2.1, (sigS l l.2.2[k]).2.2.2.2.1) := by
  apply Wp.eq
  unfold M.ref17_Signature
  have h1 := hs _ (List.getElem_mem hk)
  simp only [show ¬ (k : Int) < 0 by omega, show ¬ (l.2.2.length : Int) ≤ (k : Int) by omega, idx_nat hk, types_eq _ h1.1, types_eq _ h1.2, a_, b_, c_, d_, e_, f_, g_, h_, i_, j_, k_, l_, m_, n_, o_, p_, q_, r_, s_, t_, u_, v_, w_, x_, y_, z_, A_, B_, C_, D_, E_, F_, G_, H_, I_, J_, K_, L_, M_, N_, O_, P_, reduceCtorEq]
  unfold sigS
  generalize l.2.2[k] = x at *
  obtain ⟨x1, (x2 : Int), x3, x4, x5⟩ := x
  dsimp only [rInt, Row.den] at *
  refine ⟨fun h => ⟨fun h' => ?_, fun h' => ?_⟩, fun h => ?_⟩
  · refine wp_idx.2 ⟨by omega, ?_⟩
    have hi : x2.toNat < l.2.2.length := by omega
    simp only [types_eq _ (hs _ (List.getElem_mem hi)).2, a_, b_, c_, d_, e_, f_, g_, h_, i_, j_, k_, l_, m_, n_, o_, p_, q_, r_, s_, t_, u_, v_, w_, x_, y_, z_, A_, B_, C_, D_, E_, F_, G_, H_, I_, J_, K_, L_, M_, N_, O_, P_, reduceCtorEq, List.getElem?_eq_getElem hi, h, h', if_true]
  · rw [List.getElem?_eq_none (by omega)]
    simp only [h', a_, b_, c_, d_, e_, f_, g_, h_, i_, j_, k_, l_, m_, n_, o_, p_, q_, r_, s_, t_, u_, v_, w_, x_, y_, z_, A_, B_, C_, D_, E_, F_, G_, H_, I_, J_, K_, L_, M_, N_, O_, P_, reduceCtorEq]
  · simp only [h, a_, b_, c_, d_, e_, f_, g_, h_, i_, j_, k_, l_, m_, n_, o_, p_, q_, r_, s_, t_, u_, v_, w_, x_, y_, z_, A_, B_, C_, D_, E_, F_, G_, H_, I_, J_, K_, L_, M_, N_, O_, P_, reduceCtorEq]
    split <;> rfl
end L
end Go.Proofs.YtjeeligfdpociaaGreat
