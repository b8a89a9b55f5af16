/- The reference's validity of laws (plain laws): small laws, the errors of enumerations, tables, fields, rules, scopes; Validate. -/
import Derived.Test.YtjeeligfdpociaaGreatRC
namespace Go.Proofs.YtjeeligfdpociaaGreat
open Go Go.RowKit
set_option maxRecDepth 100000
set_option linter.unusedSimpArgs false
namespace L

/-! ## Small laws -/
def SmallS (s : Scp) : Prop := s.1.size ≤ 80 ∧ s.2.2.1.length ≤ 14 ∧ s.2.2.2.1.length ≤ 14 ∧ s.2.2.2.2.length ≤ 60 ∧ (∀ f ∈ s.2.2.1, f.1.size ≤ 80) ∧ (∀ f ∈ s.2.2.2.1, f.1.size ≤ 80) ∧ ∀ r ∈ s.2.2.2.2, r.1.size ≤ 80 ∧ r.2.2.2.2.2.2.2.size ≤ 80 ∧ r.2.2.2.2.2.1.length ≤ 50 ∧ r.2.2.2.2.2.2.1.length ≤ 50
def SmallL (l : Lw) : Prop := l.1.length ≤ 9 ∧ l.2.1.length ≤ 9 ∧ l.2.2.length ≤ 5 ∧ (∀ e ∈ l.1, e.1.size ≤ 80 ∧ e.2.length ≤ 20 ∧ ∀ m ∈ e.2, m.size ≤ 80) ∧ (∀ t ∈ l.2.1, t.1.size ≤ 80) ∧ ∀ s ∈ l.2.2, SmallS s
theorem all_at {α : Type} {l : List α} {p : α → Prop} (h : ∀ j, j < l.length → ∀ h : j < l.length, p l[j]) : ∀ x ∈ l, p x := fun x hx => by
  obtain ⟨j, hj, rfl⟩ := List.getElem_of_mem hx
  exact h j hj hj
theorem smallS_wp (s : Scp) (hw : WF rScope s) : Wp (M.same_smallScope big s) fun r => r = true → SmallS s := by
  have w1 := hw.2.2.1.1
  have w2 := hw.2.2.2.1.1
  have w3 := hw.2.2.2.2.1
  unfold maxLen at w1 w2 w3
  unfold M.same_smallScope
  simp only [a_, b_, c_, d_, e_, f_, g_, h_, i_, j_, k_, l_, m_, n_, o_, p_, q_, r_, s_, t_, u_, v_, w_, x_, y_, z_, A_, B_, C_, D_, E_, F_, G_, H_, I_, J_, K_, L_, M_, N_, O_, P_, reduceCtorEq]
  refine fun h1 h2 h3 h4 => ?_
  refine Wp.count (fun s => s) s.2.2.1.length (fun k _ => ∀ j, j < k → ∀ h : j < s.2.2.1.length, (s.2.2.1[j].1 : ByteArray).size ≤ 80) w1 rfl (fun j hj => by omega) fun k c hk hs hA => ?_
  obtain rfl : c = _ := hs
  simp only [a_, b_, c_, d_, e_, f_, g_, h_, i_, j_, k_, l_, m_, n_, o_, p_, q_, r_, s_, t_, u_, v_, w_, x_, y_, z_, A_, B_, C_, D_, E_, F_, G_, H_, I_, J_, K_, L_, M_, N_, O_, P_, reduceCtorEq, countQ_inl, countQ_inr]
  refine ⟨fun hlt => ?_, fun hge => ?_⟩
  · have hlt : k < s.2.2.1.length := by omega
    simp only [idx_nat hlt, wrapS w1 hlt, a_, b_, c_, d_, e_, f_, g_, h_, i_, j_, k_, l_, m_, n_, o_, p_, q_, r_, s_, t_, u_, v_, w_, x_, y_, z_, A_, B_, C_, D_, E_, F_, G_, H_, I_, J_, K_, L_, M_, N_, O_, P_, reduceCtorEq]
    exact fun h => ⟨hlt, pre_succ hA fun _ => by omega⟩
  have hA := fun j (hj : j < s.2.2.1.length) => hA j (by omega)
  refine Wp.count (fun s => s) s.2.2.2.1.length (fun k _ => ∀ j, j < k → ∀ h : j < s.2.2.2.1.length, (s.2.2.2.1[j].1 : ByteArray).size ≤ 80) w2 rfl (fun j hj => by omega) fun k c hk hs hB => ?_
  obtain rfl : c = _ := hs
  simp only [a_, b_, c_, d_, e_, f_, g_, h_, i_, j_, k_, l_, m_, n_, o_, p_, q_, r_, s_, t_, u_, v_, w_, x_, y_, z_, A_, B_, C_, D_, E_, F_, G_, H_, I_, J_, K_, L_, M_, N_, O_, P_, reduceCtorEq, countQ_inl, countQ_inr]
  refine ⟨fun hlt => ?_, fun hge => ?_⟩
  · have hlt : k < s.2.2.2.1.length := by omega
    simp only [idx_nat hlt, wrapS w2 hlt, a_, b_, c_, d_, e_, f_, g_, h_, i_, j_, k_, l_, m_, n_, o_, p_, q_, r_, s_, t_, u_, v_, w_, x_, y_, z_, A_, B_, C_, D_, E_, F_, G_, H_, I_, J_, K_, L_, M_, N_, O_, P_, reduceCtorEq]
    exact fun h => ⟨hlt, pre_succ hB fun _ => by omega⟩
  have hB := fun j (hj : j < s.2.2.2.1.length) => hB j (by omega)
  refine Wp.count (fun s => s) s.2.2.2.2.length (fun k _ => ∀ j, j < k → ∀ h : j < s.2.2.2.2.length, (s.2.2.2.2[j].1 : ByteArray).size ≤ 80 ∧ (s.2.2.2.2[j].2.2.2.2.2.2.2 : ByteArray).size ≤ 80 ∧ s.2.2.2.2[j].2.2.2.2.2.1.length ≤ 50 ∧ s.2.2.2.2[j].2.2.2.2.2.2.1.length ≤ 50) w3 rfl (fun j hj => by omega) fun k c hk hs hC => ?_
  obtain rfl : c = _ := hs
  simp only [a_, b_, c_, d_, e_, f_, g_, h_, i_, j_, k_, l_, m_, n_, o_, p_, q_, r_, s_, t_, u_, v_, w_, x_, y_, z_, A_, B_, C_, D_, E_, F_, G_, H_, I_, J_, K_, L_, M_, N_, O_, P_, reduceCtorEq, countQ_inl, countQ_inr]
  refine ⟨fun hlt => ?_, fun hge => ?_⟩
  · have hlt : k < s.2.2.2.2.length := by omega
    simp only [idx_nat hlt, wrapS w3 hlt, a_, b_, c_, d_, e_, f_, g_, h_, i_, j_, k_, l_, m_, n_, o_, p_, q_, r_, s_, t_, u_, v_, w_, x_, y_, z_, A_, B_, C_, D_, E_, F_, G_, H_, I_, J_, K_, L_, M_, N_, O_, P_, reduceCtorEq]
    exact fun h1 h2 h3 h4 => ⟨hlt, pre_succ hC fun _ => ⟨by omega, by omega, by omega, by omega⟩⟩
  exact ⟨by omega, by omega, by omega, by omega, all_at hA, all_at hB, all_at fun j hj => hC j (by omega)⟩
theorem smallL_wp (l : Lw) (hw : WF rLaw l) : Wp (M.same_SmallLaw big l) fun r => r = true → SmallL l := by
  have w1 := hw.1.1
  have w2 := hw.2.1.1
  have w3 := hw.2.2.1
  unfold maxLen at w1 w2 w3
  unfold M.same_SmallLaw
  simp only [a_, b_, c_, d_, e_, f_, g_, h_, i_, j_, k_, l_, m_, n_, o_, p_, q_, r_, s_, t_, u_, v_, w_, x_, y_, z_, A_, B_, C_, D_, E_, F_, G_, H_, I_, J_, K_, L_, M_, N_, O_, P_, reduceCtorEq]
  refine fun h1 h2 h3 => ?_
  refine Wp.count (fun s => s) l.1.length (fun k _ => ∀ j, j < k → ∀ h : j < l.1.length, (l.1[j].1 : ByteArray).size ≤ 80 ∧ l.1[j].2.length ≤ 20 ∧ ∀ m ∈ l.1[j].2, ByteArray.size m ≤ 80) w1 rfl (fun j hj => by omega) fun k c hk hs hA => ?_
  obtain rfl : c = _ := hs
  simp only [a_, b_, c_, d_, e_, f_, g_, h_, i_, j_, k_, l_, m_, n_, o_, p_, q_, r_, s_, t_, u_, v_, w_, x_, y_, z_, A_, B_, C_, D_, E_, F_, G_, H_, I_, J_, K_, L_, M_, N_, O_, P_, reduceCtorEq, countQ_inl, countQ_inr]
  refine ⟨fun hlt => ?_, fun hge => ?_⟩
  · have hlt : k < l.1.length := by omega
    simp only [idx_nat hlt, wrapS w1 hlt, a_, b_, c_, d_, e_, f_, g_, h_, i_, j_, k_, l_, m_, n_, o_, p_, q_, r_, s_, t_, u_, v_, w_, x_, y_, z_, A_, B_, C_, D_, E_, F_, G_, H_, I_, J_, K_, L_, M_, N_, O_, P_, reduceCtorEq]
    refine fun g1 g2 => ?_
    refine Wp.count (fun s => s) l.1[k].2.length (fun i _ => ∀ j, j < i → ∀ h : j < l.1[k].2.length, ByteArray.size l.1[k].2[j] ≤ 80) (by omega) rfl (fun j hj => by omega) fun i c hi hs hB => ?_
    obtain rfl : c = _ := hs
    simp only [a_, b_, c_, d_, e_, f_, g_, h_, i_, j_, k_, l_, m_, n_, o_, p_, q_, r_, s_, t_, u_, v_, w_, x_, y_, z_, A_, B_, C_, D_, E_, F_, G_, H_, I_, J_, K_, L_, M_, N_, O_, P_, reduceCtorEq, countQ_inl, countQ_inr]
    refine ⟨fun hil => ?_, fun hil => ⟨hlt, pre_succ hA fun _ => ⟨by omega, by omega, all_at fun j hj => hB j (by omega)⟩⟩⟩
    have hil : i < l.1[k].2.length := by omega
    simp only [idx_nat hil, wrapS (m := l.1[k].2.length) (by omega) hil, a_, b_, c_, d_, e_, f_, g_, h_, i_, j_, k_, l_, m_, n_, o_, p_, q_, r_, s_, t_, u_, v_, w_, x_, y_, z_, A_, B_, C_, D_, E_, F_, G_, H_, I_, J_, K_, L_, M_, N_, O_, P_, reduceCtorEq]
    exact fun h => ⟨hil, pre_succ hB fun _ => by omega⟩
  have hA := fun j (hj : j < l.1.length) => hA j (by omega)
  refine Wp.count (fun s => s.2) l.2.1.length (fun k _ => ∀ j, j < k → ∀ h : j < l.2.1.length, (l.2.1[j].1 : ByteArray).size ≤ 80) w2 rfl (fun j hj => by omega) fun k c hk hs hB => ?_
  obtain ⟨c1, c2⟩ := c
  dsimp only at hs
  subst hs
  simp only [a_, b_, c_, d_, e_, f_, g_, h_, i_, j_, k_, l_, m_, n_, o_, p_, q_, r_, s_, t_, u_, v_, w_, x_, y_, z_, A_, B_, C_, D_, E_, F_, G_, H_, I_, J_, K_, L_, M_, N_, O_, P_, reduceCtorEq, countQ_inl, countQ_inr]
  refine ⟨fun hlt => ?_, fun hge => ?_⟩
  · have hlt : k < l.2.1.length := by omega
    simp only [idx_nat hlt, wrapS w2 hlt, a_, b_, c_, d_, e_, f_, g_, h_, i_, j_, k_, l_, m_, n_, o_, p_, q_, r_, s_, t_, u_, v_, w_, x_, y_, z_, A_, B_, C_, D_, E_, F_, G_, H_, I_, J_, K_, L_, M_, N_, O_, P_, reduceCtorEq]
    exact fun h _ => ⟨hlt, pre_succ hB fun _ => by omega⟩
  have hB := fun j (hj : j < l.2.1.length) => hB j (by omega)
  refine Wp.count (fun s => s.2) l.2.2.length (fun k _ => ∀ j, j < k → ∀ h : j < l.2.2.length, SmallS l.2.2[j]) w3 rfl (fun j hj => by omega) fun k c hk hs hC => ?_
  obtain ⟨c1, c2⟩ := c
  dsimp only at hs
  subst hs
  simp only [a_, b_, c_, d_, e_, f_, g_, h_, i_, j_, k_, l_, m_, n_, o_, p_, q_, r_, s_, t_, u_, v_, w_, x_, y_, z_, A_, B_, C_, D_, E_, F_, G_, H_, I_, J_, K_, L_, M_, N_, O_, P_, reduceCtorEq, countQ_inl, countQ_inr]
  refine ⟨fun hlt => ?_, fun hge => ?_⟩
  · have hlt : k < l.2.2.length := by omega
    simp only [idx_nat hlt, wrapS w3 hlt, a_, b_, c_, d_, e_, f_, g_, h_, i_, j_, k_, l_, m_, n_, o_, p_, q_, r_, s_, t_, u_, v_, w_, x_, y_, z_, A_, B_, C_, D_, E_, F_, G_, H_, I_, J_, K_, L_, M_, N_, O_, P_, reduceCtorEq]
    refine fun h => (smallS_wp _ (hw.2.2.2 _ (List.getElem_mem hlt))).mono fun r hr hr' => ⟨hlt, pre_succ hC fun _ => hr hr'⟩
  exact ⟨by omega, by omega, by omega, all_at hA, all_at hB, all_at fun j hj => hC j (by omega)⟩
theorem SmallS.few {s : Scp} (h : SmallS s) : Few s := ⟨by have := h.2.2.1; omega, by have := h.2.2.2.1; omega, fun r hr => by
  have := h.2.2.2.2.2.2 r hr
  omega⟩

/-! ## The errors of the parts -/
abbrev LE : Type := rLawError.den
def okE : LE := ((0 : Int), ((0 : Int), ((0 : Int), (0 : Int))))
def errOf (sec : Int) (k : Int) : Option (Int × Int) → LE
  | none => okE
  | some (c, e) => (c, (sec, (k, e)))
noncomputable def memE (ms : List ByteArray) (i : Nat) : Option (Int × Int) := match ms[i]? with
  | none => none
  | some m => if isId m = false then some (2, 100 + (i : Int)) else if m ∈ ms.take i then some (7, 100 + (i : Int)) else none
noncomputable def enumS (l : Lw) (k : Nat) : Option (Int × Int) := match l.1[k]? with
  | none => none
  | some x => if isId x.1 = false then some (2, 0) else if hasN (l.1.take k) x.1 then some (7, 0) else if x.2.length = 0 then some (5, 0) else if 16 < x.2.length then some (4, 116) else firstE (memE x.2) x.2.length
theorem wrap100 {k : Nat} {a : Int} (h : k ≤ 100000) (ha : 0 ≤ a ∧ a ≤ 1000) : IntKind.i64.wrap (a + (k : Int)) = a + (k : Int) := wrap_id (by omega) (by omega)
theorem nt1 (l : Lw) (hw : WF rLaw l) (k : Nat) (nm : ByteArray) : Wp (M.ref17_nameTaken big l 1 (k : Int) nm) fun r => r = true ↔ hasN (l.1.take k) nm := by
  rw [nameTaken_eq l 1 k nm ⟨hw.1.1, hw.2.1.1, hw.2.2.1⟩]
  refine .some ?_
  rw [decide_eq_true_iff, hasN_take]
  constructor
  · rintro (⟨j, hj, h, g⟩ | ⟨j, hj, h, g⟩ | ⟨j, hj, h, g⟩)
    · exact ⟨j, hj, by omega, g⟩
    · omega
    · omega
  · rintro ⟨j, hj, h, g⟩
    exact .inl ⟨j, hj, .inr h, g⟩
theorem nt2 (l : Lw) (hw : WF rLaw l) (k : Nat) (nm : ByteArray) : Wp (M.ref17_nameTaken big l 2 (k : Int) nm) fun r => r = true ↔ hasN l.1 nm ∨ hasN (l.2.1.take k) nm := by
  rw [nameTaken_eq l 2 k nm ⟨hw.1.1, hw.2.1.1, hw.2.2.1⟩]
  refine .some ?_
  rw [decide_eq_true_iff, hasN_take, hasN_at]
  constructor
  · rintro (⟨j, hj, h, g⟩ | ⟨j, hj, h, g⟩ | ⟨j, hj, h, g⟩)
    · exact .inl ⟨j, hj, g⟩
    · exact .inr ⟨j, hj, by omega, g⟩
    · omega
  · rintro (⟨j, hj, g⟩ | ⟨j, hj, h, g⟩)
    · exact .inl ⟨j, hj, .inl (by omega), g⟩
    · exact .inr (.inl ⟨j, hj, .inr ⟨rfl, h⟩, g⟩)
theorem nt3 (l : Lw) (hw : WF rLaw l) (k : Nat) (nm : ByteArray) : Wp (M.ref17_nameTaken big l 3 (k : Int) nm) fun r => r = true ↔ hasN l.1 nm ∨ hasN l.2.1 nm ∨ hasN (l.2.2.take k) nm := by
  rw [nameTaken_eq l 3 k nm ⟨hw.1.1, hw.2.1.1, hw.2.2.1⟩]
  refine .some ?_
  rw [decide_eq_true_iff, hasN_take, hasN_at, hasN_at]
  constructor
  · rintro (⟨j, hj, h, g⟩ | ⟨j, hj, h, g⟩ | ⟨j, hj, h, g⟩)
    · exact .inl ⟨j, hj, g⟩
    · exact .inr (.inl ⟨j, hj, g⟩)
    · exact .inr (.inr ⟨j, hj, h.2, g⟩)
  · rintro (⟨j, hj, g⟩ | ⟨j, hj, g⟩ | ⟨j, hj, h, g⟩)
    · exact .inl ⟨j, hj, .inl (by omega), g⟩
    · exact .inr (.inl ⟨j, hj, .inl (by omega), g⟩)
    · exact .inr (.inr ⟨j, hj, ⟨rfl, h⟩, g⟩)
theorem isT {b : Bool} {P : Prop} (h : b = true ↔ P) : (b = false ↔ ¬ P) := by rw [← h]; cases b <;> simp
theorem enumS_eq (l : Lw) (hw : WF rLaw l) (k : Nat) (hk : k < l.1.length) : M.ref17_enumError big l (k : Int) = some (errOf 1 k (enumS l k)) := by
  apply Wp.eq
  unfold M.ref17_enumError
  simp only [idx_nat hk, isId_eq, a_, b_, c_, d_, e_, f_, g_, h_, i_, j_, k_, l_, m_, n_, o_, p_, q_, r_, s_, t_, u_, v_, w_, x_, y_, z_, A_, B_, C_, D_, E_, F_, G_, H_, I_, J_, K_, L_, M_, N_, O_, P_, reduceCtorEq]
  have hE : enumS l k = if isId l.1[k].1 = false then some (2, 0) else if hasN (l.1.take k) l.1[k].1 then some (7, 0) else if l.1[k].2.length = 0 then some (5, 0) else if 16 < l.1[k].2.length then some (4, 116) else firstE (memE l.1[k].2) l.1[k].2.length := by
    unfold enumS
    rw [List.getElem?_eq_getElem hk]
  rw [hE]
  refine ⟨fun h => by rw [if_pos h]; rfl, fun h1 => ?_⟩
  rw [if_neg (by simp [h1])]
  refine (nt1 l hw k l.1[k].1).mono fun r hr => ?_
  refine ⟨fun h => by rw [if_pos (hr.1 h)]; rfl, fun h2 => ?_⟩
  rw [if_neg ((isT hr).1 (by simpa using h2))]
  refine ⟨fun h => by rw [if_pos (by omega)]; rfl, fun h3 => ?_⟩
  rw [if_neg (by omega)]
  refine ⟨fun h => by rw [if_pos (by omega)]; rfl, fun h4 => ?_⟩
  rw [if_neg (by omega)]
  refine Wp.count (fun s => s.1) l.1[k].2.length (fun i s => (∀ j, j < i → memE l.1[k].2 j = none) ∧ s.2.2.1 = (1 : Int) ∧ s.2.2.2.1 = (k : Int)) (by omega) rfl ⟨fun j hj => by omega, rfl, rfl⟩ fun i s hi hs hJ => ?_
  obtain ⟨c, s1, s2, s3, s4⟩ := s
  dsimp only at hs hJ
  subst hs
  obtain ⟨hJ, g2, g3⟩ := hJ
  subst g2 g3
  simp only [a_, b_, c_, d_, e_, f_, g_, h_, i_, j_, k_, l_, m_, n_, o_, p_, q_, r_, s_, t_, u_, v_, w_, x_, y_, z_, A_, B_, C_, D_, E_, F_, G_, H_, I_, J_, K_, L_, M_, N_, O_, P_, reduceCtorEq, countQ_inl, countQ_inr]
  refine ⟨fun hlt => ?_, fun hge => ?_⟩
  · have hlt : i < l.1[k].2.length := by omega
    have hf : memE l.1[k].2 i = if isId l.1[k].2[i] = false then some (2, 100 + (i : Int)) else if l.1[k].2[i] ∈ l.1[k].2.take i then some (7, 100 + (i : Int)) else none := by
      unfold memE
      rw [List.getElem?_eq_getElem hlt]
    simp only [idx_nat hlt, wrap100 (k := i) (a := 100) (by omega) (by omega), wrapS (m := l.1[k].2.length) (by omega) hlt, a_, b_, c_, d_, e_, f_, g_, h_, i_, j_, k_, l_, m_, n_, o_, p_, q_, r_, s_, t_, u_, v_, w_, x_, y_, z_, A_, B_, C_, D_, E_, F_, G_, H_, I_, J_, K_, L_, M_, N_, O_, P_, reduceCtorEq]
    refine ⟨fun h => ?_, fun h => ?_⟩
    · rw [firstE_at (hf.trans (if_pos h)) hJ hlt]; rfl
    rw [if_neg (by simp [h])] at hf
    refine Wp.count (fun s => s) i (fun j _ => ∀ q, q < j → ∀ h : q < l.1[k].2.length, ¬ l.1[k].2[q] = l.1[k].2[i]) (by omega) rfl (fun j hj => by omega) fun j c hj hs hI => ?_
    obtain rfl : c = _ := hs
    simp only [a_, b_, c_, d_, e_, f_, g_, h_, i_, j_, k_, l_, m_, n_, o_, p_, q_, r_, s_, t_, u_, v_, w_, x_, y_, z_, A_, B_, C_, D_, E_, F_, G_, H_, I_, J_, K_, L_, M_, N_, O_, P_, reduceCtorEq, countQ_inl, countQ_inr]
    refine ⟨fun hji => ?_, fun hji => ⟨hlt, pre_succ hJ ?_⟩⟩
    · have hjl : j < l.1[k].2.length := by omega
      simp only [idx_nat hjl, wrapS (m := i) (by omega) (show j < i by omega), a_, b_, c_, d_, e_, f_, g_, h_, i_, j_, k_, l_, m_, n_, o_, p_, q_, r_, s_, t_, u_, v_, w_, x_, y_, z_, A_, B_, C_, D_, E_, F_, G_, H_, I_, J_, K_, L_, M_, N_, O_, P_, reduceCtorEq]
      refine ⟨fun hc => ?_, fun hc => ⟨by omega, pre_succ hI fun _ => hc⟩⟩
      rw [firstE_at (hf.trans (if_pos (List.mem_take_iff_getElem.2 ⟨j, by omega, hc⟩))) hJ hlt]; rfl
    · rw [hf, if_neg]
      intro hm
      obtain ⟨q, hq, e⟩ := List.mem_take_iff_getElem.1 hm
      exact hI q (by omega) (by omega) e
  · rw [firstE_none.2 fun j hj => hJ j (by omega)]; rfl
end L
end Go.Proofs.YtjeeligfdpociaaGreat
