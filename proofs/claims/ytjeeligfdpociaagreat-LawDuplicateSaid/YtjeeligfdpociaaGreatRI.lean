/- Searching loops, sizes of laws, appending and comparing loops (plain; for every chapter that has laws). -/
import Derived.Test.YtjeeligfdpociaaGreatRF
namespace Go.Proofs.YtjeeligfdpociaaGreat
open Go Go.RowKit
set_option maxRecDepth 100000
set_option linter.unusedSimpArgs false
namespace L

/-! ## The first place -/
def idxI {α : Type} (p : α → Bool) (l : List α) : Int := if l.findIdx p < l.length then ((l.findIdx p : Nat) : Int) else -1
theorem idxI_at {α : Type} {p : α → Bool} {l : List α} {k : Nat} (hk : k < l.length) (hp : p l[k] = true) (hn : ∀ j, j < k → ∀ h : j < l.length, p l[j] = false) : idxI p l = (k : Int) := by
  have h1 : l.findIdx p = k := by
    rcases Nat.lt_trichotomy (l.findIdx p) k with h | h | h
    · have := hn _ h (by omega)
      have h2 := List.findIdx_getElem (xs := l) (p := p) (w := by omega)
      rw [this] at h2; cases h2
    · exact h
    · have := List.not_of_lt_findIdx h
      rw [hp] at this; cases this
  unfold idxI
  rw [if_pos (by omega), h1]
theorem idxI_none {α : Type} {p : α → Bool} {l : List α} (hn : ∀ j, ∀ h : j < l.length, p l[j] = false) : idxI p l = -1 := by
  unfold idxI
  rw [if_neg fun h => ?_]
  have h2 := List.findIdx_getElem (xs := l) (p := p) (w := h)
  rw [hn _ h] at h2; cases h2
theorem idxI_nonneg {α : Type} {p : α → Bool} {l : List α} : 0 ≤ idxI p l ↔ ∃ x ∈ l, p x = true := by
  unfold idxI
  rw [← List.findIdx_lt_length]
  split <;> simp_all
theorem idxI_lt {α : Type} {p : α → Bool} {l : List α} (h : 0 ≤ idxI p l) : (idxI p l).toNat < l.length := by
  unfold idxI at h ⊢
  split <;> rename_i g
  · simpa using g
  · rw [if_neg g] at h; omega
theorem idxI_congr {α : Type} {p q : α → Bool} {l : List α} (h : ∀ x ∈ l, p x = q x) : idxI p l = idxI q l := by
  have : l.findIdx p = l.findIdx q := by
    induction l with
    | nil => rfl
    | cons x l ih =>
      rw [List.findIdx_cons, List.findIdx_cons, h x (by simp), ih fun y hy => h y (by simp [hy])]
  unfold idxI
  rw [this]
theorem indexF {α Y : Type} {l : List α} {y : Y} {p : α → Bool} {body : Int × Y → Option ((Int × Y) ⊕ (Int × Y))} (hl : l.length ≤ maxLen)
    (hb : ∀ k, ∀ h : k < l.length, body ((k : Int), y) = if p l[k] = true then some (.inr ((k : Int), y)) else some (.inl (IntKind.i64.wrap ((k : Int) + 1), y)))
    (he : body ((l.length : Int), y) = some (.inr ((-1 : Int), y))) : Loop body big ((0 : Int), y) = some (idxI p l, y) := by
  apply Wp.eq
  refine Wp.count (fun s => s.1) l.length (fun k s => s.2 = y ∧ ∀ j, j < k → ∀ h : j < l.length, p l[j] = false) hl rfl ⟨rfl, fun j hj => by omega⟩ fun k c hk hs hJ => ?_
  obtain ⟨c1, c2⟩ := c
  obtain ⟨h1, hJ⟩ := hJ
  obtain rfl : c2 = y := h1
  obtain rfl : c1 = _ := hs
  rcases Nat.lt_or_ge k l.length with hlt | hge
  · rw [hb k hlt]
    simp only [a_, b_, c_, d_, e_, f_, g_, h_, i_, j_, k_, l_, m_, n_, o_, p_, q_, r_, s_, t_, u_, v_, w_, x_, y_, z_, A_, B_, C_, D_, E_, F_, G_, H_, I_, J_, K_, L_, M_, N_, O_, P_, reduceCtorEq, countQ_inl, countQ_inr, wrapS hl hlt]
    exact ⟨fun h => by rw [idxI_at hlt h hJ], fun h => ⟨hlt, pre_succ hJ fun _ => by simpa using h⟩⟩
  · obtain rfl : k = l.length := by omega
    rw [he]
    simp only [a_, b_, c_, d_, e_, f_, g_, h_, i_, j_, k_, l_, m_, n_, o_, p_, q_, r_, s_, t_, u_, v_, w_, x_, y_, z_, A_, B_, C_, D_, E_, F_, G_, H_, I_, J_, K_, L_, M_, N_, O_, P_, reduceCtorEq, countQ_inr]
    rw [idxI_none fun j h => hJ j h h]
theorem indexF0 {α : Type} {l : List α} {p : α → Bool} {body : Int → Option (Int ⊕ Int)} (hl : l.length ≤ maxLen)
    (hb : ∀ k, ∀ h : k < l.length, body (k : Int) = if p l[k] = true then some (.inr (k : Int)) else some (.inl (IntKind.i64.wrap ((k : Int) + 1))))
    (he : body (l.length : Int) = some (.inr (-1 : Int))) : Loop body big (0 : Int) = some (idxI p l) := by
  apply Wp.eq
  refine Wp.count (fun s => s) l.length (fun k _ => ∀ j, j < k → ∀ h : j < l.length, p l[j] = false) hl rfl (fun j hj => by omega) fun k c hk hs hJ => ?_
  obtain rfl : c = _ := hs
  rcases Nat.lt_or_ge k l.length with hlt | hge
  · rw [hb k hlt]
    simp only [a_, b_, c_, d_, e_, f_, g_, h_, i_, j_, k_, l_, m_, n_, o_, p_, q_, r_, s_, t_, u_, v_, w_, x_, y_, z_, A_, B_, C_, D_, E_, F_, G_, H_, I_, J_, K_, L_, M_, N_, O_, P_, reduceCtorEq, countQ_inl, countQ_inr, wrapS hl hlt]
    exact ⟨fun h => by rw [idxI_at hlt h hJ], fun h => ⟨hlt, pre_succ hJ fun _ => by simpa using h⟩⟩
  · obtain rfl : k = l.length := by omega
    rw [he]
    simp only [a_, b_, c_, d_, e_, f_, g_, h_, i_, j_, k_, l_, m_, n_, o_, p_, q_, r_, s_, t_, u_, v_, w_, x_, y_, z_, A_, B_, C_, D_, E_, F_, G_, H_, I_, J_, K_, L_, M_, N_, O_, P_, reduceCtorEq, countQ_inr]
    rw [idxI_none fun j h => hJ j h h]

/-! ## Sizes -/
theorem bulk_mem {e : Row} {l : List e.den} {x : e.den} (h : x ∈ l) : bulk e x ≤ bulk (.slice e) l := by
  show bulk e x ≤ (l.map (bulk e)).sum + 1
  induction l with
  | nil => cases h
  | cons y l ih =>
    rw [List.map_cons, List.sum_cons]
    rcases List.mem_cons.1 h with rfl | h
    · omega
    · have := ih h; omega
theorem bulk_len {e : Row} (l : List e.den) : l.length ≤ bulk (.slice e) l := by
  show l.length ≤ (l.map (bulk e)).sum + 1
  induction l with
  | nil => simp
  | cons y l ih =>
    rw [List.map_cons, List.sum_cons, List.length_cons]
    have := bulk_pos e y
    omega
/-- Every list within a law is of moderate length. -/
structure Mild (l : Lw) : Prop where
  en : ∀ e ∈ l.1, e.2.length ≤ 1048576
  tb : ∀ t ∈ l.2.1, t.2.2.2.length ≤ 1048576
  ru : ∀ s ∈ l.2.2, ∀ r ∈ s.2.2.2.2, r.2.2.2.2.2.1.length ≤ 1048576 ∧ r.2.2.2.2.2.2.1.length ≤ 1048576
  en' : l.1.length ≤ 1048576
  tb' : l.2.1.length ≤ 1048576
  sc' : l.2.2.length ≤ 1048576
  sc : ∀ s ∈ l.2.2, s.2.2.1.length ≤ 1048576 ∧ s.2.2.2.1.length ≤ 1048576 ∧ s.2.2.2.2.length ≤ 1048576
theorem Mild.of {l : Lw} (h : bulk rLaw l ≤ 1048576) : Mild l := by
  have e1 : bulk rLaw l = bulk (.slice rEnum) l.1 + (bulk (.slice rTable) l.2.1 + bulk (.slice rScope) l.2.2) := rfl
  rw [e1] at h
  refine ⟨fun e he => ?_, fun t ht => ?_, fun s hs r hr => ?_, ?_, ?_, ?_, fun s hs => ?_⟩
  · have h1 := bulk_mem he
    have h2 := bulk_len (e := .str) e.2
    have h3 : bulk rEnum e = bulk .str e.1 + bulk (.slice .str) e.2 := rfl
    omega
  · have h1 := bulk_mem ht
    have h2 := bulk_len (e := rRow) t.2.2.2
    have h3 : bulk rTable t = bulk .str t.1 + (bulk rType t.2.1 + (bulk rType t.2.2.1 + bulk (.slice rRow) t.2.2.2)) := rfl
    omega
  · have h1 := bulk_mem hs
    have h3 : bulk rScope s = bulk .str s.1 + (bulk rInt s.2.1 + (bulk (.slice rField) s.2.2.1 + (bulk (.slice rField) s.2.2.2.1 + bulk (.slice rRule) s.2.2.2.2))) := rfl
    have h4 := bulk_mem hr
    have h5 := bulk_len (e := rType) r.2.2.2.2.2.1
    have h6 := bulk_len (e := rType) r.2.2.2.2.2.2.1
    have h7 : bulk rRule r = bulk .str r.1 + (bulk rInt r.2.1 + (bulk rInt r.2.2.1 + (bulk rInt r.2.2.2.1 + (bulk rType r.2.2.2.2.1 + (bulk (.slice rType) r.2.2.2.2.2.1 + (bulk (.slice rType) r.2.2.2.2.2.2.1 + bulk .str r.2.2.2.2.2.2.2)))))) := rfl
    omega
  · have := bulk_len (e := rEnum) l.1; omega
  · have := bulk_len (e := rTable) l.2.1; omega
  · have := bulk_len (e := rScope) l.2.2; omega
  · have h1 := bulk_mem hs
    have h3 : bulk rScope s = bulk .str s.1 + (bulk rInt s.2.1 + (bulk (.slice rField) s.2.2.1 + (bulk (.slice rField) s.2.2.2.1 + bulk (.slice rRule) s.2.2.2.2))) := rfl
    have h5 := bulk_len (e := rField) s.2.2.1
    have h6 := bulk_len (e := rField) s.2.2.2.1
    have h7 := bulk_len (e := rRule) s.2.2.2.2
    omega

/-! ## Loops that append -/
theorem mapLoop {α β : Type} (l : List α) (F : α → β) {body : Int × List β → Option ((Int × List β) ⊕ List β)} (hl : l.length ≤ 4294967296)
    (hb : ∀ k, ∀ h : k < l.length, ∀ o : List β, o.length = k → body ((k : Int), o) = some (.inl (IntKind.i64.wrap ((k : Int) + 1), o ++ [F l[k]])))
    (he : ∀ o : List β, body ((l.length : Int), o) = some (.inr o)) : Loop body big ((0 : Int), []) = some (l.map F) := by
  have hbig : l.length < big := by unfold big; omega
  refine Loop_eq (fun k => ((k : Int), (l.take k).map F)) l.length _ (by simp) (fun k hk => ?_) (by rw [he, List.take_length]) hbig
  rw [hb k hk _ (by simp; omega), wrapS (m := l.length) (by omega) hk, List.take_add_one, List.getElem?_eq_getElem hk, List.map_append]
  rfl
theorem mapLoopF {α β S X : Type} (l : List α) (F : α → β) (mk : Int → List β → S) (out : List β → X) {body : S → Option (S ⊕ X)} (hl : l.length ≤ 4294967296)
    (hb : ∀ k, ∀ h : k < l.length, ∀ o : List β, o.length = k → body (mk (k : Int) o) = some (.inl (mk (IntKind.i64.wrap ((k : Int) + 1)) (o ++ [F l[k]]))))
    (he : ∀ o : List β, body (mk (l.length : Int) o) = some (.inr (out o))) : Loop body big (mk (0 : Int) []) = some (out (l.map F)) := by
  have hbig : l.length < big := by unfold big; omega
  refine Loop_eq (fun k => mk (k : Int) ((l.take k).map F)) l.length _ (by simp) (fun k hk => ?_) (by rw [he, List.take_length]) hbig
  rw [hb k hk _ (by simp; omega), wrapS (m := l.length) (by omega) hk, List.take_add_one, List.getElem?_eq_getElem hk, List.map_append]
  rfl
theorem both_same {α : Type} {x : α} : Both (some x) (some x) = some x := by
  unfold Both
  simp
/-! ## The same -/
theorem eqR_refl (r : Row) (x : r.den) : eqR r x x = true := by unfold eqR; simp
theorem sameLoop {m : Nat} {body : Int → Option (Int ⊕ Bool)} (hm : m ≤ 1048576) (hb : ∀ k, k < m → body (k : Int) = some (.inl (IntKind.i64.wrap ((k : Int) + 1)))) (he : body (m : Int) = some (.inr true)) : Loop body big (0 : Int) = some true := by
  refine Loop_eq (fun k => (k : Int)) m _ (by simp) (fun k hk => ?_) he (by unfold big; omega)
  rw [hb k hk, wrapS (m := m) (by omega) hk]
end L
end Go.Proofs.YtjeeligfdpociaaGreat
