/- Chapter 17: the example that must be answered; searching loops; LawFind (plain law). -/
/- Chapter 17: signatures, names, copies (plain); LawSignature. -/
import Derived.Test.YtjeeligfdpociaaGreatRF
import Derived.Test.YtjeeligfdpociaaGreatModelA
namespace Go.Proofs.YtjeeligfdpociaaGreat
open Go Go.RowKit
set_option maxRecDepth 100000
set_option linter.unusedSimpArgs false
namespace L


theorem awake17 : M.law17_awake big = some true := by kernel_rfl

/-! ## The first place -/
def idxI {α : Type} (p : α → Bool) (l : List α) : Int := if l.findIdx p < l.length then ((l.findIdx p : Nat) : Int) else -1
theorem idxI_at {α : Type} {p : α → Bool} {l : List α} {k : Nat} (hk : k < l.length) (hp : p l[k] = true) (hn : ∀ j, j < k → ∀ h : j < l.length, p l[j] = false) : idxI p l = (k : Int) := by
  have h1 : l.findIdx p = k := by
    rcases Nat.lt_trichotomy (l.findIdx p) k with h | h | h
    · have := hn _ h (by omega)
      have h2 := List.findIdx_getElem (xs := l) (p := p) (w := by omega)
      rw [this] at h2; cases h2
    · exact h
    · have := List.not_of_lt_findIdx h
      rw [hp] at this; cases this
  unfold idxI
  rw [if_pos (by omega), h1]
theorem idxI_none {α : Type} {p : α → Bool} {l : List α} (hn : ∀ j, ∀ h : j < l.length, p l[j] = false) : idxI p l = -1 := by
  unfold idxI
  rw [if_neg fun h => ?_]
  have h2 := List.findIdx_getElem (xs := l) (p := p) (w := h)
  rw [hn _ h] at h2; cases h2
theorem idxI_nonneg {α : Type} {p : α → Bool} {l : List α} : 0 ≤ idxI p l ↔ ∃ x ∈ l, p x = true := by
  unfold idxI
  rw [← List.findIdx_lt_length]
  split <;> simp_all
theorem idxI_lt {α : Type} {p : α → Bool} {l : List α} (h : 0 ≤ idxI p l) : (idxI p l).toNat < l.length := by
  unfold idxI at h ⊢
  split <;> rename_i g
  · simpa using g
  · rw [if_neg g] at h; omega
theorem idxI_congr {α : Type} {p q : α → Bool} {l : List α} (h : ∀ x ∈ l, p x = q x) : idxI p l = idxI q l := by
  have : l.findIdx p = l.findIdx q := by
    induction l with
    | nil => rfl
    | cons x l ih =>
      rw [List.findIdx_cons, List.findIdx_cons, h x (by simp), ih fun y hy => h y (by simp [hy])]
  unfold idxI
  rw [this]
theorem indexF {α Y : Type} {l : List α} {y : Y} {p : α → Bool} {body : Int × Y → Option ((Int × Y) ⊕ (Int × Y))} (hl : l.length ≤ maxLen)
    (hb : ∀ k, ∀ h : k < l.length, body ((k : Int), y) = if p l[k] = true then some (.inr ((k : Int), y)) else some (.inl (IntKind.i64.wrap ((k : Int) + 1), y)))
    (he : body ((l.length : Int), y) = some (.inr ((-1 : Int), y))) : Loop body big ((0 : Int), y) = some (idxI p l, y) := by
  apply Wp.eq
  refine Wp.count (fun s => s.1) l.length (fun k s => s.2 = y ∧ ∀ j, j < k → ∀ h : j < l.length, p l[j] = false) hl rfl ⟨rfl, fun j hj => by omega⟩ fun k c hk hs hJ => ?_
  obtain ⟨c1, c2⟩ := c
  obtain ⟨h1, hJ⟩ := hJ
  obtain rfl : c2 = y := h1
  obtain rfl : c1 = _ := hs
  rcases Nat.lt_or_ge k l.length with hlt | hge
  · rw [hb k hlt]
    simp only [a_, b_, c_, d_, e_, f_, g_, h_, i_, j_, k_, l_, m_, n_, o_, p_, q_, r_, s_, t_, u_, v_, w_, x_, y_, z_, A_, B_, C_, D_, E_, F_, G_, H_, I_, J_, K_, L_, M_, N_, O_, P_, reduceCtorEq, countQ_inl, countQ_inr, wrapS hl hlt]
    exact ⟨fun h => by rw [idxI_at hlt h hJ], fun h => ⟨hlt, pre_succ hJ fun _ => by simpa using h⟩⟩
  · obtain rfl : k = l.length := by omega
    rw [he]
    simp only [a_, b_, c_, d_, e_, f_, g_, h_, i_, j_, k_, l_, m_, n_, o_, p_, q_, r_, s_, t_, u_, v_, w_, x_, y_, z_, A_, B_, C_, D_, E_, F_, G_, H_, I_, J_, K_, L_, M_, N_, O_, P_, reduceCtorEq, countQ_inr]
    rw [idxI_none fun j h => hJ j h h]
theorem indexF0 {α : Type} {l : List α} {p : α → Bool} {body : Int → Option (Int ⊕ Int)} (hl : l.length ≤ maxLen)
    (hb : ∀ k, ∀ h : k < l.length, body (k : Int) = if p l[k] = true then some (.inr (k : Int)) else some (.inl (IntKind.i64.wrap ((k : Int) + 1))))
    (he : body (l.length : Int) = some (.inr (-1 : Int))) : Loop body big (0 : Int) = some (idxI p l) := by
  apply Wp.eq
  refine Wp.count (fun s => s) l.length (fun k _ => ∀ j, j < k → ∀ h : j < l.length, p l[j] = false) hl rfl (fun j hj => by omega) fun k c hk hs hJ => ?_
  obtain rfl : c = _ := hs
  rcases Nat.lt_or_ge k l.length with hlt | hge
  · rw [hb k hlt]
    simp only [a_, b_, c_, d_, e_, f_, g_, h_, i_, j_, k_, l_, m_, n_, o_, p_, q_, r_, s_, t_, u_, v_, w_, x_, y_, z_, A_, B_, C_, D_, E_, F_, G_, H_, I_, J_, K_, L_, M_, N_, O_, P_, reduceCtorEq, countQ_inl, countQ_inr, wrapS hl hlt]
    exact ⟨fun h => by rw [idxI_at hlt h hJ], fun h => ⟨hlt, pre_succ hJ fun _ => by simpa using h⟩⟩
  · obtain rfl : k = l.length := by omega
    rw [he]
    simp only [a_, b_, c_, d_, e_, f_, g_, h_, i_, j_, k_, l_, m_, n_, o_, p_, q_, r_, s_, t_, u_, v_, w_, x_, y_, z_, A_, B_, C_, D_, E_, F_, G_, H_, I_, J_, K_, L_, M_, N_, O_, P_, reduceCtorEq, countQ_inr]
    rw [idxI_none fun j h => hJ j h h]

/-! ## LawFind -/
theorem idxScope_eq (l : List Scp) (nm : ByteArray) (hl : l.length ≤ maxLen) : M.slices_IndexFunc_guerdon_api_Scope_guerdon_api_Scope_v2 big l nm = some (idxI (fun x => decide (x.1 = nm)) l, nm) := by
  unfold M.slices_IndexFunc_guerdon_api_Scope_guerdon_api_Scope_v2 M.law_Find_c1_v1
  exact indexF hl (fun k h => by simp only [idx_nat h, lt_dec' h, Option.bind_some, if_true]) (by simp only [nlt_self, decide_false, Bool.false_eq_true, if_false])
theorem idxField_eq (l : List Fd) (nm : ByteArray) (hl : l.length ≤ maxLen) : M.slices_IndexFunc_guerdon_api_Field_guerdon_api_Field_v2 big l nm = some (idxI (fun x => decide (x.1 = nm)) l, nm) := by
  unfold M.slices_IndexFunc_guerdon_api_Field_guerdon_api_Field_v2 M.law_Find_c2_v1
  exact indexF hl (fun k h => by simp only [idx_nat h, lt_dec' h, Option.bind_some, if_true]) (by simp only [nlt_self, decide_false, Bool.false_eq_true, if_false])
theorem fieldIndex_eq (l : List Fd) (nm : ByteArray) (hl : l.length ≤ maxLen) : M.ref17_fieldIndex big l nm = some (idxI (fun x => decide (x.1 = nm)) l) := by
  unfold M.ref17_fieldIndex
  exact indexF0 hl (fun k h => by simp only [idx_nat h, lt_dec' h, Option.bind_some, if_true]) (by simp only [nlt_self, decide_false, Bool.false_eq_true, if_false])
noncomputable def findS (l : List Scp) (sc nm : ByteArray) : Int × Int × Int :=
  match l[(idxI (fun x : Scp => decide (x.1 = sc)) l).toNat]? with
  | some x => if 0 ≤ idxI (fun x : Scp => decide (x.1 = sc)) l then (idxI (fun x : Scp => decide (x.1 = sc)) l, idxI (fun y : Fd => decide (y.1 = nm)) x.2.2.2.1, idxI (fun y : Fd => decide (y.1 = nm)) x.2.2.1) else (-1, -1, -1)
  | none => (-1, -1, -1)
theorem find_eq (l : Lw) (sc nm : ByteArray) (hw : WF rLaw l) : M.law_Find big l sc nm = some (findS l.2.2 sc nm) := by
  have w3 := hw.2.2.1
  have ws : ∀ s ∈ l.2.2, WF rScope s := hw.2.2.2
  unfold M.law_Find
  rw [idxScope_eq _ _ w3, Option.bind_some]
  unfold findS
  by_cases h : 0 ≤ idxI (fun x : Scp => decide (x.1 = sc)) l.2.2
  · have hlt := idxI_lt h
    have hx := ws _ (List.getElem_mem hlt)
    generalize idxI (fun x : Scp => decide (x.1 = sc)) l.2.2 = i at *
    obtain ⟨k, rfl⟩ := Int.eq_ofNat_of_zero_le h
    have hlt : k < l.2.2.length := hlt
    rw [if_neg (by simp), idx_nat hlt, Option.bind_some]
    simp only [Int.toNat_natCast] at hx ⊢
    rw [idxField_eq _ _ hx.2.2.2.1.1, Option.bind_some, idxField_eq _ _ hx.2.2.1.1, Option.bind_some, List.getElem?_eq_getElem hlt]
    simp only [if_pos h]
  · rw [if_pos (decide_eq_true (by omega))]
    split
    · rw [if_neg h]
    · rfl
theorem rfind_eq (l : Lw) (sc nm : ByteArray) (hw : WF rLaw l) : M.ref17_Find big l sc nm = some (findS l.2.2 sc nm) := by
  have w3 := hw.2.2.1
  have ws : ∀ s ∈ l.2.2, WF rScope s := hw.2.2.2
  unfold M.ref17_Find
  apply Wp.eq
  refine Wp.count (fun s => s) l.2.2.length (fun k _ => ∀ j, j < k → ∀ h : j < l.2.2.length, ¬ l.2.2[j].1 = sc) w3 rfl (fun j hj => by omega) fun k c hk hs hJ => ?_
  obtain rfl : c = _ := hs
  rcases Nat.lt_or_ge k l.2.2.length with hlt | hge
  · have hx := ws _ (List.getElem_mem hlt)
    simp only [idx_nat hlt, lt_nat hlt, fieldIndex_eq _ _ hx.2.2.2.1.1, fieldIndex_eq _ _ hx.2.2.1.1, wrapS w3 hlt, a_, b_, c_, d_, e_, f_, g_, h_, i_, j_, k_, l_, m_, n_, o_, p_, q_, r_, s_, t_, u_, v_, w_, x_, y_, z_, A_, B_, C_, D_, E_, F_, G_, H_, I_, J_, K_, L_, M_, N_, O_, P_, reduceCtorEq, countQ_inl, countQ_inr]
    refine ⟨fun h => ?_, fun h => ⟨hlt, pre_succ hJ fun _ => h⟩⟩
    unfold findS
    rw [idxI_at (p := fun x : Scp => decide (x.1 = sc)) hlt (decide_eq_true h) (fun j hj h => decide_eq_false (hJ j hj h))]
    simp only [Int.toNat_natCast, List.getElem?_eq_getElem hlt]
    rw [if_pos (by omega)]
  · obtain rfl : k = l.2.2.length := by omega
    simp only [nlt_self, a_, b_, c_, d_, e_, f_, g_, h_, i_, j_, k_, l_, m_, n_, o_, p_, q_, r_, s_, t_, u_, v_, w_, x_, y_, z_, A_, B_, C_, D_, E_, F_, G_, H_, I_, J_, K_, L_, M_, N_, O_, P_, reduceCtorEq, countQ_inr]
    unfold findS
    rw [idxI_none (p := fun x : Scp => decide (x.1 = sc)) fun j h => decide_eq_false (hJ j h h)]
    split
    · rfl
    · rfl
theorem LawFind_true (l : Lw) (sc nm : ByteArray) (hw : WF rLaw l) (_ : WF .str sc) (_ : WF .str nm) : M.law17_LawFind big l sc nm = some true := by
  apply Wp.eq
  unfold M.law17_LawFind
  simp only [awake17, find_eq l sc nm hw, rfind_eq l sc nm hw, a_, b_, c_, d_, e_, f_, g_, h_, i_, j_, k_, l_, m_, n_, o_, p_, q_, r_, s_, t_, u_, v_, w_, x_, y_, z_, A_, B_, C_, D_, E_, F_, G_, H_, I_, J_, K_, L_, M_, N_, O_, P_, reduceCtorEq]
  exact (smallL_wp l hw).mono fun _ _ => trivial


/-! ## Sizes -/
theorem bulk_mem {e : Row} {l : List e.den} {x : e.den} (h : x ∈ l) : bulk e x ≤ bulk (.slice e) l := by
  show bulk e x ≤ (l.map (bulk e)).sum + 1
  induction l with
  | nil => cases h
  | cons y l ih =>
    rw [List.map_cons, List.sum_cons]
    rcases List.mem_cons.1 h with rfl | h
    · omega
    · have := ih h; omega
theorem bulk_len {e : Row} (l : List e.den) : l.length ≤ bulk (.slice e) l := by
  show l.length ≤ (l.map (bulk e)).sum + 1
  induction l with
  | nil => simp
  | cons y l ih =>
    rw [List.map_cons, List.sum_cons, List.length_cons]
    have := bulk_pos e y
    omega
/-- Every list within a law is of moderate length. -/
structure Mild (l : Lw) : Prop where
  en : ∀ e ∈ l.1, e.2.length ≤ 1048576
  tb : ∀ t ∈ l.2.1, t.2.2.2.length ≤ 1048576
  ru : ∀ s ∈ l.2.2, ∀ r ∈ s.2.2.2.2, r.2.2.2.2.2.1.length ≤ 1048576 ∧ r.2.2.2.2.2.2.1.length ≤ 1048576
  en' : l.1.length ≤ 1048576
  tb' : l.2.1.length ≤ 1048576
  sc' : l.2.2.length ≤ 1048576
  sc : ∀ s ∈ l.2.2, s.2.2.1.length ≤ 1048576 ∧ s.2.2.2.1.length ≤ 1048576 ∧ s.2.2.2.2.length ≤ 1048576
theorem Mild.of {l : Lw} (h : bulk rLaw l ≤ 1048576) : Mild l := by
  have e1 : bulk rLaw l = bulk (.slice rEnum) l.1 + (bulk (.slice rTable) l.2.1 + bulk (.slice rScope) l.2.2) := rfl
  rw [e1] at h
  refine ⟨fun e he => ?_, fun t ht => ?_, fun s hs r hr => ?_, ?_, ?_, ?_, fun s hs => ?_⟩
  · have h1 := bulk_mem he
    have h2 := bulk_len (e := .str) e.2
    have h3 : bulk rEnum e = bulk .str e.1 + bulk (.slice .str) e.2 := rfl
    omega
  · have h1 := bulk_mem ht
    have h2 := bulk_len (e := rRow) t.2.2.2
    have h3 : bulk rTable t = bulk .str t.1 + (bulk rType t.2.1 + (bulk rType t.2.2.1 + bulk (.slice rRow) t.2.2.2)) := rfl
    omega
  · have h1 := bulk_mem hs
    have h3 : bulk rScope s = bulk .str s.1 + (bulk rInt s.2.1 + (bulk (.slice rField) s.2.2.1 + (bulk (.slice rField) s.2.2.2.1 + bulk (.slice rRule) s.2.2.2.2))) := rfl
    have h4 := bulk_mem hr
    have h5 := bulk_len (e := rType) r.2.2.2.2.2.1
    have h6 := bulk_len (e := rType) r.2.2.2.2.2.2.1
    have h7 : bulk rRule r = bulk .str r.1 + (bulk rInt r.2.1 + (bulk rInt r.2.2.1 + (bulk rInt r.2.2.2.1 + (bulk rType r.2.2.2.2.1 + (bulk (.slice rType) r.2.2.2.2.2.1 + (bulk (.slice rType) r.2.2.2.2.2.2.1 + bulk .str r.2.2.2.2.2.2.2)))))) := rfl
    omega
  · have := bulk_len (e := rEnum) l.1; omega
  · have := bulk_len (e := rTable) l.2.1; omega
  · have := bulk_len (e := rScope) l.2.2; omega
  · have h1 := bulk_mem hs
    have h3 : bulk rScope s = bulk .str s.1 + (bulk rInt s.2.1 + (bulk (.slice rField) s.2.2.1 + (bulk (.slice rField) s.2.2.2.1 + bulk (.slice rRule) s.2.2.2.2))) := rfl
    have h5 := bulk_len (e := rField) s.2.2.1
    have h6 := bulk_len (e := rField) s.2.2.2.1
    have h7 := bulk_len (e := rRule) s.2.2.2.2
    omega

/-! ## Loops that append -/
theorem mapLoop {α β : Type} (l : List α) (F : α → β) {body : Int × List β → Option ((Int × List β) ⊕ List β)} (hl : l.length ≤ 4294967296)
    (hb : ∀ k, ∀ h : k < l.length, ∀ o : List β, o.length = k → body ((k : Int), o) = some (.inl (IntKind.i64.wrap ((k : Int) + 1), o ++ [F l[k]])))
    (he : ∀ o : List β, body ((l.length : Int), o) = some (.inr o)) : Loop body big ((0 : Int), []) = some (l.map F) := by
  have hbig : l.length < big := by unfold big; omega
  refine Loop_eq (fun k => ((k : Int), (l.take k).map F)) l.length _ (by simp) (fun k hk => ?_) (by rw [he, List.take_length]) hbig
  rw [hb k hk _ (by simp; omega), wrapS (m := l.length) (by omega) hk, List.take_add_one, List.getElem?_eq_getElem hk, List.map_append]
  rfl
theorem mapLoopF {α β S X : Type} (l : List α) (F : α → β) (mk : Int → List β → S) (out : List β → X) {body : S → Option (S ⊕ X)} (hl : l.length ≤ 4294967296)
    (hb : ∀ k, ∀ h : k < l.length, ∀ o : List β, o.length = k → body (mk (k : Int) o) = some (.inl (mk (IntKind.i64.wrap ((k : Int) + 1)) (o ++ [F l[k]]))))
    (he : ∀ o : List β, body (mk (l.length : Int) o) = some (.inr (out o))) : Loop body big (mk (0 : Int) []) = some (out (l.map F)) := by
  have hbig : l.length < big := by unfold big; omega
  refine Loop_eq (fun k => mk (k : Int) ((l.take k).map F)) l.length _ (by simp) (fun k hk => ?_) (by rw [he, List.take_length]) hbig
  rw [hb k hk _ (by simp; omega), wrapS (m := l.length) (by omega) hk, List.take_add_one, List.getElem?_eq_getElem hk, List.map_append]
  rfl
theorem both_same {α : Type} {x : α} : Both (some x) (some x) = some x := by
  unfold Both
  simp
theorem cloneStr_eq (l : List ByteArray) (h : l.length ≤ 1048576) : M.slices_Clone_string_string big l = some l := by
  unfold M.slices_Clone_string_string
  rw [appA_some (by simp; omega), List.nil_append, Option.bind_some]
  split
  · rename_i h0
    obtain rfl := List.length_eq_zero_iff.1 (beq_true h0)
    exact both_same
  · rfl
theorem cloneRow_eq (l : List Rw) (h : l.length ≤ 1048576) : M.slices_Clone_guerdon_api_Row_guerdon_api_Row big l = some l := by
  unfold M.slices_Clone_guerdon_api_Row_guerdon_api_Row
  rw [appA_some (by simp; omega), List.nil_append, Option.bind_some]
  split
  · rename_i h0
    obtain rfl := List.length_eq_zero_iff.1 (beq_true h0)
    exact both_same
  · rfl
theorem cloneEnums_eq (l : List En) (h' : l.length ≤ 1048576) (h : ∀ e ∈ l, e.2.length ≤ 1048576) : M.law_cloneEnums big l = some l := by
  unfold M.law_cloneEnums
  have := mapLoop (l := l) (F := fun x : En => x) (body := fun s1 => (if (decide (s1.1 < (l.length : Int))) = true then (idx l s1.1).bind fun x2 => (M.slices_Clone_string_string big x2.2).bind fun y3 => (appA s1.2 ([(x2.1, y3)] : List rEnum.den)).bind fun l4 => some (Sum.inl (IntKind.i64.wrap (s1.1 + (1 : Int)), l4)) else some (Sum.inr s1.2))) (by omega)
    (fun k hk o ho => by simp only [lt_dec' hk, idx_nat hk, cloneStr_eq _ (h _ (List.getElem_mem hk)), Option.bind_some, if_true, appA_some (show o.length + [l[k]].length ≤ 4294967296 by simp; omega)])
    (fun o => by simp only [nlt_self, decide_false, Bool.false_eq_true, if_false])
  rw [List.map_id'] at this
  exact this
theorem cloneTables_eq (l : List Tab) (h' : l.length ≤ 1048576) (h : ∀ t ∈ l, t.2.2.2.length ≤ 1048576) : M.law_cloneTables big l = some l := by
  unfold M.law_cloneTables
  have := mapLoop (l := l) (F := fun x : Tab => x) (body := fun s1 => (if (decide (s1.1 < (l.length : Int))) = true then (idx l s1.1).bind fun x2 => (M.slices_Clone_guerdon_api_Row_guerdon_api_Row big x2.2.2.2).bind fun y3 => (appA s1.2 ([(x2.1, (x2.2.1, (x2.2.2.1, y3)))] : List rTable.den)).bind fun l4 => some (Sum.inl (IntKind.i64.wrap (s1.1 + (1 : Int)), l4)) else some (Sum.inr s1.2))) (by omega)
    (fun k hk o ho => by simp only [lt_dec' hk, idx_nat hk, cloneRow_eq _ (h _ (List.getElem_mem hk)), Option.bind_some, if_true, appA_some (show o.length + [l[k]].length ≤ 4294967296 by simp; omega)])
    (fun o => by simp only [nlt_self, decide_false, Bool.false_eq_true, if_false])
  rw [List.map_id'] at this
  exact this
theorem ptypes_eq (l : List Fd) (h : l.length ≤ 1048576) : M.law_fieldTypes big l = some (l.map (·.2)) := by
  unfold M.law_fieldTypes
  exact mapLoop l (fun x => x.2) (by omega) (fun k hk o ho => by simp only [lt_dec' hk, idx_nat hk, Option.bind_some, if_true, appA_some (show o.length + [(l[k].2 : Ty)].length ≤ 4294967296 by simp; omega)]) (fun o => by simp only [nlt_self, decide_false, Bool.false_eq_true, if_false])
theorem rtypes_eq (l : List Fd) (h : l.length ≤ 1048576) : M.ref17_fieldTypes big l = some (l.map (·.2)) := ptypes_eq l h
theorem pnames_eq (l : List Fd) (h : l.length ≤ 1048576) : M.law_fieldNames big l = some (l.map (·.1)) := by
  unfold M.law_fieldNames
  exact mapLoop l (fun x => x.1) (by omega) (fun k hk o ho => by simp only [lt_dec' hk, idx_nat hk, Option.bind_some, if_true, appA_some (show o.length + [(l[k].1 : ByteArray)].length ≤ 4294967296 by simp; omega)]) (fun o => by simp only [nlt_self, decide_false, Bool.false_eq_true, if_false])
theorem rnames_eq (l : List Fd) (h : l.length ≤ 1048576) : M.ref17_fieldNames big l = some (l.map (·.1)) := pnames_eq l h

/-! ## The same -/
theorem eqR_refl (r : Row) (x : r.den) : eqR r x x = true := by unfold eqR; simp
theorem sameLoop {m : Nat} {body : Int → Option (Int ⊕ Bool)} (hm : m ≤ 1048576) (hb : ∀ k, k < m → body (k : Int) = some (.inl (IntKind.i64.wrap ((k : Int) + 1)))) (he : body (m : Int) = some (.inr true)) : Loop body big (0 : Int) = some true := by
  refine Loop_eq (fun k => (k : Int)) m _ (by simp) (fun k hk => ?_) he (by unfold big; omega)
  rw [hb k hk, wrapS (m := m) (by omega) hk]
theorem sameStrings_refl (l : List ByteArray) (h : l.length ≤ 1048576) : M.same_Strings big l l = some true := by
  unfold M.same_Strings
  rw [if_neg (by simp)]
  exact sameLoop h (fun k hk => by simp only [lt_dec' hk, idx_nat hk, Option.bind_some, if_true, decide_true, Bool.not_true, Bool.false_eq_true, if_false]) (by simp only [nlt_self, decide_false, Bool.false_eq_true, if_false, Option.bind_some])
theorem sameTypes_refl (l : List Ty) (h : l.length ≤ 1048576) : M.same_Types big l l = some true := by
  unfold M.same_Types
  rw [if_neg (by simp)]
  exact sameLoop h (fun k hk => by simp only [lt_dec' hk, idx_nat hk, Option.bind_some, if_true, eqR_refl, Bool.not_true, Bool.false_eq_true, if_false]) (by simp only [nlt_self, decide_false, Bool.false_eq_true, if_false, Option.bind_some])
theorem sameRows_refl (l : List Rw) (h : l.length ≤ 1048576) : M.same_Rows big l l = some true := by
  unfold M.same_Rows
  rw [if_neg (by simp)]
  exact sameLoop h (fun k hk => by simp only [lt_dec' hk, idx_nat hk, Option.bind_some, if_true, eqR_refl, Bool.not_true, Bool.false_eq_true, if_false]) (by simp only [nlt_self, decide_false, Bool.false_eq_true, if_false, Option.bind_some])
theorem sameEnums_refl (l : List En) (h' : l.length ≤ 1048576) (h : ∀ e ∈ l, e.2.length ≤ 1048576) : M.same_Enums big l l = some true := by
  unfold M.same_Enums M.same_Enum
  rw [if_neg (by simp)]
  exact sameLoop h' (fun k hk => by simp only [lt_dec' hk, idx_nat hk, sameStrings_refl _ (h _ (List.getElem_mem hk)), Option.bind_some, if_true, decide_true, Bool.not_true, Bool.false_eq_true, if_false]) (by simp only [nlt_self, decide_false, Bool.false_eq_true, if_false, Option.bind_some])
theorem sameTables_refl (l : List Tab) (h' : l.length ≤ 1048576) (h : ∀ t ∈ l, t.2.2.2.length ≤ 1048576) : M.same_Tables big l l = some true := by
  unfold M.same_Tables M.same_Table
  rw [if_neg (by simp)]
  exact sameLoop h' (fun k hk => by simp only [lt_dec' hk, idx_nat hk, sameRows_refl _ (h _ (List.getElem_mem hk)), Option.bind_some, if_true, decide_true, eqR_refl, Bool.not_true, Bool.false_eq_true, if_false]) (by simp only [nlt_self, decide_false, Bool.false_eq_true, if_false, Option.bind_some])

/-! ## LawSignature -/
theorem sigOut (l : Lw) (hm : Mild l) (at_ : Int) : ∃ g : Sgn, M.law_Signature big l at_ = some (g.2.2.2.2.2, g.1, g.2.1, g.2.2.1, g.2.2.2.1, g.2.2.2.2.1) ∧ M.ref17_Signature big l at_ = some (g.1, g.2.1, g.2.2.2.2.2, g.2.2.1, g.2.2.2.1, g.2.2.2.2.1) ∧
    (g.1 = [] ∨ g.1 = l.1) ∧ (g.2.1 = [] ∨ g.2.1 = l.2.1) ∧ g.2.2.1.length ≤ 1048576 ∧ g.2.2.2.1.length ≤ 1048576 ∧ g.2.2.2.2.1.length ≤ 1048576 := by
  by_cases h1 : at_ < 0
  · refine ⟨([], ([], ([], ([], ([], false))))), ?_, ?_, .inl rfl, .inl rfl, by simp, by simp, by simp⟩
    · unfold M.law_Signature; rw [if_pos (decide_eq_true h1)]; rfl
    · unfold M.ref17_Signature; rw [if_pos (decide_eq_true h1)]; rfl
  by_cases h2 : (l.2.2.length : Int) ≤ at_
  · refine ⟨([], ([], ([], ([], ([], false))))), ?_, ?_, .inl rfl, .inl rfl, by simp, by simp, by simp⟩
    · unfold M.law_Signature; rw [if_neg (by simpa using h1), Option.bind_some, if_pos (decide_eq_true h2)]
    · unfold M.ref17_Signature; rw [if_neg (by simpa using h1), Option.bind_some, if_pos (decide_eq_true h2)]
  obtain ⟨k, rfl⟩ := Int.eq_ofNat_of_zero_le (Int.not_lt.1 h1)
  have hk : k < l.2.2.length := by omega
  have hsc := hm.sc _ (List.getElem_mem hk)
  by_cases hmem : 0 ≤ (l.2.2[k].2.1 : Int) ∧ (l.2.2[k].2.1 : Int) < (l.2.2.length : Int)
  · obtain ⟨(m : Int), hmm⟩ : ∃ m : Int, m = l.2.2[k].2.1 := ⟨_, rfl⟩
    rw [← hmm] at hmem
    obtain ⟨j, rfl⟩ := Int.eq_ofNat_of_zero_le hmem.1
    have hj : j < l.2.2.length := Int.ofNat_lt.1 hmem.2
    have hsj := hm.sc _ (List.getElem_mem hj)
    refine ⟨(l.1, (l.2.1, (l.2.2[k].2.2.1.map (·.2), (l.2.2[k].2.2.2.1.map (·.2), (l.2.2[j].2.2.2.1.map (·.2), true))))), ?_, ?_, .inr rfl, .inr rfl, by simpa using hsc.1, by simpa using hsc.2.1, by simpa using hsj.2.1⟩
    · unfold M.law_Signature M.law_sharedSignature
      simp only [decide_eq_false h1, decide_eq_false h2, idx_nat hk, ptypes_eq _ hsc.1, ptypes_eq _ hsc.2.1, ← hmm, decide_eq_true hmem.1, decide_eq_true hmem.2, idx_nat hj, ptypes_eq _ hsj.2.1, Option.bind_some, if_true, Bool.false_eq_true, if_false, cloneEnums_eq _ hm.en' hm.en, cloneTables_eq _ hm.tb' hm.tb]
    · unfold M.ref17_Signature
      simp only [decide_eq_false h1, decide_eq_false h2, idx_nat hk, rtypes_eq _ hsc.1, rtypes_eq _ hsc.2.1, ← hmm, decide_eq_true hmem.1, decide_eq_true hmem.2, idx_nat hj, rtypes_eq _ hsj.2.1, Option.bind_some, if_true, Bool.false_eq_true, if_false]
  · have hg : ((if decide ((0 : Int) ≤ l.2.2[k].2.1) = true then some (decide ((l.2.2[k].2.1 : Int) < (l.2.2.length : Int))) else some false) : Option Bool) = some false := by
      split
      · rename_i h
        rw [decide_eq_false fun h' => hmem ⟨of_decide_eq_true h, h'⟩]
      · rfl
    refine ⟨(l.1, (l.2.1, (l.2.2[k].2.2.1.map (·.2), (l.2.2[k].2.2.2.1.map (·.2), ([], false))))), ?_, ?_, .inr rfl, .inr rfl, by simpa using hsc.1, by simpa using hsc.2.1, by simp⟩
    · unfold M.law_Signature M.law_sharedSignature
      simp only [decide_eq_false h1, decide_eq_false h2, idx_nat hk, ptypes_eq _ hsc.1, ptypes_eq _ hsc.2.1, Option.bind_some, if_true, Bool.false_eq_true, if_false]
      rw [hg]
      simp only [Option.bind_some, Bool.false_eq_true, if_false, cloneEnums_eq _ hm.en' hm.en, cloneTables_eq _ hm.tb' hm.tb]
    · unfold M.ref17_Signature
      simp only [decide_eq_false h1, decide_eq_false h2, idx_nat hk, rtypes_eq _ hsc.1, rtypes_eq _ hsc.2.1, Option.bind_some, if_true, Bool.false_eq_true, if_false]
      rw [hg]
      rfl
theorem sigSame (l : Lw) (hm : Mild l) {g : Sgn} (h : (g.1 = [] ∨ g.1 = l.1) ∧ (g.2.1 = [] ∨ g.2.1 = l.2.1) ∧ g.2.2.1.length ≤ 1048576 ∧ g.2.2.2.1.length ≤ 1048576 ∧ g.2.2.2.2.1.length ≤ 1048576) : M.same_Signature big g g = some true := by
  obtain ⟨h1, h2, h3, h4, h5⟩ := h
  have e1 : M.same_Enums big g.1 g.1 = some true := by
    rcases h1 with h | h <;> rw [h]
    · exact sameEnums_refl [] (by simp) fun e he => by cases he
    · exact sameEnums_refl _ hm.en' hm.en
  have e2 : M.same_Tables big g.2.1 g.2.1 = some true := by
    rcases h2 with h | h <;> rw [h]
    · exact sameTables_refl [] (by simp) fun e he => by cases he
    · exact sameTables_refl _ hm.tb' hm.tb
  unfold M.same_Signature
  simp only [e1, e2, sameTypes_refl _ h3, sameTypes_refl _ h4, sameTypes_refl _ h5, Option.bind_some, if_true, decide_true]
theorem namesOut (l : Lw) (hm : Mild l) (at_ : Int) : ∃ g : rSymbolNames.den, M.law_SymbolNames big l at_ = some (g.1, g.2.1, g.2.2.1, g.2.2.2.1, g.2.2.2.2) ∧ M.ref17_SymbolNames big l at_ = some (g.1, g.2.1, g.2.2.1, g.2.2.2.1, g.2.2.2.2) ∧
    (g.1 = [] ∨ g.1 = l.1) ∧ g.2.1.length ≤ 1048576 ∧ g.2.2.1.length ≤ 1048576 ∧ g.2.2.2.1.length ≤ 1048576 ∧ g.2.2.2.2.length ≤ 1048576 := by
  by_cases h1 : at_ < 0
  · refine ⟨([], ([], ([], ([], [])))), ?_, ?_, .inl rfl, by simp, by simp, by simp, by simp⟩
    · unfold M.law_SymbolNames; rw [if_pos (decide_eq_true h1)]; rfl
    · unfold M.ref17_SymbolNames; rw [if_pos (decide_eq_true h1)]; rfl
  by_cases h2 : (l.2.2.length : Int) ≤ at_
  · refine ⟨([], ([], ([], ([], [])))), ?_, ?_, .inl rfl, by simp, by simp, by simp, by simp⟩
    · unfold M.law_SymbolNames; rw [if_neg (by simpa using h1), Option.bind_some, if_pos (decide_eq_true h2)]
    · unfold M.ref17_SymbolNames; rw [if_neg (by simpa using h1), Option.bind_some, if_pos (decide_eq_true h2)]
  obtain ⟨k, rfl⟩ := Int.eq_ofNat_of_zero_le (Int.not_lt.1 h1)
  have hk : k < l.2.2.length := by omega
  have hsc := hm.sc _ (List.getElem_mem hk)
  have hA : ∀ y3 y4 y5, Loop (S := Int × (List rEnum.den) × (List ByteArray) × (List ByteArray) × List ByteArray) (X := (List rEnum.den) × (List ByteArray) × (List ByteArray) × List ByteArray) (fun s7 =>
      (if (decide (s7.1 < (l.2.1.length : Int))) = true then
      (idx l.2.1 s7.1).bind fun x8 =>
      (appA s7.2.2.2.2 ([x8.1] : List ByteArray)).bind fun l9 =>
      some (Sum.inl (IntKind.i64.wrap (s7.1 + (1 : Int)), s7.2.1, s7.2.2.1, s7.2.2.2.1, l9))
      else
      some (Sum.inr (s7.2.1, s7.2.2.1, s7.2.2.2.1, s7.2.2.2.2)))) big ((0 : Int), y3, y4, y5, ([] : List ByteArray)) = some (y3, y4, y5, l.2.1.map fun x : Tab => x.1) := fun y3 y4 y5 =>
    mapLoopF l.2.1 (fun x : Tab => x.1) (fun i o => (i, y3, y4, y5, o)) (fun o => (y3, y4, y5, o)) (by have := hm.tb'; omega) (fun j hj o ho => by have := hm.tb'; simp only [lt_dec' hj, idx_nat hj, Option.bind_some, if_true, appA_some (show o.length + [(l.2.1[j].1 : ByteArray)].length ≤ 4294967296 by simp; omega)]) (fun o => by simp only [nlt_self, decide_false, Bool.false_eq_true, if_false])
  have hB : ∀ y3 y4 y5, Loop (S := Int × (List ByteArray) × (List ByteArray) × (List rEnum.den) × List ByteArray) (X := (List ByteArray) × (List ByteArray) × (List rEnum.den) × List ByteArray) (fun s6 =>
      (if (decide (s6.1 < (l.2.1.length : Int))) = true then
      (idx l.2.1 s6.1).bind fun x7 =>
      (appA s6.2.2.2.2 ([x7.1] : List ByteArray)).bind fun l8 =>
      some (Sum.inl (IntKind.i64.wrap (s6.1 + (1 : Int)), s6.2.1, s6.2.2.1, s6.2.2.2.1, l8))
      else
      some (Sum.inr (s6.2.1, s6.2.2.1, s6.2.2.2.1, s6.2.2.2.2)))) big ((0 : Int), y3, y4, y5, ([] : List ByteArray)) = some (y3, y4, y5, l.2.1.map fun x : Tab => x.1) := fun y3 y4 y5 =>
    mapLoopF l.2.1 (fun x : Tab => x.1) (fun i o => (i, y3, y4, y5, o)) (fun o => (y3, y4, y5, o)) (by have := hm.tb'; omega) (fun j hj o ho => by have := hm.tb'; simp only [lt_dec' hj, idx_nat hj, Option.bind_some, if_true, appA_some (show o.length + [(l.2.1[j].1 : ByteArray)].length ≤ 4294967296 by simp; omega)]) (fun o => by simp only [nlt_self, decide_false, Bool.false_eq_true, if_false])
  have htn : (l.2.1.map fun x : Tab => (x.1 : ByteArray)).length ≤ 1048576 := by rw [List.length_map]; exact hm.tb'
  by_cases hmem : 0 ≤ (l.2.2[k].2.1 : Int) ∧ (l.2.2[k].2.1 : Int) < (l.2.2.length : Int)
  · obtain ⟨(m : Int), hmm⟩ : ∃ m : Int, m = l.2.2[k].2.1 := ⟨_, rfl⟩
    rw [← hmm] at hmem
    obtain ⟨j, rfl⟩ := Int.eq_ofNat_of_zero_le hmem.1
    have hj : j < l.2.2.length := Int.ofNat_lt.1 hmem.2
    have hsj := hm.sc _ (List.getElem_mem hj)
    refine ⟨(l.1, (l.2.1.map (fun x : Tab => x.1), (l.2.2[k].2.2.1.map (·.1), (l.2.2[k].2.2.2.1.map (·.1), l.2.2[j].2.2.2.1.map (·.1))))), ?_, ?_, .inr rfl, htn, by simpa using hsc.1, by simpa using hsc.2.1, by simpa using hsj.2.1⟩
    · unfold M.law_SymbolNames
      simp only [decide_eq_false h1, decide_eq_false h2, idx_nat hk, pnames_eq _ hsc.1, pnames_eq _ hsc.2.1, ← hmm, decide_eq_true hmem.1, decide_eq_true hmem.2, idx_nat hj, pnames_eq _ hsj.2.1, Option.bind_some, if_true, Bool.false_eq_true, if_false, cloneEnums_eq _ hm.en' hm.en, hA]
    · unfold M.ref17_SymbolNames
      simp only [decide_eq_false h1, decide_eq_false h2, idx_nat hk, rnames_eq _ hsc.1, rnames_eq _ hsc.2.1, ← hmm, decide_eq_true hmem.1, decide_eq_true hmem.2, idx_nat hj, rnames_eq _ hsj.2.1, Option.bind_some, if_true, Bool.false_eq_true, if_false, hB]
  · have hg : ((if decide ((0 : Int) ≤ l.2.2[k].2.1) = true then some (decide ((l.2.2[k].2.1 : Int) < (l.2.2.length : Int))) else some false) : Option Bool) = some false := by
      split
      · rename_i h
        rw [decide_eq_false fun h' => hmem ⟨of_decide_eq_true h, h'⟩]
      · rfl
    refine ⟨(l.1, (l.2.1.map (fun x : Tab => x.1), (l.2.2[k].2.2.1.map (·.1), (l.2.2[k].2.2.2.1.map (·.1), [])))), ?_, ?_, .inr rfl, htn, by simpa using hsc.1, by simpa using hsc.2.1, by simp⟩
    · unfold M.law_SymbolNames
      simp only [decide_eq_false h1, decide_eq_false h2, idx_nat hk, pnames_eq _ hsc.1, pnames_eq _ hsc.2.1, Option.bind_some, if_true, Bool.false_eq_true, if_false, cloneEnums_eq _ hm.en' hm.en, hA]
      rw [hg]
      rfl
    · unfold M.ref17_SymbolNames
      simp only [decide_eq_false h1, decide_eq_false h2, idx_nat hk, rnames_eq _ hsc.1, rnames_eq _ hsc.2.1, Option.bind_some, if_true, Bool.false_eq_true, if_false, hB]
      rw [hg]
      rfl
theorem LawSignature_true (l : Lw) (at_ : Int) (hw : WF rLaw l) (_ : WF rInt at_) (hb : bulk rLaw l + bulk (.int .i64) at_ ≤ 1048576) : M.law17_LawSignature big l at_ = some true := by
  have hm := Mild.of (l := l) (by omega)
  obtain ⟨g, e1, e2, h⟩ := sigOut l hm at_
  obtain ⟨q, f1, f2, k1, k2, k3, k4, k5⟩ := namesOut l hm at_
  have e3 := sigSame l hm h
  have e4 : M.same_Enums big q.1 q.1 = some true := by
    rcases k1 with h | h <;> rw [h]
    · exact sameEnums_refl [] (by simp) fun e he => by cases he
    · exact sameEnums_refl _ hm.en' hm.en
  have e5 : M.same_SymbolNames big q q = some true := by
    unfold M.same_SymbolNames
    simp only [e4, sameStrings_refl _ k2, sameStrings_refl _ k3, sameStrings_refl _ k4, sameStrings_refl _ k5, Option.bind_some, if_true]
  apply Wp.eq
  unfold M.law17_LawSignature
  simp only [awake17, e1, e2, f1, f2, a_, b_, c_, d_, e_, f_, g_, h_, i_, j_, k_, l_, m_, n_, o_, p_, q_, r_, s_, t_, u_, v_, w_, x_, y_, z_, A_, B_, C_, D_, E_, F_, G_, H_, I_, J_, K_, L_, M_, N_, O_, P_, reduceCtorEq]
  refine (smallL_wp l hw).mono fun _ _ _ => ?_
  have e3' : M.same_Signature big (g.1, g.2.1, g.2.2.1, g.2.2.2.1, g.2.2.2.2.1, g.2.2.2.2.2) (g.1, g.2.1, g.2.2.1, g.2.2.2.1, g.2.2.2.2.1, g.2.2.2.2.2) = some true := e3
  have e5' : M.same_SymbolNames big (q.1, q.2.1, q.2.2.1, q.2.2.2.1, q.2.2.2.2) (q.1, q.2.1, q.2.2.1, q.2.2.2.1, q.2.2.2.2) = some true := e5
  simp only [e3', e5', a_, b_, c_, d_, e_, f_, g_, h_, i_, j_, k_, l_, m_, n_, o_, p_, q_, r_, s_, t_, u_, v_, w_, x_, y_, z_, A_, B_, C_, D_, E_, F_, G_, H_, I_, J_, K_, L_, M_, N_, O_, P_, reduceCtorEq]
end L
end Go.Proofs.YtjeeligfdpociaaGreat
