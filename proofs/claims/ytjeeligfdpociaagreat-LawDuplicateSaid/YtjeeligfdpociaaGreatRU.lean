/- Chapter 17: the program's checks of names, enumerations and tables (plain laws). -/
/- Chapter 17: the program's checks of types, dates, tables and fields (plain laws). -/
/- Chapter 17: the program's checks of fields and rules (plain laws). -/
import Derived.Test.YtjeeligfdpociaaGreatRI
namespace Go.Proofs.YtjeeligfdpociaaGreat
open Go Go.RowKit
set_option maxRecDepth 100000
set_option linter.unusedSimpArgs false
namespace L


/-! ## Identifiers -/
noncomputable def resv : List ByteArray := (M.ref08_Reserved big).getD []
theorem resv_eq : M.ref08_Reserved big = some resv := by kernel_rfl
theorem resv_len : resv.length ≤ 100 := by unfold resv; decide +kernel
def Wd (c : Int) : Prop := (97 ≤ c ∧ c ≤ 122) ∨ (48 ≤ c ∧ c ≤ 57) ∨ c = 95
/-- What an identifier is. -/
def IdS (s : ByteArray) : Prop := s.size ≤ 16 ∧ (∃ h : 0 < s.size, 97 ≤ s[0].toNat ∧ s[0].toNat ≤ 122) ∧ (∀ k, ∀ h : k < s.size, Wd (s[k].toNat : Int)) ∧ s ∉ resv
theorem isId_iff (s : ByteArray) : isId s = true ↔ IdS s := by
  have key : Wp (M.ref08_IsIdentifier big s) fun r => r = true ↔ IdS s := by
    have hl := resv_len
    unfold M.ref08_IsIdentifier
    simp only [lower_eq, word_eq, resv_eq, a_, b_, c_, d_, e_, f_, g_, h_, i_, j_, k_, l_, m_, n_, o_, p_, q_, r_, s_, t_, u_, v_, w_, x_, y_, z_, A_, B_, C_, D_, E_, F_, G_, H_, I_, J_, K_, L_, M_, N_, O_, P_, reduceCtorEq]
    refine ⟨fun h => ?_, fun h0 => ⟨fun h => ?_, fun h16 => ?_⟩⟩
    · exact iff_of_false id fun g => by obtain ⟨_, ⟨g, _⟩, _⟩ := g; omega
    · exact iff_of_false id fun g => by have := g.1; omega
    refine wp_byte.2 ⟨by omega, ?_⟩
    have e0 : ((0 : Int).toNat) = 0 := rfl
    simp only [e0]
    refine ⟨fun h => iff_of_false id fun g => ?_, fun hlow => ?_⟩
    · obtain ⟨_, ⟨_, g⟩, _⟩ := g; exact h (by omega)
    refine Wp.count (fun s => s) s.size (fun k _ => ∀ j, j < k → ∀ h : j < s.size, Wd (s[j].toNat : Int)) (by omega) rfl (fun j hj => by omega) fun k c hk hs hJ => ?_
    obtain rfl : c = _ := hs
    simp only [a_, b_, c_, d_, e_, f_, g_, h_, i_, j_, k_, l_, m_, n_, o_, p_, q_, r_, s_, t_, u_, v_, w_, x_, y_, z_, A_, B_, C_, D_, E_, F_, G_, H_, I_, J_, K_, L_, M_, N_, O_, P_, reduceCtorEq, countQ_inl, countQ_inr]
    refine ⟨fun hlt => wp_byte.2 ⟨by omega, ?_⟩, fun hge => ?_⟩
    · have hlt : k < s.size := by omega
      have ek : ((k : Int).toNat) = k := by omega
      simp only [ek]
      exact ⟨fun h => iff_of_false id fun g => h (g.2.2.1 k hlt), fun h => ⟨hlt, wrap_succ (by omega), pre_succ hJ fun _ => h⟩⟩
    refine Wp.count (fun s => s) resv.length (fun k _ => ∀ j, j < k → ∀ h : j < resv.length, resv[j] ≠ s) (by omega) rfl (fun j hj => by omega) fun i c hi hs hI => ?_
    obtain rfl : c = _ := hs
    simp only [a_, b_, c_, d_, e_, f_, g_, h_, i_, j_, k_, l_, m_, n_, o_, p_, q_, r_, s_, t_, u_, v_, w_, x_, y_, z_, A_, B_, C_, D_, E_, F_, G_, H_, I_, J_, K_, L_, M_, N_, O_, P_, reduceCtorEq, countQ_inl, countQ_inr]
    refine ⟨fun hlt => ?_, fun hge' => ?_⟩
    · have hlt : i < resv.length := by omega
      simp only [idx_nat hlt, wrapS (m := resv.length) (by omega) hlt, a_, b_, c_, d_, e_, f_, g_, h_, i_, j_, k_, l_, m_, n_, o_, p_, q_, r_, s_, t_, u_, v_, w_, x_, y_, z_, A_, B_, C_, D_, E_, F_, G_, H_, I_, J_, K_, L_, M_, N_, O_, P_, reduceCtorEq]
      exact ⟨fun h => iff_of_false id fun g => g.2.2.2 (h ▸ List.getElem_mem hlt), fun h => ⟨hlt, pre_succ hI fun _ => h⟩⟩
    · refine iff_of_true trivial ⟨by omega, ⟨by omega, by omega⟩, fun j h => hJ j (by omega) h, fun hm => ?_⟩
      obtain ⟨j, hj, e⟩ := List.getElem_of_mem hm
      exact hI j (by omega) hj e
  obtain ⟨r, hr, h⟩ := key
  unfold isId
  rw [hr]
  exact h
def chainR (s : ByteArray) : List ByteArray → Option Bool
  | [] => some false
  | [w] => some (decide (s = w))
  | w :: l => if decide (s = w) = true then some (decide (s = w)) else chainR s l
theorem chainR_eq (s : ByteArray) : (l : List ByteArray) → chainR s l = some (decide (s ∈ l))
  | [] => by simp [chainR]
  | [w] => by simp [chainR]
  | w :: w' :: l => by
    unfold chainR
    rw [chainR_eq s (w' :: l)]
    by_cases h : s = w
    · rw [if_pos (decide_eq_true h)]; simp [h]
    · rw [if_neg (by simpa using h)]; simp [h]
theorem reserved_eq (s : ByteArray) : M.lexer_reserved big s = some (decide (s ∈ resv)) := by
  have : M.lexer_reserved big s = (chainR s resv).bind fun j => if j = true then some true else some false := by kernel_rfl
  rw [this, chainR_eq, Option.bind_some]
  by_cases h : s ∈ resv
  · rw [if_pos (decide_eq_true h), decide_eq_true h]
  · rw [if_neg (by simpa using h), decide_eq_false h]
theorem plower_eq (c : Int) : M.lexer_isLower big c = some (decide (97 ≤ c ∧ c ≤ 122)) := by
  apply Wp.eq; unfold M.lexer_isLower; simp only [a_, b_, c_, d_, e_, f_, g_, h_, i_, j_, k_, l_, m_, n_, o_, p_, q_, r_, s_, t_, u_, v_, w_, x_, y_, z_, A_, B_, C_, D_, E_, F_, G_, H_, I_, J_, K_, L_, M_, N_, O_, P_, reduceCtorEq]; omega
theorem pdigit_eq (c : Int) : M.lexer_isDigit big c = some (decide (48 ≤ c ∧ c ≤ 57)) := by
  apply Wp.eq; unfold M.lexer_isDigit; simp only [a_, b_, c_, d_, e_, f_, g_, h_, i_, j_, k_, l_, m_, n_, o_, p_, q_, r_, s_, t_, u_, v_, w_, x_, y_, z_, A_, B_, C_, D_, E_, F_, G_, H_, I_, J_, K_, L_, M_, N_, O_, P_, reduceCtorEq]; omega
theorem nameLength_wp (s : ByteArray) (hs : s.size ≤ maxLen) : Wp (M.lexer_nameLength big s) fun n => n = (s.size : Int) ↔ ∀ k, ∀ h : k < s.size, Wd (s[k].toNat : Int) := by
  unfold M.lexer_nameLength
  simp only [plower_eq, pdigit_eq]
  refine Wp.count (fun s => s) s.size (fun k _ => ∀ j, j < k → ∀ h : j < s.size, Wd (s[j].toNat : Int)) hs rfl (fun j hj => by omega) fun k c hk hs' hJ => ?_
  obtain rfl : c = _ := hs'
  rcases Nat.lt_or_ge k s.size with hlt | hge
  · have hb : byteA s (k : Int) = some (s[k].toNat : Int) := by
      have := (wp_eq (x := ((s[k].toNat : Nat) : Int))).1 (wp_byte (s := s) (i := (k : Int)).2 ⟨by omega, by simp⟩)
      exact this
    simp only [lt_nat hlt, hb, wrapS hs hlt, a_, b_, c_, d_, e_, f_, g_, h_, i_, j_, k_, l_, m_, n_, o_, p_, q_, r_, s_, t_, u_, v_, w_, x_, y_, z_, A_, B_, C_, D_, E_, F_, G_, H_, I_, J_, K_, L_, M_, N_, O_, P_, reduceCtorEq, countQ_inl, countQ_inr]
    unfold Wd at *
    have ok : (97 ≤ (s[k].toNat : Int) ∧ (s[k].toNat : Int) ≤ 122) ∨ (48 ≤ (s[k].toNat : Int) ∧ (s[k].toNat : Int) ≤ 57) ∨ (s[k].toNat : Int) = 95 → k < s.size ∧ ∀ j, j < k + 1 → ∀ h : j < s.size, (97 ≤ (s[j].toNat : Int) ∧ (s[j].toNat : Int) ≤ 122) ∨ (48 ≤ (s[j].toNat : Int) ∧ (s[j].toNat : Int) ≤ 57) ∨ (s[j].toNat : Int) = 95 := fun h => ⟨hlt, pre_succ hJ fun _ => h⟩
    refine ⟨fun h => ok (.inl h), fun h1 => ⟨fun h => ok (.inr (.inl h)), fun h2 => ⟨fun h => ok (.inr (.inr h)), fun h3 => ⟨fun e => by omega, fun g => ?_⟩⟩⟩⟩
    rcases g k hlt with h | h | h
    · exact absurd h h1
    · exact absurd h h2
    · exact absurd h h3
  · obtain rfl : k = s.size := by omega
    simp only [nlt_self, a_, b_, c_, d_, e_, f_, g_, h_, i_, j_, k_, l_, m_, n_, o_, p_, q_, r_, s_, t_, u_, v_, w_, x_, y_, z_, A_, B_, C_, D_, E_, F_, G_, H_, I_, J_, K_, L_, M_, N_, O_, P_, reduceCtorEq, countQ_inr]
    exact iff_of_true trivial fun j h => hJ j h h
theorem pid_eq (s : ByteArray) (hs : s.size ≤ maxLen) : M.lexer_IsIdentifier big s = some (isId s) := by
  have key : Wp (M.lexer_IsIdentifier big s) fun r => r = true ↔ IdS s := by
    unfold M.lexer_IsIdentifier
    simp only [plower_eq, reserved_eq, a_, b_, c_, d_, e_, f_, g_, h_, i_, j_, k_, l_, m_, n_, o_, p_, q_, r_, s_, t_, u_, v_, w_, x_, y_, z_, A_, B_, C_, D_, E_, F_, G_, H_, I_, J_, K_, L_, M_, N_, O_, P_, reduceCtorEq]
    refine ⟨fun h => ?_, fun h => ?_⟩
    · have h0 : 0 < s.size := by
        rcases Nat.eq_zero_or_pos s.size with e | e
        · exact absurd (ByteArray.ext (by simpa using Array.size_eq_zero_iff.1 e)) h
        · exact e
      refine wp_byte.2 ⟨by omega, ?_⟩
      have e0 : ((0 : Int).toNat) = 0 := rfl
      simp only [e0]
      refine ⟨fun hlow => (nameLength_wp s hs).mono fun n hn => ⟨fun e => ⟨fun h16 => ?_, fun h16 => iff_of_false id fun g => h16 (by have := g.1; omega)⟩, fun e => iff_of_false id fun g => e (hn.2 g.2.2.1)⟩, fun hlow => iff_of_false id fun g => ?_⟩
      · exact ⟨fun g => ⟨by omega, ⟨h0, by omega⟩, hn.1 e, g⟩, fun g => g.2.2.2⟩
      · obtain ⟨_, ⟨_, g⟩, _⟩ := g; exact hlow (by omega)
    · refine iff_of_false id fun g => ?_
      obtain ⟨_, ⟨g, _⟩, _⟩ := g
      subst h
      cases g
  obtain ⟨r, hr, h⟩ := key
  rw [hr]
  exact congrArg some (Bool.eq_iff_iff.2 (h.trans (isId_iff s).symm))

/-! ## Searches -/
theorem hasN_any {β : Type} {l : List (ByteArray × β)} {nm : ByteArray} : 0 ≤ idxI (fun x => decide (x.1 = nm)) l ↔ hasN l nm := by
  rw [idxI_nonneg]
  unfold hasN
  simp
theorem hasEnum_eq (l : List En) (nm : ByteArray) (hl : l.length ≤ maxLen) : M.law_hasEnum big l nm = some (decide (hasN l nm)) := by
  have : M.slices_IndexFunc_guerdon_api_Enum_guerdon_api_Enum_v1 big l nm = some (idxI (fun x => decide (x.1 = nm)) l, nm) := by
    unfold M.slices_IndexFunc_guerdon_api_Enum_guerdon_api_Enum_v1 M.law_hasEnum_c1_v1
    exact indexF hl (fun k h => by simp only [idx_nat h, lt_dec' h, Option.bind_some, if_true]) (by simp only [nlt_self, decide_false, Bool.false_eq_true, if_false])
  unfold M.law_hasEnum M.slices_ContainsFunc_guerdon_api_Enum_guerdon_api_Enum_v1
  simp only [this, Option.bind_some]
  exact congrArg some (decide_eq_decide.2 hasN_any)
theorem hasTable_eq (l : List Tab) (nm : ByteArray) (hl : l.length ≤ maxLen) : M.law_hasTable big l nm = some (decide (hasN l nm)) := by
  have : M.slices_IndexFunc_guerdon_api_Table_guerdon_api_Table_v1 big l nm = some (idxI (fun x => decide (x.1 = nm)) l, nm) := by
    unfold M.slices_IndexFunc_guerdon_api_Table_guerdon_api_Table_v1 M.law_hasTable_c1_v1
    exact indexF hl (fun k h => by simp only [idx_nat h, lt_dec' h, Option.bind_some, if_true]) (by simp only [nlt_self, decide_false, Bool.false_eq_true, if_false])
  unfold M.law_hasTable M.slices_ContainsFunc_guerdon_api_Table_guerdon_api_Table_v1
  simp only [this, Option.bind_some]
  exact congrArg some (decide_eq_decide.2 hasN_any)
theorem contField_eq (l : List Fd) (f : Fd) (hl : l.length ≤ maxLen) : M.slices_ContainsFunc_guerdon_api_Field_guerdon_api_Field_v1 big l f = some (decide (hasN l f.1), f) := by
  have : M.slices_IndexFunc_guerdon_api_Field_guerdon_api_Field_v1 big l f = some (idxI (fun x => decide (x.1 = f.1)) l, f) := by
    unfold M.slices_IndexFunc_guerdon_api_Field_guerdon_api_Field_v1 M.law_checkField_c1_v1
    exact indexF hl (fun k h => by simp only [idx_nat h, lt_dec' h, Option.bind_some, if_true]) (by simp only [nlt_self, decide_false, Bool.false_eq_true, if_false])
  unfold M.slices_ContainsFunc_guerdon_api_Field_guerdon_api_Field_v1
  simp only [this, Option.bind_some]
  exact congrArg (fun b => some (b, f)) (decide_eq_decide.2 hasN_any)
theorem contRule_eq (l : List Rul) (f : Rul) (hl : l.length ≤ maxLen) : M.slices_ContainsFunc_guerdon_api_Rule_guerdon_api_Rule_v1 big l f = some (decide (hasN l f.1), f) := by
  have : M.slices_IndexFunc_guerdon_api_Rule_guerdon_api_Rule_v1 big l f = some (idxI (fun x => decide (x.1 = f.1)) l, f) := by
    unfold M.slices_IndexFunc_guerdon_api_Rule_guerdon_api_Rule_v1 M.law_checkRule_c1_v1
    exact indexF hl (fun k h => by simp only [idx_nat h, lt_dec' h, Option.bind_some, if_true]) (by simp only [nlt_self, decide_false, Bool.false_eq_true, if_false])
  unfold M.slices_ContainsFunc_guerdon_api_Rule_guerdon_api_Rule_v1
  simp only [this, Option.bind_some]
  exact congrArg (fun b => some (b, f)) (decide_eq_decide.2 hasN_any)
theorem contScope_eq (l : List Scp) (f : Scp) (hl : l.length ≤ maxLen) : M.slices_ContainsFunc_guerdon_api_Scope_guerdon_api_Scope_v1 big l f = some (decide (hasN l f.1), f) := by
  have : M.slices_IndexFunc_guerdon_api_Scope_guerdon_api_Scope_v1 big l f = some (idxI (fun x => decide (x.1 = f.1)) l, f) := by
    unfold M.slices_IndexFunc_guerdon_api_Scope_guerdon_api_Scope_v1 M.law_checkScope_c1_v1
    exact indexF hl (fun k h => by simp only [idx_nat h, lt_dec' h, Option.bind_some, if_true]) (by simp only [nlt_self, decide_false, Bool.false_eq_true, if_false])
  unfold M.slices_ContainsFunc_guerdon_api_Scope_guerdon_api_Scope_v1
  simp only [this, Option.bind_some]
  exact congrArg (fun b => some (b, f)) (decide_eq_decide.2 hasN_any)
theorem contStr_eq (l : List ByteArray) (m : ByteArray) (hl : l.length ≤ maxLen) : M.slices_Contains_string_string big l m = some (decide (m ∈ l)) := by
  have : M.slices_Index_string_string big l m = some (idxI (fun x => decide (m = x)) l) := by
    unfold M.slices_Index_string_string
    exact indexF0 hl (fun k h => by simp only [idx_nat h, lt_dec' h, Option.bind_some, if_true]) (by simp only [nlt_self, decide_false, Bool.false_eq_true, if_false])
  unfold M.slices_Contains_string_string
  simp only [this, Option.bind_some]
  refine congrArg some (decide_eq_decide.2 ?_)
  rw [idxI_nonneg]
  simp
theorem contInt_eq (l : List Int) (m : Int) (hl : l.length ≤ maxLen) : M.slices_Contains_int_int big l m = some (decide (m ∈ l)) := by
  have : M.slices_Index_int_int big l m = some (idxI (fun x => decide (m = x)) l) := by
    unfold M.slices_Index_int_int
    exact indexF0 hl (fun k h => by simp only [idx_nat h, lt_dec' h, Option.bind_some, if_true]) (by simp only [nlt_self, decide_false, Bool.false_eq_true, if_false])
  unfold M.slices_Contains_int_int
  simp only [this, Option.bind_some]
  refine congrArg some (decide_eq_decide.2 ?_)
  rw [idxI_nonneg]
  simp

/-! ## Enumerations -/
theorem cut_take {α : Type} {l : List α} {k : Nat} (h : k ≤ l.length) : cutA l (0 : Int) (k : Int) = some (l.take k) := by
  apply Wp.eq
  exact wp_cut.2 ⟨by omega, by simp⟩
theorem checkEnum_eq (l : Lw) (hw : WF rLaw l) (k : Nat) (hk : k < l.1.length) : M.law_checkEnum big l (k : Int) l.1[k] = some ((enumS l k).getD (0, 0)) := by
  have hx : WF rEnum l.1[k] := hw.1.2 _ (List.getElem_mem hk)
  have w1 := hw.1.1
  have hs : l.1[k].1.size ≤ maxLen := hx.1
  have hm : ∀ m ∈ l.1[k].2, ByteArray.size m ≤ maxLen := hx.2.2
  apply Wp.eq
  unfold M.law_checkEnum enumS
  rw [List.getElem?_eq_getElem hk]
  simp only [pid_eq _ hs, cut_take (Nat.le_of_lt hk), hasEnum_eq (l.1.take k) _ (by rw [List.length_take]; omega), a_, b_, c_, d_, e_, f_, g_, h_, i_, j_, k_, l_, m_, n_, o_, p_, q_, r_, s_, t_, u_, v_, w_, x_, y_, z_, A_, B_, C_, D_, E_, F_, G_, H_, I_, J_, K_, L_, M_, N_, O_, P_, reduceCtorEq]
  generalize l.1[k] = x at *
  refine ⟨fun h => by rw [if_pos h]; rfl, fun h => ?_⟩
  rw [if_neg (by simp [h])]
  refine ⟨fun h => by rw [if_pos h]; rfl, fun h2 => ?_⟩
  rw [if_neg h2]
  refine ⟨fun h => by rw [if_pos (by omega)]; rfl, fun h3 => ?_⟩
  rw [if_neg (by omega)]
  refine ⟨fun h => by rw [if_pos (by omega)]; rfl, fun h4 => ?_⟩
  rw [if_neg (by omega)]
  refine Wp.count (fun s => s) x.2.length (fun i _ => ∀ j, j < i → memE x.2 j = none) (by omega) rfl (fun j hj => by omega) fun i c hi hs hJ => ?_
  obtain rfl : c = _ := hs
  simp only [a_, b_, c_, d_, e_, f_, g_, h_, i_, j_, k_, l_, m_, n_, o_, p_, q_, r_, s_, t_, u_, v_, w_, x_, y_, z_, A_, B_, C_, D_, E_, F_, G_, H_, I_, J_, K_, L_, M_, N_, O_, P_, reduceCtorEq, countQ_inl, countQ_inr]
  refine ⟨fun hlt => ?_, fun hge => ?_⟩
  · have hlt : i < x.2.length := by omega
    have hf : memE x.2 i = if isId x.2[i] = false then some (2, 100 + (i : Int)) else if x.2[i] ∈ x.2.take i then some (7, 100 + (i : Int)) else none := by
      unfold memE
      rw [List.getElem?_eq_getElem hlt]
    simp only [idx_nat hlt, pid_eq _ (hm _ (List.getElem_mem hlt)), cut_take (Nat.le_of_lt hlt), contStr_eq (x.2.take i) _ (by rw [List.length_take]; unfold maxLen; omega), wrap100 (k := i) (a := 100) (by omega) (by omega), wrapS (m := x.2.length) (by omega) hlt, a_, b_, c_, d_, e_, f_, g_, h_, i_, j_, k_, l_, m_, n_, o_, p_, q_, r_, s_, t_, u_, v_, w_, x_, y_, z_, A_, B_, C_, D_, E_, F_, G_, H_, I_, J_, K_, L_, M_, N_, O_, P_, reduceCtorEq]
    refine ⟨fun h => ?_, fun h => ⟨fun h2 => ?_, fun h2 => ⟨hlt, pre_succ hJ ?_⟩⟩⟩
    · rw [firstE_at (hf.trans (if_pos h)) hJ hlt]; rfl
    · rw [firstE_at (hf.trans ((if_neg (by simp [h])).trans (if_pos h2))) hJ hlt]; rfl
    · rw [hf, if_neg (by simp [h]), if_neg h2]
  · rw [firstE_none.2 fun j hj => hJ j (by omega)]; rfl
theorem checkEnums_eq (l : Lw) (hw : WF rLaw l) : M.law_checkEnums big l = some (if 8 < l.1.length then ((4 : Int), ((1 : Int), ((8 : Int), (0 : Int)))) else match firstE (fun k => (enumS l k).map fun e => (k, e)) l.1.length with
    | some (k, e) => errOf 1 (k : Int) (some e)
    | none => okE) := by
  have w1 := hw.1.1
  unfold maxLen at w1
  apply Wp.eq
  unfold M.law_checkEnums
  simp only [a_, b_, c_, d_, e_, f_, g_, h_, i_, j_, k_, l_, m_, n_, o_, p_, q_, r_, s_, t_, u_, v_, w_, x_, y_, z_, A_, B_, C_, D_, E_, F_, G_, H_, I_, J_, K_, L_, M_, N_, O_, P_, reduceCtorEq]
  refine ⟨fun h => by rw [if_pos (by omega)], fun h8 => ?_⟩
  rw [if_neg (by omega)]
  refine Wp.count (fun s => s) l.1.length (fun i _ => ∀ j, j < i → (fun k => (enumS l k).map fun e => (k, e)) j = none) w1 rfl (fun j hj => by omega) fun i c hi hs hJ => ?_
  obtain rfl : c = _ := hs
  simp only [a_, b_, c_, d_, e_, f_, g_, h_, i_, j_, k_, l_, m_, n_, o_, p_, q_, r_, s_, t_, u_, v_, w_, x_, y_, z_, A_, B_, C_, D_, E_, F_, G_, H_, I_, J_, K_, L_, M_, N_, O_, P_, reduceCtorEq, countQ_inl, countQ_inr]
  refine ⟨fun hlt => ?_, fun hge => ?_⟩
  · have hlt : i < l.1.length := by omega
    simp only [idx_nat hlt, checkEnum_eq l hw i hlt, wrapS w1 hlt, a_, b_, c_, d_, e_, f_, g_, h_, i_, j_, k_, l_, m_, n_, o_, p_, q_, r_, s_, t_, u_, v_, w_, x_, y_, z_, A_, B_, C_, D_, E_, F_, G_, H_, I_, J_, K_, L_, M_, N_, O_, P_, reduceCtorEq]
    refine ⟨fun h => ?_, fun h => ⟨hlt, pre_succ hJ ?_⟩⟩
    · cases he : enumS l i with
      | none => rw [he] at h; exact absurd rfl h
      | some e => rw [firstE_at (mapk he) hJ hlt]; rfl
    · cases he : enumS l i with
      | none => rfl
      | some e => rw [he] at h; exact absurd h (enum_code he)
  · rw [firstE_none.2 fun j hj => hJ j (by omega)]; rfl


/-! ## Types and dates -/
theorem pVT_eq (t : Ty) (E : List En) : M.value_ValidType big t E = some (decide (VTp t E.length)) := by
  obtain ⟨(k : Int), (e : Int)⟩ := t
  apply Wp.eq; unfold M.value_ValidType; simp only [a_, b_, c_, d_, e_, f_, g_, h_, i_, j_, k_, l_, m_, n_, o_, p_, q_, r_, s_, t_, u_, v_, w_, x_, y_, z_, A_, B_, C_, D_, E_, F_, G_, H_, I_, J_, K_, L_, M_, N_, O_, P_, reduceCtorEq]; simp only [VTp]; dsimp only [rInt, Row.den] at *; omega
theorem pBnd_eq (t : Ty) (E : List En) : M.value_Bounds big t E = some (bnd t E) := by
  obtain ⟨(k : Int), (e : Int)⟩ := t
  apply Wp.eq
  unfold M.value_Bounds bnd
  simp only [pVT_eq, a_, b_, c_, d_, e_, f_, g_, h_, i_, j_, k_, l_, m_, n_, o_, p_, q_, r_, s_, t_, u_, v_, w_, x_, y_, z_, A_, B_, C_, D_, E_, F_, G_, H_, I_, J_, K_, L_, M_, N_, O_, P_, reduceCtorEq]
  by_cases hv : VTp (k, e) E.length
  · simp only [hv, not_true_eq_false, if_false, false_implies, true_implies, true_and]
    refine ⟨fun h => by rw [if_pos h], fun h1 => ⟨fun h => by rw [if_neg h1, if_pos h], fun h2 => ⟨fun h => by rw [if_neg h1, if_neg h2, if_pos h], fun h3 => ⟨fun h => by rw [if_neg h1, if_neg h2, if_neg h3, if_pos h], fun h4 => ⟨fun h => by rw [if_neg h1, if_neg h2, if_neg h3, if_neg h4, if_pos h], fun h5 => ?_⟩⟩⟩⟩⟩
    simp only [VTp] at hv
    dsimp only [rInt, Row.den] at *
    have hi : e.toNat < E.length := by omega
    refine wp_idx.2 ⟨by omega, ?_⟩
    rw [if_neg h1, if_neg h2, if_neg h3, if_neg h4, if_neg h5, List.getElem?_eq_getElem hi]
    rfl
  · simp only [hv, not_false_eq_true, if_true, true_implies, false_implies, and_true]
theorem pVR_eq (r : Ty) : M.daterange_Valid big r = some (decide (VR r)) := by
  obtain ⟨(k : Int), (e : Int)⟩ := r
  apply Wp.eq; unfold M.daterange_Valid; simp only [a_, b_, c_, d_, e_, f_, g_, h_, i_, j_, k_, l_, m_, n_, o_, p_, q_, r_, s_, t_, u_, v_, w_, x_, y_, z_, A_, B_, C_, D_, E_, F_, G_, H_, I_, J_, K_, L_, M_, N_, O_, P_, reduceCtorEq]; simp only [VR]; dsimp only [rInt, Row.den] at *; omega
theorem pConfl_eq (a b : Rw) : M.table_conflict big a b = some (decide (Confl a b)) := by
  obtain ⟨⟨(a1 : Int), (a2 : Int)⟩, (a3 : Int), (a4 : Int), (a5 : Int)⟩ := a
  obtain ⟨⟨(b1 : Int), (b2 : Int)⟩, (b3 : Int), (b4 : Int), (b5 : Int)⟩ := b
  apply Wp.eq; unfold M.table_conflict M.daterange_Intersect M.daterange_hasDate; simp only [pVR_eq, a_, b_, c_, d_, e_, f_, g_, h_, i_, j_, k_, l_, m_, n_, o_, p_, q_, r_, s_, t_, u_, v_, w_, x_, y_, z_, A_, B_, C_, D_, E_, F_, G_, H_, I_, J_, K_, L_, M_, N_, O_, P_, reduceCtorEq]; simp only [Confl]; dsimp only [rInt, Row.den] at *
  by_cases h1 : VR (a1, a2) <;> by_cases h2 : VR (b1, b2) <;> simp only [h1, h2, a_, b_, c_, d_, e_, f_, g_, h_, i_, j_, k_, l_, m_, n_, o_, p_, q_, r_, s_, t_, u_, v_, w_, x_, y_, z_, A_, B_, C_, D_, E_, F_, G_, H_, I_, J_, K_, L_, M_, N_, O_, P_, reduceCtorEq] <;> omega
theorem first_eq (l : List Rw) (x : Rw) (hl : l.length ≤ maxLen) : Wp (M.table_first_guerdon_api_Row_v1 big l x) fun r => r.2.1 = true ↔ ∃ y ∈ l, Confl y x := by
  unfold M.table_first_guerdon_api_Row_v1 M.table_Validate_c1_v1
  refine Wp.count (fun s => s.1) l.length (fun k s => s.2 = x ∧ ∀ j, j < k → ∀ h : j < l.length, ¬ Confl l[j] x) hl rfl ⟨rfl, fun j hj => by omega⟩ fun k c hk hs hJ => ?_
  obtain ⟨c1, c2⟩ := c
  obtain ⟨h1, hJ⟩ := hJ
  obtain rfl : c2 = x := h1
  obtain rfl : c1 = _ := hs
  simp only [pConfl_eq, a_, b_, c_, d_, e_, f_, g_, h_, i_, j_, k_, l_, m_, n_, o_, p_, q_, r_, s_, t_, u_, v_, w_, x_, y_, z_, A_, B_, C_, D_, E_, F_, G_, H_, I_, J_, K_, L_, M_, N_, O_, P_, reduceCtorEq, countQ_inl, countQ_inr]
  refine ⟨fun hlt => ?_, fun hge => ?_⟩
  · have hlt : k < l.length := by omega
    simp only [idx_nat hlt, wrapS hl hlt, a_, b_, c_, d_, e_, f_, g_, h_, i_, j_, k_, l_, m_, n_, o_, p_, q_, r_, s_, t_, u_, v_, w_, x_, y_, z_, A_, B_, C_, D_, E_, F_, G_, H_, I_, J_, K_, L_, M_, N_, O_, P_, reduceCtorEq]
    exact ⟨fun h => iff_of_true trivial ⟨_, List.getElem_mem hlt, h⟩, fun h => ⟨hlt, pre_succ hJ fun _ => h⟩⟩
  · refine iff_of_false id ?_
    rintro ⟨y, hy, h⟩
    obtain ⟨j, hj, rfl⟩ := List.getElem_of_mem hy
    exact hJ j (by omega) hj h
theorem ptab_eq (t : Tab) (E : List En) : M.table_Validate big t E = some (tabE t E) := by
  apply Wp.eq
  unfold M.table_Validate tabE
  simp only [pVT_eq, pBnd_eq, pVR_eq, a_, b_, c_, d_, e_, f_, g_, h_, i_, j_, k_, l_, m_, n_, o_, p_, q_, r_, s_, t_, u_, v_, w_, x_, y_, z_, A_, B_, C_, D_, E_, F_, G_, H_, I_, J_, K_, L_, M_, N_, O_, P_, reduceCtorEq]
  refine ⟨fun h => by rw [if_pos (by omega)], fun h64 => ?_⟩
  rw [if_neg (c := 64 < t.2.2.2.length) (by omega)]
  refine ⟨fun h1 => by rw [if_pos (fun g => h1 g.1)], fun h1 => ⟨fun h2 => by rw [if_pos (fun g => h2 g.2)], fun h2 => ?_⟩⟩
  rw [if_neg (fun g => g ⟨h1, h2⟩)]
  refine Wp.count (fun s => s) t.2.2.2.length (fun k _ => ∀ j, j < k → rowE t E j = none) (by omega) rfl (fun j hj => by omega) fun k s hk hs hJ => ?_
  obtain rfl : s = _ := hs
  simp only [a_, b_, c_, d_, e_, f_, g_, h_, i_, j_, k_, l_, m_, n_, o_, p_, q_, r_, s_, t_, u_, v_, w_, x_, y_, z_, A_, B_, C_, D_, E_, F_, G_, H_, I_, J_, K_, L_, M_, N_, O_, P_, reduceCtorEq, countQ_inl, countQ_inr]
  refine ⟨fun hlt => ?_, fun hge => ?_⟩
  · have hlt : k < t.2.2.2.length := by omega
    have hf : rowE t E k = if Wrong t.2.2.2[k] t E then some ((k : Int), 3) else if ∃ y ∈ t.2.2.2.take k, Confl y t.2.2.2[k] then some ((k : Int), 11) else none := by
      unfold rowE
      rw [List.getElem?_eq_getElem hlt]
    have bad : Wrong t.2.2.2[k] t E → ((k : Int), (3 : Int)) = (firstE (rowE t E) t.2.2.2.length).getD (0, 0) := fun hw => by
      rw [firstE_at (hf.trans (if_pos hw)) hJ hlt]; rfl
    have good : ¬ Wrong t.2.2.2[k] t E → Wp (M.table_first_guerdon_api_Row_v1 big (t.2.2.2.take k) t.2.2.2[k]) fun y => (y.2.1 = true → ((k : Int), (11 : Int)) = (firstE (rowE t E) t.2.2.2.length).getD (0, 0)) ∧ (y.2.1 = false → k < t.2.2.2.length ∧ ∀ j, j < k + 1 → rowE t E j = none) := fun hw => by
      rw [if_neg hw] at hf
      refine (first_eq _ _ (by rw [List.length_take]; unfold maxLen; omega)).mono fun y hy => ⟨fun h => ?_, fun h => ⟨hlt, pre_succ hJ ?_⟩⟩
      · rw [firstE_at (hf.trans (if_pos (hy.1 h))) hJ hlt]; rfl
      · rw [hf, if_neg fun g => by rw [hy.2 g] at h; cases h]
    simp only [idx_nat hlt, cut_take (Nat.le_of_lt hlt), wrapS (m := t.2.2.2.length) (by omega) hlt, a_, b_, c_, d_, e_, f_, g_, h_, i_, j_, k_, l_, m_, n_, o_, p_, q_, r_, s_, t_, u_, v_, w_, x_, y_, z_, A_, B_, C_, D_, E_, F_, G_, H_, I_, J_, K_, L_, M_, N_, O_, P_, reduceCtorEq]
    unfold Wrong at bad good
    unfold InB at bad good
    generalize M.table_first_guerdon_api_Row_v1 big (t.2.2.2.take k) t.2.2.2[k] = fm at *
    generalize t.2.2.2[k] = x at *
    obtain ⟨⟨(x1 : Int), (x2 : Int)⟩, (x3 : Int), (x4 : Int), (x5 : Int)⟩ := x
    dsimp only [rInt, Row.den] at *
    clear hf hJ
    generalize bnd t.2.1 E = p at *
    generalize bnd t.2.2.1 E = q at *
    obtain ⟨(p1 : Int), (p2 : Int)⟩ := p
    obtain ⟨(q1 : Int), (q2 : Int)⟩ := q
    dsimp only at *
    refine ⟨fun h => bad (.inl h), fun h1 => ⟨fun h => bad (by omega), fun h2 => ⟨fun h => bad (by omega), fun h3 => ⟨fun h => bad (by omega), fun h4 => ⟨fun h => bad (by omega), fun h5 => ⟨fun h => bad (by omega), fun h6 => ⟨fun h => bad (by omega), fun h7 => ⟨fun h => bad (by omega), fun h8 => ⟨fun h => bad (by omega), fun h9 => good fun hw => by
      rcases hw with g | g
      · exact g h1
      · omega⟩⟩⟩⟩⟩⟩⟩⟩⟩
  · rw [firstE_none.2 fun j hj => hJ j (by omega)]; rfl

/-! ## Tables of a law -/
theorem tabE_row {t : Tab} {E : List En} : (tabE t E).2 ≠ 0 → ((tabE t E).1 = -1 ∨ (0 ≤ (tabE t E).1 ∧ (tabE t E).1 ≤ 64)) := by
  unfold tabE
  intro h
  split
  · exact .inr (by simp)
  split
  · exact .inl rfl
  rename_i h1 h2
  cases hf : firstE (rowE t E) t.2.2.2.length with
  | none => rw [if_neg h1, if_neg h2, hf] at h; exact absurd rfl h
  | some e =>
    obtain ⟨k, hk, he, _⟩ := firstE_some hf
    unfold rowE at he
    split at he
    · cases he
    split at he
    · cases he; exact .inr ⟨by simp, by simp; omega⟩
    split at he
    · cases he; exact .inr ⟨by simp, by simp; omega⟩
    · cases he
theorem checkTables_eq (l : Lw) (hw : WF rLaw l) : M.law_checkTables big l = some (if 8 < l.2.1.length then ((4 : Int), ((2 : Int), ((8 : Int), (0 : Int)))) else match firstE (fun k => (tabS l k).map fun e => (k, e)) l.2.1.length with
    | some (k, e) => errOf 2 (k : Int) (some e)
    | none => okE) := by
  have w1 := hw.2.1.1
  have w0 := hw.1.1
  have wt : ∀ t ∈ l.2.1, WF rTable t := hw.2.1.2
  unfold maxLen at w1
  apply Wp.eq
  unfold M.law_checkTables
  simp only [a_, b_, c_, d_, e_, f_, g_, h_, i_, j_, k_, l_, m_, n_, o_, p_, q_, r_, s_, t_, u_, v_, w_, x_, y_, z_, A_, B_, C_, D_, E_, F_, G_, H_, I_, J_, K_, L_, M_, N_, O_, P_, reduceCtorEq]
  refine ⟨fun h => by rw [if_pos (by omega)], fun h8 => ?_⟩
  rw [if_neg (by omega)]
  refine Wp.count (fun s => s) l.2.1.length (fun i _ => ∀ j, j < i → (fun k => (tabS l k).map fun e => (k, e)) j = none) w1 rfl (fun j hj => by omega) fun i c hi hs hJ => ?_
  obtain rfl : c = _ := hs
  simp only [a_, b_, c_, d_, e_, f_, g_, h_, i_, j_, k_, l_, m_, n_, o_, p_, q_, r_, s_, t_, u_, v_, w_, x_, y_, z_, A_, B_, C_, D_, E_, F_, G_, H_, I_, J_, K_, L_, M_, N_, O_, P_, reduceCtorEq, countQ_inl, countQ_inr]
  refine ⟨fun hlt => ?_, fun hge => ?_⟩
  · have hlt : i < l.2.1.length := by omega
    have hsz : l.2.1[i].1.size ≤ maxLen := (wt _ (List.getElem_mem hlt)).1
    have hE : tabS l i = if isId l.2.1[i].1 = false then some (2, 0) else if hasN l.1 l.2.1[i].1 ∨ hasN (l.2.1.take i) l.2.1[i].1 then some (7, 0) else if (tabE l.2.1[i] l.1).2 = 0 then none else some ((tabE l.2.1[i] l.1).2, if 0 ≤ (tabE l.2.1[i] l.1).1 then 100 + (tabE l.2.1[i] l.1).1 else 0) := by
      unfold tabS
      rw [List.getElem?_eq_getElem hlt]
    simp only [idx_nat hlt, ptab_eq, pid_eq _ hsz, cut_take (Nat.le_of_lt hlt), hasEnum_eq _ _ w0, hasTable_eq (l.2.1.take i) _ (by rw [List.length_take]; unfold maxLen; omega), wrapS w1 hlt, a_, b_, c_, d_, e_, f_, g_, h_, i_, j_, k_, l_, m_, n_, o_, p_, q_, r_, s_, t_, u_, v_, w_, x_, y_, z_, A_, B_, C_, D_, E_, F_, G_, H_, I_, J_, K_, L_, M_, N_, O_, P_, reduceCtorEq]
    have bad : ∀ e, tabS l i = some e → errOf 2 (i : Int) (some e) = (match firstE (fun k => (tabS l k).map fun e => (k, e)) l.2.1.length with | some (k, e) => errOf 2 (k : Int) (some e) | none => okE) := fun e he => by
      rw [firstE_at (mapk he) hJ hlt]
    have good : tabS l i = none → i < l.2.1.length ∧ ∀ j, j < i + 1 → (fun k => (tabS l k).map fun e => (k, e)) j = none := fun h => ⟨hlt, pre_succ hJ (mapn h)⟩
    have hrow := tabE_row (t := l.2.1[i]) (E := l.1)
    generalize tabE l.2.1[i] l.1 = te at *
    obtain ⟨(r : Int), (c : Int)⟩ := te
    dsimp only at *
    refine ⟨fun h => ?_, fun h => ⟨fun h2 => ?_, fun h2 => ⟨fun h3 => ?_, fun h3 => ⟨fun h4 => ?_, fun h4 => ?_⟩⟩⟩⟩
    · exact ⟨fun _ => bad (2, 0) (hE.trans (if_pos h)), fun g => absurd g (by decide)⟩
    · rw [if_neg (c := isId l.2.1[i].1 = false) (by simp [h]), if_pos (Or.inl h2)] at hE
      exact ⟨fun _ => bad (7, 0) hE, fun g => absurd g (by decide)⟩
    · rw [if_neg (c := isId l.2.1[i].1 = false) (by simp [h]), if_pos (Or.inr h3)] at hE
      exact ⟨fun _ => bad (7, 0) hE, fun g => absurd g (by decide)⟩
    · rw [if_neg (c := isId l.2.1[i].1 = false) (by simp [h]), if_neg (fun g => g.elim h2 h3), if_neg h4] at hE
      have hr := hrow h4
      refine ⟨fun g => ⟨fun _ => ?_, fun e => absurd e h4⟩, fun g => ⟨fun _ => ?_, fun e => absurd e h4⟩⟩
      · rw [wrap_id (by omega) (by omega)]
        exact bad (c, 100 + r) (hE.trans (by rw [if_pos (by omega)]))
      · exact bad (c, 0) (hE.trans (by rw [if_neg (by omega)]))
    · rw [if_neg (c := isId l.2.1[i].1 = false) (by simp [h]), if_neg (fun g => g.elim h2 h3), if_pos h4] at hE
      exact good hE
  · rw [firstE_none.2 fun j hj => hJ j (by omega)]; rfl


/-! ## Fields, sources -/
noncomputable def fieldD (l : Lw) (f : Fd) (a b : List Fd) : Int := if isId f.1 = false then 2 else if hasN a f.1 ∨ hasN b f.1 then 7 else if ¬ VTp f.2 l.1.length then 8 else 0
theorem checkField_eq (l : Lw) (f : Fd) (a b : List Fd) (hf : f.1.size ≤ maxLen) (ha : a.length ≤ maxLen) (hb : b.length ≤ maxLen) : M.law_checkField big l f a b = some (fieldD l f a b) := by
  apply Wp.eq
  unfold M.law_checkField
  simp only [pid_eq _ hf, contField_eq _ _ ha, contField_eq _ _ hb, pVT_eq, a_, b_, c_, d_, e_, f_, g_, h_, i_, j_, k_, l_, m_, n_, o_, p_, q_, r_, s_, t_, u_, v_, w_, x_, y_, z_, A_, B_, C_, D_, E_, F_, G_, H_, I_, J_, K_, L_, M_, N_, O_, P_, reduceCtorEq]
  unfold fieldD
  refine ⟨fun h => by rw [if_pos h], fun h => ?_⟩
  rw [if_neg (c := isId f.1 = false) (by simp [h])]
  refine ⟨fun h1 => by rw [if_pos (.inl h1)], fun h1 => ⟨fun h2 => by rw [if_pos (.inr h2)], fun h2 => ?_⟩⟩
  rw [if_neg (fun g => g.elim h1 h2)]
  exact ⟨fun h3 => by rw [if_pos h3], fun h3 => by rw [if_neg (fun g => g h3)]⟩
theorem indexByte_in (l : List UInt8) (c : UInt8) : 0 ≤ Go.Lib.indexByte l c ↔ c ∈ l := by
  induction l with
  | nil => simp [Go.Lib.indexByte]
  | cons b l ih =>
    have hg := Go.Lib.indexByte_ge l c
    unfold Go.Lib.indexByte
    by_cases h : b = c
    · subst h; simp
    · have h' : c ≠ b := fun e => h e.symm
      simp only [beq_iff_eq, h, if_false, List.mem_cons, h', false_or, ← ih]
      split <;> omega
theorem validSource_eq (s : ByteArray) (_ : s.size ≤ maxLen) : M.law_validSource big s = some (decide (plain s)) := by
  have hc : M.strings_Contains big s (⟨#[34]⟩ : ByteArray) = some (decide (0 ≤ Go.Lib.indexByte s.data.toList 34)) := rfl
  have hin : 0 ≤ Go.Lib.indexByte s.data.toList 34 ↔ ∃ i, ∃ h : i < s.size, (s[i].toNat : Int) = 34 := by
    rw [indexByte_in]
    constructor
    · intro h
      obtain ⟨i, hi, e⟩ := List.getElem_of_mem h
      refine ⟨i, by simpa using hi, ?_⟩
      have : s[i]'(by simpa using hi) = 34 := by
        have e : s.data[i]'(by simpa using hi) = 34 := by simpa using e
        exact e
      rw [this]; rfl
    · rintro ⟨i, hi, e⟩
      have e2 : s[i] = 34 := by
        apply UInt8.toNat_inj.1
        show s[i].toNat = 34
        omega
      have : (34 : UInt8) = s.data.toList[i]'(by simpa using hi) := by rw [← e2]; simp; rfl
      rw [this]
      exact List.getElem_mem _
  apply Wp.eq
  unfold M.law_validSource
  simp only [hc, a_, b_, c_, d_, e_, f_, g_, h_, i_, j_, k_, l_, m_, n_, o_, p_, q_, r_, s_, t_, u_, v_, w_, x_, y_, z_, A_, B_, C_, D_, E_, F_, G_, H_, I_, J_, K_, L_, M_, N_, O_, P_, reduceCtorEq]
  refine ⟨fun h => ?_, fun h64 => ⟨fun h => ?_, fun h34 => ?_⟩⟩
  · exact fun (g : plain s) => by have := g.2; omega
  · obtain ⟨i, hi, e⟩ := hin.1 h
    exact fun (g : plain s) => (g.1 i hi).2.2 e
  refine Wp.count (fun s => s) s.size (fun i _ => ∀ j, j < i → ∀ h : j < s.size, 32 ≤ (s[j].toNat : Int) ∧ (s[j].toNat : Int) ≤ 126) (by omega) rfl (fun j hj => by omega) fun i c hi hs hJ => ?_
  obtain rfl : c = _ := hs
  rcases Nat.lt_or_ge i s.size with hlt | hge
  · have hb : byteA s (i : Int) = some (s[i].toNat : Int) := by
      have := (wp_eq (x := ((s[i].toNat : Nat) : Int))).1 (wp_byte (s := s) (i := (i : Int)).2 ⟨by omega, by simp⟩)
      exact this
    simp only [lt_nat hlt, hb, wrapS (m := s.size) (by omega) hlt, a_, b_, c_, d_, e_, f_, g_, h_, i_, j_, k_, l_, m_, n_, o_, p_, q_, r_, s_, t_, u_, v_, w_, x_, y_, z_, A_, B_, C_, D_, E_, F_, G_, H_, I_, J_, K_, L_, M_, N_, O_, P_, reduceCtorEq, countQ_inl, countQ_inr]
    refine ⟨fun h => ?_, fun h => ⟨fun h2 => ?_, fun h2 => ⟨hlt, pre_succ hJ fun _ => by omega⟩⟩⟩
    · exact fun (g : plain s) => by have := g.1 i hlt; omega
    · exact fun (g : plain s) => by have := g.1 i hlt; omega
  · obtain rfl : i = s.size := by omega
    simp only [nlt_self, a_, b_, c_, d_, e_, f_, g_, h_, i_, j_, k_, l_, m_, n_, o_, p_, q_, r_, s_, t_, u_, v_, w_, x_, y_, z_, A_, B_, C_, D_, E_, F_, G_, H_, I_, J_, K_, L_, M_, N_, O_, P_, reduceCtorEq, countQ_inr]
    refine (⟨fun i hi => ?_, by omega⟩ : plain s)
    have := hJ i hi hi
    exact ⟨this.1, this.2, fun e => h34 (hin.2 ⟨i, hi, e⟩)⟩

/-! ## Rules -/
/-- The program's types are those of the reference. -/
def TyOK (sg : Sgn) : Prop := ∀ e : List Ty, (∀ n ∈ e, WF rType n) → M.expr_TypeOf big e sg = some (tyE e sg)
theorem checkType_eq {sg : Sgn} (hT : TyOK sg) {e : List Ty} (want : Ty) (hw : ∀ n ∈ e, WF rType n) : M.law_checkType big e sg want = some (expE e sg want) := by
  apply Wp.eq
  unfold M.law_checkType
  simp only [hT e hw, eqT, a_, b_, c_, d_, e_, f_, g_, h_, i_, j_, k_, l_, m_, n_, o_, p_, q_, r_, s_, t_, u_, v_, w_, x_, y_, z_, A_, B_, C_, D_, E_, F_, G_, H_, I_, J_, K_, L_, M_, N_, O_, P_, reduceCtorEq]
  unfold expE
  refine ⟨fun h => by rw [if_pos h], fun h => ?_⟩
  rw [if_neg (fun g => g h)]
  exact ⟨fun h => by rw [if_pos h], fun h => by rw [if_neg (fun g => g h)]⟩
theorem checkRule_eq (l : Lw) (x : Scp) (hw : WF rScope x) (hsm : SmallS x) (hT : TyOK (sigS l x)) (k : Nat) (hk : k < x.2.2.2.2.length) : M.law_checkRule big x (k : Int) (sigS l x) = some (rulE l x k x.2.2.2.2[k]) := by
  have hwr := hw.2.2.2.2.2 _ (List.getElem_mem hk)
  have hsr := hsm.2.2.2.2.2.2 _ (List.getElem_mem hk)
  obtain ⟨r, hr⟩ : ∃ r, r = x.2.2.2.2[k] := ⟨_, rfl⟩
  have h60 := hsm.2.2.2.1
  have hcnt : Wp (Loop (S := Int × Int) (X := Int) (fun s4 =>
      (if (decide (s4.2 < ((x.2.2.2.2.take k).length : Int))) = true then
      ((idx (x.2.2.2.2.take k) s4.2).bind fun x6 =>
      (if (decide ((x6.2.1 : Int) = r.2.1)) = true then
      some (IntKind.i64.wrap (s4.1 + (1 : Int)))
      else
      some s4.1) : Option (Int)).bind fun j5 =>
      some (Sum.inl (j5, IntKind.i64.wrap (s4.2 + (1 : Int))))
      else
      some (Sum.inr s4.1))) big ((0 : Int), (0 : Int))) fun n => n = (sibs x k r.2.1 : Int) := by
    have hlk : (x.2.2.2.2.take k).length = k := by rw [List.length_take]; omega
    refine Wp.count (fun s => s.2) k (fun j s => s.1 = (((x.2.2.2.2.take j).countP fun r' => decide ((r'.2.1 : Int) = r.2.1) : Nat) : Int)) (by omega) rfl rfl fun j s hj hs hsb => ?_
    obtain ⟨sb, c⟩ := s
    dsimp only at hs hsb
    subst hs
    rw [hlk]
    have hcl : (x.2.2.2.2.take j).countP (fun r' => decide ((r'.2.1 : Int) = r.2.1)) ≤ 60 := Nat.le_trans List.countP_le_length (by rw [List.length_take]; omega)
    simp only [a_, b_, c_, d_, e_, f_, g_, h_, i_, j_, k_, l_, m_, n_, o_, p_, q_, r_, s_, t_, u_, v_, w_, x_, y_, z_, A_, B_, C_, D_, E_, F_, G_, H_, I_, J_, K_, L_, M_, N_, O_, P_, reduceCtorEq, countQ_inl, countQ_inr]
    refine ⟨fun hjk => ?_, fun hjk => ?_⟩
    · have hjl : j < x.2.2.2.2.length := by omega
      have hjt : j < (x.2.2.2.2.take k).length := by omega
      simp only [idx_nat hjt, List.getElem_take, wrapS (m := k) (by omega) (show j < k by omega), a_, b_, c_, d_, e_, f_, g_, h_, i_, j_, k_, l_, m_, n_, o_, p_, q_, r_, s_, t_, u_, v_, w_, x_, y_, z_, A_, B_, C_, D_, E_, F_, G_, H_, I_, J_, K_, L_, M_, N_, O_, P_, reduceCtorEq]
      have hct : (x.2.2.2.2.take (j + 1)).countP (fun r' => decide ((r'.2.1 : Int) = r.2.1)) = (x.2.2.2.2.take j).countP (fun r' => decide ((r'.2.1 : Int) = r.2.1)) + if (x.2.2.2.2[j].2.1 : Int) = r.2.1 then 1 else 0 := by
        rw [← List.take_append_getElem hjl, List.countP_append]
        simp [List.countP_cons]
      refine ⟨fun h' => ⟨by omega, ?_⟩, fun h' => ⟨by omega, ?_⟩⟩
      · rw [hct, if_pos h', hsb, wrap_id (by omega) (by omega)]; rfl
      · rw [hct, if_neg h', hsb]; rfl
    · obtain rfl : j = k := by omega
      exact hsb
  apply Wp.eq
  unfold M.law_checkRule
  rw [← hr]
  have hsz : r.1.size ≤ maxLen := (hr ▸ hwr).1
  have hsrc : r.2.2.2.2.2.2.2.size ≤ maxLen := by
    have := (hr ▸ hsr).2.1
    unfold maxLen; omega
  have hcl : sibs x k r.2.1 ≤ 60 := Nat.le_trans List.countP_le_length (by rw [List.length_take]; omega)
  have hg : ∀ n ∈ r.2.2.2.2.2.1, WF rType n := (hr ▸ hwr).2.2.2.2.2.1.2
  have hv : ∀ n ∈ r.2.2.2.2.2.2.1, WF rType n := (hr ▸ hwr).2.2.2.2.2.2.1.2
  have hbp : badPar x k r ↔ (r.2.2.1 : Int) ≠ -1 ∧ ((r.2.2.1 : Int) < 0 ∨ (k : Int) ≤ r.2.2.1 ∨ ∃ y, x.2.2.2.2[(r.2.2.1 : Int).toNat]? = some y ∧ (y.2.1 : Int) ≠ r.2.1) := Iff.rfl
  simp only [idx_nat hk, ← hr, cut_take (Nat.le_of_lt hk), contRule_eq (x.2.2.2.2.take k) _ (by rw [List.length_take]; unfold maxLen; omega), pid_eq _ hsz, validSource_eq _ hsrc, a_, b_, c_, d_, e_, f_, g_, h_, i_, j_, k_, l_, m_, n_, o_, p_, q_, r_, s_, t_, u_, v_, w_, x_, y_, z_, A_, B_, C_, D_, E_, F_, G_, H_, I_, J_, K_, L_, M_, N_, O_, P_, reduceCtorEq]
  simp only [decide_eq_true_eq] at hcnt
  refine hcnt.mono fun n hn => ?_
  subst hn
  clear hcnt hwr hsr hr
  unfold rulE
  refine ⟨fun h => by rw [if_pos h], fun h1 => ?_⟩
  rw [if_neg (c := isId r.1 = false) (by simp [h1])]
  refine ⟨fun h => by rw [if_pos h], fun h2 => ?_⟩
  rw [if_neg (c := hasN (x.2.2.2.2.take k) r.1) h2]
  generalize sibs x k r.2.1 = q at *
  obtain ⟨nm, (d : Int), (p : Int), (pr : Int), v, g, val, src⟩ := r
  obtain ⟨(v1 : Int), (v2 : Int)⟩ := v
  dsimp only [rInt, Row.den] at *
  refine ⟨fun h => by rw [if_pos (c := ¬ (0 ≤ d ∧ d < (x.2.2.2.1.length : Int))) (by omega)], fun h3 => ⟨fun h => by rw [if_pos (c := ¬ (0 ≤ d ∧ d < (x.2.2.2.1.length : Int))) (by omega)], fun h4 => ?_⟩⟩
  rw [if_neg (c := ¬ (0 ≤ d ∧ d < (x.2.2.2.1.length : Int))) (by omega)]
  have hd : d.toNat < x.2.2.2.1.length := by omega
  have hvr : ¬ VR ((v1, v2) : Ty) ∨ v1 = v2 ↔ v1 < 0 ∨ v2 ≤ v1 ∨ 109573 < v2 := by
    simp only [VR]
    dsimp only [rInt, Row.den]
    omega
  refine ⟨fun hp => ⟨fun h => by rw [if_pos (hbp.2 ⟨hp, .inl h⟩)], fun h5 => ⟨fun h => by rw [if_pos (hbp.2 ⟨hp, .inr (.inl h)⟩)], fun h6 => wp_idx.2 ⟨⟨by omega, by omega⟩, fun h7 => by rw [if_pos (hbp.2 ⟨hp, .inr (.inr ⟨_, List.getElem?_eq_getElem (by omega), h7⟩)⟩)], fun h7 => ?_⟩⟩⟩, fun hp => ?_⟩
  · have hnb : ¬ badPar x k (nm, d, p, pr, (v1, v2), g, val, src) := fun h => by
      obtain ⟨_, g1 | g1 | ⟨y, g1, g2⟩⟩ := hbp.1 h
      · omega
      · omega
      · rw [List.getElem?_eq_getElem (by omega)] at g1
        cases g1
        exact g2 h7
    clear hbp
    rw [if_neg hnb]
    have last : Wp (idx x.2.2.2.1 d) fun x_3 => Wp (M.law_checkType big val (sigS l x) x_3.2) fun x_4 => x_4 = match x.2.2.2.1[d.toNat]? with
        | some d => expE val (sigS l x) d.2
        | none => 0 := by
      refine wp_idx.2 ⟨by omega, ?_⟩
      rw [checkType_eq hT _ hv, List.getElem?_eq_getElem hd]
      exact .some rfl
    by_cases g1 : pr < 0 ∨ 9 < pr ∨ ¬ VR ((v1, v2) : Ty) ∨ v1 = v2
    · rw [if_pos g1]
      refine ⟨fun _ => rfl, fun a1 => ⟨fun _ => rfl, fun a2 => ⟨fun _ => rfl, fun a3 => ⟨fun _ => rfl, fun a4 => ⟨fun _ => rfl, fun a5 => ?_⟩⟩⟩⟩⟩
      rw [hvr] at g1
      omega
    rw [if_neg g1]
    have g1' : ¬ (pr < 0 ∨ 9 < pr ∨ v1 < 0 ∨ v2 ≤ v1 ∨ 109573 < v2) := by rw [← hvr]; exact g1
    refine ⟨fun h => by omega, fun a1 => ⟨fun h => by omega, fun a2 => ⟨fun h => by omega, fun a3 => ⟨fun h => by omega, fun a4 => ⟨fun h => by omega, fun a5 => ?_⟩⟩⟩⟩⟩
    refine ⟨fun h => by rw [if_pos (by omega)], fun h8 => ?_⟩
    rw [if_neg (by omega)]
    refine ⟨fun h => by rw [if_pos h], fun h9 => ?_⟩
    rw [if_neg (fun h => h h9)]
    refine ⟨fun h => ?_, fun h => ?_⟩
    · rw [checkType_eq hT _ hg]
      refine .some ⟨fun h' => by rw [if_pos ⟨by omega, h'⟩], fun h' => ?_⟩
      rw [if_neg (fun g => g.2 h')]
      exact last
    · rw [if_neg (fun g => h (by omega))]
      exact last
  · have hnb : ¬ badPar x k (nm, d, p, pr, (v1, v2), g, val, src) := fun h => (hbp.1 h).1 hp
    clear hbp
    rw [if_neg hnb]
    have last : Wp (idx x.2.2.2.1 d) fun x_3 => Wp (M.law_checkType big val (sigS l x) x_3.2) fun x_4 => x_4 = match x.2.2.2.1[d.toNat]? with
        | some d => expE val (sigS l x) d.2
        | none => 0 := by
      refine wp_idx.2 ⟨by omega, ?_⟩
      rw [checkType_eq hT _ hv, List.getElem?_eq_getElem hd]
      exact .some rfl
    by_cases g1 : pr < 0 ∨ 9 < pr ∨ ¬ VR ((v1, v2) : Ty) ∨ v1 = v2
    · rw [if_pos g1]
      refine ⟨fun _ => rfl, fun a1 => ⟨fun _ => rfl, fun a2 => ⟨fun _ => rfl, fun a3 => ⟨fun _ => rfl, fun a4 => ⟨fun _ => rfl, fun a5 => ?_⟩⟩⟩⟩⟩
      rw [hvr] at g1
      omega
    rw [if_neg g1]
    have g1' : ¬ (pr < 0 ∨ 9 < pr ∨ v1 < 0 ∨ v2 ≤ v1 ∨ 109573 < v2) := by rw [← hvr]; exact g1
    refine ⟨fun h => by omega, fun a1 => ⟨fun h => by omega, fun a2 => ⟨fun h => by omega, fun a3 => ⟨fun h => by omega, fun a4 => ⟨fun h => by omega, fun a5 => ?_⟩⟩⟩⟩⟩
    refine ⟨fun h => by rw [if_pos (by omega)], fun h8 => ?_⟩
    rw [if_neg (by omega)]
    refine ⟨fun h => by rw [if_pos h], fun h9 => ?_⟩
    rw [if_neg (fun h => h h9)]
    refine ⟨fun h => ?_, fun h => ?_⟩
    · rw [checkType_eq hT _ hg]
      refine .some ⟨fun h' => by rw [if_pos ⟨by omega, h'⟩], fun h' => ?_⟩
      rw [if_neg (fun g => g.2 h')]
      exact last
    · rw [if_neg (fun g => h (by omega))]
      exact last

/-! ## Scopes, Validate -/
/-- The program's cycles are those of the reference. -/
def CyOK (x : Scp) : Prop := ∀ d : Nat, d < x.2.2.2.1.length → ∃ tr, M.deps_Transitive big x (d : Int) = some tr ∧ tr.length ≤ 1000 ∧ ((d : Int) ∈ tr ↔ (d : Int) ∈ trS x d)
theorem shared_eq (l : Lw) (k : Nat) (hk : k < l.2.2.length) (hs : ∀ s ∈ l.2.2, s.2.2.1.length ≤ 100000 ∧ s.2.2.2.1.length ≤ 100000) : M.law_sharedSignature big l (k : Int) = some ((sigS l l.2.2[k]).1, (sigS l l.2.2[k]).2.1, (sigS l l.2.2[k]).2.2.2.2.2, (sigS l l.2.2[k]).2.2.1, (sigS l l.2.2[k]).2.2.2.1, (sigS l l.2.2[k]).2.2.2.2.1) := by
  rw [← sigS_eq l k hk hs]
  unfold M.ref17_Signature
  rw [if_neg (by simp), Option.bind_some, if_neg (by simp; omega)]
  rfl
theorem inpE_D (l : Lw) (x : Scp) (i : Nat) (h : i < x.2.2.1.length) : inpE l x i = if fieldD l x.2.2.1[i] (x.2.2.1.take i) [] ≠ 0 then some (fieldD l x.2.2.1[i] (x.2.2.1.take i) [], 100 + (i : Int)) else none := by
  have hn : ∀ nm, ¬ hasN ([] : List Fd) nm := fun nm ⟨y, hy, _⟩ => by cases hy
  unfold inpE fieldD
  rw [List.getElem?_eq_getElem h]
  simp only [hn, or_false]
  by_cases h1 : isId x.2.2.1[i].1 = false
  · simp [h1]
  by_cases h2 : hasN (x.2.2.1.take i) x.2.2.1[i].1
  · simp [h1, h2]
  by_cases h3 : VTp x.2.2.1[i].2 l.1.length
  · simp [h1, h2, h3]
  · simp [h1, h2, h3]
theorem defE_D (l : Lw) (x : Scp) (i : Nat) (h : i < x.2.2.2.1.length) : defE l x i = if fieldD l x.2.2.2.1[i] x.2.2.1 (x.2.2.2.1.take i) ≠ 0 then some (fieldD l x.2.2.2.1[i] x.2.2.1 (x.2.2.2.1.take i), 200 + (i : Int)) else none := by
  unfold defE fieldD
  rw [List.getElem?_eq_getElem h]
  simp only
  by_cases h1 : isId x.2.2.2.1[i].1 = false
  · simp [h1]
  by_cases h2 : hasN x.2.2.1 x.2.2.2.1[i].1 ∨ hasN (x.2.2.2.1.take i) x.2.2.2.1[i].1
  · simp [h1, h2]
  by_cases h3 : VTp x.2.2.2.1[i].2 l.1.length
  · simp [h1, h2, h3]
  · simp [h1, h2, h3]
theorem checkScope_eq (l : Lw) (hw : WF rLaw l) (hsm : SmallL l) (k : Nat) (hk : k < l.2.2.length) (hT : TyOK (sigS l l.2.2[k])) (hC : CyOK l.2.2[k]) : M.law_checkScope big l (k : Int) = some ((scpS l k).getD (0, 0)) := by
  have hss := hsm.2.2.2.2.2 _ (List.getElem_mem hk)
  have hwx := hw.2.2.2 _ (List.getElem_mem hk)
  have hsig := shared_eq l k hk fun s hs => ⟨by have := (hsm.2.2.2.2.2 s hs).2.1; omega, by have := (hsm.2.2.2.2.2 s hs).2.2.1; omega⟩
  have hE : scpS l k = if isId l.2.2[k].1 = false then some (2, 0) else if hasN l.1 l.2.2[k].1 ∨ hasN l.2.1 l.2.2[k].1 ∨ hasN (l.2.2.take k) l.2.2[k].1 then some (7, 0) else if badMem l k l.2.2[k] then some (6, 0) else
    if 12 < l.2.2[k].2.2.1.length then some (4, 112) else if 12 < l.2.2[k].2.2.2.1.length then some (4, 212) else ((fldS l l.2.2[k]).or (firstE (rulS l l.2.2[k]) l.2.2[k].2.2.2.2.length)).or (firstE (cycS l.2.2[k]) l.2.2[k].2.2.2.1.length) := by
    unfold scpS
    rw [List.getElem?_eq_getElem hk]
  have h5 := hsm.2.2.1
  obtain ⟨x, hx⟩ : ∃ x, x = l.2.2[k] := ⟨_, rfl⟩
  simp only [← hx] at hss hwx hsig hE hT hC
  have h14 := hss.2.2.1
  have h60 := hss.2.2.2.1
  have h14' := hss.2.1
  have hsz : x.1.size ≤ maxLen := hwx.1
  have hlk : (l.2.2.take k).length = k := by rw [List.length_take]; omega
  have hin : ∀ f ∈ x.2.2.1, (f.1 : ByteArray).size ≤ maxLen := fun f hf => by have := hss.2.2.2.2.1 f hf; unfold maxLen; omega
  have hdf : ∀ f ∈ x.2.2.2.1, (f.1 : ByteArray).size ≤ maxLen := fun f hf => by have := hss.2.2.2.2.2.1 f hf; unfold maxLen; omega
  apply Wp.eq
  unfold M.law_checkScope
  rw [idx_nat hk, Option.bind_some, cut_take (Nat.le_of_lt hk), Option.bind_some, ← hx]
  have htaken : (((M.law_hasEnum big l.1 x.1).bind fun y4 =>
      (if y4 = true then
      some (true, x)
      else
      (M.law_hasTable big l.2.1 x.1).bind fun y5 =>
      (if y5 = true then
      some (true, x)
      else
      (M.slices_ContainsFunc_guerdon_api_Scope_guerdon_api_Scope_v1 big (l.2.2.take k) x).bind fun y6 =>
      some (y6.1, y6.2))) : Option (Bool × rScope.den))) = some (decide (hasN l.1 x.1 ∨ hasN l.2.1 x.1 ∨ hasN (l.2.2.take k) x.1), x) := by
    apply Wp.eq
    simp only [hasEnum_eq _ _ hw.1.1, hasTable_eq _ _ hw.2.1.1, contScope_eq (l.2.2.take k) _ (by rw [hlk]; unfold maxLen; omega), a_, b_, c_, d_, e_, f_, g_, h_, i_, j_, k_, l_, m_, n_, o_, p_, q_, r_, s_, t_, u_, v_, w_, x_, y_, z_, A_, B_, C_, D_, E_, F_, G_, H_, I_, J_, K_, L_, M_, N_, O_, P_, reduceCtorEq]
    exact ⟨fun h => by rw [decide_eq_true (Or.inl h)], fun h1 => ⟨fun h => by rw [decide_eq_true (Or.inr (Or.inl h))], fun h2 => congrArg (fun b => (b, x)) (decide_eq_decide.2 ⟨fun h => .inr (.inr h), fun h => (h.resolve_left h1).resolve_left h2⟩)⟩⟩
  rw [htaken, Option.bind_some, pid_eq _ hsz, Option.bind_some, hE]
  by_cases h1 : isId x.1 = false
  · rw [if_pos (by simp [h1]), if_pos h1]; exact .some rfl
  rw [if_neg (by simpa using h1), if_neg h1]
  by_cases h2 : hasN l.1 x.1 ∨ hasN l.2.1 x.1 ∨ hasN (l.2.2.take k) x.1
  · rw [if_pos (decide_eq_true h2), if_pos h2]; exact .some rfl
  rw [if_neg (by simpa using h2), if_neg h2]
  have hbm : badMem l k x ↔ (x.2.1 : Int) ≠ -1 ∧ ((x.2.1 : Int) < 0 ∨ (k : Int) ≤ x.2.1 ∨ ∃ y, l.2.2[(x.2.1 : Int).toNat]? = some y ∧ (y.2.1 : Int) ≠ -1) := Iff.rfl
  have hpar : ((if (!decide ((x.2.1 : Int) = (-1 : Int))) = true then
      (if (decide ((x.2.1 : Int) < (0 : Int))) = true then
      some true
      else
      (if (decide ((k : Int) ≤ x.2.1)) = true then
      some true
      else
      (idx (l.2.2.take k) x.2.1).bind fun x9 =>
      some (!decide ((x9.2.1 : Int) = (-1 : Int)))))
      else
      some false) : Option (Bool)) = some (decide (badMem l k x)) := by
    apply Wp.eq
    simp only [a_, b_, c_, d_, e_, f_, g_, h_, i_, j_, k_, l_, m_, n_, o_, p_, q_, r_, s_, t_, u_, v_, w_, x_, y_, z_, A_, B_, C_, D_, E_, F_, G_, H_, I_, J_, K_, L_, M_, N_, O_, P_, reduceCtorEq]
    obtain ⟨(m : Int), hm⟩ : ∃ m : Int, m = x.2.1 := ⟨_, rfl⟩
    simp only [← hm] at hbm ⊢
    refine ⟨fun hp => ⟨fun h => (hbm.2 ⟨hp, .inl h⟩), fun h3 => ⟨fun h => (hbm.2 ⟨hp, .inr (.inl h)⟩), fun h4 => wp_idx.2 ⟨by dsimp only [rInt, Row.den] at *; omega, ?_⟩⟩⟩, fun hp h => (hbm.1 h).1 hp⟩
    have hmn : m.toNat < k := by dsimp only [rInt, Row.den] at *; omega
    rw [List.getElem_take]
    have hat : l.2.2[m.toNat]? = some (l.2.2[m.toNat]'(by omega)) := List.getElem?_eq_getElem (by omega)
    rw [← decide_not]
    refine decide_eq_decide.2 ⟨fun h g => ?_, fun h => Classical.not_not.1 fun h' => h (hbm.2 ⟨hp, .inr (.inr ⟨_, hat, h'⟩)⟩)⟩
    obtain ⟨_, g1 | g1 | ⟨y, g1, g2⟩⟩ := hbm.1 g
    · exact absurd g1 h3
    · exact absurd g1 h4
    · rw [hat] at g1; cases g1; exact g2 h
  rw [hpar, Option.bind_some]
  by_cases h3 : badMem l k x
  · rw [if_pos (decide_eq_true h3), if_pos h3]; exact .some rfl
  rw [if_neg (by simpa using h3), if_neg h3]
  clear htaken hpar hbm hE
  dsimp only
  by_cases h4 : 12 < x.2.2.1.length
  · rw [if_pos (decide_eq_true (by omega)), if_pos h4]; exact .some rfl
  rw [if_neg (by rw [decide_eq_true_eq]; omega), if_neg h4]
  by_cases h5 : 12 < x.2.2.2.1.length
  · rw [if_pos (decide_eq_true (by omega)), if_pos h5]; exact .some rfl
  rw [if_neg (by rw [decide_eq_true_eq]; omega), if_neg h5, hsig]
  unfold fldS
  simp only [a_, b_, c_, d_, e_, f_, g_, h_, i_, j_, k_, l_, m_, n_, o_, p_, q_, r_, s_, t_, u_, v_, w_, x_, y_, z_, A_, B_, C_, D_, E_, F_, G_, H_, I_, J_, K_, L_, M_, N_, O_, P_, reduceCtorEq]
  refine Wp.count (fun s => s) x.2.2.1.length (fun i _ => ∀ j, j < i → inpE l x j = none) (by omega) rfl (fun j hj => by omega) fun i c hi hs hJ => ?_
  obtain rfl : c = _ := hs
  simp only [a_, b_, c_, d_, e_, f_, g_, h_, i_, j_, k_, l_, m_, n_, o_, p_, q_, r_, s_, t_, u_, v_, w_, x_, y_, z_, A_, B_, C_, D_, E_, F_, G_, H_, I_, J_, K_, L_, M_, N_, O_, P_, reduceCtorEq, countQ_inl, countQ_inr]
  refine ⟨fun hlt => ?_, fun hge => ?_⟩
  · have hlt : i < x.2.2.1.length := by omega
    have hf := inpE_D l x i hlt
    simp only [idx_nat hlt, cut_take (Nat.le_of_lt hlt), checkField_eq l _ (x.2.2.1.take i) [] (hin _ (List.getElem_mem hlt)) (by rw [List.length_take]; unfold maxLen; omega) (by simp), wrap100 (k := i) (a := 100) (by omega) (by omega), wrapS (m := x.2.2.1.length) (by omega) hlt, a_, b_, c_, d_, e_, f_, g_, h_, i_, j_, k_, l_, m_, n_, o_, p_, q_, r_, s_, t_, u_, v_, w_, x_, y_, z_, A_, B_, C_, D_, E_, F_, G_, H_, I_, J_, K_, L_, M_, N_, O_, P_, reduceCtorEq]
    refine ⟨fun h => ?_, fun h => ⟨hlt, pre_succ hJ (by rw [hf, if_neg (fun g => g h)])⟩⟩
    rw [firstE_at (hf.trans (if_pos h)) hJ hlt]; rfl
  rw [firstE_none.2 fun j (hj : j < x.2.2.1.length) => hJ j (by omega), Option.none_or]
  clear hJ
  refine Wp.count (fun s => s) x.2.2.2.1.length (fun i _ => ∀ j, j < i → defE l x j = none) (by omega) rfl (fun j hj => by omega) fun i c hi hs hJ => ?_
  obtain rfl : c = _ := hs
  simp only [a_, b_, c_, d_, e_, f_, g_, h_, i_, j_, k_, l_, m_, n_, o_, p_, q_, r_, s_, t_, u_, v_, w_, x_, y_, z_, A_, B_, C_, D_, E_, F_, G_, H_, I_, J_, K_, L_, M_, N_, O_, P_, reduceCtorEq, countQ_inl, countQ_inr]
  refine ⟨fun hlt => ?_, fun hge => ?_⟩
  · have hlt : i < x.2.2.2.1.length := by omega
    have hf := defE_D l x i hlt
    simp only [idx_nat hlt, cut_take (Nat.le_of_lt hlt), checkField_eq l _ x.2.2.1 (x.2.2.2.1.take i) (hdf _ (List.getElem_mem hlt)) (by unfold maxLen; omega) (by rw [List.length_take]; unfold maxLen; omega), wrap100 (k := i) (a := 200) (by omega) (by omega), wrapS (m := x.2.2.2.1.length) (by omega) hlt, a_, b_, c_, d_, e_, f_, g_, h_, i_, j_, k_, l_, m_, n_, o_, p_, q_, r_, s_, t_, u_, v_, w_, x_, y_, z_, A_, B_, C_, D_, E_, F_, G_, H_, I_, J_, K_, L_, M_, N_, O_, P_, reduceCtorEq]
    refine ⟨fun h => ?_, fun h => ⟨hlt, pre_succ hJ (by rw [hf, if_neg (fun g => g h)])⟩⟩
    rw [firstE_at (hf.trans (if_pos h)) hJ hlt]; rfl
  rw [firstE_none.2 fun j (hj : j < x.2.2.2.1.length) => hJ j (by omega), Option.none_or]
  clear hJ
  refine Wp.count (fun s => s) x.2.2.2.2.length (fun i _ => ∀ j, j < i → rulS l x j = none) (by omega) rfl (fun j hj => by omega) fun i c hi hs hJ => ?_
  obtain rfl : c = _ := hs
  simp only [a_, b_, c_, d_, e_, f_, g_, h_, i_, j_, k_, l_, m_, n_, o_, p_, q_, r_, s_, t_, u_, v_, w_, x_, y_, z_, A_, B_, C_, D_, E_, F_, G_, H_, I_, J_, K_, L_, M_, N_, O_, P_, reduceCtorEq, countQ_inl, countQ_inr]
  refine ⟨fun hlt => ?_, fun hge => ?_⟩
  · have hlt : i < x.2.2.2.2.length := by omega
    have hf : rulS l x i = if rulE l x i x.2.2.2.2[i] ≠ 0 then some (rulE l x i x.2.2.2.2[i], 300 + (i : Int)) else none := by
      unfold rulS
      rw [List.getElem?_eq_getElem hlt]
    have hr : M.law_checkRule big x (i : Int) ((sigS l x).1, ((sigS l x).2.1, ((sigS l x).2.2.1, ((sigS l x).2.2.2.1, ((sigS l x).2.2.2.2.1, (sigS l x).2.2.2.2.2))))) = _ := checkRule_eq l x hwx hss hT i hlt
    simp only [hr, wrap100 (k := i) (a := 300) (by omega) (by omega), wrapS (m := x.2.2.2.2.length) (by omega) hlt, a_, b_, c_, d_, e_, f_, g_, h_, i_, j_, k_, l_, m_, n_, o_, p_, q_, r_, s_, t_, u_, v_, w_, x_, y_, z_, A_, B_, C_, D_, E_, F_, G_, H_, I_, J_, K_, L_, M_, N_, O_, P_, reduceCtorEq]
    refine ⟨fun h => ?_, fun h => ⟨hlt, pre_succ hJ (by rw [hf, if_neg (fun g => g h)])⟩⟩
    rw [firstE_at (hf.trans (if_pos h)) hJ hlt]; rfl
  rw [firstE_none.2 fun j (hj : j < x.2.2.2.2.length) => hJ j (by omega), Option.none_or]
  clear hJ
  refine Wp.count (fun s => s) x.2.2.2.1.length (fun i _ => ∀ j, j < i → cycS x j = none) (by omega) rfl (fun j hj => by omega) fun i c hi hs hJ => ?_
  obtain rfl : c = _ := hs
  simp only [a_, b_, c_, d_, e_, f_, g_, h_, i_, j_, k_, l_, m_, n_, o_, p_, q_, r_, s_, t_, u_, v_, w_, x_, y_, z_, A_, B_, C_, D_, E_, F_, G_, H_, I_, J_, K_, L_, M_, N_, O_, P_, reduceCtorEq, countQ_inl, countQ_inr]
  refine ⟨fun hlt => ?_, fun hge => ?_⟩
  · have hlt : i < x.2.2.2.1.length := by omega
    obtain ⟨tr, e1, e2, e3⟩ := hC i hlt
    have hf : cycS x i = if (i : Int) ∈ trS x i then some (9, 200 + (i : Int)) else none := rfl
    simp only [e1, contInt_eq tr _ (by unfold maxLen; omega), wrap100 (k := i) (a := 200) (by omega) (by omega), wrapS (m := x.2.2.2.1.length) (by omega) hlt, a_, b_, c_, d_, e_, f_, g_, h_, i_, j_, k_, l_, m_, n_, o_, p_, q_, r_, s_, t_, u_, v_, w_, x_, y_, z_, A_, B_, C_, D_, E_, F_, G_, H_, I_, J_, K_, L_, M_, N_, O_, P_, reduceCtorEq]
    refine ⟨fun h => ?_, fun h => ⟨hlt, pre_succ hJ (by rw [hf, if_neg (fun g => h (e3.2 g))])⟩⟩
    rw [firstE_at (hf.trans (if_pos (e3.1 h))) hJ hlt]; rfl
  · rw [firstE_none.2 fun j (hj : j < x.2.2.2.1.length) => hJ j (by omega)]; rfl
theorem checkScopes_eq (l : Lw) (hw : WF rLaw l) (hsm : SmallL l) (hT : ∀ x ∈ l.2.2, TyOK (sigS l x)) (hC : ∀ x ∈ l.2.2, CyOK x) : M.law_checkScopes big l = some (if 4 < l.2.2.length then ((4 : Int), ((3 : Int), ((4 : Int), (0 : Int)))) else match firstE (fun k => (scpS l k).map fun e => (k, e)) l.2.2.length with
    | some (k, e) => errOf 3 (k : Int) (some e)
    | none => okE) := by
  have w1 := hw.2.2.1
  unfold maxLen at w1
  apply Wp.eq
  unfold M.law_checkScopes
  simp only [a_, b_, c_, d_, e_, f_, g_, h_, i_, j_, k_, l_, m_, n_, o_, p_, q_, r_, s_, t_, u_, v_, w_, x_, y_, z_, A_, B_, C_, D_, E_, F_, G_, H_, I_, J_, K_, L_, M_, N_, O_, P_, reduceCtorEq]
  refine ⟨fun h => by rw [if_pos (by omega)], fun h8 => ?_⟩
  rw [if_neg (by omega)]
  refine Wp.count (fun s => s) l.2.2.length (fun i _ => ∀ j, j < i → (fun k => (scpS l k).map fun e => (k, e)) j = none) w1 rfl (fun j hj => by omega) fun i c hi hs hJ => ?_
  obtain rfl : c = _ := hs
  simp only [a_, b_, c_, d_, e_, f_, g_, h_, i_, j_, k_, l_, m_, n_, o_, p_, q_, r_, s_, t_, u_, v_, w_, x_, y_, z_, A_, B_, C_, D_, E_, F_, G_, H_, I_, J_, K_, L_, M_, N_, O_, P_, reduceCtorEq, countQ_inl, countQ_inr]
  refine ⟨fun hlt => ?_, fun hge => ?_⟩
  · have hlt : i < l.2.2.length := by omega
    simp only [checkScope_eq l hw hsm i hlt (hT _ (List.getElem_mem hlt)) (hC _ (List.getElem_mem hlt)), wrapS w1 hlt, a_, b_, c_, d_, e_, f_, g_, h_, i_, j_, k_, l_, m_, n_, o_, p_, q_, r_, s_, t_, u_, v_, w_, x_, y_, z_, A_, B_, C_, D_, E_, F_, G_, H_, I_, J_, K_, L_, M_, N_, O_, P_, reduceCtorEq]
    refine ⟨fun h => ?_, fun h => ⟨hlt, pre_succ hJ ?_⟩⟩
    · cases he : scpS l i with
      | none => rw [he] at h; exact absurd rfl h
      | some e => rw [firstE_at (mapk he) hJ hlt]; rfl
    · cases he : scpS l i with
      | none => rfl
      | some e => rw [he] at h; exact absurd h (scp_code he)
  · rw [firstE_none.2 fun j hj => hJ j (by omega)]; rfl
theorem validate_eq (l : Lw) (hw : WF rLaw l) (hsm : SmallL l) (hT : ∀ x ∈ l.2.2, TyOK (sigS l x)) (hC : ∀ x ∈ l.2.2, CyOK x) : M.law_Validate big l = some (valS l) := by
  have bad : ∀ (f : Nat → Option (Int × Int)) (m : Nat) (sec : Int) (k : Nat) (e : Int × Int), (∀ i e, f i = some e → e.1 ≠ 0) → firstE (fun k => (f k).map fun e => (k, e)) m = some (k, e) → (!decide ((errOf sec (k : Int) (some e)).1 = 0)) = true := fun f m sec k e hf he => by
    obtain ⟨j, _, hj, _⟩ := firstE_some he
    obtain ⟨e', he', h2⟩ := Option.map_eq_some_iff.1 hj
    cases h2
    have : e.1 ≠ 0 := hf _ _ he'
    show (!decide (e.1 = 0)) = true
    simp [this]
  unfold M.law_Validate valS
  rw [checkEnums_eq l hw, Option.bind_some]
  by_cases h1 : 8 < l.1.length
  · rw [if_pos h1, if_pos h1]; rfl
  rw [if_neg h1, if_neg h1]
  cases hA : firstE (fun k => (enumS l k).map fun e => (k, e)) l.1.length with
  | some p =>
    obtain ⟨k, e⟩ := p
    dsimp only
    rw [if_pos (bad _ _ _ _ _ (fun i e => enum_code) hA)]
  | none =>
    dsimp only
    rw [if_neg (by simp [okE]), checkTables_eq l hw, Option.bind_some]
    by_cases h2 : 8 < l.2.1.length
    · rw [if_pos h2, if_pos h2]; rfl
    rw [if_neg h2, if_neg h2]
    cases hB : firstE (fun k => (tabS l k).map fun e => (k, e)) l.2.1.length with
    | some p =>
      obtain ⟨k, e⟩ := p
      dsimp only
      rw [if_pos (bad _ _ _ _ _ (fun i e => tab_code) hB)]
    | none =>
      dsimp only
      rw [if_neg (by simp [okE]), checkScopes_eq l hw hsm hT hC, Option.bind_some]
      rfl
end L
end Go.Proofs.YtjeeligfdpociaaGreat
